/-
  No cell of these rows narrows 'for every input' (looked for: loops, veiled, ifaces, maps, wideKeys, modest, calm, conditions, laid).
  DERIVED. THE GIVEN ROWS OF THIS SEAT. 8 by the template 'for every input the law returns true; each argument reads behind the call as it read before'; 0 by the template 'total and deterministic' (their statements: YtefdhjnlnmljpaaTotals.lean).
  GIVEN WITH THE SEED: the statements are not yours to turn. If you find one false, say at which input.
  Laid BY PROGRAM, IN A SANDBOX (cutbox-rows.mjs): the forced cells as the released guide's own fill.sh prints them over the translation 8e7e1e1a762e61f9… (all of the seat's roots in one cut). By AI agents, Wed Nov 11 2026. No macro, syntax, notation, axiom, sorry.
-/
import Derived.Test.YtefdhjnlnmljpaaChecked
import GoSem.Claim
import GoSem.ClaimJoined
import GoSem.ClaimMapViews
import Derived.JoinedTies
import Derived.KernelRfl
namespace Go.Proofs.Ytefdhjnlnmljpaa
/- THE CELL 'sum', in the pinned program and in every row, IS THE sha256 OF THE DUMP (.gsa) THAT YtefdhjnlnmljpaaProg.lean LOADS. Nothing in Lean hashes anything: it is a label: what it is worth is what the hold of that sum in a sandbox is worth. -/
noncomputable def Try.pinned : Pinned := { name := "ytefdhjnlnmljpaa", sum := "8e7e1e1a762e61f9a9173fe1cff471f62236cebab0cac20b5373a51eb6661106", checked := Try.checked }
namespace Rows
def none {H : Type} : Left H := { results := [], args := [] }

/-- 'laws.FnExactLongestLived': WHATEVER THE INPUT: true; the input reads as it did. -/
def fnExactLongestLivedSpec : ChangeSpec := { name := "fnExactLongestLived", fn := fun _ => fun
  | [d] => { results := [.lit (.bool true)], args := [d] }
  | _ => none }
def fnExactLongestLivedRow : OpenClaim := { program := "ytefdhjnlnmljpaa", sum := "8e7e1e1a762e61f9a9173fe1cff471f62236cebab0cac20b5373a51eb6661106", func := "loop.example/g00073/laws.FnExactLongestLived", spec := "fnExactLongestLived", inPlace := ["internal/bytealg.IndexByteString", "internal/bytealg.IndexString"], named := ["internal/bytealg.MaxLen"], apart := false }
def FnExactLongestLivedSaid : Prop := fnExactLongestLivedRow.holds Try.pinned (OpenSpec.ofChange fnExactLongestLivedSpec)

/-- ITS FALSE NEIGHBOUR: 'it returns false'. Refute it at one input. -/
def fnExactLongestLivedWrong : ChangeSpec := { name := "fnExactLongestLived", fn := fun _ => fun
  | [d] => { results := [.lit (.bool false)], args := [d] }
  | _ => none }
def FnExactLongestLivedWrongFalsely : Prop := fnExactLongestLivedRow.holds Try.pinned (OpenSpec.ofChange fnExactLongestLivedWrong)

/-- 'laws.FnExactApart': WHATEVER THE INPUT: true; the input reads as it did. -/
def fnExactApartSpec : ChangeSpec := { name := "fnExactApart", fn := fun _ => fun
  | [d1, d2, d3] => { results := [.lit (.bool true)], args := [d1, d2, d3] }
  | _ => none }
def fnExactApartRow : OpenClaim := { program := "ytefdhjnlnmljpaa", sum := "8e7e1e1a762e61f9a9173fe1cff471f62236cebab0cac20b5373a51eb6661106", func := "loop.example/g00073/laws.FnExactApart", spec := "fnExactApart", inPlace := ["internal/bytealg.IndexByteString", "internal/bytealg.IndexString"], named := ["internal/bytealg.MaxLen"], apart := false }
def FnExactApartSaid : Prop := fnExactApartRow.holds Try.pinned (OpenSpec.ofChange fnExactApartSpec)

/-- ITS FALSE NEIGHBOUR: 'it returns false'. Refute it at one input. -/
def fnExactApartWrong : ChangeSpec := { name := "fnExactApart", fn := fun _ => fun
  | [d1, d2, d3] => { results := [.lit (.bool false)], args := [d1, d2, d3] }
  | _ => none }
def FnExactApartWrongFalsely : Prop := fnExactApartRow.holds Try.pinned (OpenSpec.ofChange fnExactApartWrong)

/-- 'laws.FnExactTwins': WHATEVER THE INPUT: true; the input reads as it did. -/
def fnExactTwinsSpec : ChangeSpec := { name := "fnExactTwins", fn := fun _ => fun
  | [d] => { results := [.lit (.bool true)], args := [d] }
  | _ => none }
def fnExactTwinsRow : OpenClaim := { program := "ytefdhjnlnmljpaa", sum := "8e7e1e1a762e61f9a9173fe1cff471f62236cebab0cac20b5373a51eb6661106", func := "loop.example/g00073/laws.FnExactTwins", spec := "fnExactTwins", inPlace := ["internal/bytealg.IndexByteString", "internal/bytealg.IndexString"], named := ["internal/bytealg.MaxLen"], apart := false }
def FnExactTwinsSaid : Prop := fnExactTwinsRow.holds Try.pinned (OpenSpec.ofChange fnExactTwinsSpec)

/-- ITS FALSE NEIGHBOUR: 'it returns false'. Refute it at one input. -/
def fnExactTwinsWrong : ChangeSpec := { name := "fnExactTwins", fn := fun _ => fun
  | [d] => { results := [.lit (.bool false)], args := [d] }
  | _ => none }
def FnExactTwinsWrongFalsely : Prop := fnExactTwinsRow.holds Try.pinned (OpenSpec.ofChange fnExactTwinsWrong)

/-- 'laws.FnExactAnnotate': WHATEVER THE INPUT: true; the input reads as it did. -/
def fnExactAnnotateSpec : ChangeSpec := { name := "fnExactAnnotate", fn := fun _ => fun
  | [d1, d2] => { results := [.lit (.bool true)], args := [d1, d2] }
  | _ => none }
def fnExactAnnotateRow : OpenClaim := { program := "ytefdhjnlnmljpaa", sum := "8e7e1e1a762e61f9a9173fe1cff471f62236cebab0cac20b5373a51eb6661106", func := "loop.example/g00073/laws.FnExactAnnotate", spec := "fnExactAnnotate", inPlace := ["internal/bytealg.IndexByteString", "internal/bytealg.IndexString"], named := ["internal/bytealg.MaxLen"], apart := false }
def FnExactAnnotateSaid : Prop := fnExactAnnotateRow.holds Try.pinned (OpenSpec.ofChange fnExactAnnotateSpec)

/-- ITS FALSE NEIGHBOUR: 'it returns false'. Refute it at one input. -/
def fnExactAnnotateWrong : ChangeSpec := { name := "fnExactAnnotate", fn := fun _ => fun
  | [d1, d2] => { results := [.lit (.bool false)], args := [d1, d2] }
  | _ => none }
def FnExactAnnotateWrongFalsely : Prop := fnExactAnnotateRow.holds Try.pinned (OpenSpec.ofChange fnExactAnnotateWrong)

/-- 'laws.FnExactCompare': WHATEVER THE INPUT: true; the input reads as it did. -/
def fnExactCompareSpec : ChangeSpec := { name := "fnExactCompare", fn := fun _ => fun
  | [d1, d2, d3] => { results := [.lit (.bool true)], args := [d1, d2, d3] }
  | _ => none }
def fnExactCompareRow : OpenClaim := { program := "ytefdhjnlnmljpaa", sum := "8e7e1e1a762e61f9a9173fe1cff471f62236cebab0cac20b5373a51eb6661106", func := "loop.example/g00073/laws.FnExactCompare", spec := "fnExactCompare", inPlace := ["internal/bytealg.IndexByteString", "internal/bytealg.IndexString"], named := ["internal/bytealg.MaxLen"], apart := false }
def FnExactCompareSaid : Prop := fnExactCompareRow.holds Try.pinned (OpenSpec.ofChange fnExactCompareSpec)

/-- ITS FALSE NEIGHBOUR: 'it returns false'. Refute it at one input. -/
def fnExactCompareWrong : ChangeSpec := { name := "fnExactCompare", fn := fun _ => fun
  | [d1, d2, d3] => { results := [.lit (.bool false)], args := [d1, d2, d3] }
  | _ => none }
def FnExactCompareWrongFalsely : Prop := fnExactCompareRow.holds Try.pinned (OpenSpec.ofChange fnExactCompareWrong)

/-- 'laws.FnExactCompareEdits': WHATEVER THE INPUT: true; the input reads as it did. -/
def fnExactCompareEditsSpec : ChangeSpec := { name := "fnExactCompareEdits", fn := fun _ => fun
  | [d1, d2, d3] => { results := [.lit (.bool true)], args := [d1, d2, d3] }
  | _ => none }
def fnExactCompareEditsRow : OpenClaim := { program := "ytefdhjnlnmljpaa", sum := "8e7e1e1a762e61f9a9173fe1cff471f62236cebab0cac20b5373a51eb6661106", func := "loop.example/g00073/laws.FnExactCompareEdits", spec := "fnExactCompareEdits", inPlace := ["internal/bytealg.IndexByteString", "internal/bytealg.IndexString"], named := ["internal/bytealg.MaxLen"], apart := false }
def FnExactCompareEditsSaid : Prop := fnExactCompareEditsRow.holds Try.pinned (OpenSpec.ofChange fnExactCompareEditsSpec)

/-- ITS FALSE NEIGHBOUR: 'it returns false'. Refute it at one input. -/
def fnExactCompareEditsWrong : ChangeSpec := { name := "fnExactCompareEdits", fn := fun _ => fun
  | [d1, d2, d3] => { results := [.lit (.bool false)], args := [d1, d2, d3] }
  | _ => none }
def FnExactCompareEditsWrongFalsely : Prop := fnExactCompareEditsRow.holds Try.pinned (OpenSpec.ofChange fnExactCompareEditsWrong)

/-- 'laws.FnExactMarksOf': WHATEVER THE INPUT: true; the input reads as it did. -/
def fnExactMarksOfSpec : ChangeSpec := { name := "fnExactMarksOf", fn := fun _ => fun
  | [d1, d2, d3] => { results := [.lit (.bool true)], args := [d1, d2, d3] }
  | _ => none }
def fnExactMarksOfRow : OpenClaim := { program := "ytefdhjnlnmljpaa", sum := "8e7e1e1a762e61f9a9173fe1cff471f62236cebab0cac20b5373a51eb6661106", func := "loop.example/g00073/laws.FnExactMarksOf", spec := "fnExactMarksOf", inPlace := ["internal/bytealg.IndexByteString", "internal/bytealg.IndexString"], named := ["internal/bytealg.MaxLen"], apart := false }
def FnExactMarksOfSaid : Prop := fnExactMarksOfRow.holds Try.pinned (OpenSpec.ofChange fnExactMarksOfSpec)

/-- ITS FALSE NEIGHBOUR: 'it returns false'. Refute it at one input. -/
def fnExactMarksOfWrong : ChangeSpec := { name := "fnExactMarksOf", fn := fun _ => fun
  | [d1, d2, d3] => { results := [.lit (.bool false)], args := [d1, d2, d3] }
  | _ => none }
def FnExactMarksOfWrongFalsely : Prop := fnExactMarksOfRow.holds Try.pinned (OpenSpec.ofChange fnExactMarksOfWrong)

/-- 'laws.FnExactClashes': WHATEVER THE INPUT: true; the input reads as it did. -/
def fnExactClashesSpec : ChangeSpec := { name := "fnExactClashes", fn := fun _ => fun
  | [d1, d2, d3] => { results := [.lit (.bool true)], args := [d1, d2, d3] }
  | _ => none }
def fnExactClashesRow : OpenClaim := { program := "ytefdhjnlnmljpaa", sum := "8e7e1e1a762e61f9a9173fe1cff471f62236cebab0cac20b5373a51eb6661106", func := "loop.example/g00073/laws.FnExactClashes", spec := "fnExactClashes", inPlace := ["internal/bytealg.IndexByteString", "internal/bytealg.IndexString"], unfollowed := true, recurses := true, named := ["internal/bytealg.MaxLen"], apart := false }
def FnExactClashesSaid : Prop := fnExactClashesRow.holds Try.pinned (OpenSpec.ofChange fnExactClashesSpec)

/-- ITS FALSE NEIGHBOUR: 'it returns false'. Refute it at one input. -/
def fnExactClashesWrong : ChangeSpec := { name := "fnExactClashes", fn := fun _ => fun
  | [d1, d2, d3] => { results := [.lit (.bool false)], args := [d1, d2, d3] }
  | _ => none }
def FnExactClashesWrongFalsely : Prop := fnExactClashesRow.holds Try.pinned (OpenSpec.ofChange fnExactClashesWrong)

/- THE SECOND FORM. 'bulk': how many values and letters a reading holds, each counted each time it is reached (what is shared counts as often as it is met; a slice's spare places count too). A statement '..UptoSaid' is the law's where the arguments, and the package variables that the reading takes, are together of bulk at most 1048576: NARROWER than '..Said'. Prove '..Said' where nothing that the law and all that it calls make is longer than what came in: it says more and counts as full. Else prove '..UptoSaid'. A law counts once. -/
mutual
def uptoBulk {H : Type} : DataW H → Nat
  | .lit (.string bytes) => bytes.length + 1
  | .lit _ => 1
  | .nil => 1
  | .ptr d => uptoBulk d + 1
  | .slice elems spare => uptoBulkAll elems + uptoBulkAll spare + 1
  | .agg parts => uptoBulkAll parts + 1
  | .iface _ d => uptoBulk d + 1
  | .map entries => uptoBulkEntries entries + 1
  | .held _ => 1
def uptoBulkAll {H : Type} : List (DataW H) → Nat
  | [] => 0
  | d :: r => uptoBulk d + uptoBulkAll r
def uptoBulkEntries {H : Type} : List (Lit × DataW H) → Nat
  | [] => 0
  | x :: r => uptoBulkEntry x + uptoBulkEntries r
def uptoBulkEntry {H : Type} : Lit × DataW H → Nat
  | (.string bytes, d) => bytes.length + uptoBulk d + 1
  | (_, d) => uptoBulk d + 1
 end
def uptoSmall : (H : Type) → List (DataW H) → Bool := fun _ ds => decide (uptoBulkAll ds ≤ 1048576)
def OpenSpec.upto (s : _root_.Go.ChangeSpec) : _root_.Go.OpenSpec := { _root_.Go.OpenSpec.ofChange s with cond := some uptoSmall }

/-- 'laws.FnExactLongestLived', WHERE WHAT IT READS IS OF BULK AT MOST 1048576: true; the input reads as it did. -/
def fnExactLongestLivedUptoRow : OpenClaim := { program := "ytefdhjnlnmljpaa", sum := "8e7e1e1a762e61f9a9173fe1cff471f62236cebab0cac20b5373a51eb6661106", func := "loop.example/g00073/laws.FnExactLongestLived", spec := "fnExactLongestLived", inPlace := ["internal/bytealg.IndexByteString", "internal/bytealg.IndexString"], named := ["internal/bytealg.MaxLen"], apart := false, narrowed := true }
def FnExactLongestLivedUptoSaid : Prop := fnExactLongestLivedUptoRow.holds Try.pinned (OpenSpec.upto fnExactLongestLivedSpec)

/-- 'laws.FnExactApart', WHERE WHAT IT READS IS OF BULK AT MOST 1048576: true; the input reads as it did. -/
def fnExactApartUptoRow : OpenClaim := { program := "ytefdhjnlnmljpaa", sum := "8e7e1e1a762e61f9a9173fe1cff471f62236cebab0cac20b5373a51eb6661106", func := "loop.example/g00073/laws.FnExactApart", spec := "fnExactApart", inPlace := ["internal/bytealg.IndexByteString", "internal/bytealg.IndexString"], named := ["internal/bytealg.MaxLen"], apart := false, narrowed := true }
def FnExactApartUptoSaid : Prop := fnExactApartUptoRow.holds Try.pinned (OpenSpec.upto fnExactApartSpec)

/-- 'laws.FnExactTwins', WHERE WHAT IT READS IS OF BULK AT MOST 1048576: true; the input reads as it did. -/
def fnExactTwinsUptoRow : OpenClaim := { program := "ytefdhjnlnmljpaa", sum := "8e7e1e1a762e61f9a9173fe1cff471f62236cebab0cac20b5373a51eb6661106", func := "loop.example/g00073/laws.FnExactTwins", spec := "fnExactTwins", inPlace := ["internal/bytealg.IndexByteString", "internal/bytealg.IndexString"], named := ["internal/bytealg.MaxLen"], apart := false, narrowed := true }
def FnExactTwinsUptoSaid : Prop := fnExactTwinsUptoRow.holds Try.pinned (OpenSpec.upto fnExactTwinsSpec)

/-- 'laws.FnExactAnnotate', WHERE WHAT IT READS IS OF BULK AT MOST 1048576: true; the input reads as it did. -/
def fnExactAnnotateUptoRow : OpenClaim := { program := "ytefdhjnlnmljpaa", sum := "8e7e1e1a762e61f9a9173fe1cff471f62236cebab0cac20b5373a51eb6661106", func := "loop.example/g00073/laws.FnExactAnnotate", spec := "fnExactAnnotate", inPlace := ["internal/bytealg.IndexByteString", "internal/bytealg.IndexString"], named := ["internal/bytealg.MaxLen"], apart := false, narrowed := true }
def FnExactAnnotateUptoSaid : Prop := fnExactAnnotateUptoRow.holds Try.pinned (OpenSpec.upto fnExactAnnotateSpec)

/-- 'laws.FnExactCompare', WHERE WHAT IT READS IS OF BULK AT MOST 1048576: true; the input reads as it did. -/
def fnExactCompareUptoRow : OpenClaim := { program := "ytefdhjnlnmljpaa", sum := "8e7e1e1a762e61f9a9173fe1cff471f62236cebab0cac20b5373a51eb6661106", func := "loop.example/g00073/laws.FnExactCompare", spec := "fnExactCompare", inPlace := ["internal/bytealg.IndexByteString", "internal/bytealg.IndexString"], named := ["internal/bytealg.MaxLen"], apart := false, narrowed := true }
def FnExactCompareUptoSaid : Prop := fnExactCompareUptoRow.holds Try.pinned (OpenSpec.upto fnExactCompareSpec)

/-- 'laws.FnExactCompareEdits', WHERE WHAT IT READS IS OF BULK AT MOST 1048576: true; the input reads as it did. -/
def fnExactCompareEditsUptoRow : OpenClaim := { program := "ytefdhjnlnmljpaa", sum := "8e7e1e1a762e61f9a9173fe1cff471f62236cebab0cac20b5373a51eb6661106", func := "loop.example/g00073/laws.FnExactCompareEdits", spec := "fnExactCompareEdits", inPlace := ["internal/bytealg.IndexByteString", "internal/bytealg.IndexString"], named := ["internal/bytealg.MaxLen"], apart := false, narrowed := true }
def FnExactCompareEditsUptoSaid : Prop := fnExactCompareEditsUptoRow.holds Try.pinned (OpenSpec.upto fnExactCompareEditsSpec)

/-- 'laws.FnExactMarksOf', WHERE WHAT IT READS IS OF BULK AT MOST 1048576: true; the input reads as it did. -/
def fnExactMarksOfUptoRow : OpenClaim := { program := "ytefdhjnlnmljpaa", sum := "8e7e1e1a762e61f9a9173fe1cff471f62236cebab0cac20b5373a51eb6661106", func := "loop.example/g00073/laws.FnExactMarksOf", spec := "fnExactMarksOf", inPlace := ["internal/bytealg.IndexByteString", "internal/bytealg.IndexString"], named := ["internal/bytealg.MaxLen"], apart := false, narrowed := true }
def FnExactMarksOfUptoSaid : Prop := fnExactMarksOfUptoRow.holds Try.pinned (OpenSpec.upto fnExactMarksOfSpec)

/-- 'laws.FnExactClashes', WHERE WHAT IT READS IS OF BULK AT MOST 1048576: true; the input reads as it did. -/
def fnExactClashesUptoRow : OpenClaim := { program := "ytefdhjnlnmljpaa", sum := "8e7e1e1a762e61f9a9173fe1cff471f62236cebab0cac20b5373a51eb6661106", func := "loop.example/g00073/laws.FnExactClashes", spec := "fnExactClashes", inPlace := ["internal/bytealg.IndexByteString", "internal/bytealg.IndexString"], unfollowed := true, recurses := true, named := ["internal/bytealg.MaxLen"], apart := false, narrowed := true }
def FnExactClashesUptoSaid : Prop := fnExactClashesUptoRow.holds Try.pinned (OpenSpec.upto fnExactClashesSpec)

end Rows
end Go.Proofs.Ytefdhjnlnmljpaa
