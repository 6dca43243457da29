/-
  No cell of these rows narrows 'for every input' (looked for: loops, veiled, ifaces, maps, wideKeys, modest, calm, conditions, laid).
  DERIVED. THE GIVEN ROWS OF THIS SEAT. 6 by the template 'for every input the law returns true; each argument reads behind the call as it read before'; 0 by the template 'total and deterministic' (their statements: YtnkmpehikhmbjaaTotals.lean).
  GIVEN WITH THE SEED: the statements are not yours to turn. If you find one false, say at which input.
  Laid BY PROGRAM, IN A SANDBOX (cutbox-rows.mjs): the forced cells as the released guide's own fill.sh prints them over the translation 307c0f7318f24431… (all of the seat's roots in one cut). By AI agents, Wed Nov 11 2026. No macro, syntax, notation, axiom, sorry.
-/
import Derived.Test.YtnkmpehikhmbjaaChecked
import GoSem.Claim
import GoSem.ClaimJoined
import GoSem.ClaimMapViews
import Derived.JoinedTies
import Derived.KernelRfl
namespace Go.Proofs.Ytnkmpehikhmbjaa
/- THE CELL 'sum', in the pinned program and in every row, IS THE sha256 OF THE DUMP (.gsa) THAT YtnkmpehikhmbjaaProg.lean LOADS. Nothing in Lean hashes anything: it is a label: what it is worth is what the hold of that sum in a sandbox is worth. -/
noncomputable def Try.pinned : Pinned := { name := "ytnkmpehikhmbjaa", sum := "307c0f7318f2443151d5ee3af40c5e15952a6a2dc6b7b378f788dc4860ad0f76", checked := Try.checked }
namespace Rows
def none {H : Type} : Left H := { results := [], args := [] }

/-- 'laws.FnExactTouchedIn': WHATEVER THE INPUT: true; the input reads as it did. -/
def fnExactTouchedInSpec : ChangeSpec := { name := "fnExactTouchedIn", fn := fun _ => fun
  | [d1, d2, d3] => { results := [.lit (.bool true)], args := [d1, d2, d3] }
  | _ => none }
def fnExactTouchedInRow : OpenClaim := { program := "ytnkmpehikhmbjaa", sum := "307c0f7318f2443151d5ee3af40c5e15952a6a2dc6b7b378f788dc4860ad0f76", func := "loop.example/g00073/laws.FnExactTouchedIn", spec := "fnExactTouchedIn", inPlace := ["internal/bytealg.IndexByteString", "internal/bytealg.IndexString"], unfollowed := true, recurses := true, named := ["internal/bytealg.MaxLen"], apart := false }
def FnExactTouchedInSaid : Prop := fnExactTouchedInRow.holds Try.pinned (OpenSpec.ofChange fnExactTouchedInSpec)

/-- ITS FALSE NEIGHBOUR: 'it returns false'. Refute it at one input. -/
def fnExactTouchedInWrong : ChangeSpec := { name := "fnExactTouchedIn", fn := fun _ => fun
  | [d1, d2, d3] => { results := [.lit (.bool false)], args := [d1, d2, d3] }
  | _ => none }
def FnExactTouchedInWrongFalsely : Prop := fnExactTouchedInRow.holds Try.pinned (OpenSpec.ofChange fnExactTouchedInWrong)

/-- 'laws.FnExactRegionsOf': WHATEVER THE INPUT: true; the input reads as it did. -/
def fnExactRegionsOfSpec : ChangeSpec := { name := "fnExactRegionsOf", fn := fun _ => fun
  | [d1, d2, d3] => { results := [.lit (.bool true)], args := [d1, d2, d3] }
  | _ => none }
def fnExactRegionsOfRow : OpenClaim := { program := "ytnkmpehikhmbjaa", sum := "307c0f7318f2443151d5ee3af40c5e15952a6a2dc6b7b378f788dc4860ad0f76", func := "loop.example/g00073/laws.FnExactRegionsOf", spec := "fnExactRegionsOf", inPlace := ["internal/bytealg.IndexByteString", "internal/bytealg.IndexString"], unfollowed := true, recurses := true, named := ["internal/bytealg.MaxLen"], apart := false }
def FnExactRegionsOfSaid : Prop := fnExactRegionsOfRow.holds Try.pinned (OpenSpec.ofChange fnExactRegionsOfSpec)

/-- ITS FALSE NEIGHBOUR: 'it returns false'. Refute it at one input. -/
def fnExactRegionsOfWrong : ChangeSpec := { name := "fnExactRegionsOf", fn := fun _ => fun
  | [d1, d2, d3] => { results := [.lit (.bool false)], args := [d1, d2, d3] }
  | _ => none }
def FnExactRegionsOfWrongFalsely : Prop := fnExactRegionsOfRow.holds Try.pinned (OpenSpec.ofChange fnExactRegionsOfWrong)

/-- 'laws.FnExactMarkedText': WHATEVER THE INPUT: true; the input reads as it did. -/
def fnExactMarkedTextSpec : ChangeSpec := { name := "fnExactMarkedText", fn := fun _ => fun
  | [d1, d2, d3] => { results := [.lit (.bool true)], args := [d1, d2, d3] }
  | _ => none }
def fnExactMarkedTextRow : OpenClaim := { program := "ytnkmpehikhmbjaa", sum := "307c0f7318f2443151d5ee3af40c5e15952a6a2dc6b7b378f788dc4860ad0f76", func := "loop.example/g00073/laws.FnExactMarkedText", spec := "fnExactMarkedText", inPlace := ["internal/bytealg.IndexByteString", "internal/bytealg.IndexString"], unfollowed := true, recurses := true, named := ["internal/bytealg.MaxLen"], apart := false }
def FnExactMarkedTextSaid : Prop := fnExactMarkedTextRow.holds Try.pinned (OpenSpec.ofChange fnExactMarkedTextSpec)

/-- ITS FALSE NEIGHBOUR: 'it returns false'. Refute it at one input. -/
def fnExactMarkedTextWrong : ChangeSpec := { name := "fnExactMarkedText", fn := fun _ => fun
  | [d1, d2, d3] => { results := [.lit (.bool false)], args := [d1, d2, d3] }
  | _ => none }
def FnExactMarkedTextWrongFalsely : Prop := fnExactMarkedTextRow.holds Try.pinned (OpenSpec.ofChange fnExactMarkedTextWrong)

/-- 'laws.FnExactMerged': WHATEVER THE INPUT: true; the input reads as it did. -/
def fnExactMergedSpec : ChangeSpec := { name := "fnExactMerged", fn := fun _ => fun
  | [d1, d2, d3] => { results := [.lit (.bool true)], args := [d1, d2, d3] }
  | _ => none }
def fnExactMergedRow : OpenClaim := { program := "ytnkmpehikhmbjaa", sum := "307c0f7318f2443151d5ee3af40c5e15952a6a2dc6b7b378f788dc4860ad0f76", func := "loop.example/g00073/laws.FnExactMerged", spec := "fnExactMerged", inPlace := ["internal/bytealg.IndexByteString", "internal/bytealg.IndexString"], unfollowed := true, recurses := true, named := ["internal/bytealg.MaxLen"], apart := false }
def FnExactMergedSaid : Prop := fnExactMergedRow.holds Try.pinned (OpenSpec.ofChange fnExactMergedSpec)

/-- ITS FALSE NEIGHBOUR: 'it returns false'. Refute it at one input. -/
def fnExactMergedWrong : ChangeSpec := { name := "fnExactMerged", fn := fun _ => fun
  | [d1, d2, d3] => { results := [.lit (.bool false)], args := [d1, d2, d3] }
  | _ => none }
def FnExactMergedWrongFalsely : Prop := fnExactMergedRow.holds Try.pinned (OpenSpec.ofChange fnExactMergedWrong)

/-- 'laws.FnExactMergedBy': WHATEVER THE INPUT: true; the input reads as it did. -/
def fnExactMergedBySpec : ChangeSpec := { name := "fnExactMergedBy", fn := fun _ => fun
  | [d1, d2, d3, d4] => { results := [.lit (.bool true)], args := [d1, d2, d3, d4] }
  | _ => none }
def fnExactMergedByRow : OpenClaim := { program := "ytnkmpehikhmbjaa", sum := "307c0f7318f2443151d5ee3af40c5e15952a6a2dc6b7b378f788dc4860ad0f76", func := "loop.example/g00073/laws.FnExactMergedBy", spec := "fnExactMergedBy", inPlace := ["internal/bytealg.IndexByteString", "internal/bytealg.IndexString"], unfollowed := true, recurses := true, named := ["internal/bytealg.MaxLen"], apart := false }
def FnExactMergedBySaid : Prop := fnExactMergedByRow.holds Try.pinned (OpenSpec.ofChange fnExactMergedBySpec)

/-- ITS FALSE NEIGHBOUR: 'it returns false'. Refute it at one input. -/
def fnExactMergedByWrong : ChangeSpec := { name := "fnExactMergedBy", fn := fun _ => fun
  | [d1, d2, d3, d4] => { results := [.lit (.bool false)], args := [d1, d2, d3, d4] }
  | _ => none }
def FnExactMergedByWrongFalsely : Prop := fnExactMergedByRow.holds Try.pinned (OpenSpec.ofChange fnExactMergedByWrong)

/-- 'laws.FnExactPlainOf': WHATEVER THE INPUT: true; the input reads as it did. -/
def fnExactPlainOfSpec : ChangeSpec := { name := "fnExactPlainOf", fn := fun _ => fun
  | [d] => { results := [.lit (.bool true)], args := [d] }
  | _ => none }
def fnExactPlainOfRow : OpenClaim := { program := "ytnkmpehikhmbjaa", sum := "307c0f7318f2443151d5ee3af40c5e15952a6a2dc6b7b378f788dc4860ad0f76", func := "loop.example/g00073/laws.FnExactPlainOf", spec := "fnExactPlainOf", inPlace := ["internal/bytealg.IndexByteString", "internal/bytealg.IndexString"], named := ["internal/bytealg.MaxLen"], apart := false }
def FnExactPlainOfSaid : Prop := fnExactPlainOfRow.holds Try.pinned (OpenSpec.ofChange fnExactPlainOfSpec)

/-- ITS FALSE NEIGHBOUR: 'it returns false'. Refute it at one input. -/
def fnExactPlainOfWrong : ChangeSpec := { name := "fnExactPlainOf", fn := fun _ => fun
  | [d] => { results := [.lit (.bool false)], args := [d] }
  | _ => none }
def FnExactPlainOfWrongFalsely : Prop := fnExactPlainOfRow.holds Try.pinned (OpenSpec.ofChange fnExactPlainOfWrong)

/- THE SECOND FORM. 'bulk': how many values and letters a reading holds, each counted each time it is reached (what is shared counts as often as it is met; a slice's spare places count too). A statement '..UptoSaid' is the law's where the arguments, and the package variables that the reading takes, are together of bulk at most 1048576: NARROWER than '..Said'. Prove '..Said' where nothing that the law and all that it calls make is longer than what came in: it says more and counts as full. Else prove '..UptoSaid'. A law counts once. -/
mutual
def uptoBulk {H : Type} : DataW H → Nat
  | .lit (.string bytes) => bytes.length + 1
  | .lit _ => 1
  | .nil => 1
  | .ptr d => uptoBulk d + 1
  | .slice elems spare => uptoBulkAll elems + uptoBulkAll spare + 1
  | .agg parts => uptoBulkAll parts + 1
  | .iface _ d => uptoBulk d + 1
  | .map entries => uptoBulkEntries entries + 1
  | .held _ => 1
def uptoBulkAll {H : Type} : List (DataW H) → Nat
  | [] => 0
  | d :: r => uptoBulk d + uptoBulkAll r
def uptoBulkEntries {H : Type} : List (Lit × DataW H) → Nat
  | [] => 0
  | x :: r => uptoBulkEntry x + uptoBulkEntries r
def uptoBulkEntry {H : Type} : Lit × DataW H → Nat
  | (.string bytes, d) => bytes.length + uptoBulk d + 1
  | (_, d) => uptoBulk d + 1
 end
def uptoSmall : (H : Type) → List (DataW H) → Bool := fun _ ds => decide (uptoBulkAll ds ≤ 1048576)
def OpenSpec.upto (s : _root_.Go.ChangeSpec) : _root_.Go.OpenSpec := { _root_.Go.OpenSpec.ofChange s with cond := some uptoSmall }

/-- 'laws.FnExactTouchedIn', WHERE WHAT IT READS IS OF BULK AT MOST 1048576: true; the input reads as it did. -/
def fnExactTouchedInUptoRow : OpenClaim := { program := "ytnkmpehikhmbjaa", sum := "307c0f7318f2443151d5ee3af40c5e15952a6a2dc6b7b378f788dc4860ad0f76", func := "loop.example/g00073/laws.FnExactTouchedIn", spec := "fnExactTouchedIn", inPlace := ["internal/bytealg.IndexByteString", "internal/bytealg.IndexString"], unfollowed := true, recurses := true, named := ["internal/bytealg.MaxLen"], apart := false, narrowed := true }
def FnExactTouchedInUptoSaid : Prop := fnExactTouchedInUptoRow.holds Try.pinned (OpenSpec.upto fnExactTouchedInSpec)

/-- 'laws.FnExactRegionsOf', WHERE WHAT IT READS IS OF BULK AT MOST 1048576: true; the input reads as it did. -/
def fnExactRegionsOfUptoRow : OpenClaim := { program := "ytnkmpehikhmbjaa", sum := "307c0f7318f2443151d5ee3af40c5e15952a6a2dc6b7b378f788dc4860ad0f76", func := "loop.example/g00073/laws.FnExactRegionsOf", spec := "fnExactRegionsOf", inPlace := ["internal/bytealg.IndexByteString", "internal/bytealg.IndexString"], unfollowed := true, recurses := true, named := ["internal/bytealg.MaxLen"], apart := false, narrowed := true }
def FnExactRegionsOfUptoSaid : Prop := fnExactRegionsOfUptoRow.holds Try.pinned (OpenSpec.upto fnExactRegionsOfSpec)

/-- 'laws.FnExactMarkedText', WHERE WHAT IT READS IS OF BULK AT MOST 1048576: true; the input reads as it did. -/
def fnExactMarkedTextUptoRow : OpenClaim := { program := "ytnkmpehikhmbjaa", sum := "307c0f7318f2443151d5ee3af40c5e15952a6a2dc6b7b378f788dc4860ad0f76", func := "loop.example/g00073/laws.FnExactMarkedText", spec := "fnExactMarkedText", inPlace := ["internal/bytealg.IndexByteString", "internal/bytealg.IndexString"], unfollowed := true, recurses := true, named := ["internal/bytealg.MaxLen"], apart := false, narrowed := true }
def FnExactMarkedTextUptoSaid : Prop := fnExactMarkedTextUptoRow.holds Try.pinned (OpenSpec.upto fnExactMarkedTextSpec)

/-- 'laws.FnExactMerged', WHERE WHAT IT READS IS OF BULK AT MOST 1048576: true; the input reads as it did. -/
def fnExactMergedUptoRow : OpenClaim := { program := "ytnkmpehikhmbjaa", sum := "307c0f7318f2443151d5ee3af40c5e15952a6a2dc6b7b378f788dc4860ad0f76", func := "loop.example/g00073/laws.FnExactMerged", spec := "fnExactMerged", inPlace := ["internal/bytealg.IndexByteString", "internal/bytealg.IndexString"], unfollowed := true, recurses := true, named := ["internal/bytealg.MaxLen"], apart := false, narrowed := true }
def FnExactMergedUptoSaid : Prop := fnExactMergedUptoRow.holds Try.pinned (OpenSpec.upto fnExactMergedSpec)

/-- 'laws.FnExactMergedBy', WHERE WHAT IT READS IS OF BULK AT MOST 1048576: true; the input reads as it did. -/
def fnExactMergedByUptoRow : OpenClaim := { program := "ytnkmpehikhmbjaa", sum := "307c0f7318f2443151d5ee3af40c5e15952a6a2dc6b7b378f788dc4860ad0f76", func := "loop.example/g00073/laws.FnExactMergedBy", spec := "fnExactMergedBy", inPlace := ["internal/bytealg.IndexByteString", "internal/bytealg.IndexString"], unfollowed := true, recurses := true, named := ["internal/bytealg.MaxLen"], apart := false, narrowed := true }
def FnExactMergedByUptoSaid : Prop := fnExactMergedByUptoRow.holds Try.pinned (OpenSpec.upto fnExactMergedBySpec)

/-- 'laws.FnExactPlainOf', WHERE WHAT IT READS IS OF BULK AT MOST 1048576: true; the input reads as it did. -/
def fnExactPlainOfUptoRow : OpenClaim := { program := "ytnkmpehikhmbjaa", sum := "307c0f7318f2443151d5ee3af40c5e15952a6a2dc6b7b378f788dc4860ad0f76", func := "loop.example/g00073/laws.FnExactPlainOf", spec := "fnExactPlainOf", inPlace := ["internal/bytealg.IndexByteString", "internal/bytealg.IndexString"], named := ["internal/bytealg.MaxLen"], apart := false, narrowed := true }
def FnExactPlainOfUptoSaid : Prop := fnExactPlainOfUptoRow.holds Try.pinned (OpenSpec.upto fnExactPlainOfSpec)

end Rows
end Go.Proofs.Ytnkmpehikhmbjaa
