/-
  No cell of these rows narrows 'for every input' (looked for: loops, veiled, ifaces, maps, wideKeys, modest, calm, conditions, laid).
  DERIVED. THE GIVEN ROWS OF THIS SEAT. 3 by the template 'for every input the law returns true; each argument reads behind the call as it read before'; 0 by the template 'total and deterministic' (their statements: YtdiclekkkaaahaaGreatTotals.lean).
  GIVEN WITH THE SEED: the statements are not yours to turn. If you find one false, say at which input.
  Laid BY PROGRAM, IN A SANDBOX (cutbox-rows.mjs): the forced cells as the released guide's own fill.sh prints them over the translation 6f211503bdaca7d6… (all of the seat's roots in one cut). By AI agents, Wed Nov 11 2026. No macro, syntax, notation, axiom, sorry.
-/
import Derived.Test.YtdiclekkkaaahaaGreatChecked
import GoSem.Claim
import GoSem.ClaimJoined
import GoSem.ClaimMapViews
import Derived.JoinedTies
import Derived.KernelRfl
namespace Go.Proofs.YtdiclekkkaaahaaGreat
/- THE CELL 'sum', in the pinned program and in every row, IS THE sha256 OF THE DUMP (.gsa) THAT YtdiclekkkaaahaaGreatProg.lean LOADS. Nothing in Lean hashes anything: it is a label: what it is worth is what the hold of that sum in a sandbox is worth. -/
noncomputable def Tryz.pinned : Pinned := { name := "ytdiclekkkaaahaagreat", sum := "6f211503bdaca7d6fb79828e7e87cf477a5eab2e9de0b18c74d47f3ae0632cb6", checked := Tryz.checked }
namespace Rows
def none {H : Type} : Left H := { results := [], args := [] }

/-- 'laws.FnExactNamesAt': WHATEVER THE INPUT: true; the input reads as it did. -/
def fnExactNamesAtSpec : ChangeSpec := { name := "fnExactNamesAt", fn := fun _ => fun
  | [d1, d2] => { results := [.lit (.bool true)], args := [d1, d2] }
  | _ => none }
def fnExactNamesAtRow : OpenClaim := { program := "ytdiclekkkaaahaagreat", sum := "6f211503bdaca7d6fb79828e7e87cf477a5eab2e9de0b18c74d47f3ae0632cb6", func := "loop.example/g00073/laws.FnExactNamesAt", spec := "fnExactNamesAt", inPlace := ["internal/bytealg.IndexByteString", "internal/bytealg.IndexString"], unfollowed := true, recurses := true, named := ["internal/bytealg.MaxLen"], apart := false }
def FnExactNamesAtSaid : Prop := fnExactNamesAtRow.holds Tryz.pinned (OpenSpec.ofChange fnExactNamesAtSpec)

/-- ITS FALSE NEIGHBOUR: 'it returns false'. Refute it at one input. -/
def fnExactNamesAtWrong : ChangeSpec := { name := "fnExactNamesAt", fn := fun _ => fun
  | [d1, d2] => { results := [.lit (.bool false)], args := [d1, d2] }
  | _ => none }
def FnExactNamesAtWrongFalsely : Prop := fnExactNamesAtRow.holds Tryz.pinned (OpenSpec.ofChange fnExactNamesAtWrong)

/-- 'laws.FnExactCommitsText': WHATEVER THE INPUT: true; the input reads as it did. -/
def fnExactCommitsTextSpec : ChangeSpec := { name := "fnExactCommitsText", fn := fun _ => fun
  | [d] => { results := [.lit (.bool true)], args := [d] }
  | _ => none }
def fnExactCommitsTextRow : OpenClaim := { program := "ytdiclekkkaaahaagreat", sum := "6f211503bdaca7d6fb79828e7e87cf477a5eab2e9de0b18c74d47f3ae0632cb6", func := "loop.example/g00073/laws.FnExactCommitsText", spec := "fnExactCommitsText", inPlace := ["internal/bytealg.IndexByteString", "internal/bytealg.IndexString", "internal/abi.NoEscape"], unfollowed := true, recurses := true, named := ["internal/bytealg.MaxLen"], apart := false }
def FnExactCommitsTextSaid : Prop := fnExactCommitsTextRow.holds Tryz.pinned (OpenSpec.ofChange fnExactCommitsTextSpec)

/-- ITS FALSE NEIGHBOUR: 'it returns false'. Refute it at one input. -/
def fnExactCommitsTextWrong : ChangeSpec := { name := "fnExactCommitsText", fn := fun _ => fun
  | [d] => { results := [.lit (.bool false)], args := [d] }
  | _ => none }
def FnExactCommitsTextWrongFalsely : Prop := fnExactCommitsTextRow.holds Tryz.pinned (OpenSpec.ofChange fnExactCommitsTextWrong)

/-- 'laws.FnExactTextAt': WHATEVER THE INPUT: true; the input reads as it did. -/
def fnExactTextAtSpec : ChangeSpec := { name := "fnExactTextAt", fn := fun _ => fun
  | [d1, d2, d3] => { results := [.lit (.bool true)], args := [d1, d2, d3] }
  | _ => none }
def fnExactTextAtRow : OpenClaim := { program := "ytdiclekkkaaahaagreat", sum := "6f211503bdaca7d6fb79828e7e87cf477a5eab2e9de0b18c74d47f3ae0632cb6", func := "loop.example/g00073/laws.FnExactTextAt", spec := "fnExactTextAt", inPlace := ["internal/bytealg.IndexByteString", "internal/bytealg.IndexString"], unfollowed := true, recurses := true, named := ["internal/bytealg.MaxLen"], apart := false }
def FnExactTextAtSaid : Prop := fnExactTextAtRow.holds Tryz.pinned (OpenSpec.ofChange fnExactTextAtSpec)

/-- ITS FALSE NEIGHBOUR: 'it returns false'. Refute it at one input. -/
def fnExactTextAtWrong : ChangeSpec := { name := "fnExactTextAt", fn := fun _ => fun
  | [d1, d2, d3] => { results := [.lit (.bool false)], args := [d1, d2, d3] }
  | _ => none }
def FnExactTextAtWrongFalsely : Prop := fnExactTextAtRow.holds Tryz.pinned (OpenSpec.ofChange fnExactTextAtWrong)

/- THE SECOND FORM. 'bulk': how many values and letters a reading holds, each counted each time it is reached (what is shared counts as often as it is met; a slice's spare places count too). A statement '..UptoSaid' is the law's where the arguments, and the package variables that the reading takes, are together of bulk at most 1048576: NARROWER than '..Said'. Prove '..Said' where nothing that the law and all that it calls make is longer than what came in: it says more and counts as full. Else prove '..UptoSaid'. A law counts once. -/
mutual
def uptoBulk {H : Type} : DataW H → Nat
  | .lit (.string bytes) => bytes.length + 1
  | .lit _ => 1
  | .nil => 1
  | .ptr d => uptoBulk d + 1
  | .slice elems spare => uptoBulkAll elems + uptoBulkAll spare + 1
  | .agg parts => uptoBulkAll parts + 1
  | .iface _ d => uptoBulk d + 1
  | .map entries => uptoBulkEntries entries + 1
  | .held _ => 1
def uptoBulkAll {H : Type} : List (DataW H) → Nat
  | [] => 0
  | d :: r => uptoBulk d + uptoBulkAll r
def uptoBulkEntries {H : Type} : List (Lit × DataW H) → Nat
  | [] => 0
  | x :: r => uptoBulkEntry x + uptoBulkEntries r
def uptoBulkEntry {H : Type} : Lit × DataW H → Nat
  | (.string bytes, d) => bytes.length + uptoBulk d + 1
  | (_, d) => uptoBulk d + 1
 end
def uptoSmall : (H : Type) → List (DataW H) → Bool := fun _ ds => decide (uptoBulkAll ds ≤ 1048576)
def OpenSpec.upto (s : _root_.Go.ChangeSpec) : _root_.Go.OpenSpec := { _root_.Go.OpenSpec.ofChange s with cond := some uptoSmall }

/-- 'laws.FnExactNamesAt', WHERE WHAT IT READS IS OF BULK AT MOST 1048576: true; the input reads as it did. -/
def fnExactNamesAtUptoRow : OpenClaim := { program := "ytdiclekkkaaahaagreat", sum := "6f211503bdaca7d6fb79828e7e87cf477a5eab2e9de0b18c74d47f3ae0632cb6", func := "loop.example/g00073/laws.FnExactNamesAt", spec := "fnExactNamesAt", inPlace := ["internal/bytealg.IndexByteString", "internal/bytealg.IndexString"], unfollowed := true, recurses := true, named := ["internal/bytealg.MaxLen"], apart := false, narrowed := true }
def FnExactNamesAtUptoSaid : Prop := fnExactNamesAtUptoRow.holds Tryz.pinned (OpenSpec.upto fnExactNamesAtSpec)

/-- 'laws.FnExactCommitsText', WHERE WHAT IT READS IS OF BULK AT MOST 1048576: true; the input reads as it did. -/
def fnExactCommitsTextUptoRow : OpenClaim := { program := "ytdiclekkkaaahaagreat", sum := "6f211503bdaca7d6fb79828e7e87cf477a5eab2e9de0b18c74d47f3ae0632cb6", func := "loop.example/g00073/laws.FnExactCommitsText", spec := "fnExactCommitsText", inPlace := ["internal/bytealg.IndexByteString", "internal/bytealg.IndexString", "internal/abi.NoEscape"], unfollowed := true, recurses := true, named := ["internal/bytealg.MaxLen"], apart := false, narrowed := true }
def FnExactCommitsTextUptoSaid : Prop := fnExactCommitsTextUptoRow.holds Tryz.pinned (OpenSpec.upto fnExactCommitsTextSpec)

/-- 'laws.FnExactTextAt', WHERE WHAT IT READS IS OF BULK AT MOST 1048576: true; the input reads as it did. -/
def fnExactTextAtUptoRow : OpenClaim := { program := "ytdiclekkkaaahaagreat", sum := "6f211503bdaca7d6fb79828e7e87cf477a5eab2e9de0b18c74d47f3ae0632cb6", func := "loop.example/g00073/laws.FnExactTextAt", spec := "fnExactTextAt", inPlace := ["internal/bytealg.IndexByteString", "internal/bytealg.IndexString"], unfollowed := true, recurses := true, named := ["internal/bytealg.MaxLen"], apart := false, narrowed := true }
def FnExactTextAtUptoSaid : Prop := fnExactTextAtUptoRow.holds Tryz.pinned (OpenSpec.upto fnExactTextAtSpec)

end Rows
end Go.Proofs.YtdiclekkkaaahaaGreat
