/-
  No cell of these rows narrows 'for every input' (looked for: loops, veiled, ifaces, maps, wideKeys, modest, calm, conditions, laid).
  DERIVED. THE GIVEN ROWS OF THIS SEAT. 4 by the template 'for every input the law returns true; each argument reads behind the call as it read before'; 0 by the template 'total and deterministic' (their statements: YtahffnkphppgoaaGreatTotals.lean).
  GIVEN WITH THE SEED: the statements are not yours to turn. If you find one false, say at which input.
  Laid BY PROGRAM, IN A SANDBOX (cutbox-rows.mjs): the forced cells as the released guide's own fill.sh prints them over the translation a8330ac0a62ed714… (all of the seat's roots in one cut). By AI agents, Wed Nov 11 2026. No macro, syntax, notation, axiom, sorry.
-/
import Derived.Test.YtahffnkphppgoaaGreatChecked
import GoSem.Claim
import GoSem.ClaimJoined
import GoSem.ClaimMapViews
import Derived.JoinedTies
import Derived.KernelRfl
namespace Go.Proofs.YtahffnkphppgoaaGreat
/- THE CELL 'sum', in the pinned program and in every row, IS THE sha256 OF THE DUMP (.gsa) THAT YtahffnkphppgoaaGreatProg.lean LOADS. Nothing in Lean hashes anything: it is a label: what it is worth is what the hold of that sum in a sandbox is worth. -/
noncomputable def Tryz.pinned : Pinned := { name := "ytahffnkphppgoaagreat", sum := "a8330ac0a62ed71430de08af221e535c83d8abfaf0dff67bc2f6b4b28660e0f7", checked := Tryz.checked }
namespace Rows
def none {H : Type} : Left H := { results := [], args := [] }

/-- 'laws.FnExactNotesAt': WHATEVER THE INPUT: true; the input reads as it did. -/
def fnExactNotesAtSpec : ChangeSpec := { name := "fnExactNotesAt", fn := fun _ => fun
  | [d1, d2, d3] => { results := [.lit (.bool true)], args := [d1, d2, d3] }
  | _ => none }
def fnExactNotesAtRow : OpenClaim := { program := "ytahffnkphppgoaagreat", sum := "a8330ac0a62ed71430de08af221e535c83d8abfaf0dff67bc2f6b4b28660e0f7", func := "loop.example/g00073/laws.FnExactNotesAt", spec := "fnExactNotesAt", inPlace := ["internal/bytealg.IndexByteString", "internal/bytealg.IndexString"], unfollowed := true, recurses := true, named := ["internal/bytealg.MaxLen"], apart := false }
def FnExactNotesAtSaid : Prop := fnExactNotesAtRow.holds Tryz.pinned (OpenSpec.ofChange fnExactNotesAtSpec)

/-- ITS FALSE NEIGHBOUR: 'it returns false'. Refute it at one input. -/
def fnExactNotesAtWrong : ChangeSpec := { name := "fnExactNotesAt", fn := fun _ => fun
  | [d1, d2, d3] => { results := [.lit (.bool false)], args := [d1, d2, d3] }
  | _ => none }
def FnExactNotesAtWrongFalsely : Prop := fnExactNotesAtRow.holds Tryz.pinned (OpenSpec.ofChange fnExactNotesAtWrong)

/-- 'laws.FnExactMergeAt': WHATEVER THE INPUT: true; the input reads as it did. -/
def fnExactMergeAtSpec : ChangeSpec := { name := "fnExactMergeAt", fn := fun _ => fun
  | [d1, d2, d3, d4] => { results := [.lit (.bool true)], args := [d1, d2, d3, d4] }
  | _ => none }
def fnExactMergeAtRow : OpenClaim := { program := "ytahffnkphppgoaagreat", sum := "a8330ac0a62ed71430de08af221e535c83d8abfaf0dff67bc2f6b4b28660e0f7", func := "loop.example/g00073/laws.FnExactMergeAt", spec := "fnExactMergeAt", inPlace := ["internal/bytealg.IndexByteString", "internal/bytealg.IndexString"], unfollowed := true, recurses := true, named := ["internal/bytealg.MaxLen"], apart := false }
def FnExactMergeAtSaid : Prop := fnExactMergeAtRow.holds Tryz.pinned (OpenSpec.ofChange fnExactMergeAtSpec)

/-- ITS FALSE NEIGHBOUR: 'it returns false'. Refute it at one input. -/
def fnExactMergeAtWrong : ChangeSpec := { name := "fnExactMergeAt", fn := fun _ => fun
  | [d1, d2, d3, d4] => { results := [.lit (.bool false)], args := [d1, d2, d3, d4] }
  | _ => none }
def FnExactMergeAtWrongFalsely : Prop := fnExactMergeAtRow.holds Tryz.pinned (OpenSpec.ofChange fnExactMergeAtWrong)

/-- 'laws.FnExactBaseOf': WHATEVER THE INPUT: true; the input reads as it did. -/
def fnExactBaseOfSpec : ChangeSpec := { name := "fnExactBaseOf", fn := fun _ => fun
  | [d1, d2, d3] => { results := [.lit (.bool true)], args := [d1, d2, d3] }
  | _ => none }
def fnExactBaseOfRow : OpenClaim := { program := "ytahffnkphppgoaagreat", sum := "a8330ac0a62ed71430de08af221e535c83d8abfaf0dff67bc2f6b4b28660e0f7", func := "loop.example/g00073/laws.FnExactBaseOf", spec := "fnExactBaseOf", inPlace := ["internal/bytealg.IndexByteString", "internal/bytealg.IndexString", "slices.overlaps[loop.example/g00073/impl.Name]"], unfollowed := true, recurses := true, named := ["internal/bytealg.MaxLen"], apart := false }
def FnExactBaseOfSaid : Prop := fnExactBaseOfRow.holds Tryz.pinned (OpenSpec.ofChange fnExactBaseOfSpec)

/-- ITS FALSE NEIGHBOUR: 'it returns false'. Refute it at one input. -/
def fnExactBaseOfWrong : ChangeSpec := { name := "fnExactBaseOf", fn := fun _ => fun
  | [d1, d2, d3] => { results := [.lit (.bool false)], args := [d1, d2, d3] }
  | _ => none }
def FnExactBaseOfWrongFalsely : Prop := fnExactBaseOfRow.holds Tryz.pinned (OpenSpec.ofChange fnExactBaseOfWrong)

/-- 'laws.FnExactPlainAdd': WHATEVER THE INPUT: true; the input reads as it did. -/
def fnExactPlainAddSpec : ChangeSpec := { name := "fnExactPlainAdd", fn := fun _ => fun
  | [d1, d2, d3] => { results := [.lit (.bool true)], args := [d1, d2, d3] }
  | _ => none }
def fnExactPlainAddRow : OpenClaim := { program := "ytahffnkphppgoaagreat", sum := "a8330ac0a62ed71430de08af221e535c83d8abfaf0dff67bc2f6b4b28660e0f7", func := "loop.example/g00073/laws.FnExactPlainAdd", spec := "fnExactPlainAdd", inPlace := ["internal/bytealg.IndexByteString", "internal/bytealg.IndexString", "slices.overlaps[loop.example/g00073/impl.Body]"], unfollowed := true, recurses := true, named := ["internal/bytealg.MaxLen"], apart := false }
def FnExactPlainAddSaid : Prop := fnExactPlainAddRow.holds Tryz.pinned (OpenSpec.ofChange fnExactPlainAddSpec)

/-- ITS FALSE NEIGHBOUR: 'it returns false'. Refute it at one input. -/
def fnExactPlainAddWrong : ChangeSpec := { name := "fnExactPlainAdd", fn := fun _ => fun
  | [d1, d2, d3] => { results := [.lit (.bool false)], args := [d1, d2, d3] }
  | _ => none }
def FnExactPlainAddWrongFalsely : Prop := fnExactPlainAddRow.holds Tryz.pinned (OpenSpec.ofChange fnExactPlainAddWrong)

/- THE SECOND FORM. 'bulk': how many values and letters a reading holds, each counted each time it is reached (what is shared counts as often as it is met; a slice's spare places count too). A statement '..UptoSaid' is the law's where the arguments, and the package variables that the reading takes, are together of bulk at most 1048576: NARROWER than '..Said'. Prove '..Said' where nothing that the law and all that it calls make is longer than what came in: it says more and counts as full. Else prove '..UptoSaid'. A law counts once. -/
mutual
def uptoBulk {H : Type} : DataW H → Nat
  | .lit (.string bytes) => bytes.length + 1
  | .lit _ => 1
  | .nil => 1
  | .ptr d => uptoBulk d + 1
  | .slice elems spare => uptoBulkAll elems + uptoBulkAll spare + 1
  | .agg parts => uptoBulkAll parts + 1
  | .iface _ d => uptoBulk d + 1
  | .map entries => uptoBulkEntries entries + 1
  | .held _ => 1
def uptoBulkAll {H : Type} : List (DataW H) → Nat
  | [] => 0
  | d :: r => uptoBulk d + uptoBulkAll r
def uptoBulkEntries {H : Type} : List (Lit × DataW H) → Nat
  | [] => 0
  | x :: r => uptoBulkEntry x + uptoBulkEntries r
def uptoBulkEntry {H : Type} : Lit × DataW H → Nat
  | (.string bytes, d) => bytes.length + uptoBulk d + 1
  | (_, d) => uptoBulk d + 1
 end
def uptoSmall : (H : Type) → List (DataW H) → Bool := fun _ ds => decide (uptoBulkAll ds ≤ 1048576)
def OpenSpec.upto (s : _root_.Go.ChangeSpec) : _root_.Go.OpenSpec := { _root_.Go.OpenSpec.ofChange s with cond := some uptoSmall }

/-- 'laws.FnExactNotesAt', WHERE WHAT IT READS IS OF BULK AT MOST 1048576: true; the input reads as it did. -/
def fnExactNotesAtUptoRow : OpenClaim := { program := "ytahffnkphppgoaagreat", sum := "a8330ac0a62ed71430de08af221e535c83d8abfaf0dff67bc2f6b4b28660e0f7", func := "loop.example/g00073/laws.FnExactNotesAt", spec := "fnExactNotesAt", inPlace := ["internal/bytealg.IndexByteString", "internal/bytealg.IndexString"], unfollowed := true, recurses := true, named := ["internal/bytealg.MaxLen"], apart := false, narrowed := true }
def FnExactNotesAtUptoSaid : Prop := fnExactNotesAtUptoRow.holds Tryz.pinned (OpenSpec.upto fnExactNotesAtSpec)

/-- 'laws.FnExactMergeAt', WHERE WHAT IT READS IS OF BULK AT MOST 1048576: true; the input reads as it did. -/
def fnExactMergeAtUptoRow : OpenClaim := { program := "ytahffnkphppgoaagreat", sum := "a8330ac0a62ed71430de08af221e535c83d8abfaf0dff67bc2f6b4b28660e0f7", func := "loop.example/g00073/laws.FnExactMergeAt", spec := "fnExactMergeAt", inPlace := ["internal/bytealg.IndexByteString", "internal/bytealg.IndexString"], unfollowed := true, recurses := true, named := ["internal/bytealg.MaxLen"], apart := false, narrowed := true }
def FnExactMergeAtUptoSaid : Prop := fnExactMergeAtUptoRow.holds Tryz.pinned (OpenSpec.upto fnExactMergeAtSpec)

/-- 'laws.FnExactBaseOf', WHERE WHAT IT READS IS OF BULK AT MOST 1048576: true; the input reads as it did. -/
def fnExactBaseOfUptoRow : OpenClaim := { program := "ytahffnkphppgoaagreat", sum := "a8330ac0a62ed71430de08af221e535c83d8abfaf0dff67bc2f6b4b28660e0f7", func := "loop.example/g00073/laws.FnExactBaseOf", spec := "fnExactBaseOf", inPlace := ["internal/bytealg.IndexByteString", "internal/bytealg.IndexString", "slices.overlaps[loop.example/g00073/impl.Name]"], unfollowed := true, recurses := true, named := ["internal/bytealg.MaxLen"], apart := false, narrowed := true }
def FnExactBaseOfUptoSaid : Prop := fnExactBaseOfUptoRow.holds Tryz.pinned (OpenSpec.upto fnExactBaseOfSpec)

/-- 'laws.FnExactPlainAdd', WHERE WHAT IT READS IS OF BULK AT MOST 1048576: true; the input reads as it did. -/
def fnExactPlainAddUptoRow : OpenClaim := { program := "ytahffnkphppgoaagreat", sum := "a8330ac0a62ed71430de08af221e535c83d8abfaf0dff67bc2f6b4b28660e0f7", func := "loop.example/g00073/laws.FnExactPlainAdd", spec := "fnExactPlainAdd", inPlace := ["internal/bytealg.IndexByteString", "internal/bytealg.IndexString", "slices.overlaps[loop.example/g00073/impl.Body]"], unfollowed := true, recurses := true, named := ["internal/bytealg.MaxLen"], apart := false, narrowed := true }
def FnExactPlainAddUptoSaid : Prop := fnExactPlainAddUptoRow.holds Tryz.pinned (OpenSpec.upto fnExactPlainAddSpec)

end Rows
end Go.Proofs.YtahffnkphppgoaaGreat
