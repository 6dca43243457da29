/-
  No cell of these rows narrows 'for every input' (looked for: loops, veiled, ifaces, maps, wideKeys, modest, calm, conditions, laid).
  DERIVED. THE GIVEN ROWS OF THIS SEAT. 10 by the template 'for every input the law returns true; each argument reads behind the call as it read before'; 0 by the template 'total and deterministic' (their statements: YtbpicgilplnmoaaTotals.lean).
  GIVEN WITH THE SEED: the statements are not yours to turn. If you find one false, say at which input.
  Laid BY PROGRAM, IN A SANDBOX (cutbox-rows.mjs): the forced cells as the released guide's own fill.sh prints them over the translation b5e311c24a2e1a36… (all of the seat's roots in one cut). By AI agents, Wed Nov 11 2026. No macro, syntax, notation, axiom, sorry.
-/
import Derived.Test.YtbpicgilplnmoaaChecked
import GoSem.Claim
import GoSem.ClaimJoined
import GoSem.ClaimMapViews
import Derived.JoinedTies
import Derived.KernelRfl
namespace Go.Proofs.Ytbpicgilplnmoaa
/- THE CELL 'sum', in the pinned program and in every row, IS THE sha256 OF THE DUMP (.gsa) THAT YtbpicgilplnmoaaProg.lean LOADS. Nothing in Lean hashes anything: it is a label: what it is worth is what the hold of that sum in a sandbox is worth. -/
noncomputable def Try.pinned : Pinned := { name := "ytbpicgilplnmoaa", sum := "b5e311c24a2e1a360f7b8d8685a2fedd821c954bb72e4c60ddb03d05ba64007e", checked := Try.checked }
namespace Rows
def none {H : Type} : Left H := { results := [], args := [] }

/-- 'laws.FnExactShadowName': WHATEVER THE INPUT: true; the input reads as it did. -/
def fnExactShadowNameSpec : ChangeSpec := { name := "fnExactShadowName", fn := fun _ => fun
  | [d] => { results := [.lit (.bool true)], args := [d] }
  | _ => none }
def fnExactShadowNameRow : OpenClaim := { program := "ytbpicgilplnmoaa", sum := "b5e311c24a2e1a360f7b8d8685a2fedd821c954bb72e4c60ddb03d05ba64007e", func := "loop.example/g00073/laws.FnExactShadowName", spec := "fnExactShadowName", plainKeys := false, apart := false }
def FnExactShadowNameSaid : Prop := fnExactShadowNameRow.holds Try.pinned (OpenSpec.ofChange fnExactShadowNameSpec)

/-- ITS FALSE NEIGHBOUR: 'it returns false'. Refute it at one input. -/
def fnExactShadowNameWrong : ChangeSpec := { name := "fnExactShadowName", fn := fun _ => fun
  | [d] => { results := [.lit (.bool false)], args := [d] }
  | _ => none }
def FnExactShadowNameWrongFalsely : Prop := fnExactShadowNameRow.holds Try.pinned (OpenSpec.ofChange fnExactShadowNameWrong)

/-- 'laws.FnExactNoteOk': WHATEVER THE INPUT: true; the input reads as it did. -/
def fnExactNoteOkSpec : ChangeSpec := { name := "fnExactNoteOk", fn := fun _ => fun
  | [d] => { results := [.lit (.bool true)], args := [d] }
  | _ => none }
def fnExactNoteOkRow : OpenClaim := { program := "ytbpicgilplnmoaa", sum := "b5e311c24a2e1a360f7b8d8685a2fedd821c954bb72e4c60ddb03d05ba64007e", func := "loop.example/g00073/laws.FnExactNoteOk", spec := "fnExactNoteOk", plainKeys := false, apart := false }
def FnExactNoteOkSaid : Prop := fnExactNoteOkRow.holds Try.pinned (OpenSpec.ofChange fnExactNoteOkSpec)

/-- ITS FALSE NEIGHBOUR: 'it returns false'. Refute it at one input. -/
def fnExactNoteOkWrong : ChangeSpec := { name := "fnExactNoteOk", fn := fun _ => fun
  | [d] => { results := [.lit (.bool false)], args := [d] }
  | _ => none }
def FnExactNoteOkWrongFalsely : Prop := fnExactNoteOkRow.holds Try.pinned (OpenSpec.ofChange fnExactNoteOkWrong)

/-- 'laws.FnExactDiskOk': WHATEVER THE INPUT: true; the input reads as it did. -/
def fnExactDiskOkSpec : ChangeSpec := { name := "fnExactDiskOk", fn := fun _ => fun
  | [d] => { results := [.lit (.bool true)], args := [d] }
  | _ => none }
def fnExactDiskOkRow : OpenClaim := { program := "ytbpicgilplnmoaa", sum := "b5e311c24a2e1a360f7b8d8685a2fedd821c954bb72e4c60ddb03d05ba64007e", func := "loop.example/g00073/laws.FnExactDiskOk", spec := "fnExactDiskOk", plainKeys := false, apart := false }
def FnExactDiskOkSaid : Prop := fnExactDiskOkRow.holds Try.pinned (OpenSpec.ofChange fnExactDiskOkSpec)

/-- ITS FALSE NEIGHBOUR: 'it returns false'. Refute it at one input. -/
def fnExactDiskOkWrong : ChangeSpec := { name := "fnExactDiskOk", fn := fun _ => fun
  | [d] => { results := [.lit (.bool false)], args := [d] }
  | _ => none }
def FnExactDiskOkWrongFalsely : Prop := fnExactDiskOkRow.holds Try.pinned (OpenSpec.ofChange fnExactDiskOkWrong)

/-- 'laws.FnExactFileAt': WHATEVER THE INPUT: true; the input reads as it did. -/
def fnExactFileAtSpec : ChangeSpec := { name := "fnExactFileAt", fn := fun _ => fun
  | [d1, d2] => { results := [.lit (.bool true)], args := [d1, d2] }
  | _ => none }
def fnExactFileAtRow : OpenClaim := { program := "ytbpicgilplnmoaa", sum := "b5e311c24a2e1a360f7b8d8685a2fedd821c954bb72e4c60ddb03d05ba64007e", func := "loop.example/g00073/laws.FnExactFileAt", spec := "fnExactFileAt", plainKeys := false, apart := false }
def FnExactFileAtSaid : Prop := fnExactFileAtRow.holds Try.pinned (OpenSpec.ofChange fnExactFileAtSpec)

/-- ITS FALSE NEIGHBOUR: 'it returns false'. Refute it at one input. -/
def fnExactFileAtWrong : ChangeSpec := { name := "fnExactFileAt", fn := fun _ => fun
  | [d1, d2] => { results := [.lit (.bool false)], args := [d1, d2] }
  | _ => none }
def FnExactFileAtWrongFalsely : Prop := fnExactFileAtRow.holds Try.pinned (OpenSpec.ofChange fnExactFileAtWrong)

/-- 'laws.FnExactPathOk': WHATEVER THE INPUT: true; the input reads as it did. -/
def fnExactPathOkSpec : ChangeSpec := { name := "fnExactPathOk", fn := fun _ => fun
  | [d] => { results := [.lit (.bool true)], args := [d] }
  | _ => none }
def fnExactPathOkRow : OpenClaim := { program := "ytbpicgilplnmoaa", sum := "b5e311c24a2e1a360f7b8d8685a2fedd821c954bb72e4c60ddb03d05ba64007e", func := "loop.example/g00073/laws.FnExactPathOk", spec := "fnExactPathOk", inPlace := ["internal/bytealg.IndexByteString", "internal/bytealg.IndexString"], named := ["internal/bytealg.MaxLen"], plainKeys := false, apart := false }
def FnExactPathOkSaid : Prop := fnExactPathOkRow.holds Try.pinned (OpenSpec.ofChange fnExactPathOkSpec)

/-- ITS FALSE NEIGHBOUR: 'it returns false'. Refute it at one input. -/
def fnExactPathOkWrong : ChangeSpec := { name := "fnExactPathOk", fn := fun _ => fun
  | [d] => { results := [.lit (.bool false)], args := [d] }
  | _ => none }
def FnExactPathOkWrongFalsely : Prop := fnExactPathOkRow.holds Try.pinned (OpenSpec.ofChange fnExactPathOkWrong)

/-- 'laws.FnExactNamesOk': WHATEVER THE INPUT: true; the input reads as it did. -/
def fnExactNamesOkSpec : ChangeSpec := { name := "fnExactNamesOk", fn := fun _ => fun
  | [d] => { results := [.lit (.bool true)], args := [d] }
  | _ => none }
def fnExactNamesOkRow : OpenClaim := { program := "ytbpicgilplnmoaa", sum := "b5e311c24a2e1a360f7b8d8685a2fedd821c954bb72e4c60ddb03d05ba64007e", func := "loop.example/g00073/laws.FnExactNamesOk", spec := "fnExactNamesOk", inPlace := ["internal/bytealg.IndexByteString", "internal/bytealg.IndexString"], unfollowed := true, recurses := true, named := ["internal/bytealg.MaxLen"], plainKeys := false, apart := false }
def FnExactNamesOkSaid : Prop := fnExactNamesOkRow.holds Try.pinned (OpenSpec.ofChange fnExactNamesOkSpec)

/-- ITS FALSE NEIGHBOUR: 'it returns false'. Refute it at one input. -/
def fnExactNamesOkWrong : ChangeSpec := { name := "fnExactNamesOk", fn := fun _ => fun
  | [d] => { results := [.lit (.bool false)], args := [d] }
  | _ => none }
def FnExactNamesOkWrongFalsely : Prop := fnExactNamesOkRow.holds Try.pinned (OpenSpec.ofChange fnExactNamesOkWrong)

/-- 'laws.FnExactById': WHATEVER THE INPUT: true; the input reads as it did. -/
def fnExactByIdSpec : ChangeSpec := { name := "fnExactById", fn := fun _ => fun
  | [d1, d2] => { results := [.lit (.bool true)], args := [d1, d2] }
  | _ => none }
def fnExactByIdRow : OpenClaim := { program := "ytbpicgilplnmoaa", sum := "b5e311c24a2e1a360f7b8d8685a2fedd821c954bb72e4c60ddb03d05ba64007e", func := "loop.example/g00073/laws.FnExactById", spec := "fnExactById", inPlace := ["internal/bytealg.IndexByteString", "internal/bytealg.IndexString"], unfollowed := true, recurses := true, named := ["internal/bytealg.MaxLen"], plainKeys := false, apart := false }
def FnExactByIdSaid : Prop := fnExactByIdRow.holds Try.pinned (OpenSpec.ofChange fnExactByIdSpec)

/-- ITS FALSE NEIGHBOUR: 'it returns false'. Refute it at one input. -/
def fnExactByIdWrong : ChangeSpec := { name := "fnExactById", fn := fun _ => fun
  | [d1, d2] => { results := [.lit (.bool false)], args := [d1, d2] }
  | _ => none }
def FnExactByIdWrongFalsely : Prop := fnExactByIdRow.holds Try.pinned (OpenSpec.ofChange fnExactByIdWrong)

/-- 'laws.FnExactPlainBodies': WHATEVER THE INPUT: true; the input reads as it did. -/
def fnExactPlainBodiesSpec : ChangeSpec := { name := "fnExactPlainBodies", fn := fun _ => fun
  | [d] => { results := [.lit (.bool true)], args := [d] }
  | _ => none }
def fnExactPlainBodiesRow : OpenClaim := { program := "ytbpicgilplnmoaa", sum := "b5e311c24a2e1a360f7b8d8685a2fedd821c954bb72e4c60ddb03d05ba64007e", func := "loop.example/g00073/laws.FnExactPlainBodies", spec := "fnExactPlainBodies", plainKeys := false, apart := false }
def FnExactPlainBodiesSaid : Prop := fnExactPlainBodiesRow.holds Try.pinned (OpenSpec.ofChange fnExactPlainBodiesSpec)

/-- ITS FALSE NEIGHBOUR: 'it returns false'. Refute it at one input. -/
def fnExactPlainBodiesWrong : ChangeSpec := { name := "fnExactPlainBodies", fn := fun _ => fun
  | [d] => { results := [.lit (.bool false)], args := [d] }
  | _ => none }
def FnExactPlainBodiesWrongFalsely : Prop := fnExactPlainBodiesRow.holds Try.pinned (OpenSpec.ofChange fnExactPlainBodiesWrong)

/-- 'laws.FnExactByPath': WHATEVER THE INPUT: true; the input reads as it did. -/
def fnExactByPathSpec : ChangeSpec := { name := "fnExactByPath", fn := fun _ => fun
  | [d1, d2] => { results := [.lit (.bool true)], args := [d1, d2] }
  | _ => none }
def fnExactByPathRow : OpenClaim := { program := "ytbpicgilplnmoaa", sum := "b5e311c24a2e1a360f7b8d8685a2fedd821c954bb72e4c60ddb03d05ba64007e", func := "loop.example/g00073/laws.FnExactByPath", spec := "fnExactByPath", inPlace := ["internal/bytealg.IndexByteString", "internal/bytealg.IndexString"], unfollowed := true, recurses := true, named := ["internal/bytealg.MaxLen"], plainKeys := false, apart := false }
def FnExactByPathSaid : Prop := fnExactByPathRow.holds Try.pinned (OpenSpec.ofChange fnExactByPathSpec)

/-- ITS FALSE NEIGHBOUR: 'it returns false'. Refute it at one input. -/
def fnExactByPathWrong : ChangeSpec := { name := "fnExactByPath", fn := fun _ => fun
  | [d1, d2] => { results := [.lit (.bool false)], args := [d1, d2] }
  | _ => none }
def FnExactByPathWrongFalsely : Prop := fnExactByPathRow.holds Try.pinned (OpenSpec.ofChange fnExactByPathWrong)

/-- 'laws.FnFiles': WHATEVER THE INPUT: true; the input reads as it did. -/
def fnFilesSpec : ChangeSpec := { name := "fnFiles", fn := fun _ => fun
  | [d] => { results := [.lit (.bool true)], args := [d] }
  | _ => none }
def fnFilesRow : OpenClaim := { program := "ytbpicgilplnmoaa", sum := "b5e311c24a2e1a360f7b8d8685a2fedd821c954bb72e4c60ddb03d05ba64007e", func := "loop.example/g00073/laws.FnFiles", spec := "fnFiles", inPlace := ["slices.overlaps[loop.example/g00073/impl.File]"], plainKeys := false, apart := false }
def FnFilesSaid : Prop := fnFilesRow.holds Try.pinned (OpenSpec.ofChange fnFilesSpec)

/-- ITS FALSE NEIGHBOUR: 'it returns false'. Refute it at one input. -/
def fnFilesWrong : ChangeSpec := { name := "fnFiles", fn := fun _ => fun
  | [d] => { results := [.lit (.bool false)], args := [d] }
  | _ => none }
def FnFilesWrongFalsely : Prop := fnFilesRow.holds Try.pinned (OpenSpec.ofChange fnFilesWrong)

/- THE SECOND FORM. 'bulk': how many values and letters a reading holds, each counted each time it is reached (what is shared counts as often as it is met; a slice's spare places count too). A statement '..UptoSaid' is the law's where the arguments, and the package variables that the reading takes, are together of bulk at most 1048576: NARROWER than '..Said'. Prove '..Said' where nothing that the law and all that it calls make is longer than what came in: it says more and counts as full. Else prove '..UptoSaid'. A law counts once. -/
mutual
def uptoBulk {H : Type} : DataW H → Nat
  | .lit (.string bytes) => bytes.length + 1
  | .lit _ => 1
  | .nil => 1
  | .ptr d => uptoBulk d + 1
  | .slice elems spare => uptoBulkAll elems + uptoBulkAll spare + 1
  | .agg parts => uptoBulkAll parts + 1
  | .iface _ d => uptoBulk d + 1
  | .map entries => uptoBulkEntries entries + 1
  | .held _ => 1
def uptoBulkAll {H : Type} : List (DataW H) → Nat
  | [] => 0
  | d :: r => uptoBulk d + uptoBulkAll r
def uptoBulkEntries {H : Type} : List (Lit × DataW H) → Nat
  | [] => 0
  | x :: r => uptoBulkEntry x + uptoBulkEntries r
def uptoBulkEntry {H : Type} : Lit × DataW H → Nat
  | (.string bytes, d) => bytes.length + uptoBulk d + 1
  | (_, d) => uptoBulk d + 1
 end
def uptoSmall : (H : Type) → List (DataW H) → Bool := fun _ ds => decide (uptoBulkAll ds ≤ 1048576)
def OpenSpec.upto (s : _root_.Go.ChangeSpec) : _root_.Go.OpenSpec := { _root_.Go.OpenSpec.ofChange s with cond := some uptoSmall }

/-- 'laws.FnExactShadowName', WHERE WHAT IT READS IS OF BULK AT MOST 1048576: true; the input reads as it did. -/
def fnExactShadowNameUptoRow : OpenClaim := { program := "ytbpicgilplnmoaa", sum := "b5e311c24a2e1a360f7b8d8685a2fedd821c954bb72e4c60ddb03d05ba64007e", func := "loop.example/g00073/laws.FnExactShadowName", spec := "fnExactShadowName", plainKeys := false, apart := false, narrowed := true }
def FnExactShadowNameUptoSaid : Prop := fnExactShadowNameUptoRow.holds Try.pinned (OpenSpec.upto fnExactShadowNameSpec)

/-- 'laws.FnExactNoteOk', WHERE WHAT IT READS IS OF BULK AT MOST 1048576: true; the input reads as it did. -/
def fnExactNoteOkUptoRow : OpenClaim := { program := "ytbpicgilplnmoaa", sum := "b5e311c24a2e1a360f7b8d8685a2fedd821c954bb72e4c60ddb03d05ba64007e", func := "loop.example/g00073/laws.FnExactNoteOk", spec := "fnExactNoteOk", plainKeys := false, apart := false, narrowed := true }
def FnExactNoteOkUptoSaid : Prop := fnExactNoteOkUptoRow.holds Try.pinned (OpenSpec.upto fnExactNoteOkSpec)

/-- 'laws.FnExactDiskOk', WHERE WHAT IT READS IS OF BULK AT MOST 1048576: true; the input reads as it did. -/
def fnExactDiskOkUptoRow : OpenClaim := { program := "ytbpicgilplnmoaa", sum := "b5e311c24a2e1a360f7b8d8685a2fedd821c954bb72e4c60ddb03d05ba64007e", func := "loop.example/g00073/laws.FnExactDiskOk", spec := "fnExactDiskOk", plainKeys := false, apart := false, narrowed := true }
def FnExactDiskOkUptoSaid : Prop := fnExactDiskOkUptoRow.holds Try.pinned (OpenSpec.upto fnExactDiskOkSpec)

/-- 'laws.FnExactFileAt', WHERE WHAT IT READS IS OF BULK AT MOST 1048576: true; the input reads as it did. -/
def fnExactFileAtUptoRow : OpenClaim := { program := "ytbpicgilplnmoaa", sum := "b5e311c24a2e1a360f7b8d8685a2fedd821c954bb72e4c60ddb03d05ba64007e", func := "loop.example/g00073/laws.FnExactFileAt", spec := "fnExactFileAt", plainKeys := false, apart := false, narrowed := true }
def FnExactFileAtUptoSaid : Prop := fnExactFileAtUptoRow.holds Try.pinned (OpenSpec.upto fnExactFileAtSpec)

/-- 'laws.FnExactPathOk', WHERE WHAT IT READS IS OF BULK AT MOST 1048576: true; the input reads as it did. -/
def fnExactPathOkUptoRow : OpenClaim := { program := "ytbpicgilplnmoaa", sum := "b5e311c24a2e1a360f7b8d8685a2fedd821c954bb72e4c60ddb03d05ba64007e", func := "loop.example/g00073/laws.FnExactPathOk", spec := "fnExactPathOk", inPlace := ["internal/bytealg.IndexByteString", "internal/bytealg.IndexString"], named := ["internal/bytealg.MaxLen"], plainKeys := false, apart := false, narrowed := true }
def FnExactPathOkUptoSaid : Prop := fnExactPathOkUptoRow.holds Try.pinned (OpenSpec.upto fnExactPathOkSpec)

/-- 'laws.FnExactNamesOk', WHERE WHAT IT READS IS OF BULK AT MOST 1048576: true; the input reads as it did. -/
def fnExactNamesOkUptoRow : OpenClaim := { program := "ytbpicgilplnmoaa", sum := "b5e311c24a2e1a360f7b8d8685a2fedd821c954bb72e4c60ddb03d05ba64007e", func := "loop.example/g00073/laws.FnExactNamesOk", spec := "fnExactNamesOk", inPlace := ["internal/bytealg.IndexByteString", "internal/bytealg.IndexString"], unfollowed := true, recurses := true, named := ["internal/bytealg.MaxLen"], plainKeys := false, apart := false, narrowed := true }
def FnExactNamesOkUptoSaid : Prop := fnExactNamesOkUptoRow.holds Try.pinned (OpenSpec.upto fnExactNamesOkSpec)

/-- 'laws.FnExactById', WHERE WHAT IT READS IS OF BULK AT MOST 1048576: true; the input reads as it did. -/
def fnExactByIdUptoRow : OpenClaim := { program := "ytbpicgilplnmoaa", sum := "b5e311c24a2e1a360f7b8d8685a2fedd821c954bb72e4c60ddb03d05ba64007e", func := "loop.example/g00073/laws.FnExactById", spec := "fnExactById", inPlace := ["internal/bytealg.IndexByteString", "internal/bytealg.IndexString"], unfollowed := true, recurses := true, named := ["internal/bytealg.MaxLen"], plainKeys := false, apart := false, narrowed := true }
def FnExactByIdUptoSaid : Prop := fnExactByIdUptoRow.holds Try.pinned (OpenSpec.upto fnExactByIdSpec)

/-- 'laws.FnExactPlainBodies', WHERE WHAT IT READS IS OF BULK AT MOST 1048576: true; the input reads as it did. -/
def fnExactPlainBodiesUptoRow : OpenClaim := { program := "ytbpicgilplnmoaa", sum := "b5e311c24a2e1a360f7b8d8685a2fedd821c954bb72e4c60ddb03d05ba64007e", func := "loop.example/g00073/laws.FnExactPlainBodies", spec := "fnExactPlainBodies", plainKeys := false, apart := false, narrowed := true }
def FnExactPlainBodiesUptoSaid : Prop := fnExactPlainBodiesUptoRow.holds Try.pinned (OpenSpec.upto fnExactPlainBodiesSpec)

/-- 'laws.FnExactByPath', WHERE WHAT IT READS IS OF BULK AT MOST 1048576: true; the input reads as it did. -/
def fnExactByPathUptoRow : OpenClaim := { program := "ytbpicgilplnmoaa", sum := "b5e311c24a2e1a360f7b8d8685a2fedd821c954bb72e4c60ddb03d05ba64007e", func := "loop.example/g00073/laws.FnExactByPath", spec := "fnExactByPath", inPlace := ["internal/bytealg.IndexByteString", "internal/bytealg.IndexString"], unfollowed := true, recurses := true, named := ["internal/bytealg.MaxLen"], plainKeys := false, apart := false, narrowed := true }
def FnExactByPathUptoSaid : Prop := fnExactByPathUptoRow.holds Try.pinned (OpenSpec.upto fnExactByPathSpec)

/-- 'laws.FnFiles', WHERE WHAT IT READS IS OF BULK AT MOST 1048576: true; the input reads as it did. -/
def fnFilesUptoRow : OpenClaim := { program := "ytbpicgilplnmoaa", sum := "b5e311c24a2e1a360f7b8d8685a2fedd821c954bb72e4c60ddb03d05ba64007e", func := "loop.example/g00073/laws.FnFiles", spec := "fnFiles", inPlace := ["slices.overlaps[loop.example/g00073/impl.File]"], plainKeys := false, apart := false, narrowed := true }
def FnFilesUptoSaid : Prop := fnFilesUptoRow.holds Try.pinned (OpenSpec.upto fnFilesSpec)

end Rows
end Go.Proofs.Ytbpicgilplnmoaa
