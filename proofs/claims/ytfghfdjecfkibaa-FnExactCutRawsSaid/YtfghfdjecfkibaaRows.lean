/-
  No cell of these rows narrows 'for every input' (looked for: loops, veiled, ifaces, maps, wideKeys, modest, calm, conditions, laid).
  DERIVED. THE GIVEN ROWS OF THIS SEAT. 6 by the template 'for every input the law returns true; each argument reads behind the call as it read before'; 0 by the template 'total and deterministic' (their statements: YtfghfdjecfkibaaTotals.lean).
  GIVEN WITH THE SEED: the statements are not yours to turn. If you find one false, say at which input.
  Laid BY PROGRAM, IN A SANDBOX (cutbox-rows.mjs): the forced cells as the released guide's own fill.sh prints them over the translation 39388d4125cfb4b0… (all of the seat's roots in one cut). By AI agents, Wed Nov 11 2026. No macro, syntax, notation, axiom, sorry.
-/
import Derived.Test.YtfghfdjecfkibaaChecked
import GoSem.Claim
import GoSem.ClaimJoined
import GoSem.ClaimMapViews
import Derived.JoinedTies
import Derived.KernelRfl
namespace Go.Proofs.Ytfghfdjecfkibaa
/- THE CELL 'sum', in the pinned program and in every row, IS THE sha256 OF THE DUMP (.gsa) THAT YtfghfdjecfkibaaProg.lean LOADS. Nothing in Lean hashes anything: it is a label: what it is worth is what the hold of that sum in a sandbox is worth. -/
noncomputable def Try.pinned : Pinned := { name := "ytfghfdjecfkibaa", sum := "39388d4125cfb4b085dc6051dedd0da413843783fa46cbd7127527938b00eff8", checked := Try.checked }
namespace Rows
def none {H : Type} : Left H := { results := [], args := [] }

/-- 'laws.FnExactCutName': WHATEVER THE INPUT: true; the input reads as it did. -/
def fnExactCutNameSpec : ChangeSpec := { name := "fnExactCutName", fn := fun _ => fun
  | [d1, d2] => { results := [.lit (.bool true)], args := [d1, d2] }
  | _ => none }
def fnExactCutNameRow : OpenClaim := { program := "ytfghfdjecfkibaa", sum := "39388d4125cfb4b085dc6051dedd0da413843783fa46cbd7127527938b00eff8", func := "loop.example/g00073/laws.FnExactCutName", spec := "fnExactCutName", inPlace := ["internal/bytealg.IndexByteString", "internal/bytealg.IndexString"], unfollowed := true, recurses := true, named := ["internal/bytealg.MaxLen"], apart := false }
def FnExactCutNameSaid : Prop := fnExactCutNameRow.holds Try.pinned (OpenSpec.ofChange fnExactCutNameSpec)

/-- ITS FALSE NEIGHBOUR: 'it returns false'. Refute it at one input. -/
def fnExactCutNameWrong : ChangeSpec := { name := "fnExactCutName", fn := fun _ => fun
  | [d1, d2] => { results := [.lit (.bool false)], args := [d1, d2] }
  | _ => none }
def FnExactCutNameWrongFalsely : Prop := fnExactCutNameRow.holds Try.pinned (OpenSpec.ofChange fnExactCutNameWrong)

/-- 'laws.FnExactPutRaw': WHATEVER THE INPUT: true; the input reads as it did. -/
def fnExactPutRawSpec : ChangeSpec := { name := "fnExactPutRaw", fn := fun _ => fun
  | [d1, d2] => { results := [.lit (.bool true)], args := [d1, d2] }
  | _ => none }
def fnExactPutRawRow : OpenClaim := { program := "ytfghfdjecfkibaa", sum := "39388d4125cfb4b085dc6051dedd0da413843783fa46cbd7127527938b00eff8", func := "loop.example/g00073/laws.FnExactPutRaw", spec := "fnExactPutRaw", inPlace := ["slices.overlaps[loop.example/g00073/impl.File]"], apart := false }
def FnExactPutRawSaid : Prop := fnExactPutRawRow.holds Try.pinned (OpenSpec.ofChange fnExactPutRawSpec)

/-- ITS FALSE NEIGHBOUR: 'it returns false'. Refute it at one input. -/
def fnExactPutRawWrong : ChangeSpec := { name := "fnExactPutRaw", fn := fun _ => fun
  | [d1, d2] => { results := [.lit (.bool false)], args := [d1, d2] }
  | _ => none }
def FnExactPutRawWrongFalsely : Prop := fnExactPutRawRow.holds Try.pinned (OpenSpec.ofChange fnExactPutRawWrong)

/-- 'laws.FnExactPutName': WHATEVER THE INPUT: true; the input reads as it did. -/
def fnExactPutNameSpec : ChangeSpec := { name := "fnExactPutName", fn := fun _ => fun
  | [d1, d2] => { results := [.lit (.bool true)], args := [d1, d2] }
  | _ => none }
def fnExactPutNameRow : OpenClaim := { program := "ytfghfdjecfkibaa", sum := "39388d4125cfb4b085dc6051dedd0da413843783fa46cbd7127527938b00eff8", func := "loop.example/g00073/laws.FnExactPutName", spec := "fnExactPutName", inPlace := ["internal/bytealg.IndexByteString", "internal/bytealg.IndexString", "slices.overlaps[loop.example/g00073/impl.Name]"], unfollowed := true, recurses := true, named := ["internal/bytealg.MaxLen"], apart := false }
def FnExactPutNameSaid : Prop := fnExactPutNameRow.holds Try.pinned (OpenSpec.ofChange fnExactPutNameSpec)

/-- ITS FALSE NEIGHBOUR: 'it returns false'. Refute it at one input. -/
def fnExactPutNameWrong : ChangeSpec := { name := "fnExactPutName", fn := fun _ => fun
  | [d1, d2] => { results := [.lit (.bool false)], args := [d1, d2] }
  | _ => none }
def FnExactPutNameWrongFalsely : Prop := fnExactPutNameRow.holds Try.pinned (OpenSpec.ofChange fnExactPutNameWrong)

/-- 'laws.FnExactPutRaws': WHATEVER THE INPUT: true; the input reads as it did. -/
def fnExactPutRawsSpec : ChangeSpec := { name := "fnExactPutRaws", fn := fun _ => fun
  | [d1, d2] => { results := [.lit (.bool true)], args := [d1, d2] }
  | _ => none }
def fnExactPutRawsRow : OpenClaim := { program := "ytfghfdjecfkibaa", sum := "39388d4125cfb4b085dc6051dedd0da413843783fa46cbd7127527938b00eff8", func := "loop.example/g00073/laws.FnExactPutRaws", spec := "fnExactPutRaws", inPlace := ["slices.overlaps[loop.example/g00073/impl.File]"], apart := false }
def FnExactPutRawsSaid : Prop := fnExactPutRawsRow.holds Try.pinned (OpenSpec.ofChange fnExactPutRawsSpec)

/-- ITS FALSE NEIGHBOUR: 'it returns false'. Refute it at one input. -/
def fnExactPutRawsWrong : ChangeSpec := { name := "fnExactPutRaws", fn := fun _ => fun
  | [d1, d2] => { results := [.lit (.bool false)], args := [d1, d2] }
  | _ => none }
def FnExactPutRawsWrongFalsely : Prop := fnExactPutRawsRow.holds Try.pinned (OpenSpec.ofChange fnExactPutRawsWrong)

/-- 'laws.FnExactMoveName': WHATEVER THE INPUT: true; the input reads as it did. -/
def fnExactMoveNameSpec : ChangeSpec := { name := "fnExactMoveName", fn := fun _ => fun
  | [d1, d2, d3] => { results := [.lit (.bool true)], args := [d1, d2, d3] }
  | _ => none }
def fnExactMoveNameRow : OpenClaim := { program := "ytfghfdjecfkibaa", sum := "39388d4125cfb4b085dc6051dedd0da413843783fa46cbd7127527938b00eff8", func := "loop.example/g00073/laws.FnExactMoveName", spec := "fnExactMoveName", inPlace := ["internal/bytealg.IndexByteString", "internal/bytealg.IndexString", "slices.overlaps[loop.example/g00073/impl.Name]"], unfollowed := true, recurses := true, named := ["internal/bytealg.MaxLen"], apart := false }
def FnExactMoveNameSaid : Prop := fnExactMoveNameRow.holds Try.pinned (OpenSpec.ofChange fnExactMoveNameSpec)

/-- ITS FALSE NEIGHBOUR: 'it returns false'. Refute it at one input. -/
def fnExactMoveNameWrong : ChangeSpec := { name := "fnExactMoveName", fn := fun _ => fun
  | [d1, d2, d3] => { results := [.lit (.bool false)], args := [d1, d2, d3] }
  | _ => none }
def FnExactMoveNameWrongFalsely : Prop := fnExactMoveNameRow.holds Try.pinned (OpenSpec.ofChange fnExactMoveNameWrong)

/-- 'laws.FnExactCutRaws': WHATEVER THE INPUT: true; the input reads as it did. -/
def fnExactCutRawsSpec : ChangeSpec := { name := "fnExactCutRaws", fn := fun _ => fun
  | [d1, d2, d3, d4] => { results := [.lit (.bool true)], args := [d1, d2, d3, d4] }
  | _ => none }
def fnExactCutRawsRow : OpenClaim := { program := "ytfghfdjecfkibaa", sum := "39388d4125cfb4b085dc6051dedd0da413843783fa46cbd7127527938b00eff8", func := "loop.example/g00073/laws.FnExactCutRaws", spec := "fnExactCutRaws", inPlace := ["slices.overlaps[loop.example/g00073/impl.File]"], apart := false }
def FnExactCutRawsSaid : Prop := fnExactCutRawsRow.holds Try.pinned (OpenSpec.ofChange fnExactCutRawsSpec)

/-- ITS FALSE NEIGHBOUR: 'it returns false'. Refute it at one input. -/
def fnExactCutRawsWrong : ChangeSpec := { name := "fnExactCutRaws", fn := fun _ => fun
  | [d1, d2, d3, d4] => { results := [.lit (.bool false)], args := [d1, d2, d3, d4] }
  | _ => none }
def FnExactCutRawsWrongFalsely : Prop := fnExactCutRawsRow.holds Try.pinned (OpenSpec.ofChange fnExactCutRawsWrong)

/- THE SECOND FORM. 'bulk': how many values and letters a reading holds, each counted each time it is reached (what is shared counts as often as it is met; a slice's spare places count too). A statement '..UptoSaid' is the law's where the arguments, and the package variables that the reading takes, are together of bulk at most 1048576: NARROWER than '..Said'. Prove '..Said' where nothing that the law and all that it calls make is longer than what came in: it says more and counts as full. Else prove '..UptoSaid'. A law counts once. -/
mutual
def uptoBulk {H : Type} : DataW H → Nat
  | .lit (.string bytes) => bytes.length + 1
  | .lit _ => 1
  | .nil => 1
  | .ptr d => uptoBulk d + 1
  | .slice elems spare => uptoBulkAll elems + uptoBulkAll spare + 1
  | .agg parts => uptoBulkAll parts + 1
  | .iface _ d => uptoBulk d + 1
  | .map entries => uptoBulkEntries entries + 1
  | .held _ => 1
def uptoBulkAll {H : Type} : List (DataW H) → Nat
  | [] => 0
  | d :: r => uptoBulk d + uptoBulkAll r
def uptoBulkEntries {H : Type} : List (Lit × DataW H) → Nat
  | [] => 0
  | x :: r => uptoBulkEntry x + uptoBulkEntries r
def uptoBulkEntry {H : Type} : Lit × DataW H → Nat
  | (.string bytes, d) => bytes.length + uptoBulk d + 1
  | (_, d) => uptoBulk d + 1
 end
def uptoSmall : (H : Type) → List (DataW H) → Bool := fun _ ds => decide (uptoBulkAll ds ≤ 1048576)
def OpenSpec.upto (s : _root_.Go.ChangeSpec) : _root_.Go.OpenSpec := { _root_.Go.OpenSpec.ofChange s with cond := some uptoSmall }

/-- 'laws.FnExactCutName', WHERE WHAT IT READS IS OF BULK AT MOST 1048576: true; the input reads as it did. -/
def fnExactCutNameUptoRow : OpenClaim := { program := "ytfghfdjecfkibaa", sum := "39388d4125cfb4b085dc6051dedd0da413843783fa46cbd7127527938b00eff8", func := "loop.example/g00073/laws.FnExactCutName", spec := "fnExactCutName", inPlace := ["internal/bytealg.IndexByteString", "internal/bytealg.IndexString"], unfollowed := true, recurses := true, named := ["internal/bytealg.MaxLen"], apart := false, narrowed := true }
def FnExactCutNameUptoSaid : Prop := fnExactCutNameUptoRow.holds Try.pinned (OpenSpec.upto fnExactCutNameSpec)

/-- 'laws.FnExactPutRaw', WHERE WHAT IT READS IS OF BULK AT MOST 1048576: true; the input reads as it did. -/
def fnExactPutRawUptoRow : OpenClaim := { program := "ytfghfdjecfkibaa", sum := "39388d4125cfb4b085dc6051dedd0da413843783fa46cbd7127527938b00eff8", func := "loop.example/g00073/laws.FnExactPutRaw", spec := "fnExactPutRaw", inPlace := ["slices.overlaps[loop.example/g00073/impl.File]"], apart := false, narrowed := true }
def FnExactPutRawUptoSaid : Prop := fnExactPutRawUptoRow.holds Try.pinned (OpenSpec.upto fnExactPutRawSpec)

/-- 'laws.FnExactPutName', WHERE WHAT IT READS IS OF BULK AT MOST 1048576: true; the input reads as it did. -/
def fnExactPutNameUptoRow : OpenClaim := { program := "ytfghfdjecfkibaa", sum := "39388d4125cfb4b085dc6051dedd0da413843783fa46cbd7127527938b00eff8", func := "loop.example/g00073/laws.FnExactPutName", spec := "fnExactPutName", inPlace := ["internal/bytealg.IndexByteString", "internal/bytealg.IndexString", "slices.overlaps[loop.example/g00073/impl.Name]"], unfollowed := true, recurses := true, named := ["internal/bytealg.MaxLen"], apart := false, narrowed := true }
def FnExactPutNameUptoSaid : Prop := fnExactPutNameUptoRow.holds Try.pinned (OpenSpec.upto fnExactPutNameSpec)

/-- 'laws.FnExactPutRaws', WHERE WHAT IT READS IS OF BULK AT MOST 1048576: true; the input reads as it did. -/
def fnExactPutRawsUptoRow : OpenClaim := { program := "ytfghfdjecfkibaa", sum := "39388d4125cfb4b085dc6051dedd0da413843783fa46cbd7127527938b00eff8", func := "loop.example/g00073/laws.FnExactPutRaws", spec := "fnExactPutRaws", inPlace := ["slices.overlaps[loop.example/g00073/impl.File]"], apart := false, narrowed := true }
def FnExactPutRawsUptoSaid : Prop := fnExactPutRawsUptoRow.holds Try.pinned (OpenSpec.upto fnExactPutRawsSpec)

/-- 'laws.FnExactMoveName', WHERE WHAT IT READS IS OF BULK AT MOST 1048576: true; the input reads as it did. -/
def fnExactMoveNameUptoRow : OpenClaim := { program := "ytfghfdjecfkibaa", sum := "39388d4125cfb4b085dc6051dedd0da413843783fa46cbd7127527938b00eff8", func := "loop.example/g00073/laws.FnExactMoveName", spec := "fnExactMoveName", inPlace := ["internal/bytealg.IndexByteString", "internal/bytealg.IndexString", "slices.overlaps[loop.example/g00073/impl.Name]"], unfollowed := true, recurses := true, named := ["internal/bytealg.MaxLen"], apart := false, narrowed := true }
def FnExactMoveNameUptoSaid : Prop := fnExactMoveNameUptoRow.holds Try.pinned (OpenSpec.upto fnExactMoveNameSpec)

/-- 'laws.FnExactCutRaws', WHERE WHAT IT READS IS OF BULK AT MOST 1048576: true; the input reads as it did. -/
def fnExactCutRawsUptoRow : OpenClaim := { program := "ytfghfdjecfkibaa", sum := "39388d4125cfb4b085dc6051dedd0da413843783fa46cbd7127527938b00eff8", func := "loop.example/g00073/laws.FnExactCutRaws", spec := "fnExactCutRaws", inPlace := ["slices.overlaps[loop.example/g00073/impl.File]"], apart := false, narrowed := true }
def FnExactCutRawsUptoSaid : Prop := fnExactCutRawsUptoRow.holds Try.pinned (OpenSpec.upto fnExactCutRawsSpec)

end Rows
end Go.Proofs.Ytfghfdjecfkibaa
