/-
  No cell of these rows narrows 'for every input' (looked for: loops, veiled, ifaces, maps, wideKeys, modest, calm, conditions, laid).
  DERIVED. THE GIVEN ROWS OF THIS SEAT. 5 by the template 'for every input the law returns true; each argument reads behind the call as it read before'; 0 by the template 'total and deterministic' (their statements: YtbhcecfdgkgjmaaTotals.lean).
  GIVEN WITH THE SEED: the statements are not yours to turn. If you find one false, say at which input.
  Laid BY PROGRAM, IN A SANDBOX (cutbox-rows.mjs): the forced cells as the released guide's own fill.sh prints them over the translation cd803f558da81b3f… (all of the seat's roots in one cut). By AI agents, Wed Nov 11 2026. No macro, syntax, notation, axiom, sorry.
-/
import Derived.Test.YtbhcecfdgkgjmaaChecked
import GoSem.Claim
import GoSem.ClaimJoined
import GoSem.ClaimMapViews
import Derived.JoinedTies
import Derived.KernelRfl
namespace Go.Proofs.Ytbhcecfdgkgjmaa
/- THE CELL 'sum', in the pinned program and in every row, IS THE sha256 OF THE DUMP (.gsa) THAT YtbhcecfdgkgjmaaProg.lean LOADS. Nothing in Lean hashes anything: it is a label: what it is worth is what the hold of that sum in a sandbox is worth. -/
noncomputable def Try.pinned : Pinned := { name := "ytbhcecfdgkgjmaa", sum := "cd803f558da81b3f9888697c8948d9ea95ca3e8173eae4581c78f6d42194f22d", checked := Try.checked }
namespace Rows
def none {H : Type} : Left H := { results := [], args := [] }

/-- 'laws.FnExactMoveName': WHATEVER THE INPUT: true; the input reads as it did. -/
def fnExactMoveNameSpec : ChangeSpec := { name := "fnExactMoveName", fn := fun _ => fun
  | [d1, d2, d3] => { results := [.lit (.bool true)], args := [d1, d2, d3] }
  | _ => none }
def fnExactMoveNameRow : OpenClaim := { program := "ytbhcecfdgkgjmaa", sum := "cd803f558da81b3f9888697c8948d9ea95ca3e8173eae4581c78f6d42194f22d", func := "loop.example/g00073/laws.FnExactMoveName", spec := "fnExactMoveName", inPlace := ["internal/bytealg.IndexByteString", "internal/bytealg.IndexString", "slices.overlaps[loop.example/g00073/impl.Name]"], unfollowed := true, recurses := true, named := ["internal/bytealg.MaxLen"], plainKeys := false, apart := false }
def FnExactMoveNameSaid : Prop := fnExactMoveNameRow.holds Try.pinned (OpenSpec.ofChange fnExactMoveNameSpec)

/-- ITS FALSE NEIGHBOUR: 'it returns false'. Refute it at one input. -/
def fnExactMoveNameWrong : ChangeSpec := { name := "fnExactMoveName", fn := fun _ => fun
  | [d1, d2, d3] => { results := [.lit (.bool false)], args := [d1, d2, d3] }
  | _ => none }
def FnExactMoveNameWrongFalsely : Prop := fnExactMoveNameRow.holds Try.pinned (OpenSpec.ofChange fnExactMoveNameWrong)

/-- 'laws.FnFiles': WHATEVER THE INPUT: true; the input reads as it did. -/
def fnFilesSpec : ChangeSpec := { name := "fnFiles", fn := fun _ => fun
  | [d] => { results := [.lit (.bool true)], args := [d] }
  | _ => none }
def fnFilesRow : OpenClaim := { program := "ytbhcecfdgkgjmaa", sum := "cd803f558da81b3f9888697c8948d9ea95ca3e8173eae4581c78f6d42194f22d", func := "loop.example/g00073/laws.FnFiles", spec := "fnFiles", inPlace := ["slices.overlaps[loop.example/g00073/impl.File]"], plainKeys := false, apart := false }
def FnFilesSaid : Prop := fnFilesRow.holds Try.pinned (OpenSpec.ofChange fnFilesSpec)

/-- ITS FALSE NEIGHBOUR: 'it returns false'. Refute it at one input. -/
def fnFilesWrong : ChangeSpec := { name := "fnFiles", fn := fun _ => fun
  | [d] => { results := [.lit (.bool false)], args := [d] }
  | _ => none }
def FnFilesWrongFalsely : Prop := fnFilesRow.holds Try.pinned (OpenSpec.ofChange fnFilesWrong)

/-- 'laws.FnRaws': WHATEVER THE INPUT: true; the input reads as it did. -/
def fnRawsSpec : ChangeSpec := { name := "fnRaws", fn := fun _ => fun
  | [d] => { results := [.lit (.bool true)], args := [d] }
  | _ => none }
def fnRawsRow : OpenClaim := { program := "ytbhcecfdgkgjmaa", sum := "cd803f558da81b3f9888697c8948d9ea95ca3e8173eae4581c78f6d42194f22d", func := "loop.example/g00073/laws.FnRaws", spec := "fnRaws", inPlace := ["slices.overlaps[loop.example/g00073/impl.File]"], plainKeys := false, apart := false }
def FnRawsSaid : Prop := fnRawsRow.holds Try.pinned (OpenSpec.ofChange fnRawsSpec)

/-- ITS FALSE NEIGHBOUR: 'it returns false'. Refute it at one input. -/
def fnRawsWrong : ChangeSpec := { name := "fnRaws", fn := fun _ => fun
  | [d] => { results := [.lit (.bool false)], args := [d] }
  | _ => none }
def FnRawsWrongFalsely : Prop := fnRawsRow.holds Try.pinned (OpenSpec.ofChange fnRawsWrong)

/-- 'laws.FnNames': WHATEVER THE INPUT: true; the input reads as it did. -/
def fnNamesSpec : ChangeSpec := { name := "fnNames", fn := fun _ => fun
  | [d] => { results := [.lit (.bool true)], args := [d] }
  | _ => none }
def fnNamesRow : OpenClaim := { program := "ytbhcecfdgkgjmaa", sum := "cd803f558da81b3f9888697c8948d9ea95ca3e8173eae4581c78f6d42194f22d", func := "loop.example/g00073/laws.FnNames", spec := "fnNames", inPlace := ["internal/bytealg.IndexByteString", "internal/bytealg.IndexString", "slices.overlaps[loop.example/g00073/impl.Name]"], unfollowed := true, recurses := true, named := ["internal/bytealg.MaxLen"], plainKeys := false, apart := false }
def FnNamesSaid : Prop := fnNamesRow.holds Try.pinned (OpenSpec.ofChange fnNamesSpec)

/-- ITS FALSE NEIGHBOUR: 'it returns false'. Refute it at one input. -/
def fnNamesWrong : ChangeSpec := { name := "fnNames", fn := fun _ => fun
  | [d] => { results := [.lit (.bool false)], args := [d] }
  | _ => none }
def FnNamesWrongFalsely : Prop := fnNamesRow.holds Try.pinned (OpenSpec.ofChange fnNamesWrong)

/-- 'laws.FnExactPlainBodies': WHATEVER THE INPUT: true; the input reads as it did. -/
def fnExactPlainBodiesSpec : ChangeSpec := { name := "fnExactPlainBodies", fn := fun _ => fun
  | [d] => { results := [.lit (.bool true)], args := [d] }
  | _ => none }
def fnExactPlainBodiesRow : OpenClaim := { program := "ytbhcecfdgkgjmaa", sum := "cd803f558da81b3f9888697c8948d9ea95ca3e8173eae4581c78f6d42194f22d", func := "loop.example/g00073/laws.FnExactPlainBodies", spec := "fnExactPlainBodies", plainKeys := false, apart := false }
def FnExactPlainBodiesSaid : Prop := fnExactPlainBodiesRow.holds Try.pinned (OpenSpec.ofChange fnExactPlainBodiesSpec)

/-- ITS FALSE NEIGHBOUR: 'it returns false'. Refute it at one input. -/
def fnExactPlainBodiesWrong : ChangeSpec := { name := "fnExactPlainBodies", fn := fun _ => fun
  | [d] => { results := [.lit (.bool false)], args := [d] }
  | _ => none }
def FnExactPlainBodiesWrongFalsely : Prop := fnExactPlainBodiesRow.holds Try.pinned (OpenSpec.ofChange fnExactPlainBodiesWrong)

/- THE SECOND FORM. 'bulk': how many values and letters a reading holds, each counted each time it is reached (what is shared counts as often as it is met; a slice's spare places count too). A statement '..UptoSaid' is the law's where the arguments, and the package variables that the reading takes, are together of bulk at most 1048576: NARROWER than '..Said'. Prove '..Said' where nothing that the law and all that it calls make is longer than what came in: it says more and counts as full. Else prove '..UptoSaid'. A law counts once. -/
mutual
def uptoBulk {H : Type} : DataW H → Nat
  | .lit (.string bytes) => bytes.length + 1
  | .lit _ => 1
  | .nil => 1
  | .ptr d => uptoBulk d + 1
  | .slice elems spare => uptoBulkAll elems + uptoBulkAll spare + 1
  | .agg parts => uptoBulkAll parts + 1
  | .iface _ d => uptoBulk d + 1
  | .map entries => uptoBulkEntries entries + 1
  | .held _ => 1
def uptoBulkAll {H : Type} : List (DataW H) → Nat
  | [] => 0
  | d :: r => uptoBulk d + uptoBulkAll r
def uptoBulkEntries {H : Type} : List (Lit × DataW H) → Nat
  | [] => 0
  | x :: r => uptoBulkEntry x + uptoBulkEntries r
def uptoBulkEntry {H : Type} : Lit × DataW H → Nat
  | (.string bytes, d) => bytes.length + uptoBulk d + 1
  | (_, d) => uptoBulk d + 1
 end
def uptoSmall : (H : Type) → List (DataW H) → Bool := fun _ ds => decide (uptoBulkAll ds ≤ 1048576)
def OpenSpec.upto (s : _root_.Go.ChangeSpec) : _root_.Go.OpenSpec := { _root_.Go.OpenSpec.ofChange s with cond := some uptoSmall }

/-- 'laws.FnExactMoveName', WHERE WHAT IT READS IS OF BULK AT MOST 1048576: true; the input reads as it did. -/
def fnExactMoveNameUptoRow : OpenClaim := { program := "ytbhcecfdgkgjmaa", sum := "cd803f558da81b3f9888697c8948d9ea95ca3e8173eae4581c78f6d42194f22d", func := "loop.example/g00073/laws.FnExactMoveName", spec := "fnExactMoveName", inPlace := ["internal/bytealg.IndexByteString", "internal/bytealg.IndexString", "slices.overlaps[loop.example/g00073/impl.Name]"], unfollowed := true, recurses := true, named := ["internal/bytealg.MaxLen"], plainKeys := false, apart := false, narrowed := true }
def FnExactMoveNameUptoSaid : Prop := fnExactMoveNameUptoRow.holds Try.pinned (OpenSpec.upto fnExactMoveNameSpec)

/-- 'laws.FnFiles', WHERE WHAT IT READS IS OF BULK AT MOST 1048576: true; the input reads as it did. -/
def fnFilesUptoRow : OpenClaim := { program := "ytbhcecfdgkgjmaa", sum := "cd803f558da81b3f9888697c8948d9ea95ca3e8173eae4581c78f6d42194f22d", func := "loop.example/g00073/laws.FnFiles", spec := "fnFiles", inPlace := ["slices.overlaps[loop.example/g00073/impl.File]"], plainKeys := false, apart := false, narrowed := true }
def FnFilesUptoSaid : Prop := fnFilesUptoRow.holds Try.pinned (OpenSpec.upto fnFilesSpec)

/-- 'laws.FnRaws', WHERE WHAT IT READS IS OF BULK AT MOST 1048576: true; the input reads as it did. -/
def fnRawsUptoRow : OpenClaim := { program := "ytbhcecfdgkgjmaa", sum := "cd803f558da81b3f9888697c8948d9ea95ca3e8173eae4581c78f6d42194f22d", func := "loop.example/g00073/laws.FnRaws", spec := "fnRaws", inPlace := ["slices.overlaps[loop.example/g00073/impl.File]"], plainKeys := false, apart := false, narrowed := true }
def FnRawsUptoSaid : Prop := fnRawsUptoRow.holds Try.pinned (OpenSpec.upto fnRawsSpec)

/-- 'laws.FnNames', WHERE WHAT IT READS IS OF BULK AT MOST 1048576: true; the input reads as it did. -/
def fnNamesUptoRow : OpenClaim := { program := "ytbhcecfdgkgjmaa", sum := "cd803f558da81b3f9888697c8948d9ea95ca3e8173eae4581c78f6d42194f22d", func := "loop.example/g00073/laws.FnNames", spec := "fnNames", inPlace := ["internal/bytealg.IndexByteString", "internal/bytealg.IndexString", "slices.overlaps[loop.example/g00073/impl.Name]"], unfollowed := true, recurses := true, named := ["internal/bytealg.MaxLen"], plainKeys := false, apart := false, narrowed := true }
def FnNamesUptoSaid : Prop := fnNamesUptoRow.holds Try.pinned (OpenSpec.upto fnNamesSpec)

/-- 'laws.FnExactPlainBodies', WHERE WHAT IT READS IS OF BULK AT MOST 1048576: true; the input reads as it did. -/
def fnExactPlainBodiesUptoRow : OpenClaim := { program := "ytbhcecfdgkgjmaa", sum := "cd803f558da81b3f9888697c8948d9ea95ca3e8173eae4581c78f6d42194f22d", func := "loop.example/g00073/laws.FnExactPlainBodies", spec := "fnExactPlainBodies", plainKeys := false, apart := false, narrowed := true }
def FnExactPlainBodiesUptoSaid : Prop := fnExactPlainBodiesUptoRow.holds Try.pinned (OpenSpec.upto fnExactPlainBodiesSpec)

end Rows
end Go.Proofs.Ytbhcecfdgkgjmaa
