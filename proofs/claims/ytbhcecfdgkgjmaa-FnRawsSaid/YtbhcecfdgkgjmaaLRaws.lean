/- For every input laws.FnRaws returns true, and its arguments read behind the call as they did before. Conditions: those of the given row, none of our own. -/
import Derived.Test.YtbhcecfdgkgjmaaRows
import Derived.Test.YtbhcecfdgkgjmaaSC
import Derived.Test.YtbhcecfdgkgjmaaGFnRaws
import Derived.Test.YtbhcecfdgkgjmaaPRaws
import Derived.ProofKit
import Derived.HandedShaped
namespace Go.Proofs.Ytbhcecfdgkgjmaa.fnRaws
open Go.Al Go.ChangeShapes Go.WideShapes Go.ChangeAt Go.RowKit
set_option linter.unusedVariables false
theorem own : ownKnob Try.prog.godebug = none := by kernel_rfl
set_option maxRecDepth 100000
theorem o31 : Opens Try.prog 31 (Vec (IK .u8)) := opens_slice Try.underlying31 (by kernel_rfl) (by decide) (by decide +kernel) (opens_ik Try.underlying5)
theorem laid : laidOutB Try.prog = true := by kernel_rfl
theorem lifted (os : Os) (started : os.Started) (H : Type) (enc : TypeId × Value → H) :
    ReturnsInHanded {} Try.checked os 5 .any (Rows.fnRawsSpec.pre6 enc Try.prog Try.f5 Rows.fnRawsRow.domain false) (Rows.fnRawsSpec.post enc Try.prog Try.f5 false true false false) := by
  refine returnsInHanded_of_change_shaped (C := Try.checked) own started (by kernel_rfl) Try.func5
    (ChangeSpec.witness6 (enc := enc) (C := Try.checked) false ⟨#[], #[.slice none 0 0], []⟩ 8 (by kernel_rfl) (by kernel_rfl) (by kernel_rfl) (by kernel_rfl)) ?_
  intro W base args ds gs before hval0 hW hcnd hsz0 hsh _
  have hsz : (DataW.weightsEach Try.prog (Try.f5.params.toList ++ Rows.fnRawsSpec.plain.varTypes Try.prog) (ds ++ gs)).all (· ≤ reachBytes) = true := hsz0
  have hval : ∀ (j : Nat) t v, Try.f5.params[j]? = some t → args[j]? = some v → Value.okWide Try.prog W .any base t v := hval0
  have hW' := hW
  obtain ⟨p, q, hA0, hV, rfl, hfz, hnd⟩ := hW
  have hA : DataW.TrodAll enc Try.prog W 0 (fun _ => true) true Try.f5.params.toList args.toList ds p := hA0
  rw [Try.params5] at hA hval hsz
  have hA1 := hA
  obtain ⟨v0, vs0, d0, ds0, p0, q0, hargs, rfl, rfl, h0, r0⟩ := trodAll_cons hA
  obtain ⟨rfl, rfl, rfl⟩ := trodAll_nil r0
  obtain rfl : args = #[v0] := by cases args; simp_all
  obtain ⟨rfl, rfl⟩ := trodVars_none hV
  obtain ⟨a0, y0, b0⟩ := open_sl Try.underlying31 o31 (hval 0 31 v0 rfl rfl) h0 (weights_of hsz (j := 0) (t := 31) rfl rfl)
  have hlt := DataW.TrodAll.lt hA1
  have hc : ACc Try.prog 5 (laws_FnRaws.encA a0) [] true [] fun rv obs => (rv, obs) = (vb true, []) := laws_FnRaws.acc a0 true (laws_FnRaws_true a0 b0)
  refine (law_calls hc (amb_ok hsh) (vals := #[v0]) rfl ?_).mono fun e W' ⟨he, bel⟩ => ?_
  · intro j x v hx hv
    match j, hx, hv with
    | 0, hx, hv => obtain rfl := Option.some.inj hx; obtain rfl := Option.some.inj hv; exact y0
  subst he
  exact ⟨_, rfl, _, _, _, [], _, [], hW', trodAll_mk1 (shut_bool Try.underlying4 _), trodAll_below (ts := [31]) bel laid (by intro t ht; simp only [List.mem_cons, List.not_mem_nil, or_false] at ht; subst ht; exact ⟨by kernel_rfl, of_decide_eq_true (by kernel_rfl)⟩) hlt hA1, rfl, bel.frame _, fun h => by cases h⟩
theorem over : Rows.fnRawsRow.holds Try.pinned (OpenSpec.ofChange Rows.fnRawsSpec) :=
  OpenClaim.holds_of_wide 5 Try.f5 rfl rfl rfl rfl rfl rfl rfl ⟨rfl, rfl, rfl, rfl, rfl⟩ rfl rfl rfl rfl rfl (by kernel_rfl) Try.func5 (by kernel_rfl)
    (of_decide_eq_true (by kernel_rfl)) (by unfold Func.isWrapper; first | (rw [if_pos (by decide +kernel)]; kernel_rfl) | (rw [if_neg (by decide +kernel)]; exact ⟨rfl, rfl⟩))
    (fun os started H enc _ => lifted os started H enc)
theorem proved : Rows.FnRawsSaid := over
end Go.Proofs.Ytbhcecfdgkgjmaa.fnRaws
namespace Go.Proofs.Ytbhcecfdgkgjmaa
/-- The row, under a short name, for the claim. -/
theorem fnRaws_holds : Rows.FnRawsSaid := fnRaws.proved
#print axioms fnRaws_holds
end Go.Proofs.Ytbhcecfdgkgjmaa

