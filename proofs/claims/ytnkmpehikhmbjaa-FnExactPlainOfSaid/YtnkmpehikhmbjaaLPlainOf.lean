/- For every input laws.FnExactPlainOf returns true, and its arguments read behind the call as they did before. Conditions: those of the given row, none of our own. -/
import Derived.Test.YtnkmpehikhmbjaaRows
import Derived.Test.YtnkmpehikhmbjaaSC
import Derived.Test.YtnkmpehikhmbjaaGPlainOf
import Derived.Test.YtnkmpehikhmbjaaPPlainOf
import Derived.ProofKit
import Derived.HandedShaped
namespace Go.Proofs.Ytnkmpehikhmbjaa.fnExactPlainOf
open Go.Al Go.ChangeShapes Go.WideShapes Go.ChangeAt Go.RowKit
set_option linter.unusedVariables false
theorem own : ownKnob Try.prog.godebug = none := by kernel_rfl
set_option maxRecDepth 100000
theorem o23 : Opens Try.prog 23 (Vec Int) := opens_slice Try.underlying23 (by kernel_rfl) (by decide) (by decide +kernel) (opens_int Try.underlying3)
theorem o34 : Opens Try.prog 34 (Vec (Vec Int)) := opens_slice Try.underlying34 (by kernel_rfl) (by decide) (by decide +kernel) o23
theorem o135 : Opens Try.prog 135 (ByteArray × Int × Int × (Vec Int)) := opens_struct Try.underlying135 (by kernel_rfl) (opensF_cons rfl (by kernel_rfl) (opens_string Try.underlying9) (opensF_cons rfl (by kernel_rfl) (opens_int Try.underlying3) (opensF_cons rfl (by kernel_rfl) (opens_int Try.underlying3) (opensF_one rfl (by kernel_rfl) o23))))
theorem o35 : Opens Try.prog 35 (Vec (ByteArray × Int × Int × (Vec Int))) := opens_slice Try.underlying35 (by kernel_rfl) (by decide) (by decide +kernel) o135
theorem o37 : Opens Try.prog 37 ((Vec (Vec Int)) × (Vec (ByteArray × Int × Int × (Vec Int)))) := opens_struct Try.underlying37 (by kernel_rfl) (opensF_cons rfl (by kernel_rfl) o34 (opensF_one rfl (by kernel_rfl) o35))
theorem laid : laidOutB Try.prog = true := by kernel_rfl
theorem lifted (os : Os) (started : os.Started) (H : Type) (enc : TypeId × Value → H) :
    ReturnsInHanded {} Try.checked os 8 .any (Rows.fnExactPlainOfSpec.pre6 enc Try.prog Try.f8 Rows.fnExactPlainOfRow.domain false) (Rows.fnExactPlainOfSpec.post enc Try.prog Try.f8 false true false false) := by
  refine returnsInHanded_of_change_shaped (C := Try.checked) own started (by kernel_rfl) Try.func8
    (ChangeSpec.witness6 (enc := enc) (C := Try.checked) false ⟨#[], #[.agg #[.slice none 0 0, .slice none 0 0]], []⟩ 8 (by kernel_rfl) (by kernel_rfl) (by kernel_rfl) (by kernel_rfl)) ?_
  intro W base args ds gs before hval0 hW hcnd hsz0 hsh _
  have hsz : (DataW.weightsEach Try.prog (Try.f8.params.toList ++ Rows.fnExactPlainOfSpec.plain.varTypes Try.prog) (ds ++ gs)).all (· ≤ reachBytes) = true := hsz0
  have hval : ∀ (j : Nat) t v, Try.f8.params[j]? = some t → args[j]? = some v → Value.okWide Try.prog W .any base t v := hval0
  have hW' := hW
  obtain ⟨p, q, hA0, hV, rfl, hfz, hnd⟩ := hW
  have hA : DataW.TrodAll enc Try.prog W 0 (fun _ => true) true Try.f8.params.toList args.toList ds p := hA0
  rw [Try.params8] at hA hval hsz
  have hA1 := hA
  obtain ⟨v0, vs0, d0, ds0, p0, q0, hargs, rfl, rfl, h0, r0⟩ := trodAll_cons hA
  obtain ⟨rfl, rfl, rfl⟩ := trodAll_nil r0
  obtain rfl : args = #[v0] := by cases args; simp_all
  obtain ⟨rfl, rfl⟩ := trodVars_none hV
  obtain ⟨a0, y0, b0⟩ := open_st Try.underlying37 o37 (hval 0 37 v0 rfl rfl) h0 (weights_of hsz (j := 0) (t := 37) rfl rfl)
  have hlt := DataW.TrodAll.lt hA1
  have hc : ACc Try.prog 8 (laws_FnExactPlainOf.encA (a0.1, a0.2)) [] true [] fun rv obs => (rv, obs) = (vb true, []) := laws_FnExactPlainOf.acc (a0.1, a0.2) true (laws_FnExactPlainOf_true a0.1 a0.2 b0)
  refine (law_calls hc (amb_ok hsh) (vals := #[v0]) rfl ?_).mono fun e W' ⟨he, bel⟩ => ?_
  · intro j x v hx hv
    match j, hx, hv with
    | 0, hx, hv => obtain rfl := Option.some.inj hx; obtain rfl := Option.some.inj hv; exact y0
  subst he
  exact ⟨_, rfl, _, _, _, [], _, [], hW', trodAll_mk1 (shut_bool Try.underlying4 _), trodAll_below (ts := [37]) bel laid (by intro t ht; simp only [List.mem_cons, List.not_mem_nil, or_false] at ht; subst ht; exact ⟨by kernel_rfl, of_decide_eq_true (by kernel_rfl)⟩) hlt hA1, rfl, bel.frame _, fun h => by cases h⟩
theorem over : Rows.fnExactPlainOfRow.holds Try.pinned (OpenSpec.ofChange Rows.fnExactPlainOfSpec) :=
  OpenClaim.holds_of_wide 8 Try.f8 rfl rfl rfl rfl rfl rfl rfl ⟨rfl, rfl, rfl, rfl, rfl⟩ rfl rfl rfl rfl rfl (by kernel_rfl) Try.func8 (by kernel_rfl)
    (of_decide_eq_true (by kernel_rfl)) (by unfold Func.isWrapper; first | (rw [if_pos (by decide +kernel)]; kernel_rfl) | (rw [if_neg (by decide +kernel)]; exact ⟨rfl, rfl⟩))
    (fun os started H enc _ => lifted os started H enc)
theorem proved : Rows.FnExactPlainOfSaid := over
end Go.Proofs.Ytnkmpehikhmbjaa.fnExactPlainOf
namespace Go.Proofs.Ytnkmpehikhmbjaa
/-- The row, under a short name, for the claim. -/
theorem fnExactPlainOf_holds : Rows.FnExactPlainOfSaid := fnExactPlainOf.proved
#print axioms fnExactPlainOf_holds
end Go.Proofs.Ytnkmpehikhmbjaa

