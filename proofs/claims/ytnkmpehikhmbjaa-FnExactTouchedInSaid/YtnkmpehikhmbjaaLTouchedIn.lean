/- For every input laws.FnExactTouchedIn returns true, and its arguments read behind the call as they did before. Conditions: those of the given row, none of our own. -/
import Derived.Test.YtnkmpehikhmbjaaRows
import Derived.Test.YtnkmpehikhmbjaaSC
import Derived.Test.YtnkmpehikhmbjaaGTouchedIn
import Derived.Test.YtnkmpehikhmbjaaPTouchedIn
import Derived.ProofKit
import Derived.HandedShaped
namespace Go.Proofs.Ytnkmpehikhmbjaa.fnExactTouchedIn
open Go.Al Go.ChangeShapes Go.WideShapes Go.ChangeAt Go.RowKit
set_option linter.unusedVariables false
theorem own : ownKnob Try.prog.godebug = none := by kernel_rfl
set_option maxRecDepth 100000
theorem o23 : Opens Try.prog 23 (Vec Int) := opens_slice Try.underlying23 (by kernel_rfl) (by decide) (by decide +kernel) (opens_int Try.underlying3)
theorem o160 : Opens Try.prog 160 (ByteArray × Int × Int) := opens_struct Try.underlying160 (by kernel_rfl) (opensF_cons rfl (by kernel_rfl) (opens_string Try.underlying9) (opensF_cons rfl (by kernel_rfl) (opens_int Try.underlying3) (opensF_one rfl (by kernel_rfl) (opens_int Try.underlying3))))
theorem o68 : Opens Try.prog 68 (Vec (ByteArray × Int × Int)) := opens_slice Try.underlying68 (by kernel_rfl) (by decide) (by decide +kernel) o160
theorem o70 : Opens Try.prog 70 ((Vec Int) × ByteArray × (Vec (ByteArray × Int × Int))) := opens_struct Try.underlying70 (by kernel_rfl) (opensF_cons rfl (by kernel_rfl) o23 (opensF_cons rfl (by kernel_rfl) (opens_string Try.underlying9) (opensF_one rfl (by kernel_rfl) o68)))
theorem o22 : Opens Try.prog 22 (Vec ((Vec Int) × ByteArray × (Vec (ByteArray × Int × Int)))) := opens_slice Try.underlying22 (by kernel_rfl) (by decide) (by decide +kernel) o70
theorem laid : laidOutB Try.prog = true := by kernel_rfl
theorem lifted (os : Os) (started : os.Started) (H : Type) (enc : TypeId × Value → H) :
    ReturnsInHanded {} Try.checked os 3 .any (Rows.fnExactTouchedInSpec.pre6 enc Try.prog Try.f3 Rows.fnExactTouchedInRow.domain false) (Rows.fnExactTouchedInSpec.post enc Try.prog Try.f3 false true false false) := by
  refine returnsInHanded_of_change_shaped (C := Try.checked) own started (by kernel_rfl) Try.func3
    (ChangeSpec.witness6 (enc := enc) (C := Try.checked) false ⟨#[], #[.slice none 0 0, .slice none 0 0, .int .i64 0], []⟩ 8 (by kernel_rfl) (by kernel_rfl) (by kernel_rfl) (by kernel_rfl)) ?_
  intro W base args ds gs before hval0 hW hcnd hsz0 hsh _
  have hsz : (DataW.weightsEach Try.prog (Try.f3.params.toList ++ Rows.fnExactTouchedInSpec.plain.varTypes Try.prog) (ds ++ gs)).all (· ≤ reachBytes) = true := hsz0
  have hval : ∀ (j : Nat) t v, Try.f3.params[j]? = some t → args[j]? = some v → Value.okWide Try.prog W .any base t v := hval0
  have hW' := hW
  obtain ⟨p, q, hA0, hV, rfl, hfz, hnd⟩ := hW
  have hA : DataW.TrodAll enc Try.prog W 0 (fun _ => true) true Try.f3.params.toList args.toList ds p := hA0
  rw [Try.params3] at hA hval hsz
  have hA1 := hA
  obtain ⟨v0, vs0, d0, ds0, p0, q0, hargs, rfl, rfl, h0, r0⟩ := trodAll_cons hA
  obtain ⟨v1, vs1, d1, ds1, p1, q1, rfl, rfl, rfl, h1, r1⟩ := trodAll_cons r0
  obtain ⟨v2, vs2, d2, ds2, p2, q2, rfl, rfl, rfl, h2, r2⟩ := trodAll_cons r1
  obtain ⟨rfl, rfl, rfl⟩ := trodAll_nil r2
  obtain rfl : args = #[v0, v1, v2] := by cases args; simp_all
  obtain ⟨rfl, rfl⟩ := trodVars_none hV
  obtain ⟨a0, y0, b0⟩ := open_sl Try.underlying22 o22 (hval 0 22 v0 rfl rfl) h0 (weights_of hsz (j := 0) (t := 22) rfl rfl)
  obtain ⟨a1, y1, b1⟩ := open_sl Try.underlying23 o23 (hval 1 23 v1 rfl rfl) h1 (weights_of hsz (j := 1) (t := 23) rfl rfl)
  obtain ⟨a2, y2, b2⟩ := open_i Try.underlying3 (hval 2 3 v2 rfl rfl) h2 (weights_of hsz (j := 2) (t := 3) rfl rfl)
  have hlt := DataW.TrodAll.lt hA1
  have hc : ACc Try.prog 3 (laws_FnExactTouchedIn.encA (a0, a1, a2)) [] true [] fun rv obs => (rv, obs) = (vb true, []) := laws_FnExactTouchedIn.acc (a0, a1, a2) true (laws_FnExactTouchedIn_true a0 a1 a2 b0 b1 b2)
  refine (law_calls hc (amb_ok hsh) (vals := #[v0, v1, v2]) rfl ?_).mono fun e W' ⟨he, bel⟩ => ?_
  · intro j x v hx hv
    match j, hx, hv with
    | 0, hx, hv => obtain rfl := Option.some.inj hx; obtain rfl := Option.some.inj hv; exact y0
    | 1, hx, hv => obtain rfl := Option.some.inj hx; obtain rfl := Option.some.inj hv; exact y1
    | 2, hx, hv => obtain rfl := Option.some.inj hx; obtain rfl := Option.some.inj hv; exact y2
  subst he
  exact ⟨_, rfl, _, _, _, [], _, [], hW', trodAll_mk1 (shut_bool Try.underlying4 _), trodAll_below (ts := [22, 23, 3]) bel laid (by intro t ht; simp only [List.mem_cons, List.not_mem_nil, or_false] at ht; rcases ht with rfl | rfl | rfl <;> exact ⟨by kernel_rfl, of_decide_eq_true (by kernel_rfl)⟩) hlt hA1, rfl, bel.frame _, fun h => by cases h⟩
theorem over : Rows.fnExactTouchedInRow.holds Try.pinned (OpenSpec.ofChange Rows.fnExactTouchedInSpec) :=
  OpenClaim.holds_of_wide 3 Try.f3 rfl rfl rfl rfl rfl rfl rfl ⟨rfl, rfl, rfl, rfl, rfl⟩ rfl rfl rfl rfl rfl (by kernel_rfl) Try.func3 (by kernel_rfl)
    (of_decide_eq_true (by kernel_rfl)) (by unfold Func.isWrapper; first | (rw [if_pos (by decide +kernel)]; kernel_rfl) | (rw [if_neg (by decide +kernel)]; exact ⟨rfl, rfl⟩))
    (fun os started H enc _ => lifted os started H enc)
theorem proved : Rows.FnExactTouchedInSaid := over
end Go.Proofs.Ytnkmpehikhmbjaa.fnExactTouchedIn
namespace Go.Proofs.Ytnkmpehikhmbjaa
/-- The row, under a short name, for the claim. -/
theorem fnExactTouchedIn_holds : Rows.FnExactTouchedInSaid := fnExactTouchedIn.proved
#print axioms fnExactTouchedIn_holds
end Go.Proofs.Ytnkmpehikhmbjaa

