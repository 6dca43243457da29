/- For every input laws.FnExactCommitsOk returns true, and its arguments read behind the call as they did before. Conditions: those of the given row, none of our own. -/
import Derived.Test.YtdiclekkkaaahaaRows
import Derived.Test.YtdiclekkkaaahaaSC
import Derived.Test.YtdiclekkkaaahaaGCommitsOk
import Derived.Test.YtdiclekkkaaahaaPCommitsOk
import Derived.ProofKit
import Derived.HandedShaped
namespace Go.Proofs.Ytdiclekkkaaahaa.fnExactCommitsOk
open Go.Al Go.ChangeShapes Go.WideShapes Go.ChangeAt Go.RowKit
set_option linter.unusedVariables false
theorem own : ownKnob Try.prog.godebug = none := by kernel_rfl
set_option maxRecDepth 100000
theorem o23 : Opens Try.prog 23 (Vec Int) := opens_slice Try.underlying23 (by kernel_rfl) (by decide) (by decide +kernel) (opens_int Try.underlying3)
theorem o145 : Opens Try.prog 145 (ByteArray × Int × Int) := opens_struct Try.underlying145 (by kernel_rfl) (opensF_cons rfl (by kernel_rfl) (opens_string Try.underlying9) (opensF_cons rfl (by kernel_rfl) (opens_int Try.underlying3) (opensF_one rfl (by kernel_rfl) (opens_int Try.underlying3))))
theorem o57 : Opens Try.prog 57 (Vec (ByteArray × Int × Int)) := opens_slice Try.underlying57 (by kernel_rfl) (by decide) (by decide +kernel) o145
theorem o59 : Opens Try.prog 59 ((Vec Int) × ByteArray × (Vec (ByteArray × Int × Int))) := opens_struct Try.underlying59 (by kernel_rfl) (opensF_cons rfl (by kernel_rfl) o23 (opensF_cons rfl (by kernel_rfl) (opens_string Try.underlying9) (opensF_one rfl (by kernel_rfl) o57)))
theorem o22 : Opens Try.prog 22 (Vec ((Vec Int) × ByteArray × (Vec (ByteArray × Int × Int)))) := opens_slice Try.underlying22 (by kernel_rfl) (by decide) (by decide +kernel) o59
theorem laid : laidOutB Try.prog = true := by kernel_rfl
theorem lifted (os : Os) (started : os.Started) (H : Type) (enc : TypeId × Value → H) :
    ReturnsInHanded {} Try.checked os 3 .any (Rows.fnExactCommitsOkSpec.pre6 enc Try.prog Try.f3 Rows.fnExactCommitsOkRow.domain false) (Rows.fnExactCommitsOkSpec.post enc Try.prog Try.f3 false true false false) := by
  refine returnsInHanded_of_change_shaped (C := Try.checked) own started (by kernel_rfl) Try.func3
    (ChangeSpec.witness6 (enc := enc) (C := Try.checked) false ⟨#[], #[.slice none 0 0, .slice none 0 0], []⟩ 8 (by kernel_rfl) (by kernel_rfl) (by kernel_rfl) (by kernel_rfl)) ?_
  intro W base args ds gs before hval0 hW hcnd hsz0 hsh _
  have hsz : (DataW.weightsEach Try.prog (Try.f3.params.toList ++ Rows.fnExactCommitsOkSpec.plain.varTypes Try.prog) (ds ++ gs)).all (· ≤ reachBytes) = true := hsz0
  have hval : ∀ (j : Nat) t v, Try.f3.params[j]? = some t → args[j]? = some v → Value.okWide Try.prog W .any base t v := hval0
  have hW' := hW
  obtain ⟨p, q, hA0, hV, rfl, hfz, hnd⟩ := hW
  have hA : DataW.TrodAll enc Try.prog W 0 (fun _ => true) true Try.f3.params.toList args.toList ds p := hA0
  rw [Try.params3] at hA hval hsz
  have hA1 := hA
  obtain ⟨v0, vs0, d0, ds0, p0, q0, hargs, rfl, rfl, h0, r0⟩ := trodAll_cons hA
  obtain ⟨v1, vs1, d1, ds1, p1, q1, rfl, rfl, rfl, h1, r1⟩ := trodAll_cons r0
  obtain ⟨rfl, rfl, rfl⟩ := trodAll_nil r1
  obtain rfl : args = #[v0, v1] := by cases args; simp_all
  obtain ⟨rfl, rfl⟩ := trodVars_none hV
  obtain ⟨a0, y0, b0⟩ := open_sl Try.underlying22 o22 (hval 0 22 v0 rfl rfl) h0 (weights_of hsz (j := 0) (t := 22) rfl rfl)
  obtain ⟨a1, y1, b1⟩ := open_sl Try.underlying23 o23 (hval 1 23 v1 rfl rfl) h1 (weights_of hsz (j := 1) (t := 23) rfl rfl)
  have hlt := DataW.TrodAll.lt hA1
  have hc : ACc Try.prog 3 (laws_FnExactCommitsOk.encA (a0, a1)) [] true [] fun rv obs => (rv, obs) = (vb true, []) := laws_FnExactCommitsOk.acc (a0, a1) true (laws_FnExactCommitsOk_true a0 a1 b0 b1)
  refine (law_calls hc (amb_ok hsh) (vals := #[v0, v1]) rfl ?_).mono fun e W' ⟨he, bel⟩ => ?_
  · intro j x v hx hv
    match j, hx, hv with
    | 0, hx, hv => obtain rfl := Option.some.inj hx; obtain rfl := Option.some.inj hv; exact y0
    | 1, hx, hv => obtain rfl := Option.some.inj hx; obtain rfl := Option.some.inj hv; exact y1
  subst he
  exact ⟨_, rfl, _, _, _, [], _, [], hW', trodAll_mk1 (shut_bool Try.underlying4 _), trodAll_below (ts := [22, 23]) bel laid (by intro t ht; simp only [List.mem_cons, List.not_mem_nil, or_false] at ht; rcases ht with rfl | rfl <;> exact ⟨by kernel_rfl, of_decide_eq_true (by kernel_rfl)⟩) hlt hA1, rfl, bel.frame _, fun h => by cases h⟩
theorem over : Rows.fnExactCommitsOkRow.holds Try.pinned (OpenSpec.ofChange Rows.fnExactCommitsOkSpec) :=
  OpenClaim.holds_of_wide 3 Try.f3 rfl rfl rfl rfl rfl rfl rfl ⟨rfl, rfl, rfl, rfl, rfl⟩ rfl rfl rfl rfl rfl (by kernel_rfl) Try.func3 (by kernel_rfl)
    (of_decide_eq_true (by kernel_rfl)) (by unfold Func.isWrapper; first | (rw [if_pos (by decide +kernel)]; kernel_rfl) | (rw [if_neg (by decide +kernel)]; exact ⟨rfl, rfl⟩))
    (fun os started H enc _ => lifted os started H enc)
theorem proved : Rows.FnExactCommitsOkSaid := over
end Go.Proofs.Ytdiclekkkaaahaa.fnExactCommitsOk
namespace Go.Proofs.Ytdiclekkkaaahaa
/-- The row, under a short name, for the claim. -/
theorem fnExactCommitsOk_holds : Rows.FnExactCommitsOkSaid := fnExactCommitsOk.proved
#print axioms fnExactCommitsOk_holds
end Go.Proofs.Ytdiclekkkaaahaa

