/- For every input laws.FnExactStoreOk returns true, and its arguments read behind the call as they did before. Conditions: those of the given row, none of our own. -/
import Derived.Test.YtdiclekkkaaahaaRows
import Derived.Test.YtdiclekkkaaahaaSC
import Derived.Test.YtdiclekkkaaahaaGStoreOk
import Derived.Test.YtdiclekkkaaahaaPStoreOk
import Derived.ProofKit
import Derived.HandedShaped
namespace Go.Proofs.Ytdiclekkkaaahaa.fnExactStoreOk
open Go.Al Go.ChangeShapes Go.WideShapes Go.ChangeAt Go.RowKit
set_option linter.unusedVariables false
theorem own : ownKnob Try.prog.godebug = none := by kernel_rfl
set_option maxRecDepth 100000
theorem o23 : Opens Try.prog 23 (Vec Int) := opens_slice Try.underlying23 (by kernel_rfl) (by decide) (by decide +kernel) (opens_int Try.underlying3)
theorem o145 : Opens Try.prog 145 (ByteArray × Int × Int) := opens_struct Try.underlying145 (by kernel_rfl) (opensF_cons rfl (by kernel_rfl) (opens_string Try.underlying9) (opensF_cons rfl (by kernel_rfl) (opens_int Try.underlying3) (opensF_one rfl (by kernel_rfl) (opens_int Try.underlying3))))
theorem o57 : Opens Try.prog 57 (Vec (ByteArray × Int × Int)) := opens_slice Try.underlying57 (by kernel_rfl) (by decide) (by decide +kernel) o145
theorem o59 : Opens Try.prog 59 ((Vec Int) × ByteArray × (Vec (ByteArray × Int × Int))) := opens_struct Try.underlying59 (by kernel_rfl) (opensF_cons rfl (by kernel_rfl) o23 (opensF_cons rfl (by kernel_rfl) (opens_string Try.underlying9) (opensF_one rfl (by kernel_rfl) o57)))
theorem o22 : Opens Try.prog 22 (Vec ((Vec Int) × ByteArray × (Vec (ByteArray × Int × Int)))) := opens_slice Try.underlying22 (by kernel_rfl) (by decide) (by decide +kernel) o59
theorem o43 : Opens Try.prog 43 (Vec (Vec Int)) := opens_slice Try.underlying43 (by kernel_rfl) (by decide) (by decide +kernel) o23
theorem o176 : Opens Try.prog 176 (ByteArray × Int × Int × (Vec Int)) := opens_struct Try.underlying176 (by kernel_rfl) (opensF_cons rfl (by kernel_rfl) (opens_string Try.underlying9) (opensF_cons rfl (by kernel_rfl) (opens_int Try.underlying3) (opensF_cons rfl (by kernel_rfl) (opens_int Try.underlying3) (opensF_one rfl (by kernel_rfl) o23))))
theorem o103 : Opens Try.prog 103 (Vec (ByteArray × Int × Int × (Vec Int))) := opens_slice Try.underlying103 (by kernel_rfl) (by decide) (by decide +kernel) o176
theorem o105 : Opens Try.prog 105 ((Vec (Vec Int)) × (Vec (ByteArray × Int × Int × (Vec Int)))) := opens_struct Try.underlying105 (by kernel_rfl) (opensF_cons rfl (by kernel_rfl) o43 (opensF_one rfl (by kernel_rfl) o103))
theorem o32 : Opens Try.prog 32 (Vec ((Vec (Vec Int)) × (Vec (ByteArray × Int × Int × (Vec Int))))) := opens_slice Try.underlying32 (by kernel_rfl) (by decide) (by decide +kernel) o105
theorem o34 : Opens Try.prog 34 ((Vec ((Vec Int) × ByteArray × (Vec (ByteArray × Int × Int)))) × (Vec ((Vec (Vec Int)) × (Vec (ByteArray × Int × Int × (Vec Int)))))) := opens_struct Try.underlying34 (by kernel_rfl) (opensF_cons rfl (by kernel_rfl) o22 (opensF_one rfl (by kernel_rfl) o32))
theorem laid : laidOutB Try.prog = true := by kernel_rfl
theorem lifted (os : Os) (started : os.Started) (H : Type) (enc : TypeId × Value → H) :
    ReturnsInHanded {} Try.checked os 4 .any (Rows.fnExactStoreOkSpec.pre6 enc Try.prog Try.f4 Rows.fnExactStoreOkRow.domain false) (Rows.fnExactStoreOkSpec.post enc Try.prog Try.f4 false true false false) := by
  refine returnsInHanded_of_change_shaped (C := Try.checked) own started (by kernel_rfl) Try.func4
    (ChangeSpec.witness6 (enc := enc) (C := Try.checked) false ⟨#[], #[.agg #[.slice none 0 0, .slice none 0 0]], []⟩ 8 (by kernel_rfl) (by kernel_rfl) (by kernel_rfl) (by kernel_rfl)) ?_
  intro W base args ds gs before hval0 hW hcnd hsz0 hsh _
  have hsz : (DataW.weightsEach Try.prog (Try.f4.params.toList ++ Rows.fnExactStoreOkSpec.plain.varTypes Try.prog) (ds ++ gs)).all (· ≤ reachBytes) = true := hsz0
  have hval : ∀ (j : Nat) t v, Try.f4.params[j]? = some t → args[j]? = some v → Value.okWide Try.prog W .any base t v := hval0
  have hW' := hW
  obtain ⟨p, q, hA0, hV, rfl, hfz, hnd⟩ := hW
  have hA : DataW.TrodAll enc Try.prog W 0 (fun _ => true) true Try.f4.params.toList args.toList ds p := hA0
  rw [Try.params4] at hA hval hsz
  have hA1 := hA
  obtain ⟨v0, vs0, d0, ds0, p0, q0, hargs, rfl, rfl, h0, r0⟩ := trodAll_cons hA
  obtain ⟨rfl, rfl, rfl⟩ := trodAll_nil r0
  obtain rfl : args = #[v0] := by cases args; simp_all
  obtain ⟨rfl, rfl⟩ := trodVars_none hV
  obtain ⟨a0, y0, b0⟩ := open_st Try.underlying34 o34 (hval 0 34 v0 rfl rfl) h0 (weights_of hsz (j := 0) (t := 34) rfl rfl)
  have hlt := DataW.TrodAll.lt hA1
  have hc : ACc Try.prog 4 (laws_FnExactStoreOk.encA (a0.1, a0.2)) [] true [] fun rv obs => (rv, obs) = (vb true, []) := laws_FnExactStoreOk.acc (a0.1, a0.2) true (laws_FnExactStoreOk_true a0.1 a0.2 b0)
  refine (law_calls hc (amb_ok hsh) (vals := #[v0]) rfl ?_).mono fun e W' ⟨he, bel⟩ => ?_
  · intro j x v hx hv
    match j, hx, hv with
    | 0, hx, hv => obtain rfl := Option.some.inj hx; obtain rfl := Option.some.inj hv; exact y0
  subst he
  exact ⟨_, rfl, _, _, _, [], _, [], hW', trodAll_mk1 (shut_bool Try.underlying4 _), trodAll_below (ts := [34]) bel laid (by intro t ht; simp only [List.mem_cons, List.not_mem_nil, or_false] at ht; subst ht; exact ⟨by kernel_rfl, of_decide_eq_true (by kernel_rfl)⟩) hlt hA1, rfl, bel.frame _, fun h => by cases h⟩
theorem over : Rows.fnExactStoreOkRow.holds Try.pinned (OpenSpec.ofChange Rows.fnExactStoreOkSpec) :=
  OpenClaim.holds_of_wide 4 Try.f4 rfl rfl rfl rfl rfl rfl rfl ⟨rfl, rfl, rfl, rfl, rfl⟩ rfl rfl rfl rfl rfl (by kernel_rfl) Try.func4 (by kernel_rfl)
    (of_decide_eq_true (by kernel_rfl)) (by unfold Func.isWrapper; first | (rw [if_pos (by decide +kernel)]; kernel_rfl) | (rw [if_neg (by decide +kernel)]; exact ⟨rfl, rfl⟩))
    (fun os started H enc _ => lifted os started H enc)
theorem proved : Rows.FnExactStoreOkSaid := over
end Go.Proofs.Ytdiclekkkaaahaa.fnExactStoreOk
namespace Go.Proofs.Ytdiclekkkaaahaa
/-- The row, under a short name, for the claim. -/
theorem fnExactStoreOk_holds : Rows.FnExactStoreOkSaid := fnExactStoreOk.proved
#print axioms fnExactStoreOk_holds
end Go.Proofs.Ytdiclekkkaaahaa

