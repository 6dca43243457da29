/- For every input laws.FnExactMergeAt returns true, and its arguments read behind the call as they did before. Conditions: those of the given row, none of our own. -/
import Derived.Test.YtahffnkphppgoaaGreatRows
import Derived.Test.YtahffnkphppgoaaGreatSC
import Derived.Test.YtahffnkphppgoaaGreatGMergeAt
import Derived.Test.YtahffnkphppgoaaGreatPMergeAt
import Derived.ProofKit
import Derived.HandedShaped
namespace Go.Proofs.YtahffnkphppgoaaGreat.fnExactMergeAt
open Go.Al Go.ChangeShapes Go.WideShapes Go.ChangeAt Go.RowKit
set_option linter.unusedVariables false
theorem own : ownKnob Tryz.prog.godebug = none := by kernel_rfl
set_option maxRecDepth 100000
theorem o47 : Opens Tryz.prog 47 (Vec Int) := opens_slice Tryz.underlying47 (by kernel_rfl) (by decide) (by decide +kernel) (opens_int Tryz.underlying3)
theorem o229 : Opens Tryz.prog 229 (ByteArray × Int × Int) := opens_struct Tryz.underlying229 (by kernel_rfl) (opensF_cons rfl (by kernel_rfl) (opens_string Tryz.underlying9) (opensF_cons rfl (by kernel_rfl) (opens_int Tryz.underlying3) (opensF_one rfl (by kernel_rfl) (opens_int Tryz.underlying3))))
theorem o111 : Opens Tryz.prog 111 (Vec (ByteArray × Int × Int)) := opens_slice Tryz.underlying111 (by kernel_rfl) (by decide) (by decide +kernel) o229
theorem o113 : Opens Tryz.prog 113 ((Vec Int) × ByteArray × (Vec (ByteArray × Int × Int))) := opens_struct Tryz.underlying113 (by kernel_rfl) (opensF_cons rfl (by kernel_rfl) o47 (opensF_cons rfl (by kernel_rfl) (opens_string Tryz.underlying9) (opensF_one rfl (by kernel_rfl) o111)))
theorem o22 : Opens Tryz.prog 22 (Vec ((Vec Int) × ByteArray × (Vec (ByteArray × Int × Int)))) := opens_slice Tryz.underlying22 (by kernel_rfl) (by decide) (by decide +kernel) o113
theorem o64 : Opens Tryz.prog 64 (Vec (Vec Int)) := opens_slice Tryz.underlying64 (by kernel_rfl) (by decide) (by decide +kernel) o47
theorem o245 : Opens Tryz.prog 245 (ByteArray × Int × Int × (Vec Int)) := opens_struct Tryz.underlying245 (by kernel_rfl) (opensF_cons rfl (by kernel_rfl) (opens_string Tryz.underlying9) (opensF_cons rfl (by kernel_rfl) (opens_int Tryz.underlying3) (opensF_cons rfl (by kernel_rfl) (opens_int Tryz.underlying3) (opensF_one rfl (by kernel_rfl) o47))))
theorem o141 : Opens Tryz.prog 141 (Vec (ByteArray × Int × Int × (Vec Int))) := opens_slice Tryz.underlying141 (by kernel_rfl) (by decide) (by decide +kernel) o245
theorem o143 : Opens Tryz.prog 143 ((Vec (Vec Int)) × (Vec (ByteArray × Int × Int × (Vec Int)))) := opens_struct Tryz.underlying143 (by kernel_rfl) (opensF_cons rfl (by kernel_rfl) o64 (opensF_one rfl (by kernel_rfl) o141))
theorem o23 : Opens Tryz.prog 23 (Vec ((Vec (Vec Int)) × (Vec (ByteArray × Int × Int × (Vec Int))))) := opens_slice Tryz.underlying23 (by kernel_rfl) (by decide) (by decide +kernel) o143
theorem o25 : Opens Tryz.prog 25 ((Vec ((Vec Int) × ByteArray × (Vec (ByteArray × Int × Int)))) × (Vec ((Vec (Vec Int)) × (Vec (ByteArray × Int × Int × (Vec Int)))))) := opens_struct Tryz.underlying25 (by kernel_rfl) (opensF_cons rfl (by kernel_rfl) o22 (opensF_one rfl (by kernel_rfl) o23))
theorem laid : laidOutB Tryz.prog = true := by kernel_rfl
theorem lifted (os : Os) (started : os.Started) (H : Type) (enc : TypeId × Value → H) :
    ReturnsInHanded {} Tryz.checked os 4 .any (Rows.fnExactMergeAtSpec.pre6 enc Tryz.prog Tryz.f4 Rows.fnExactMergeAtRow.domain false) (Rows.fnExactMergeAtSpec.post enc Tryz.prog Tryz.f4 false true false false) := by
  refine returnsInHanded_of_change_shaped (C := Tryz.checked) own started (by kernel_rfl) Tryz.func4
    (ChangeSpec.witness6 (enc := enc) (C := Tryz.checked) false ⟨#[], #[.agg #[.slice none 0 0, .slice none 0 0], .int .i64 0, .int .i64 0, .string ByteArray.empty], []⟩ 8 (by kernel_rfl) (by kernel_rfl) (by kernel_rfl) (by kernel_rfl)) ?_
  intro W base args ds gs before hval0 hW hcnd hsz0 hsh _
  have hsz : (DataW.weightsEach Tryz.prog (Tryz.f4.params.toList ++ Rows.fnExactMergeAtSpec.plain.varTypes Tryz.prog) (ds ++ gs)).all (· ≤ reachBytes) = true := hsz0
  have hval : ∀ (j : Nat) t v, Tryz.f4.params[j]? = some t → args[j]? = some v → Value.okWide Tryz.prog W .any base t v := hval0
  have hW' := hW
  obtain ⟨p, q, hA0, hV, rfl, hfz, hnd⟩ := hW
  have hA : DataW.TrodAll enc Tryz.prog W 0 (fun _ => true) true Tryz.f4.params.toList args.toList ds p := hA0
  rw [Tryz.params4] at hA hval hsz
  have hA1 := hA
  obtain ⟨v0, vs0, d0, ds0, p0, q0, hargs, rfl, rfl, h0, r0⟩ := trodAll_cons hA
  obtain ⟨v1, vs1, d1, ds1, p1, q1, rfl, rfl, rfl, h1, r1⟩ := trodAll_cons r0
  obtain ⟨v2, vs2, d2, ds2, p2, q2, rfl, rfl, rfl, h2, r2⟩ := trodAll_cons r1
  obtain ⟨v3, vs3, d3, ds3, p3, q3, rfl, rfl, rfl, h3, r3⟩ := trodAll_cons r2
  obtain ⟨rfl, rfl, rfl⟩ := trodAll_nil r3
  obtain rfl : args = #[v0, v1, v2, v3] := by cases args; simp_all
  obtain ⟨rfl, rfl⟩ := trodVars_none hV
  obtain ⟨a0, y0, b0⟩ := open_st Tryz.underlying25 o25 (hval 0 25 v0 rfl rfl) h0 (weights_of hsz (j := 0) (t := 25) rfl rfl)
  obtain ⟨a1, y1, b1⟩ := open_i Tryz.underlying3 (hval 1 3 v1 rfl rfl) h1 (weights_of hsz (j := 1) (t := 3) rfl rfl)
  obtain ⟨a2, y2, b2⟩ := open_i Tryz.underlying3 (hval 2 3 v2 rfl rfl) h2 (weights_of hsz (j := 2) (t := 3) rfl rfl)
  obtain ⟨a3, y3, b3⟩ := open_s Tryz.underlying9 (hval 3 9 v3 rfl rfl) h3 (weights_of hsz (j := 3) (t := 9) rfl rfl)
  have hlt := DataW.TrodAll.lt hA1
  have hc : ACc Tryz.prog 4 (laws_FnExactMergeAt.encA (a0.1, a0.2, a1, a2, a3)) [] true [] fun rv obs => (rv, obs) = (vb true, []) := laws_FnExactMergeAt.acc (a0.1, a0.2, a1, a2, a3) true (laws_FnExactMergeAt_true a0.1 a0.2 a1 a2 a3 b0 b1 b2 b3)
  refine (law_calls hc (amb_ok hsh) (vals := #[v0, v1, v2, v3]) rfl ?_).mono fun e W' ⟨he, bel⟩ => ?_
  · intro j x v hx hv
    match j, hx, hv with
    | 0, hx, hv => obtain rfl := Option.some.inj hx; obtain rfl := Option.some.inj hv; exact y0
    | 1, hx, hv => obtain rfl := Option.some.inj hx; obtain rfl := Option.some.inj hv; exact y1
    | 2, hx, hv => obtain rfl := Option.some.inj hx; obtain rfl := Option.some.inj hv; exact y2
    | 3, hx, hv => obtain rfl := Option.some.inj hx; obtain rfl := Option.some.inj hv; exact y3
  subst he
  exact ⟨_, rfl, _, _, _, [], _, [], hW', trodAll_mk1 (shut_bool Tryz.underlying4 _), trodAll_below (ts := [25, 3, 3, 9]) bel laid (by intro t ht; simp only [List.mem_cons, List.not_mem_nil, or_false] at ht; rcases ht with rfl | rfl | rfl | rfl <;> exact ⟨by kernel_rfl, of_decide_eq_true (by kernel_rfl)⟩) hlt hA1, rfl, bel.frame _, fun h => by cases h⟩
theorem over : Rows.fnExactMergeAtRow.holds Tryz.pinned (OpenSpec.ofChange Rows.fnExactMergeAtSpec) :=
  OpenClaim.holds_of_wide 4 Tryz.f4 rfl rfl rfl rfl rfl rfl rfl ⟨rfl, rfl, rfl, rfl, rfl⟩ rfl rfl rfl rfl rfl (by kernel_rfl) Tryz.func4 (by kernel_rfl)
    (of_decide_eq_true (by kernel_rfl)) (by unfold Func.isWrapper; first | (rw [if_pos (by decide +kernel)]; kernel_rfl) | (rw [if_neg (by decide +kernel)]; exact ⟨rfl, rfl⟩))
    (fun os started H enc _ => lifted os started H enc)
theorem proved : Rows.FnExactMergeAtSaid := over
end Go.Proofs.YtahffnkphppgoaaGreat.fnExactMergeAt
namespace Go.Proofs.YtahffnkphppgoaaGreat
/-- The row, under a short name, for the claim. -/
theorem fnExactMergeAt_holds : Rows.FnExactMergeAtSaid := fnExactMergeAt.proved
#print axioms fnExactMergeAt_holds
end Go.Proofs.YtahffnkphppgoaaGreat

