/- For every input laws.FnExactTextAt returns true, and its arguments read behind the call as they did before. Conditions: those of the given row, none of our own. -/
import Derived.Test.YtdiclekkkaaahaaGreatRows
import Derived.Test.YtdiclekkkaaahaaGreatSC
import Derived.Test.YtdiclekkkaaahaaGreatGTextAt
import Derived.Test.YtdiclekkkaaahaaGreatPTextAt
import Derived.ProofKit
import Derived.HandedShaped
namespace Go.Proofs.YtdiclekkkaaahaaGreat.fnExactTextAt
open Go.Al Go.ChangeShapes Go.WideShapes Go.ChangeAt Go.RowKit
set_option linter.unusedVariables false
theorem own : ownKnob Tryz.prog.godebug = none := by kernel_rfl
set_option maxRecDepth 100000
theorem o53 : Opens Tryz.prog 53 (Vec Int) := opens_slice Tryz.underlying53 (by kernel_rfl) (by decide) (by decide +kernel) (opens_int Tryz.underlying3)
theorem o156 : Opens Tryz.prog 156 (ByteArray × Int × Int) := opens_struct Tryz.underlying156 (by kernel_rfl) (opensF_cons rfl (by kernel_rfl) (opens_string Tryz.underlying9) (opensF_cons rfl (by kernel_rfl) (opens_int Tryz.underlying3) (opensF_one rfl (by kernel_rfl) (opens_int Tryz.underlying3))))
theorem o90 : Opens Tryz.prog 90 (Vec (ByteArray × Int × Int)) := opens_slice Tryz.underlying90 (by kernel_rfl) (by decide) (by decide +kernel) o156
theorem o92 : Opens Tryz.prog 92 ((Vec Int) × ByteArray × (Vec (ByteArray × Int × Int))) := opens_struct Tryz.underlying92 (by kernel_rfl) (opensF_cons rfl (by kernel_rfl) o53 (opensF_cons rfl (by kernel_rfl) (opens_string Tryz.underlying9) (opensF_one rfl (by kernel_rfl) o90)))
theorem o22 : Opens Tryz.prog 22 (Vec ((Vec Int) × ByteArray × (Vec (ByteArray × Int × Int)))) := opens_slice Tryz.underlying22 (by kernel_rfl) (by decide) (by decide +kernel) o92
theorem o84 : Opens Tryz.prog 84 (Vec (Vec Int)) := opens_slice Tryz.underlying84 (by kernel_rfl) (by decide) (by decide +kernel) o53
theorem o158 : Opens Tryz.prog 158 (ByteArray × Int × Int × (Vec Int)) := opens_struct Tryz.underlying158 (by kernel_rfl) (opensF_cons rfl (by kernel_rfl) (opens_string Tryz.underlying9) (opensF_cons rfl (by kernel_rfl) (opens_int Tryz.underlying3) (opensF_cons rfl (by kernel_rfl) (opens_int Tryz.underlying3) (opensF_one rfl (by kernel_rfl) o53))))
theorem o94 : Opens Tryz.prog 94 (Vec (ByteArray × Int × Int × (Vec Int))) := opens_slice Tryz.underlying94 (by kernel_rfl) (by decide) (by decide +kernel) o158
theorem o96 : Opens Tryz.prog 96 ((Vec (Vec Int)) × (Vec (ByteArray × Int × Int × (Vec Int)))) := opens_struct Tryz.underlying96 (by kernel_rfl) (opensF_cons rfl (by kernel_rfl) o84 (opensF_one rfl (by kernel_rfl) o94))
theorem o23 : Opens Tryz.prog 23 (Vec ((Vec (Vec Int)) × (Vec (ByteArray × Int × Int × (Vec Int))))) := opens_slice Tryz.underlying23 (by kernel_rfl) (by decide) (by decide +kernel) o96
theorem o25 : Opens Tryz.prog 25 ((Vec ((Vec Int) × ByteArray × (Vec (ByteArray × Int × Int)))) × (Vec ((Vec (Vec Int)) × (Vec (ByteArray × Int × Int × (Vec Int)))))) := opens_struct Tryz.underlying25 (by kernel_rfl) (opensF_cons rfl (by kernel_rfl) o22 (opensF_one rfl (by kernel_rfl) o23))
theorem laid : laidOutB Tryz.prog = true := by kernel_rfl
theorem lifted (os : Os) (started : os.Started) (H : Type) (enc : TypeId × Value → H) :
    ReturnsInHanded {} Tryz.checked os 5 .any (Rows.fnExactTextAtSpec.pre6 enc Tryz.prog Tryz.f5 Rows.fnExactTextAtRow.domain false) (Rows.fnExactTextAtSpec.post enc Tryz.prog Tryz.f5 false true false false) := by
  refine returnsInHanded_of_change_shaped (C := Tryz.checked) own started (by kernel_rfl) Tryz.func5
    (ChangeSpec.witness6 (enc := enc) (C := Tryz.checked) false ⟨#[], #[.agg #[.slice none 0 0, .slice none 0 0], .int .i64 0, .string ByteArray.empty], []⟩ 8 (by kernel_rfl) (by kernel_rfl) (by kernel_rfl) (by kernel_rfl)) ?_
  intro W base args ds gs before hval0 hW hcnd hsz0 hsh _
  have hsz : (DataW.weightsEach Tryz.prog (Tryz.f5.params.toList ++ Rows.fnExactTextAtSpec.plain.varTypes Tryz.prog) (ds ++ gs)).all (· ≤ reachBytes) = true := hsz0
  have hval : ∀ (j : Nat) t v, Tryz.f5.params[j]? = some t → args[j]? = some v → Value.okWide Tryz.prog W .any base t v := hval0
  have hW' := hW
  obtain ⟨p, q, hA0, hV, rfl, hfz, hnd⟩ := hW
  have hA : DataW.TrodAll enc Tryz.prog W 0 (fun _ => true) true Tryz.f5.params.toList args.toList ds p := hA0
  rw [Tryz.params5] at hA hval hsz
  have hA1 := hA
  obtain ⟨v0, vs0, d0, ds0, p0, q0, hargs, rfl, rfl, h0, r0⟩ := trodAll_cons hA
  obtain ⟨v1, vs1, d1, ds1, p1, q1, rfl, rfl, rfl, h1, r1⟩ := trodAll_cons r0
  obtain ⟨v2, vs2, d2, ds2, p2, q2, rfl, rfl, rfl, h2, r2⟩ := trodAll_cons r1
  obtain ⟨rfl, rfl, rfl⟩ := trodAll_nil r2
  obtain rfl : args = #[v0, v1, v2] := by cases args; simp_all
  obtain ⟨rfl, rfl⟩ := trodVars_none hV
  obtain ⟨a0, y0, b0⟩ := open_st Tryz.underlying25 o25 (hval 0 25 v0 rfl rfl) h0 (weights_of hsz (j := 0) (t := 25) rfl rfl)
  obtain ⟨a1, y1, b1⟩ := open_i Tryz.underlying3 (hval 1 3 v1 rfl rfl) h1 (weights_of hsz (j := 1) (t := 3) rfl rfl)
  obtain ⟨a2, y2, b2⟩ := open_s Tryz.underlying9 (hval 2 9 v2 rfl rfl) h2 (weights_of hsz (j := 2) (t := 9) rfl rfl)
  have hlt := DataW.TrodAll.lt hA1
  have hc : ACc Tryz.prog 5 (laws_FnExactTextAt.encA (a0.1, a0.2, a1, a2)) [] true [] fun rv obs => (rv, obs) = (vb true, []) := laws_FnExactTextAt.acc (a0.1, a0.2, a1, a2) true (laws_FnExactTextAt_true a0.1 a0.2 a1 a2 b0 b1 b2)
  refine (law_calls hc (amb_ok hsh) (vals := #[v0, v1, v2]) rfl ?_).mono fun e W' ⟨he, bel⟩ => ?_
  · intro j x v hx hv
    match j, hx, hv with
    | 0, hx, hv => obtain rfl := Option.some.inj hx; obtain rfl := Option.some.inj hv; exact y0
    | 1, hx, hv => obtain rfl := Option.some.inj hx; obtain rfl := Option.some.inj hv; exact y1
    | 2, hx, hv => obtain rfl := Option.some.inj hx; obtain rfl := Option.some.inj hv; exact y2
  subst he
  exact ⟨_, rfl, _, _, _, [], _, [], hW', trodAll_mk1 (shut_bool Tryz.underlying4 _), trodAll_below (ts := [25, 3, 9]) bel laid (by intro t ht; simp only [List.mem_cons, List.not_mem_nil, or_false] at ht; rcases ht with rfl | rfl | rfl <;> exact ⟨by kernel_rfl, of_decide_eq_true (by kernel_rfl)⟩) hlt hA1, rfl, bel.frame _, fun h => by cases h⟩
theorem over : Rows.fnExactTextAtRow.holds Tryz.pinned (OpenSpec.ofChange Rows.fnExactTextAtSpec) :=
  OpenClaim.holds_of_wide 5 Tryz.f5 rfl rfl rfl rfl rfl rfl rfl ⟨rfl, rfl, rfl, rfl, rfl⟩ rfl rfl rfl rfl rfl (by kernel_rfl) Tryz.func5 (by kernel_rfl)
    (of_decide_eq_true (by kernel_rfl)) (by unfold Func.isWrapper; first | (rw [if_pos (by decide +kernel)]; kernel_rfl) | (rw [if_neg (by decide +kernel)]; exact ⟨rfl, rfl⟩))
    (fun os started H enc _ => lifted os started H enc)
theorem proved : Rows.FnExactTextAtSaid := over
end Go.Proofs.YtdiclekkkaaahaaGreat.fnExactTextAt
namespace Go.Proofs.YtdiclekkkaaahaaGreat
/-- The row, under a short name, for the claim. -/
theorem fnExactTextAt_holds : Rows.FnExactTextAtSaid := fnExactTextAt.proved
#print axioms fnExactTextAt_holds
end Go.Proofs.YtdiclekkkaaahaaGreat

