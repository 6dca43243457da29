/- For every input laws.FnExactCutRaws returns true, and its arguments read behind the call as they did before. Conditions: those of the given row, none of our own. -/
import Derived.Test.YtfghfdjecfkibaaRows
import Derived.Test.YtfghfdjecfkibaaSC
import Derived.Test.YtfghfdjecfkibaaGCutRaws
import Derived.Test.YtfghfdjecfkibaaPCutRaws
import Derived.ProofKit
import Derived.HandedShaped
namespace Go.Proofs.Ytfghfdjecfkibaa.fnExactCutRaws
open Go.Al Go.ChangeShapes Go.WideShapes Go.ChangeAt Go.RowKit
set_option linter.unusedVariables false
theorem own : ownKnob Try.prog.godebug = none := by kernel_rfl
set_option maxRecDepth 100000
theorem o93 : Opens Try.prog 93 (ByteArray × ByteArray) := opens_struct Try.underlying93 (by kernel_rfl) (opensF_cons rfl (by kernel_rfl) (opens_string Try.underlying9) (opensF_one rfl (by kernel_rfl) (opens_string Try.underlying9)))
theorem o31 : Opens Try.prog 31 (Vec (ByteArray × ByteArray)) := opens_slice Try.underlying31 (by kernel_rfl) (by decide) (by decide +kernel) o93
theorem o33 : Opens Try.prog 33 (Vec (ByteArray × ByteArray)) := opens_struct Try.underlying33 (by kernel_rfl) (opensF_one rfl (by kernel_rfl) o31)
theorem o35 : Opens Try.prog 35 (Int × ByteArray × ByteArray × ByteArray) := opens_struct Try.underlying35 (by kernel_rfl) (opensF_cons rfl (by kernel_rfl) (opens_int Try.underlying3) (opensF_cons rfl (by kernel_rfl) (opens_string Try.underlying9) (opensF_cons rfl (by kernel_rfl) (opens_string Try.underlying9) (opensF_one rfl (by kernel_rfl) (opens_string Try.underlying9)))))
theorem o56 : Opens Try.prog 56 (Vec (Int × ByteArray × ByteArray × ByteArray)) := opens_slice Try.underlying56 (by kernel_rfl) (by decide) (by decide +kernel) o35
theorem laid : laidOutB Try.prog = true := by kernel_rfl
theorem lifted (os : Os) (started : os.Started) (H : Type) (enc : TypeId × Value → H) :
    ReturnsInHanded {} Try.checked os 8 .any (Rows.fnExactCutRawsSpec.pre6 enc Try.prog Try.f8 Rows.fnExactCutRawsRow.domain false) (Rows.fnExactCutRawsSpec.post enc Try.prog Try.f8 false true false false) := by
  refine returnsInHanded_of_change_shaped (C := Try.checked) own started (by kernel_rfl) Try.func8
    (ChangeSpec.witness6 (enc := enc) (C := Try.checked) false ⟨#[], #[.agg #[.slice none 0 0], .slice none 0 0, .int .i64 0, .int .i64 0], []⟩ 8 (by kernel_rfl) (by kernel_rfl) (by kernel_rfl) (by kernel_rfl)) ?_
  intro W base args ds gs before hval0 hW hcnd hsz0 hsh _
  have hsz : (DataW.weightsEach Try.prog (Try.f8.params.toList ++ Rows.fnExactCutRawsSpec.plain.varTypes Try.prog) (ds ++ gs)).all (· ≤ reachBytes) = true := hsz0
  have hval : ∀ (j : Nat) t v, Try.f8.params[j]? = some t → args[j]? = some v → Value.okWide Try.prog W .any base t v := hval0
  have hW' := hW
  obtain ⟨p, q, hA0, hV, rfl, hfz, hnd⟩ := hW
  have hA : DataW.TrodAll enc Try.prog W 0 (fun _ => true) true Try.f8.params.toList args.toList ds p := hA0
  rw [Try.params8] at hA hval hsz
  have hA1 := hA
  obtain ⟨v0, vs0, d0, ds0, p0, q0, hargs, rfl, rfl, h0, r0⟩ := trodAll_cons hA
  obtain ⟨v1, vs1, d1, ds1, p1, q1, rfl, rfl, rfl, h1, r1⟩ := trodAll_cons r0
  obtain ⟨v2, vs2, d2, ds2, p2, q2, rfl, rfl, rfl, h2, r2⟩ := trodAll_cons r1
  obtain ⟨v3, vs3, d3, ds3, p3, q3, rfl, rfl, rfl, h3, r3⟩ := trodAll_cons r2
  obtain ⟨rfl, rfl, rfl⟩ := trodAll_nil r3
  obtain rfl : args = #[v0, v1, v2, v3] := by cases args; simp_all
  obtain ⟨rfl, rfl⟩ := trodVars_none hV
  obtain ⟨a0, y0, b0⟩ := open_st Try.underlying33 o33 (hval 0 33 v0 rfl rfl) h0 (weights_of hsz (j := 0) (t := 33) rfl rfl)
  obtain ⟨a1, y1, b1⟩ := open_sl Try.underlying56 o56 (hval 1 56 v1 rfl rfl) h1 (weights_of hsz (j := 1) (t := 56) rfl rfl)
  obtain ⟨a2, y2, b2⟩ := open_i Try.underlying3 (hval 2 3 v2 rfl rfl) h2 (weights_of hsz (j := 2) (t := 3) rfl rfl)
  obtain ⟨a3, y3, b3⟩ := open_i Try.underlying3 (hval 3 3 v3 rfl rfl) h3 (weights_of hsz (j := 3) (t := 3) rfl rfl)
  have hlt := DataW.TrodAll.lt hA1
  have hc : ACc Try.prog 8 (laws_FnExactCutRaws.encA (a0, a1, a2, a3)) [] true [] fun rv obs => (rv, obs) = (vb true, []) := laws_FnExactCutRaws.acc (a0, a1, a2, a3) true (laws_FnExactCutRaws_true a0 a1 a2 a3 b0 b1 b2 b3)
  refine (law_calls hc (amb_ok hsh) (vals := #[v0, v1, v2, v3]) rfl ?_).mono fun e W' ⟨he, bel⟩ => ?_
  · intro j x v hx hv
    match j, hx, hv with
    | 0, hx, hv => obtain rfl := Option.some.inj hx; obtain rfl := Option.some.inj hv; exact y0
    | 1, hx, hv => obtain rfl := Option.some.inj hx; obtain rfl := Option.some.inj hv; exact y1
    | 2, hx, hv => obtain rfl := Option.some.inj hx; obtain rfl := Option.some.inj hv; exact y2
    | 3, hx, hv => obtain rfl := Option.some.inj hx; obtain rfl := Option.some.inj hv; exact y3
  subst he
  exact ⟨_, rfl, _, _, _, [], _, [], hW', trodAll_mk1 (shut_bool Try.underlying4 _), trodAll_below (ts := [33, 56, 3, 3]) bel laid (by intro t ht; simp only [List.mem_cons, List.not_mem_nil, or_false] at ht; rcases ht with rfl | rfl | rfl | rfl <;> exact ⟨by kernel_rfl, of_decide_eq_true (by kernel_rfl)⟩) hlt hA1, rfl, bel.frame _, fun h => by cases h⟩
theorem over : Rows.fnExactCutRawsRow.holds Try.pinned (OpenSpec.ofChange Rows.fnExactCutRawsSpec) :=
  OpenClaim.holds_of_wide 8 Try.f8 rfl rfl rfl rfl rfl rfl rfl ⟨rfl, rfl, rfl, rfl, rfl⟩ rfl rfl rfl rfl rfl (by kernel_rfl) Try.func8 (by kernel_rfl)
    (of_decide_eq_true (by kernel_rfl)) (by unfold Func.isWrapper; first | (rw [if_pos (by decide +kernel)]; kernel_rfl) | (rw [if_neg (by decide +kernel)]; exact ⟨rfl, rfl⟩))
    (fun os started H enc _ => lifted os started H enc)
theorem proved : Rows.FnExactCutRawsSaid := over
end Go.Proofs.Ytfghfdjecfkibaa.fnExactCutRaws
namespace Go.Proofs.Ytfghfdjecfkibaa
/-- The row, under a short name, for the claim. -/
theorem fnExactCutRaws_holds : Rows.FnExactCutRawsSaid := fnExactCutRaws.proved
#print axioms fnExactCutRaws_holds
end Go.Proofs.Ytfghfdjecfkibaa

