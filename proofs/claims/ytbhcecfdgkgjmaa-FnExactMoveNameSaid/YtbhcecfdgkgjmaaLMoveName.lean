/- For every input laws.FnExactMoveName returns true, and its arguments read behind the call as they did before. Conditions: those of the given row, none of our own. -/
import Derived.Test.YtbhcecfdgkgjmaaRows
import Derived.Test.YtbhcecfdgkgjmaaSC
import Derived.Test.YtbhcecfdgkgjmaaGMoveName
import Derived.Test.YtbhcecfdgkgjmaaPMoveName
import Derived.ProofKit
import Derived.HandedShaped
namespace Go.Proofs.Ytbhcecfdgkgjmaa.fnExactMoveName
open Go.Al Go.ChangeShapes Go.WideShapes Go.ChangeAt Go.RowKit
set_option linter.unusedVariables false
theorem own : ownKnob Try.prog.godebug = none := by kernel_rfl
set_option maxRecDepth 100000
theorem o76 : Opens Try.prog 76 (ByteArray × Int × Int) := opens_struct Try.underlying76 (by kernel_rfl) (opensF_cons rfl (by kernel_rfl) (opens_string Try.underlying9) (opensF_cons rfl (by kernel_rfl) (opens_int Try.underlying3) (opensF_one rfl (by kernel_rfl) (opens_int Try.underlying3))))
theorem o22 : Opens Try.prog 22 (Vec (ByteArray × Int × Int)) := opens_slice Try.underlying22 (by kernel_rfl) (by decide) (by decide +kernel) o76
theorem laid : laidOutB Try.prog = true := by kernel_rfl
theorem lifted (os : Os) (started : os.Started) (H : Type) (enc : TypeId × Value → H) :
    ReturnsInHanded {} Try.checked os 3 .any (Rows.fnExactMoveNameSpec.pre6 enc Try.prog Try.f3 Rows.fnExactMoveNameRow.domain false) (Rows.fnExactMoveNameSpec.post enc Try.prog Try.f3 false true false false) := by
  refine returnsInHanded_of_change_shaped (C := Try.checked) own started (by kernel_rfl) Try.func3
    (ChangeSpec.witness6 (enc := enc) (C := Try.checked) false ⟨#[], #[.slice none 0 0, .string ByteArray.empty, .string ByteArray.empty], []⟩ 8 (by kernel_rfl) (by kernel_rfl) (by kernel_rfl) (by kernel_rfl)) ?_
  intro W base args ds gs before hval0 hW hcnd hsz0 hsh _
  have hsz : (DataW.weightsEach Try.prog (Try.f3.params.toList ++ Rows.fnExactMoveNameSpec.plain.varTypes Try.prog) (ds ++ gs)).all (· ≤ reachBytes) = true := hsz0
  have hval : ∀ (j : Nat) t v, Try.f3.params[j]? = some t → args[j]? = some v → Value.okWide Try.prog W .any base t v := hval0
  have hW' := hW
  obtain ⟨p, q, hA0, hV, rfl, hfz, hnd⟩ := hW
  have hA : DataW.TrodAll enc Try.prog W 0 (fun _ => true) true Try.f3.params.toList args.toList ds p := hA0
  rw [Try.params3] at hA hval hsz
  have hA1 := hA
  obtain ⟨v0, vs0, d0, ds0, p0, q0, hargs, rfl, rfl, h0, r0⟩ := trodAll_cons hA
  obtain ⟨v1, vs1, d1, ds1, p1, q1, rfl, rfl, rfl, h1, r1⟩ := trodAll_cons r0
  obtain ⟨v2, vs2, d2, ds2, p2, q2, rfl, rfl, rfl, h2, r2⟩ := trodAll_cons r1
  obtain ⟨rfl, rfl, rfl⟩ := trodAll_nil r2
  obtain rfl : args = #[v0, v1, v2] := by cases args; simp_all
  obtain ⟨rfl, rfl⟩ := trodVars_none hV
  obtain ⟨a0, y0, b0⟩ := open_sl Try.underlying22 o22 (hval 0 22 v0 rfl rfl) h0 (weights_of hsz (j := 0) (t := 22) rfl rfl)
  obtain ⟨a1, y1, b1⟩ := open_s Try.underlying9 (hval 1 9 v1 rfl rfl) h1 (weights_of hsz (j := 1) (t := 9) rfl rfl)
  obtain ⟨a2, y2, b2⟩ := open_s Try.underlying9 (hval 2 9 v2 rfl rfl) h2 (weights_of hsz (j := 2) (t := 9) rfl rfl)
  have hlt := DataW.TrodAll.lt hA1
  have hc : ACc Try.prog 3 (laws_FnExactMoveName.encA (a0, a1, a2)) [] true [] fun rv obs => (rv, obs) = (vb true, []) := laws_FnExactMoveName.acc (a0, a1, a2) true (laws_FnExactMoveName_true a0 a1 a2 b0 b1 b2)
  refine (law_calls hc (amb_ok hsh) (vals := #[v0, v1, v2]) rfl ?_).mono fun e W' ⟨he, bel⟩ => ?_
  · intro j x v hx hv
    match j, hx, hv with
    | 0, hx, hv => obtain rfl := Option.some.inj hx; obtain rfl := Option.some.inj hv; exact y0
    | 1, hx, hv => obtain rfl := Option.some.inj hx; obtain rfl := Option.some.inj hv; exact y1
    | 2, hx, hv => obtain rfl := Option.some.inj hx; obtain rfl := Option.some.inj hv; exact y2
  subst he
  exact ⟨_, rfl, _, _, _, [], _, [], hW', trodAll_mk1 (shut_bool Try.underlying4 _), trodAll_below (ts := [22, 9, 9]) bel laid (by intro t ht; simp only [List.mem_cons, List.not_mem_nil, or_false] at ht; rcases ht with rfl | rfl | rfl <;> exact ⟨by kernel_rfl, of_decide_eq_true (by kernel_rfl)⟩) hlt hA1, rfl, bel.frame _, fun h => by cases h⟩
theorem over : Rows.fnExactMoveNameRow.holds Try.pinned (OpenSpec.ofChange Rows.fnExactMoveNameSpec) :=
  OpenClaim.holds_of_wide 3 Try.f3 rfl rfl rfl rfl rfl rfl rfl ⟨rfl, rfl, rfl, rfl, rfl⟩ rfl rfl rfl rfl rfl (by kernel_rfl) Try.func3 (by kernel_rfl)
    (of_decide_eq_true (by kernel_rfl)) (by unfold Func.isWrapper; first | (rw [if_pos (by decide +kernel)]; kernel_rfl) | (rw [if_neg (by decide +kernel)]; exact ⟨rfl, rfl⟩))
    (fun os started H enc _ => lifted os started H enc)
theorem proved : Rows.FnExactMoveNameSaid := over
end Go.Proofs.Ytbhcecfdgkgjmaa.fnExactMoveName
namespace Go.Proofs.Ytbhcecfdgkgjmaa
/-- The row, under a short name, for the claim. -/
theorem fnExactMoveName_holds : Rows.FnExactMoveNameSaid := fnExactMoveName.proved
#print axioms fnExactMoveName_holds
end Go.Proofs.Ytbhcecfdgkgjmaa

