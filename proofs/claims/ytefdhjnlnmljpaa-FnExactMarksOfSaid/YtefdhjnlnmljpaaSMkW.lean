import Derived.Test.YtefdhjnlnmljpaaAlH
import Derived.Test.YtefdhjnlnmljpaaGMkW
import Derived.Test.YtefdhjnlnmljpaaSWl
set_option linter.unusedVariables false
set_option linter.unusedSimpArgs false
set_option linter.constructorNameAsVariable false
set_option linter.unusedSectionVars false
namespace Go.Al
theorem laws_markText_ok (k : Nat) (h1 : 1 ≤ k) (h2 : k ≤ mN) : ∃ b, laws_markText.F (k : Int) = some b :=
  mark_text (F0 := laws_markText.F0) (fun k v1 v2 K0 => rfl) (F := laws_markText.F) (fun a1 => by simp only [laws_markText.F, laws_markText.B]) k h1 h2
noncomputable def mT (k : Int) : ByteArray := (laws_markText.F k).getD ByteArray.empty
theorem mT_eq (k : Nat) (h1 : 1 ≤ k) (h2 : k ≤ mN) : laws_markText.F (k : Int) = some (mT k) := by
  obtain ⟨b, h⟩ := laws_markText_ok k h1 h2
  have e : mT (k : Int) = b := by
    unfold mT
    rw [h, Option.getD_some]
  rw [e]
  exact h
noncomputable def laws_markIntS_s68b2_val (k : Int) : Int := k
theorem laws_markIntS_s68b2_step (f k i : Nat) (v : (Vec Int)) (K0 : Int → (Vec Int) → Option (Int × (Vec Int))) (hk1 : 1 ≤ k) (hk2 : k + 1 * (v.n - i) ≤ mN) (hn : v.n ≤ sN) : laws_markIntS_s68b2.F0 (f + 1) (k : Int) (i : Int) v K0 = if i < v.n then laws_markIntS_s68b2.F0 f ((k + 1 : Nat) : Int) ((i + 1 : Nat) : Int) (v.set i (laws_markIntS_s68b2_val (k : Int))) K0 else K0 (k : Int) v := by
  have hs : sN = 1048576 := rfl
  have hm : mN = 4611686018000000000 := rfl
  by_cases hi : i < v.n
  · have hle : 1 ≤ 1 * (v.n - i) := by omega
    have w0 : wr ((k : Int) + 1) = ((k + 1 : Nat) : Int) := wr_small (by omega) (by omega)
    have z1 : wr ((k + 1 : Nat) : Int) = ((k + 1 : Nat) : Int) := wr_small (by omega) (by omega)
    have c1 : (k : Int) + 1 = ((k + 1 : Nat) : Int) := by omega
    have wi : wr ((i : Int) + 1) = ((i + 1 : Nat) : Int) := wr_small (by omega) (by omega)
    simp only [laws_markIntS_s68b2.F0, laws_markIntS_s68b2.B0, selb, chkb, hi, wi, Vec.set_set, Vec.set_g, Vec.set_n, if_true, laws_markIntS_s68b2_val, w0, z1, c1, Int.toNat_natCast, Int.ofNat_lt, Int.natCast_nonneg, true_and, decide_true, Option.bind_some, Bool.not_true, Bool.false_eq_true, if_false]
  · simp [laws_markIntS_s68b2.F0, laws_markIntS_s68b2.B0, selb, hi]
theorem laws_markIntS_s68b2_lay (a : (Vec Int)) (hn : a.n ≤ sN) : ∃ u : (Vec Int), u.n = a.n ∧ (∀ t, t < a.n → u.g t = laws_markIntS_s68b2_val ((1 + 1 * t : Nat) : Int)) ∧ laws_markIntS_s68b2.F0 fuelN ((1 : Nat) : Int) 0 a (fun x1 x2 => some (x1, x2)) = some (((1 + 1 * a.n : Nat) : Int), u) := by
  have hs : sN = 1048576 := rfl
  have hm : mN = 4611686018000000000 := rfl
  exact markS (c := 1) (val := laws_markIntS_s68b2_val) (F0 := laws_markIntS_s68b2.F0) (by decide) laws_markIntS_s68b2_step a hn 1 (by decide) (by omega) (fun x1 x2 => some (x1, x2))
theorem laws_markIntS_s68b2_tot (a : (Vec Int)) (hn : a.n ≤ sN) (k : Nat) (h1 : 1 ≤ k) (h2 : k ≤ 17592186044416) : ∃ u : (Vec Int), laws_markIntS_s68b2.F (k : Int) a = some (((k + 1 * a.n : Nat) : Int), u) := by
  have hs : sN = 1048576 := rfl
  have hm : mN = 4611686018000000000 := rfl
  obtain ⟨u, q1, q2, q3⟩ := markS (c := 1) (val := laws_markIntS_s68b2_val) (F0 := laws_markIntS_s68b2.F0) (by decide) laws_markIntS_s68b2_step a hn k h1 (by omega) (fun x1 x2 => some (x1, x2))
  refine ⟨u, ?_⟩
  rw [laws_markIntS_s68b2.F, laws_markIntS_s68b2.B]
  exact q3
end Go.Al
