import Derived.Test.YtnkmpehikhmbjaaPCmp
import Derived.Test.YtnkmpehikhmbjaaSMkW
set_option linter.unusedVariables false
set_option linter.unusedSimpArgs false
set_option linter.constructorNameAsVariable false
set_option linter.unusedSectionVars false
namespace Go.Al
/-! ### Marks on a whole weave -/
theorem markT {E : Type} [Enc E] {σ : Type} {F0 : Nat → Int → Int → Vec E → (Int → Vec E → Option σ) → Option σ} (good : E → Prop) (M : Nat) (hM : M = 2097152)
    (h0 : ∀ f (k i : Nat) (v : Vec E) K0, 1 ≤ k → k ≤ 8796093022208 → v.n ≤ sN → i < v.n → good (v.g i) → ∃ (k' : Nat) (e : E), k ≤ k' ∧ k' ≤ k + M ∧ F0 (f + 1) (k : Int) (i : Int) v K0 = F0 f (k' : Int) ((i + 1 : Nat) : Int) (v.set i e) K0)
    (h1 : ∀ f (k i : Nat) (v : Vec E) K0, ¬ i < v.n → F0 (f + 1) (k : Int) (i : Int) v K0 = K0 (k : Int) v)
    (v : Vec E) (hn : v.n ≤ sN) (hg : ∀ i, i < v.n → good (v.g i)) (k : Nat) (hk : 1 ≤ k) (hk2 : k ≤ 4398046511104) (K0 : Int → Vec E → Option σ) :
    ∃ (k' : Nat) (u : Vec E), k ≤ k' ∧ k' ≤ k + M * v.n ∧ F0 fuelN (k : Int) 0 v K0 = K0 (k' : Int) u := by
  have hs : sN = 1048576 := rfl
  refine loop_inv (σ := Nat × Nat × Vec E) (fun s => v.n - s.1) (fun s => s.1 ≤ v.n ∧ s.2.2.n = v.n ∧ (∀ j, s.1 ≤ j → j < v.n → s.2.2.g j = v.g j) ∧ k ≤ s.2.1 ∧ s.2.1 ≤ k + M * s.1)
    (fun _ x => ∃ (k' : Nat) (u : Vec E), k ≤ k' ∧ k' ≤ k + M * v.n ∧ x = K0 (k' : Int) u) (fun f s => F0 f (s.2.1 : Int) (s.1 : Int) s.2.2 K0) ?_ fuelN (0, k, v) (by show v.n - 0 < fuelN; unfold fuelN; omega)
    ⟨Nat.zero_le _, rfl, fun _ _ _ => rfl, Nat.le_refl _, Nat.le_add_right _ _⟩
  rintro f ⟨i, q, u⟩ ⟨hi, hun, hsame, hq1, hq2⟩ ih
  simp only at hi hun hsame hq1 hq2
  have hMi : M * i ≤ 2097152 * 1048576 := Nat.mul_le_mul (by omega) (by omega)
  have hq3 : q ≤ 8796093022208 := by omega
  by_cases h : i < v.n
  · obtain ⟨k', e, e1, e2, e3⟩ := h0 f q i u K0 (by omega) hq3 (by omega) (by omega) (by rw [hsame i (Nat.le_refl _) h]; exact hg i h)
    simp only
    rw [e3]
    refine ih (i + 1, k', u.set i e) ⟨by simp only; omega, hun, fun j hj hj2 => ?_, (by show k ≤ k'; omega), (by show k' ≤ k + M * (i + 1); rw [Nat.mul_add]; omega)⟩ (by simp only; omega)
    simp only at hj ⊢
    rw [Vec.set_g, if_neg (by omega)]
    exact hsame j (by omega) hj2
  · simp only
    rw [h1 f q i u K0 (by omega)]
    have e : i = v.n := by omega
    subst e
    exact ⟨q, u, hq1, hq2, rfl⟩
theorem markSS_tot (P : Gr) (hP : Sml.sml P) (k : Nat) (hk : 1 ≤ k) (hk2 : k ≤ 4398046511104) : ∃ (k' : Nat) (u : Gr), k ≤ k' ∧ k' ≤ k + 2097152 * P.n ∧ laws_markIntSS_s45a1.F (k : Int) P = some ((k' : Int), u) := by
  have hs : sN = 1048576 := rfl
  rw [laws_markIntSS_s45a1.F, laws_markIntSS_s45a1.B]
  refine markT (F0 := laws_markIntSS_s45a1.F0) (fun l : Vec Int => l.n ≤ sN) 2097152 rfl ?_ ?_ P hP.1 (fun i hi => (hP.2 i hi).1) k hk hk2 (fun e01 e02 => some (e01, e02))
  · intro f k i v K0 h1 h2 h3 hi hg
    obtain ⟨u, e⟩ := laws_markIntS_s68b2_tot (v.g i) hg k h1 (by omega)
    refine ⟨k + 1 * (v.g i).n, u, by omega, by omega, ?_⟩
    simp only [laws_markIntSS_s45a1.F0, laws_markIntSS_s45a1.B0, selb, chkb, decide_eq_true_eq, Int.toNat_natCast, Int.ofNat_lt, Int.natCast_nonneg, true_and, if_pos hi, e, Option.bind_some]
    rw [wr_succ (by omega)]
  · intro f k i v K0 hi
    simp only [laws_markIntSS_s45a1.F0, laws_markIntSS_s45a1.B0, selb, decide_eq_true_eq, Int.ofNat_lt, if_neg hi]
theorem markBS_tot (B : Vec Bd) (hB : dSml B) (k : Nat) (hk : 1 ≤ k) (hk2 : k ≤ 4398046511104) : ∃ (k' : Nat) (u : Vec Bd), k ≤ k' ∧ k' ≤ k + 2097152 * B.n ∧ laws_markBodyS_s669a.F (k : Int) B = some ((k' : Int), u) := by
  have hs : sN = 1048576 := rfl
  have hm : mN = 4611686018000000000 := rfl
  rw [laws_markBodyS_s669a.F, laws_markBodyS_s669a.B]
  refine markT (F0 := laws_markBodyS_s669a.F0) (fun b : Bd => b.2.2.2.n ≤ sN) 2097152 rfl ?_ ?_ B hB.1 (fun i hi => (hB.2 i hi).1) k hk hk2 (fun e01 e02 => some (e01, e02))
  · intro f k i v K0 h1 h2 h3 hi hg
    obtain ⟨u, e⟩ := laws_markIntS_s68b2_tot (v.g i).2.2.2 hg (k + 3) (by omega) (by omega)
    have e0 := mT_eq k h1 (by omega)
    have w1 : wr ((k : Int) + 1) = ((k + 1 : Nat) : Int) := wr_small (by omega) (by omega)
    have w2 : wr (((k + 1 : Nat) : Int) + 1) = ((k + 2 : Nat) : Int) := wr_small (by omega) (by omega)
    have w3 : wr (((k + 2 : Nat) : Int) + 1) = ((k + 3 : Nat) : Int) := wr_small (by omega) (by omega)
    refine ⟨k + 3 + 1 * (v.g i).2.2.2.n, ((mT k, ((k + 1 : Nat) : Int), ((k + 2 : Nat) : Int), u) : Bd), by omega, by omega, ?_⟩
    · simp only [laws_markBodyS_s669a.F0, laws_markBodyS_s669a.B0, selb, chkb, decide_eq_true_eq, Int.toNat_natCast, Int.ofNat_lt, Int.natCast_nonneg, true_and, Vec.set_set, Vec.set_g, Vec.set_n, if_true, if_pos hi, e0, w1, w2, w3, e, Option.bind_some]
      rw [wr_succ (by omega)]
      simp only [hi, decide_true, if_true]
  · intro f k i v K0 hi
    simp only [laws_markBodyS_s669a.F0, laws_markBodyS_s669a.B0, selb, decide_eq_true_eq, Int.ofNat_lt, if_neg hi]
theorem markWv_tot (P : Gr) (B : Vec Bd) (hP : Sml.sml P) (hB : dSml B) : ∃ (k : Int) (u : Gr) (w : Vec Bd), laws_markWeave_saeda.F 1 P B = some (k, u, w) ∧ 1 ≤ k ∧ k ≤ 8796093022208 := by
  have hs : sN = 1048576 := rfl
  have h1 := hP.1
  have h2 := hB.1
  obtain ⟨k', u, q1, q2, q3⟩ := markSS_tot P hP 1 (by omega) (by omega)
  obtain ⟨k2, w, r1, r2, r3⟩ := markBS_tot B hB k' (by omega) (by omega)
  refine ⟨(k2 : Int), u, w, ?_, by omega, by omega⟩
  rw [laws_markWeave_saeda.F, laws_markWeave_saeda.B, show (1 : Int) = ((1 : Nat) : Int) from rfl, q3, Option.bind_some, r3, Option.bind_some]
end Go.Al
