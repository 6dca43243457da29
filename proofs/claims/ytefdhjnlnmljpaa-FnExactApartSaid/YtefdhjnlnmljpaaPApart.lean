import Derived.Test.YtefdhjnlnmljpaaPCmp
import Derived.Test.YtefdhjnlnmljpaaSWl
import Derived.Test.YtefdhjnlnmljpaaGApart
set_option linter.unusedVariables false
set_option linter.unusedSimpArgs false
set_option linter.constructorNameAsVariable false
set_option linter.unusedSectionVars false
namespace Go.Al
def cntN (r : Vec Pr) : Nat → Nat
  | 0 => 0
  | i + 1 => cntN r i + (if (r.g i).1 = 1 then 0 else 1)
theorem cntN_le (r : Vec Pr) : ∀ i, cntN r i ≤ i
  | 0 => Nat.le_refl _
  | i + 1 => by have := cntN_le r i; unfold cntN; split <;> omega
theorem cntN_same {r q : Vec Pr} (h : Vec.Same q r) : ∀ i, i ≤ q.n → cntN q i = cntN r i
  | 0, _ => rfl
  | i + 1, hi => by rw [cntN, cntN, cntN_same h i (by omega), h.2 i (by omega)]
theorem spec_cnt_loop {ρ : Type} (r : Vec Pr) (hr : r.n ≤ 1000) (K0 : Int → Option ρ) : spec_Apart.F0 fuelN 0 0 r K0 = K0 (cntN r r.n : Int) := by
  refine loop_inv (σ := Nat × Int) (fun t => r.n - t.1) (fun t => t.1 ≤ r.n ∧ t.2 = (cntN r t.1 : Int)) (fun _ x => x = K0 (cntN r r.n : Int)) (fun k t => spec_Apart.F0 k t.2 (t.1 : Int) r K0) ?_ fuelN (0, 0) (by simp only [fuelN]; omega) ⟨Nat.zero_le _, rfl⟩
  rintro k ⟨i, n⟩ ⟨hi, hn⟩ ih
  simp only at hi hn
  subst hn
  have hle := cntN_le r i
  simp only [spec_Apart.F0, spec_Apart.B0, selb, chkb, decide_eq_true_eq, Int.toNat_natCast, Int.ofNat_lt, Int.natCast_nonneg, true_and]
  by_cases h : i < r.n
  · rw [if_pos h, if_pos h, if_pos h]
    by_cases h1 : (r.g i).1 = 1
    · rw [decide_eq_true h1, if_neg (by simp), wr_succ (by omega)]
      exact ih (i + 1, _) ⟨by simp only; omega, by simp only; rw [cntN, if_pos h1]; rfl⟩ (by simp only; omega)
    · rw [decide_eq_false h1, if_pos (by simp), wr_succ (by omega), wr_succ (by omega)]
      exact ih (i + 1, _) ⟨by simp only; omega, by simp only; rw [cntN, if_neg h1]⟩ (by simp only; omega)
  · rw [if_neg h]
    have e : i = r.n := by omega
    subst e
    rfl
theorem impl_cnt_loop {ρ : Type} (r : Vec Pr) (hr : r.n ≤ 1000) (K0 : Int → Option ρ) : impl_Apart.F0 fuelN 0 (r.n : Int) 0 r K0 = K0 (cntN r r.n : Int) := by
  refine loop_inv (σ := Nat × Int) (fun t => r.n - t.1) (fun t => t.1 ≤ r.n ∧ t.2 = (cntN r t.1 : Int)) (fun _ x => x = K0 (cntN r r.n : Int)) (fun k t => impl_Apart.F0 k t.2 (r.n : Int) (t.1 : Int) r K0) ?_ fuelN (0, 0) (by simp only [fuelN]; omega) ⟨Nat.zero_le _, rfl⟩
  rintro k ⟨i, n⟩ ⟨hi, hn⟩ ih
  simp only at hi hn
  subst hn
  have hle := cntN_le r i
  simp only [impl_Apart.F0, impl_Apart.B0, selb, chkb, decide_eq_true_eq, Int.toNat_natCast, Int.ofNat_lt, Int.natCast_nonneg, true_and]
  by_cases h : i < r.n
  · rw [if_pos h, if_pos h, if_pos h]
    by_cases h1 : (r.g i).1 = 1
    · rw [decide_eq_true h1, if_neg (by simp), wr_succ (by omega)]
      exact ih (i + 1, _) ⟨by simp only; omega, by simp only; rw [cntN, if_pos h1]; rfl⟩ (by simp only; omega)
    · rw [decide_eq_false h1, if_pos (by simp), wr_succ (by omega), wr_succ (by omega)]
      exact ih (i + 1, _) ⟨by simp only; omega, by simp only; rw [cntN, if_neg h1]⟩ (by simp only; omega)
  · rw [if_neg h]
    have e : i = r.n := by omega
    subst e
    rfl
theorem Apart_two (P : Gr) (hP : P.n ≤ 1048576) (B : Vec Bd) (hB : dSml B) (a b : Int) : ∃ r, spec_Apart.F P B a b = some r ∧ impl_Apart.F P B a b = some r := by
  obtain ⟨code, r, q, e1, e2, hs, hq, -⟩ := Compare_two P hP B hB a b
  have hrn : r.n = q.n := hs.1.symm
  rw [spec_Apart.F, spec_Apart.B, impl_Apart.F, impl_Apart.B, e1, e2, Option.bind_some, Option.bind_some]
  rw [spec_cnt_loop r (by omega), impl_cnt_loop q (by omega), ← cntN_same hs r.n (by omega), hrn]
  cases decide (code = 0) with
  | false => exact ⟨_, rfl, rfl⟩
  | true => exact ⟨_, rfl, rfl⟩
theorem laws_FnExactApart_true (P : Gr) (B : Vec Bd) (i j : Int) (hb : Bnd.bnd ((P, B) : Gr × Vec Bd)) (hi : Bnd.bnd i) (hj : Bnd.bnd j) : laws_FnExactApart.F P B i j = some true := by
  rw [laws_FnExactApart.F, laws_FnExactApart.B]
  obtain ⟨r, hr, hr2⟩ := laws_szWeave_ok (P, B) 1048576 hb (by omega) (by omega)
  simp only at hr
  rw [hr, Option.bind_some, selb]
  split
  · rfl
  rename_i hr0
  rw [decide_eq_true_eq] at hr0
  obtain ⟨hr1, hvs⟩ := hr2 (by omega)
  obtain ⟨⟨p, b⟩, hu, hsm⟩ := laws_toWeave_ok (P, B) hvs
  simp only at hu
  have q2 := laws_eqWeave_ok (p, b) (p, b) hsm (Sim.refl _)
  simp only at q2
  obtain ⟨w, e1, e2⟩ := Apart_two p hsm.1.1 b (dSml_of hsm.2) i j
  have p1 : decide (w = w) = true := decide_eq_true rfl
  rw [hu]
  repeat (first | rw [Option.bind_some] | rw [e1] | rw [e2] | rw [q2])
  rw [p1]
  repeat (first | rw [Option.bind_some] | rw [e2] | rw [q2])
  rfl
end Go.Al
