import Derived.Test.YtefdhjnlnmljpaaPWv
import Derived.Test.YtefdhjnlnmljpaaSWl
import Derived.Test.YtefdhjnlnmljpaaGLongestLived
set_option linter.unusedVariables false
set_option linter.unusedSimpArgs false
set_option linter.constructorNameAsVariable false
set_option linter.unusedSectionVars false
namespace Go.Al
open Classical in
noncomputable def lvN (P : Gr) (b : Bd) : Nat → Nat
  | 0 => 0
  | v + 1 => lvN P b v + (if live b (Cl P v) then 1 else 0)
theorem lvN_le (P : Gr) (b : Bd) : ∀ v, lvN P b v ≤ v
  | 0 => Nat.le_refl _
  | v + 1 => by have := lvN_le P b v; unfold lvN; split <;> omega
theorem lvN_yes {P : Gr} {b : Bd} {v : Nat} (h : live b (Cl P v)) : lvN P b (v + 1) = lvN P b v + 1 := by rw [lvN, if_pos h]
theorem lvN_no {P : Gr} {b : Bd} {v : Nat} (h : ¬ live b (Cl P v)) : lvN P b (v + 1) = lvN P b v := by rw [lvN, if_neg h]; rfl
noncomputable def bestN (P : Gr) (B : Vec Bd) : Nat → Int × Int
  | 0 => (-1, -1)
  | i + 1 => if (bestN P B i).2 < (lvN P (B.g i) P.n : Int) then ((i : Int), (lvN P (B.g i) P.n : Int)) else bestN P B i
theorem dSml_of {B : Vec Bd} (h : Sml.sml B) : dSml B := ⟨h.1, fun i hi => ⟨(h.2 i hi).2.2.2.1, (h.2 i hi).1⟩⟩
theorem spec_lives_loop {ρ : Type} (P : Gr) (hg : grGood P) (B : Vec Bd) (hB : dSml B) (be mo : Int) (ok : Bool) (i : Nat) (hi : i < B.n) (K2 : Int → Int → Bool → Int → Int → Gr → Vec Bd → Option ρ) :
    spec_LongestLived.F1 fuelN be mo ok (i : Int) 0 0 P B K2 = K2 be mo ok i (lvN P (B.g i) P.n : Int) P B := by
  have hb : bN = 140737488351232 := rfl
  have hP := hg.1
  refine loop_inv (σ := Nat × Int) (fun t => P.n - t.1) (fun t => t.1 ≤ P.n ∧ t.2 = (lvN P (B.g i) t.1 : Int))
    (fun _ x => x = K2 be mo ok i (lvN P (B.g i) P.n : Int) P B) (fun k t => spec_LongestLived.F1 k be mo ok (i : Int) t.2 (t.1 : Int) P B K2) ?_ fuelN (0, 0) (by simp only [fuelN]; omega)
    ⟨Nat.zero_le _, rfl⟩
  rintro k ⟨v, n⟩ ⟨hv, hn⟩ ih
  simp only at hv hn
  subst hn
  have hle := lvN_le P (B.g i) v
  simp only [spec_LongestLived.F1, spec_LongestLived.B1, selb, chkb, decide_eq_true_eq, Int.toNat_natCast, Int.ofNat_lt, Int.natCast_nonneg, true_and]
  by_cases h : v < P.n
  · obtain ⟨s, e, hs⟩ := spec_l06Closure_ok P hg B v h
    obtain ⟨c, e2, hc⟩ := spec_live_ok (B.g i) (by have := (hB.2 i hi).1; omega) s P.n hP (Cl P v) hs (fun u hu => Cl_lt hg hu h)
    rw [if_pos h, if_pos hi, e, Option.bind_some, e2, Option.bind_some, wr_succ (by omega)]
    cases c with
    | true =>
      rw [if_pos rfl, wr_succ (by omega)]
      exact ih (v + 1, _) ⟨by simp only; omega, by simp only; rw [lvN_yes (hc.1 rfl)]⟩ (by simp only; omega)
    | false =>
      rw [if_neg (by simp), wr_succ (by omega)]
      exact ih (v + 1, _) ⟨by simp only; omega, by simp only; rw [lvN_no (fun h => by have := hc.2 h; cases this)]⟩ (by simp only; omega)
  · rw [if_neg h]
    have e : v = P.n := by omega
    subst e
    rfl
theorem impl_lives_ok (P : Gr) (hg : grGood P) (B : Vec Bd) (hB : dSml B) (i : Nat) (hi : i < B.n) : ∃ r, impl_Weave_livesIn.F P B (i : Int) = some r ∧ r.n = lvN P (B.g i) P.n := by
  have hb : bN = 140737488351232 := rfl
  have hM : maxN = 140737488355328 := rfl
  have hP := hg.1
  obtain ⟨C, e, hC⟩ := impl_closures_T P hg
  have hCn := hC.1
  rw [impl_Weave_livesIn.F, impl_Weave_livesIn.B, e, Option.bind_some]
  refine loop_inv (σ := Nat × Vec Int) (fun t => P.n - t.1) (fun t => t.1 ≤ P.n ∧ t.2.n = lvN P (B.g i) t.1)
    (fun _ x => ∃ r, x = some r ∧ r.n = lvN P (B.g i) P.n) (fun k t => impl_Weave_livesIn.F0 k P B (i : Int) (C.n : Int) (t.1 : Int) t.2 C (fun e01 => some e01)) ?_ fuelN (0, Vec.nil) (by simp only [fuelN]; omega)
    ⟨Nat.zero_le _, rfl⟩
  rintro k ⟨v, r⟩ ⟨hv, hn⟩ ih
  simp only at hv hn
  have hle := lvN_le P (B.g i) v
  simp only [impl_Weave_livesIn.F0, impl_Weave_livesIn.B0, selb, chkb, decide_eq_true_eq, Int.toNat_natCast, Int.ofNat_lt, Int.natCast_nonneg, true_and]
  by_cases h : v < P.n
  · obtain ⟨c, e2, hc⟩ := impl_live_ok (B.g i) (by have := (hB.2 i hi).1; omega) (C.g v).v (Cl P v) (hC.2 v h)
    rw [if_pos (by omega), if_pos (by omega), if_pos (by omega), if_pos hi, e2, Option.bind_some, wr_succ (by omega)]
    cases c with
    | true =>
      rw [if_pos rfl, if_pos (by show (r.n + 1) * 9 ≤ _; omega)]
      exact ih (v + 1, Vec.app r (Vec.lit [(v : Int)])) ⟨by simp only; omega, by simp only; rw [lvN_yes (hc.1 rfl), ← hn]; rfl⟩ (by simp only; omega)
    | false =>
      rw [if_neg (by simp)]
      exact ih (v + 1, r) ⟨by simp only; omega, by simp only; rw [lvN_no (fun h => by have := hc.2 h; cases this)]; exact hn⟩ (by simp only; omega)
  · rw [if_neg (by omega)]
    have e : v = P.n := by omega
    subst e
    exact ⟨r, rfl, hn⟩
theorem spec_best_loop {ρ : Type} (P : Gr) (hg : grGood P) (B : Vec Bd) (hB : dSml B) (K0 : Int → Option ρ) :
    spec_LongestLived.F0 fuelN (-1) (-1) true 0 P B K0 = K0 (bestN P B B.n).1 := by
  have hB1 := hB.1
  refine loop_inv (σ := Nat × Int × Int) (fun t => B.n - t.1) (fun t => t.1 ≤ B.n ∧ t.2 = bestN P B t.1)
    (fun _ x => x = K0 (bestN P B B.n).1) (fun k t => spec_LongestLived.F0 k t.2.1 t.2.2 true (t.1 : Int) P B K0) ?_ fuelN (0, -1, -1) (by simp only [fuelN]; omega)
    ⟨Nat.zero_le _, rfl⟩
  rintro k ⟨i, be, mo⟩ ⟨hi, hn⟩ ih
  simp only at hi hn
  simp only [spec_LongestLived.F0, spec_LongestLived.B0, selb, decide_eq_true_eq, Int.ofNat_lt, if_true]
  by_cases h : i < B.n
  · rw [if_pos h, spec_lives_loop P hg B hB be mo true i h, wr_succ (by omega)]
    have e1 : be = (bestN P B i).1 := by rw [← hn]
    have e2 : mo = (bestN P B i).2 := by rw [← hn]
    by_cases h2 : mo < (lvN P (B.g i) P.n : Int)
    · rw [if_pos h2]
      exact ih (i + 1, _, _) ⟨by simp only; omega, by simp only; rw [bestN, if_pos (by rw [← e2]; exact h2)]⟩ (by simp only; omega)
    · rw [if_neg h2]
      exact ih (i + 1, be, mo) ⟨by simp only; omega, by simp only; rw [bestN, if_neg (by rw [← e2]; exact h2)]; exact hn⟩ (by simp only; omega)
  · rw [if_neg h]
    have e : i = B.n := by omega
    subst e
    rw [← hn]
theorem impl_best_loop {ρ : Type} (P : Gr) (hg : grGood P) (B : Vec Bd) (hB : dSml B) (K0 : Int → Option ρ) :
    impl_LongestLived.F0 fuelN (-1) (-1) (B.n : Int) 0 P B K0 = K0 (bestN P B B.n).1 := by
  have hB1 := hB.1
  refine loop_inv (σ := Nat × Int × Int) (fun t => B.n - t.1) (fun t => t.1 ≤ B.n ∧ t.2 = bestN P B t.1)
    (fun _ x => x = K0 (bestN P B B.n).1) (fun k t => impl_LongestLived.F0 k t.2.1 t.2.2 (B.n : Int) (t.1 : Int) P B K0) ?_ fuelN (0, -1, -1) (by simp only [fuelN]; omega)
    ⟨Nat.zero_le _, rfl⟩
  rintro k ⟨i, be, mo⟩ ⟨hi, hn⟩ ih
  simp only at hi hn
  simp only [impl_LongestLived.F0, impl_LongestLived.B0, selb, decide_eq_true_eq, Int.ofNat_lt, if_true]
  by_cases h : i < B.n
  · obtain ⟨r, e, hr⟩ := impl_lives_ok P hg B hB i h
    rw [if_pos h, e, Option.bind_some, hr, wr_succ (by omega)]
    have e1 : be = (bestN P B i).1 := by rw [← hn]
    have e2 : mo = (bestN P B i).2 := by rw [← hn]
    by_cases h2 : mo < (lvN P (B.g i) P.n : Int)
    · rw [if_pos h2]
      exact ih (i + 1, _, _) ⟨by simp only; omega, by simp only; rw [bestN, if_pos (by rw [← e2]; exact h2)]⟩ (by simp only; omega)
    · rw [if_neg h2]
      exact ih (i + 1, be, mo) ⟨by simp only; omega, by simp only; rw [bestN, if_neg (by rw [← e2]; exact h2)]; exact hn⟩ (by simp only; omega)
  · rw [if_neg h]
    have e : i = B.n := by omega
    subst e
    rw [← hn]
theorem LongestLived_two (P : Gr) (hPn : P.n ≤ 1048576) (B : Vec Bd) (hB : dSml B) : ∃ r, spec_LongestLived.F P B = some r ∧ impl_LongestLived.F P B = some r := by
  have hB1 := hB.1
  obtain ⟨c, e, hc⟩ := spec_WeaveOk_ok P B hB
  obtain ⟨c', e', hc'⟩ := impl_WeaveOk_ok P hPn B hB
  obtain rfl : c' = c := by rw [Bool.eq_iff_iff, hc, hc']
  rw [spec_LongestLived.F, spec_LongestLived.B, impl_LongestLived.F, impl_LongestLived.B, e, e', Option.bind_some, Option.bind_some]
  cases c' with
  | false =>
    refine ⟨-1, ?_, rfl⟩
    rw [show fuelN = (fuelN - 1) + 1 from rfl, spec_LongestLived.F0, spec_LongestLived.B0]
    simp only [sel]
    split <;> rfl
  | true =>
    have hg := (hc.1 rfl).1
    rw [spec_best_loop P hg B hB]
    simp only [Bool.not_true, sel]
    rw [impl_best_loop P hg B hB]
    exact ⟨_, rfl, rfl⟩
theorem laws_FnExactLongestLived_true (P : Gr) (B : Vec Bd) (hb : Bnd.bnd ((P, B) : Gr × Vec Bd)) : laws_FnExactLongestLived.F P B = some true := by
  rw [laws_FnExactLongestLived.F, laws_FnExactLongestLived.B]
  obtain ⟨r, hr, hr2⟩ := laws_szWeave_ok (P, B) 1048576 hb (by omega) (by omega)
  simp only at hr
  rw [hr, Option.bind_some, selb]
  split
  · rfl
  rename_i hr0
  rw [decide_eq_true_eq] at hr0
  obtain ⟨hr1, hvs⟩ := hr2 (by omega)
  obtain ⟨⟨p, b⟩, hu, hsm⟩ := laws_toWeave_ok (P, B) hvs
  simp only at hu
  have q2 := laws_eqWeave_ok (p, b) (p, b) hsm (Sim.refl _)
  simp only at q2
  obtain ⟨w, e1, e2⟩ := LongestLived_two p hsm.1.1 b (dSml_of hsm.2)
  have p1 : decide (w = w) = true := decide_eq_true rfl
  rw [hu]
  repeat (first | rw [Option.bind_some] | rw [e1] | rw [e2] | rw [q2])
  rw [p1]
  repeat (first | rw [Option.bind_some] | rw [e2] | rw [q2])
  rfl
end Go.Al
