import Derived.Test.YtahffnkphppgoaaGreatPGr
set_option linter.unusedVariables false
set_option linter.unusedSimpArgs false
set_option linter.constructorNameAsVariable false
set_option linter.unusedSectionVars false
namespace Go.Al
def Marks (s : Vec Bool) (n : Nat) (S : Nat → Prop) : Prop := s.n = n ∧ ∀ u, u < n → (s.g u = true ↔ S u)
theorem Marks.set {s : Vec Bool} {n : Nat} {S : Nat → Prop} (h : Marks s n S) (k : Nat) : Marks (s.set k true) n (fun u => S u ∨ u = k) := by
  refine ⟨h.1, fun u hu => ?_⟩
  rw [Vec.set_g]
  by_cases e : u = k
  · simp [e]
  · simp [e, h.2 u hu]
theorem Marks.congr {s : Vec Bool} {n : Nat} {S T : Nat → Prop} (h : Marks s n S) (e : ∀ u, u < n → (S u ↔ T u)) : Marks s n T := ⟨h.1, fun u hu => (h.2 u hu).trans (e u hu)⟩
theorem set_loop0 {ρ : Type} (P : Gr) (hP : P.n ≤ 40) (l : Vec Int) (hl : l.n ≤ bN) (K0 : Gr → Vec Bool → Option ρ) :
    ∃ s, spec_l05Set.F0 fuelN P l 0 (Vec.rep P.n false) K0 = K0 P s ∧ Marks s P.n (fun u => ∃ j, j < l.n ∧ l.g j = (u : Int)) := by
  have hb : bN = 140737488351232 := rfl
  refine zP (σ := Nat × Vec Bool) (fun t => l.n - t.1) (fun t => t.1 ≤ l.n ∧ Marks t.2 P.n (fun u => ∃ j, j < t.1 ∧ l.g j = (u : Int)))
    (fun _ x => ∃ s, x = K0 P s ∧ Marks s P.n (fun u => ∃ j, j < l.n ∧ l.g j = (u : Int))) (fun k t => spec_l05Set.F0 k P l (t.1 : Int) t.2 K0) ?_ fuelN (0, Vec.rep P.n false) (by simp only [fuelN]; omega)
    ⟨Nat.zero_le _, rfl, fun u hu => by simp⟩
  rintro k ⟨i, s⟩ ⟨hi, hm⟩ ih
  simp only at hi hm
  have hsn := hm.1
  simp only [spec_l05Set.F0, spec_l05Set.B0, spec_l01In_eq, selb, chkb, decide_eq_true_eq, Int.toNat_natCast, Int.ofNat_lt, Option.bind_some, Int.natCast_nonneg, true_and]
  rw [zQ (x := (P.n : Int) - 1) (by omega) (by omega)]
  by_cases h : i < l.n
  · rw [if_pos h, if_pos h, zK (by omega)]
    by_cases h2 : 0 ≤ l.g i ∧ l.g i ≤ (P.n : Int) - 1
    · rw [if_pos h2, if_pos h, if_pos (by omega), if_pos (by omega)]
      refine ih (i + 1, _) ⟨by simp only; omega, (hm.set _).congr fun u hu => ?_⟩ (by simp only; omega)
      constructor
      · rintro (⟨j, hj, e⟩ | e)
        · exact ⟨j, by omega, e⟩
        · exact ⟨i, by omega, by omega⟩
      · rintro ⟨j, hj, e⟩
        rcases Nat.lt_or_ge j i with h3 | h3
        · exact .inl ⟨j, h3, e⟩
        · obtain rfl : j = i := by omega
          exact .inr (by omega)
    · rw [if_neg h2]
      refine ih (i + 1, _) ⟨by simp only; omega, hm.congr fun u hu => ?_⟩ (by simp only; omega)
      constructor
      · rintro ⟨j, hj, e⟩
        exact ⟨j, by omega, e⟩
      · rintro ⟨j, hj, e⟩
        rcases Nat.lt_or_ge j i with h3 | h3
        · exact ⟨j, h3, e⟩
        · obtain rfl : j = i := by omega
          exact absurd ⟨by omega, by omega⟩ h2
  · rw [if_neg h]
    exact ⟨s, rfl, hm.congr fun u hu => ⟨fun ⟨j, hj, e⟩ => ⟨j, by omega, e⟩, fun ⟨j, hj, e⟩ => ⟨j, by omega, e⟩⟩⟩
theorem set_loop2 {ρ : Type} (P : Gr) (hg : zV P) (v : Nat) (hv : v < P.n) (s0 : Vec Bool) (hs : s0.n = P.n) (K4 : Gr → Int → Vec Bool → Option ρ) :
    ∃ s, spec_l05Set.F2 fuelN P (v : Int) 0 s0 K4 = K4 P v s ∧ Marks s P.n (fun u => s0.g u = true ∨ (s0.g v = true ∧ ∃ j, j < (P.g v).n ∧ (P.g v).g j = (u : Int))) := by
  have hP := hg.1
  have h4 := (hg.2 v hv).1
  refine zP (σ := Nat × Vec Bool) (fun t => (P.g v).n - t.1) (fun t => t.1 ≤ (P.g v).n ∧ Marks t.2 P.n (fun u => s0.g u = true ∨ (s0.g v = true ∧ ∃ j, j < t.1 ∧ (P.g v).g j = (u : Int))))
    (fun _ x => ∃ s, x = K4 P v s ∧ Marks s P.n (fun u => s0.g u = true ∨ (s0.g v = true ∧ ∃ j, j < (P.g v).n ∧ (P.g v).g j = (u : Int)))) (fun k t => spec_l05Set.F2 k P (v : Int) (t.1 : Int) t.2 K4) ?_ fuelN (0, s0) (by simp only [fuelN]; omega)
    ⟨Nat.zero_le _, hs, fun u hu => by simp⟩
  rintro k ⟨i, s⟩ ⟨hi, hm⟩ ih
  simp only at hi hm
  have hsn := hm.1
  have hself : s.g v = s0.g v := by
    rw [Bool.eq_iff_iff, hm.2 v hv]
    refine ⟨fun h => h.elim id fun h => h.1, .inl⟩
  simp only [spec_l05Set.F2, spec_l05Set.B2, selb, chkb, decide_eq_true_eq, Int.toNat_natCast, Int.ofNat_lt, Option.bind_some, Int.natCast_nonneg, true_and]
  rw [if_pos (by omega)]
  by_cases h : i < (P.g v).n
  · have hp := gr_par hg hv h
    rw [if_pos h, if_pos (by omega), if_pos (by omega), zK (by omega)]
    by_cases h2 : s.g v = true
    · rw [if_pos h2, if_pos (by omega), if_pos (by omega), if_pos (by omega), if_pos (by omega)]
      rw [hself] at h2
      refine ih (i + 1, _) ⟨by simp only; omega, (hm.set _).congr fun u hu => ?_⟩ (by simp only; omega)
      constructor
      · rintro ((h5 | ⟨h6, j, hj, e⟩) | e)
        · exact .inl h5
        · exact .inr ⟨h6, j, by omega, e⟩
        · exact .inr ⟨h2, i, by omega, by omega⟩
      · rintro (h5 | ⟨h6, j, hj, e⟩)
        · exact .inl (.inl h5)
        · rcases Nat.lt_or_ge j i with h3 | h3
          · exact .inl (.inr ⟨h6, j, h3, e⟩)
          · obtain rfl : j = i := by omega
            exact .inr (by omega)
    · rw [if_neg h2]
      rw [hself] at h2
      exact ⟨s, rfl, hm.congr fun u hu => ⟨fun h => h.elim .inl fun h => absurd h.1 h2, fun h => h.elim .inl fun h => absurd h.1 h2⟩⟩
  · rw [if_neg h]
    have e : i = (P.g v).n := by omega
    subst e
    exact ⟨s, rfl, hm⟩
theorem set_loop1 {ρ : Type} (P : Gr) (hg : zV P) (l : Vec Int) (s0 : Vec Bool) (h0 : Marks s0 P.n (fun u => ∃ j, j < l.n ∧ l.g j = (u : Int))) (K2 : Vec Bool → Option ρ) :
    ∃ s, spec_l05Set.F1 fuelN P ((P.n : Int) - 1) s0 K2 = K2 s ∧ Marks s P.n (ClL P l) := by
  have hP := hg.1
  refine zP (σ := Nat × Vec Bool) (fun t => t.1) (fun t => t.1 ≤ P.n ∧ t.2.n = P.n ∧ (∀ u, u < P.n → t.2.g u = true → ClL P l u) ∧ (∀ u, u < P.n → (∃ j, j < l.n ∧ l.g j = (u : Int)) → t.2.g u = true) ∧
      ∀ v, t.1 ≤ v → v < P.n → t.2.g v = true → ∀ k, k < (P.g v).n → t.2.g ((P.g v).g k).toNat = true)
    (fun _ x => ∃ s, x = K2 s ∧ Marks s P.n (ClL P l)) (fun k t => spec_l05Set.F1 k P ((t.1 : Int) - 1) t.2 K2) ?_ fuelN (P.n, s0) (by simp only [fuelN]; omega)
    ⟨Nat.le_refl _, h0.1, fun u hu h => ?_, fun u hu h => (h0.2 u hu).2 h, fun v h1 h2 => by simp only at h1; omega⟩
  · rintro k ⟨a, s⟩ ⟨ha, hsn, h1, h2, h3⟩ ih
    simp only at ha hsn h1 h2 h3
    simp only [spec_l05Set.F1, spec_l05Set.B1, selb, decide_eq_true_eq]
    by_cases h : 0 < a
    · obtain ⟨b, rfl⟩ : ∃ b, a = b + 1 := ⟨a - 1, by omega⟩
      have hbn : b < P.n := by omega
      rw [if_pos (by omega), show ((b + 1 : Nat) : Int) - 1 = (b : Int) from by omega]
      obtain ⟨s', e, hm⟩ := set_loop2 P hg b hbn s hsn (fun e21 e22 e23 => spec_l05Set.F1 k e21 (wr (e22 - (1 : Int))) e23 K2)
      rw [e, zQ (by omega) (by omega)]
      have hmono : ∀ u, u < P.n → s.g u = true → s'.g u = true := fun u hu h => (hm.2 u hu).2 (.inl h)
      refine ih (b, s') ⟨by simp only; omega, hm.1, fun u hu h4 => ?_, fun u hu h4 => hmono u hu (h2 u hu h4), fun v h4 h5 h6 j hj => ?_⟩ (by simp only; omega)
      · rcases (hm.2 u hu).1 h4 with h5 | ⟨h5, j, hj, e⟩
        · exact h1 u hu h5
        · obtain ⟨i, q1, q2, q3, q4⟩ := h1 b hbn h5
          have : ∀ {x y : Nat}, Cl P x y → y = b → Cl P x u := by
            intro x y hxy
            induction hxy with
            | self v => rintro rfl; exact .up _ j u hj (by rw [e, Int.toNat_natCast]; exact .self u)
            | up v k y hk _ ih => intro e'; exact .up v k u hk (ih e')
          exact ⟨i, q1, q2, q3, this q4 rfl⟩
      · simp only at h4 h5 h6 hj ⊢
        have hp := gr_par hg h5 hj
        rcases (hm.2 v h5).1 h6 with h7 | ⟨h7, q, hq, e'⟩
        · rcases Nat.lt_or_ge b v with h8 | h8
          · exact hmono _ (by omega) (h3 v (by omega) h5 h7 j hj)
          · obtain rfl : v = b := by omega
            exact (hm.2 _ (by omega)).2 (.inr ⟨h7, j, hj, by omega⟩)
        · have := gr_par hg hbn hq
          omega
    · obtain rfl : a = 0 := by omega
      rw [if_neg (by omega)]
      refine ⟨s, rfl, hsn, fun u hu => ⟨h1 u hu, ?_⟩⟩
      rintro ⟨i, q1, q2, q3, q4⟩
      have key : ∀ {x y : Nat}, Cl P x y → x < P.n → s.g x = true → s.g y = true := by
        intro x y hxy
        induction hxy with
        | self v => exact fun _ h => h
        | up v k y hk _ ih =>
          intro hx hs
          have hp := gr_par hg hx hk
          exact ih (by omega) (h3 v (Nat.zero_le _) hx hs k hk)
      exact key q4 (by omega) (h2 _ (by omega) ⟨i, q1, by omega⟩)
  · obtain ⟨j, hj, e⟩ := (h0.2 u hu).1 h
    exact ⟨j, hj, by omega, by omega, by rw [e, Int.toNat_natCast]; exact .self u⟩
theorem spec_l05Set_ok (P : Gr) (hg : zV P) (l : Vec Int) (hl : l.n ≤ bN) : ∃ s, spec_l05Set.F P l = some s ∧ Marks s P.n (ClL P l) := by
  have hP := hg.1
  rw [spec_l05Set.F, spec_l05Set.B]
  have m1 : mkOk (P.n : Int) 1 = true := mk_small (by decide) _ (by unfold sN; omega)
  rw [m1, decide_eq_true (show (P.n : Int) = (P.n : Int) ∧ 0 ≤ (P.n : Int) from ⟨rfl, by omega⟩)]
  simp only [chk, Int.toNat_natCast]
  obtain ⟨s0, e0, h0⟩ := set_loop0 P hP l hl (fun e01 e02 => spec_l05Set.F1 fuelN e01 (wr ((e01.n : Int) - (1 : Int))) e02 (fun e11 => some e11))
  rw [e0, zQ (by omega) (by omega)]
  obtain ⟨s, e1, h1⟩ := set_loop1 P hg l s0 h0 (fun e11 => some e11)
  exact ⟨s, e1, h1⟩
theorem ClL_one {P : Gr} {v : Nat} (hv : v < P.n) (u : Nat) : ClL P (Vec.lit [(v : Int)]) u ↔ Cl P v u := by
  constructor
  · rintro ⟨i, h1, -, -, h⟩
    obtain rfl : i = 0 := by simp at h1; omega
    have : (Vec.lit [(v : Int)] : Vec Int).g 0 = (v : Int) := rfl
    rw [this, Int.toNat_natCast] at h
    exact h
  · intro h
    have e : (Vec.lit [(v : Int)] : Vec Int).g 0 = (v : Int) := rfl
    exact ⟨0, by simp, by rw [e]; omega, by rw [e]; omega, by rw [e, Int.toNat_natCast]; exact h⟩
theorem spec_l06Closure_ok (P : Gr) (hg : zV P) (B : Vec Bd) (v : Nat) (hv : v < P.n) : ∃ s, spec_l06Closure.F P B (v : Int) = some s ∧ Marks s P.n (Cl P v) := by
  rw [spec_l06Closure.F, spec_l06Closure.B]
  obtain ⟨s, e, h⟩ := spec_l05Set_ok P hg (Vec.lit [(v : Int)]) (by show 1 ≤ _; unfold bN; omega)
  rw [e, Option.bind_some]
  exact ⟨s, rfl, h.congr fun u _ => ClL_one hv u⟩
theorem Cl_lt {P : Gr} (hg : zV P) {v u : Nat} (h : Cl P v u) (hv : v < P.n) : u < P.n := Nat.lt_of_le_of_lt (h.le hg hv) hv
theorem ClL_lt {P : Gr} (hg : zV P) {l : Vec Int} {u : Nat} (h : ClL P l u) : u < P.n := by
  obtain ⟨i, -, h1, h2, h3⟩ := h
  exact Cl_lt hg h3 (by omega)
def Bits (x : Int) (S : Nat → Prop) : Prop := r64 x ∧ ∀ u, bt x u = true ↔ S u
theorem unionOf_ok (C : Vec (IK .u64)) (T : Nat → Nat → Prop) (l : Vec Int) (hl : l.n ≤ bN) (hC : ∀ v, v < C.n → r64 (C.g v).v) (hr : ∀ i, i < l.n → 0 ≤ l.g i ∧ l.g i < (C.n : Int)) (hT : ∀ i, i < l.n → ∀ u, bt (C.g (l.g i).toNat).v u = true ↔ T (l.g i).toNat u) :
    ∃ x, impl_unionOf.F C l = some x ∧ Bits x (fun u => ∃ i, i < l.n ∧ T (l.g i).toNat u) := by
  have hb : bN = 140737488351232 := rfl
  rw [impl_unionOf.F, impl_unionOf.B]
  refine zP (σ := Nat × Int) (fun t => l.n - t.1) (fun t => t.1 ≤ l.n ∧ Bits t.2 (fun u => ∃ i, i < t.1 ∧ T (l.g i).toNat u))
    (fun _ x => ∃ y, x = some y ∧ Bits y (fun u => ∃ i, i < l.n ∧ T (l.g i).toNat u)) (fun k t => impl_unionOf.F0 k C t.2 l (l.n : Int) (t.1 : Int) (fun e01 => some e01)) ?_ fuelN (0, 0) (by simp only [fuelN]; omega)
    ⟨Nat.zero_le _, r64_zero, fun u => by simp [bt_zero]⟩
  rintro k ⟨i, x⟩ ⟨hi, hx⟩ ih
  simp only at hi hx
  simp only [impl_unionOf.F0, impl_unionOf.B0, selb, chkb, decide_eq_true_eq, Int.toNat_natCast, Int.ofNat_lt, Int.natCast_nonneg, true_and]
  by_cases h : i < l.n
  · have h1 := hr i h
    have hc := hC (l.g i).toNat (by omega)
    rw [if_pos h, if_pos h, if_pos h1, zK (by omega)]
    refine ih (i + 1, bOr .u64 x (C.g (l.g i).toNat).v) ⟨by simp only; omega, (bOr_eq hx.1 hc).1, fun u => ?_⟩ (by simp only; omega)
    simp only
    rw [bOr_bit hx.1 hc, Bool.or_eq_true, hx.2, hT i h]
    constructor
    · rintro (⟨j, hj, e⟩ | e)
      · exact ⟨j, by omega, e⟩
      · exact ⟨i, by omega, e⟩
    · rintro ⟨j, hj, e⟩
      rcases Nat.lt_or_ge j i with h3 | h3
      · exact .inl ⟨j, h3, e⟩
      · obtain rfl : j = i := by omega
        exact .inr e
  · rw [if_neg h]
    have e : i = l.n := by omega
    subst e
    exact ⟨x, rfl, hx⟩
theorem impl_closures_ok (P : Gr) (hg : zV P) : ∃ C, impl_closures.F P = some C ∧ C.n = P.n ∧ ∀ v, v < P.n → Bits (C.g v).v (Cl P v) := by
  have hb : bN = 140737488351232 := rfl
  have hP := hg.1
  rw [impl_closures.F, impl_closures.B]
  have m1 : mkOk (P.n : Int) 8 = true := mk_small (by decide) _ (by unfold sN; omega)
  rw [m1, decide_eq_true (show (P.n : Int) = (P.n : Int) ∧ 0 ≤ (P.n : Int) from ⟨rfl, by omega⟩)]
  simp only [chk, Int.toNat_natCast]
  refine zP (σ := Nat × Vec (IK .u64)) (fun t => P.n - t.1) (fun t => t.1 ≤ P.n ∧ t.2.n = P.n ∧ (∀ v, v < P.n → r64 (t.2.g v).v) ∧ ∀ v, v < t.1 → Bits (t.2.g v).v (Cl P v))
    (fun _ x => ∃ C, x = some C ∧ C.n = P.n ∧ ∀ v, v < P.n → Bits (C.g v).v (Cl P v)) (fun k t => impl_closures.F0 k P (P.n : Int) (t.1 : Int) t.2 (fun e01 => some e01)) ?_ fuelN (0, Vec.rep P.n ⟨0⟩) (by simp only [fuelN]; omega)
    ⟨Nat.zero_le _, rfl, fun v _ => by simp [r64_zero], fun v hv => absurd hv (Nat.not_lt_zero v)⟩
  rintro k ⟨i, C⟩ ⟨hi, hn, hr, hc⟩ ih
  simp only at hi hn hr hc
  simp only [impl_closures.F0, impl_closures.B0, selb, chkb, decide_eq_true_eq, Int.toNat_natCast, Int.ofNat_lt, Int.natCast_nonneg, true_and]
  by_cases h : i < P.n
  · have h4 := (hg.2 i h).1
    obtain ⟨x, e, hx⟩ := unionOf_ok C (Cl P) (P.g i) (by omega) (fun v hv => hr v (by omega)) (fun j hj => by have := gr_par hg h hj; omega) (fun j hj u => by
      have := gr_par hg h hj
      exact (hc _ (by omega)).2 u)
    obtain ⟨o1, o2⟩ := shl_one (v := i) (by omega)
    have hw : 0 ≤ IntKind.wrap .u64 (i : Int) := by rw [u64w]; omega
    rw [if_pos h, if_pos h, e]
    simp only [Option.bind_some]
    rw [if_pos hw, if_pos (by omega), if_pos (by omega), zK (by omega)]
    have ho := (bOr_eq hx.1 o1).1
    refine ih (i + 1, Vec.set C i ⟨bOr .u64 x (bShl .u64 1 (IntKind.wrap .u64 (i : Int)))⟩) ⟨by simp only; omega, hn, fun v hv => ?_, fun v hv => ?_⟩ (by simp only; omega)
    · show r64 ((Vec.set C i _).g v).v
      rw [Vec.set_g]
      split
      · exact ho
      · exact hr v hv
    · simp only at hv ⊢
      rw [Vec.set_g]
      by_cases hvi : v = i
      · subst hvi
        rw [if_pos rfl]
        refine ⟨ho, fun u => ?_⟩
        rw [bOr_bit hx.1 o1, Bool.or_eq_true, hx.2, o2, decide_eq_true_eq, Cl.iff]
        exact Or.comm
      · rw [if_neg hvi]
        exact hc v (by omega)
  · rw [if_neg h]
    exact ⟨C, rfl, hn, fun v hv => hc v (by omega)⟩
theorem impl_setOf_ok (l : Vec Int) (hl : l.n ≤ bN) : ∃ x, impl_setOf.F l = some x ∧ Bits x (fun u => u < 64 ∧ ∃ i, i < l.n ∧ l.g i = (u : Int)) := by
  have hb : bN = 140737488351232 := rfl
  rw [impl_setOf.F, impl_setOf.B]
  refine zP (σ := Nat × Int) (fun t => l.n - t.1) (fun t => t.1 ≤ l.n ∧ Bits t.2 (fun u => u < 64 ∧ ∃ i, i < t.1 ∧ l.g i = (u : Int)))
    (fun _ x => ∃ y, x = some y ∧ Bits y (fun u => u < 64 ∧ ∃ i, i < l.n ∧ l.g i = (u : Int))) (fun k t => impl_setOf.F0 k t.2 l (l.n : Int) (t.1 : Int) (fun e01 => some e01)) ?_ fuelN (0, 0) (by simp only [fuelN]; omega)
    ⟨Nat.zero_le _, r64_zero, fun u => by simp [bt_zero]⟩
  rintro k ⟨i, x⟩ ⟨hi, hx⟩ ih
  simp only at hi hx
  simp only [impl_setOf.F0, impl_setOf.B0, impl_inRange_eq, selb, chkb, decide_eq_true_eq, Int.toNat_natCast, Int.ofNat_lt, Int.natCast_nonneg, true_and, Option.bind_some]
  by_cases h : i < l.n
  · rw [if_pos h, if_pos h, zK (by omega)]
    by_cases h1 : 0 ≤ l.g i ∧ l.g i ≤ 63
    · have hw : 0 ≤ IntKind.wrap .u64 (l.g i) := by rw [u64w]; omega
      rw [if_pos h1, if_pos hw]
      obtain ⟨o1, o2⟩ := shl_one (v := (l.g i).toNat) (by omega)
      rw [show (((l.g i).toNat : Nat) : Int) = l.g i from by omega] at o1 o2
      refine ih (i + 1, bOr .u64 x (bShl .u64 1 (IntKind.wrap .u64 (l.g i)))) ⟨by simp only; omega, (bOr_eq hx.1 o1).1, fun u => ?_⟩ (by simp only; omega)
      simp only
      rw [bOr_bit hx.1 o1, Bool.or_eq_true, hx.2, o2, decide_eq_true_eq]
      constructor
      · rintro (⟨hu, j, hj, e⟩ | e)
        · exact ⟨hu, j, by omega, e⟩
        · exact ⟨by omega, i, by omega, by omega⟩
      · rintro ⟨hu, j, hj, e⟩
        rcases Nat.lt_or_ge j i with h3 | h3
        · exact .inl ⟨hu, j, h3, e⟩
        · obtain rfl : j = i := by omega
          exact .inr (by omega)
    · rw [if_neg h1]
      refine ih (i + 1, _) ⟨by simp only; omega, hx.1, fun u => ?_⟩ (by simp only; omega)
      simp only
      rw [hx.2]
      constructor
      · rintro ⟨hu, j, hj, e⟩
        exact ⟨hu, j, by omega, e⟩
      · rintro ⟨hu, j, hj, e⟩
        rcases Nat.lt_or_ge j i with h3 | h3
        · exact ⟨hu, j, h3, e⟩
        · obtain rfl : j = i := by omega
          exact absurd ⟨by omega, by omega⟩ h1
  · rw [if_neg h]
    have e : i = l.n := by omega
    subst e
    exact ⟨x, rfl, hx⟩
theorem impl_has_ok (x : Int) (S : Nat → Prop) (hx : Bits x S) (v : Int) : ∃ c, impl_set_has.F x v = some c ∧ (c = true ↔ 0 ≤ v ∧ S v.toNat) := by
  rw [impl_set_has.F, impl_set_has.B, impl_inRange_eq, Option.bind_some]
  by_cases h : 0 ≤ v ∧ v ≤ 63
  · have hw : 0 ≤ IntKind.wrap .u64 v := by rw [u64w]; omega
    rw [decide_eq_true h]
    simp only [sel, chk, decide_eq_true hw]
    obtain ⟨n, rfl⟩ : ∃ n : Nat, v = n := ⟨v.toNat, by omega⟩
    refine ⟨_, rfl, ?_⟩
    rw [has_bit hx.1 (by omega), Int.toNat_natCast, hx.2]
    exact ⟨fun h => ⟨by omega, h⟩, fun h => h.2⟩
  · rw [decide_eq_false h]
    refine ⟨false, rfl, ⟨fun h => (by cases h), fun h2 => ?_⟩⟩
    have := bt_lt hx.1 ((hx.2 _).2 h2.2)
    omega
def live (b : Bd) (S : Nat → Prop) : Prop := (0 ≤ b.2.1 ∧ S b.2.1.toNat) ∧ ∀ k, k < b.2.2.2.n → 0 ≤ b.2.2.2.g k → ¬ S (b.2.2.2.g k).toNat
theorem spec_live_ok (b : Bd) (hb' : b.2.2.2.n ≤ bN) (s : Vec Bool) (n : Nat) (hn : n ≤ 40) (S : Nat → Prop) (hs : Marks s n S) (hS : ∀ u, S u → u < n) :
    ∃ c, spec_l06Live.F b.1 b.2.1 b.2.2.1 b.2.2.2 s = some c ∧ (c = true ↔ live b S) := by
  have hb : bN = 140737488351232 := rfl
  have hsn := hs.1
  rw [spec_l06Live.F, spec_l06Live.B, spec_l01In_eq, Option.bind_some, zQ (by omega) (by omega)]
  by_cases h : 0 ≤ b.2.1 ∧ b.2.1 ≤ (s.n : Int) - 1
  · have h2 : 0 ≤ b.2.1 ∧ b.2.1 < (s.n : Int) := by omega
    rw [decide_eq_true h, decide_eq_true h2]
    simp only [sel, chk, Bool.not_true]
    cases hm : s.g b.2.1.toNat with
    | false => exact ⟨false, rfl, fun h => (by cases h), fun h3 => by have := (hs.2 _ (by omega)).2 h3.1.2; rw [hm] at this; cases this⟩
    | true =>
      have hS1 := (hs.2 _ (by omega)).1 hm
      simp only [Bool.not_true]
      rcases zT (p := fun k => 0 ≤ b.2.2.2.g k → ¬ S (b.2.2.2.g k).toNat) hb' (fun k i => spec_l06Live.F0 k s i b.1 b.2.1 b.2.2.1 b.2.2.2 (fun _ => some true) (fun x => some x)) (some true) (some false)
        (fun k i hi => by
          simp only [spec_l06Live.F0, spec_l06Live.B0, spec_l01In_eq, selb, chkb, decide_eq_true_eq, Int.toNat_natCast, Int.ofNat_lt, Option.bind_some, Int.natCast_nonneg, true_and]
          rw [zK (by omega), if_pos hi, if_pos hi, zQ (x := (s.n : Int) - 1) (by omega) (by omega)]
          by_cases h5 : 0 ≤ b.2.2.2.g i ∧ b.2.2.2.g i ≤ (s.n : Int) - 1
          · rw [if_pos h5, if_pos hi, if_pos (by omega)]
            have hq := hs.2 (b.2.2.2.g i).toNat (by omega)
            by_cases h6 : s.g (b.2.2.2.g i).toNat = true
            · rw [if_pos h6]; exact ⟨fun _ => rfl, fun h => absurd (hq.1 h6) (h h5.1)⟩
            · rw [if_neg h6]; exact ⟨fun h => absurd (fun _ h7 => h6 (hq.2 h7)) h, fun _ => rfl⟩
          · rw [if_neg h5]; exact ⟨fun h => absurd (fun h8 h7 => h5 (by have := hS _ h7; omega)) h, fun _ => rfl⟩)
        (fun k i hi => by
          simp only [spec_l06Live.F0, spec_l06Live.B0, selb, decide_eq_true_eq, Int.ofNat_lt, if_neg hi]) with ⟨h3, e⟩ | ⟨h3, e⟩
      · exact ⟨true, e, fun _ => ⟨⟨h.1, hS1⟩, h3⟩, fun _ => rfl⟩
      · exact ⟨false, e, fun h => (by cases h), fun h4 => absurd h4.2 h3⟩
  · rw [decide_eq_false h]
    exact ⟨false, rfl, fun h => (by cases h), fun h2 => by have := hS _ h2.1.2; have := h2.1.1; omega⟩
theorem impl_live_ok (b : Bd) (hb' : b.2.2.2.n ≤ bN) (x : Int) (S : Nat → Prop) (hx : Bits x S) :
    ∃ c, impl_Body_isLive.F b.1 b.2.1 b.2.2.1 b.2.2.2 x = some c ∧ (c = true ↔ live b S) := by
  rw [impl_Body_isLive.F, impl_Body_isLive.B]
  obtain ⟨c, e, hc⟩ := impl_has_ok x S hx b.2.1
  rw [e, Option.bind_some]
  cases c with
  | false => exact ⟨false, rfl, fun h => (by cases h), fun h => hc.2 h.1⟩
  | true =>
    obtain ⟨y, e2, hy⟩ := impl_setOf_ok b.2.2.2 hb'
    rw [e2]
    refine ⟨_, rfl, ?_⟩
    rw [decide_eq_true_eq, and_zero hy.1 hx.1]
    constructor
    · intro h
      refine ⟨hc.1 rfl, fun k hk h0 hS => ?_⟩
      have h1 := (hx.2 _).2 hS
      have h2 := bt_lt hx.1 h1
      exact h _ ⟨(hy.2 _).2 ⟨h2, k, hk, by omega⟩, h1⟩
    · rintro ⟨-, h⟩ u ⟨h1, h2⟩
      obtain ⟨-, k, hk, e3⟩ := (hy.2 u).1 h1
      refine h k hk (by omega) ?_
      rw [e3, Int.toNat_natCast]
      exact (hx.2 u).1 h2
end Go.Al
