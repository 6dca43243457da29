import Derived.Test.YtahffnkphppgoaaGreatPPath
set_option linter.unusedVariables false
set_option linter.unusedSimpArgs false
set_option linter.constructorNameAsVariable false
set_option linter.unusedSectionVars false
namespace Go.Al
def zU (v : Vec (ByteArray × Int × Int)) (i : Nat) : Prop :=
  pathGood (v.g i).1 ∧ (0 < i → bLt (v.g (i - 1)).1 (v.g i).1) ∧ (0 ≤ (v.g i).2.1 ∧ (v.g i).2.1 ≤ 11) ∧ (0 ≤ (v.g i).2.2 ∧ (v.g i).2.2 ≤ 39) ∧ ∀ j, j < i → (v.g j).2.1 ≠ (v.g i).2.1
def zZ (v : Vec (ByteArray × Int × Int)) : Prop := v.n ≤ 12 ∧ ∀ i, i < v.n → zU v i
theorem in_eq (x a b : Int) : spec_l01In.F x a b = some (decide (a ≤ x ∧ x ≤ b)) := by
  unfold spec_l01In.F spec_l01In.B
  simp only [selb, decide_eq_true_eq]
  split <;> simp [*]
theorem inRange_eq (x a b : Int) : impl_inRange.F x a b = some (decide (a ≤ x ∧ x ≤ b)) := by
  unfold impl_inRange.F impl_inRange.B
  simp only [selb, decide_eq_true_eq]
  split <;> simp [*]
theorem spec_NamesOk_inner {ρ : Type} (v : Vec (ByteArray × Int × Int)) (i : Nat) (hi : i < v.n) (hn : v.n ≤ bN) (p : ByteArray) (d q : Int) (K2 : Vec (ByteArray × Int × Int) → Int → Option ρ) (Kr : Bool → Option ρ) :
    ((∀ j, j < i → (v.g j).2.1 ≠ d) ∧ spec_NamesOk.F1 fuelN v i 0 p d q K2 Kr = K2 v i) ∨ (¬ (∀ j, j < i → (v.g j).2.1 ≠ d) ∧ spec_NamesOk.F1 fuelN v i 0 p d q K2 Kr = Kr false) := by
  have hb : bN = 140737488351232 := rfl
  refine zP (σ := Nat) (fun j => i - j) (fun j => j ≤ i ∧ ∀ k, k < j → (v.g k).2.1 ≠ d)
    (fun _ x => ((∀ j, j < i → (v.g j).2.1 ≠ d) ∧ x = K2 v i) ∨ (¬ (∀ j, j < i → (v.g j).2.1 ≠ d) ∧ x = Kr false)) (fun k j => spec_NamesOk.F1 k v i (j : Int) p d q K2 Kr) ?_ fuelN 0 (by unfold fuelN; omega) ⟨Nat.zero_le _, fun j hj => by omega⟩
  intro k j ⟨hj, hg⟩ ih
  simp only [spec_NamesOk.F1, spec_NamesOk.B1, selb, chkb, decide_eq_true_eq, Int.toNat_natCast, Int.ofNat_lt, Int.natCast_nonneg, true_and]
  by_cases hj2 : j < i
  · rw [zK (by omega)]
    have hjn : j < v.n := by omega
    simp only [hj2, hjn, if_true]
    split
    · rename_i h
      exact .inr ⟨fun h2 => h2 j hj2 h, rfl⟩
    · rename_i h
      refine ih (j + 1) ⟨by omega, fun k hk => ?_⟩ (by omega)
      rcases Nat.lt_or_ge k j with h3 | h3
      · exact hg k h3
      · obtain rfl : k = j := by omega
        exact h
  · rw [if_neg hj2]
    exact .inl ⟨fun k hk => hg k (by omega), rfl⟩
theorem spec_NamesOk_loop {ρ : Type} (v : Vec (ByteArray × Int × Int)) (hv : Sml.sml v) (K0 : Unit → Option ρ) (Kr : Bool → Option ρ) :
    ((∀ i, i < v.n → zU v i) ∧ spec_NamesOk.F0 fuelN v 0 K0 Kr = K0 ()) ∨ (¬ (∀ i, i < v.n → zU v i) ∧ spec_NamesOk.F0 fuelN v 0 K0 Kr = Kr false) := by
  have hb : bN = 140737488351232 := rfl
  have hs : sN = 1048576 := rfl
  obtain ⟨hn, he⟩ := hv
  refine zP (σ := Nat) (fun i => v.n - i) (fun i => i ≤ v.n ∧ ∀ j, j < i → zU v j)
    (fun _ x => ((∀ i, i < v.n → zU v i) ∧ x = K0 ()) ∨ (¬ (∀ i, i < v.n → zU v i) ∧ x = Kr false)) (fun k i => spec_NamesOk.F0 k v (i : Int) K0 Kr) ?_ fuelN 0 (by unfold fuelN; omega) ⟨Nat.zero_le _, fun j hj => by omega⟩
  intro k i ⟨hi, hg⟩ ih
  by_cases hi2 : i < v.n
  · have bad : ¬ zU v i → ¬ (∀ j, j < v.n → zU v j) := fun h h2 => h (h2 i hi2)
    have good : zU v i → ∀ j, j < i + 1 → zU v j := fun h j hj => by
      rcases Nat.lt_or_ge j i with h3 | h3
      · exact hg j h3
      · obtain rfl : j = i := by omega
        exact h
    obtain ⟨b, hp, hpb⟩ := spec_PathOk_ok (v.g i).1 (by have : (v.g i).1.size ≤ sN := (he i hi2).1; omega)
    simp only [spec_NamesOk.F0, spec_NamesOk.B0, in_eq, hp, selb, chkb, decide_eq_true_eq, Int.toNat_natCast, Int.ofNat_lt, Option.bind_some, Bool.not_eq_true', decide_eq_false_iff_not, Int.natCast_nonneg, true_and, hi2, if_true]
    cases b with
    | false =>
      simp only [if_true]
      exact .inr ⟨bad fun h => by simpa using hpb.2 h.1, trivial⟩
    | true =>
      have hpg := hpb.1 rfl
      have tail : ∀ (h2 : 0 < i → bLt (v.g (i - 1)).1 (v.g i).1),
        (((∀ i, i < v.n → zU v i) ∧ (if ¬ (0 ≤ (v.g i).2.1 ∧ (v.g i).2.1 ≤ 11) then Kr false else if ¬ (0 ≤ (v.g i).2.2 ∧ (v.g i).2.2 ≤ 39) then Kr false else
          spec_NamesOk.F1 fuelN v (i : Int) 0 (v.g i).1 (v.g i).2.1 (v.g i).2.2 (fun e11 e12 => spec_NamesOk.F0 k e11 (wr (e12 + 1)) K0 Kr) (fun x11 => Kr x11)) = K0 ()) ∨
        (¬ (∀ i, i < v.n → zU v i) ∧ (if ¬ (0 ≤ (v.g i).2.1 ∧ (v.g i).2.1 ≤ 11) then Kr false else if ¬ (0 ≤ (v.g i).2.2 ∧ (v.g i).2.2 ≤ 39) then Kr false else
          spec_NamesOk.F1 fuelN v (i : Int) 0 (v.g i).1 (v.g i).2.1 (v.g i).2.2 (fun e11 e12 => spec_NamesOk.F0 k e11 (wr (e12 + 1)) K0 Kr) (fun x11 => Kr x11)) = Kr false)) := by
        intro h2
        by_cases h3 : 0 ≤ (v.g i).2.1 ∧ (v.g i).2.1 ≤ 11
        · by_cases h4 : 0 ≤ (v.g i).2.2 ∧ (v.g i).2.2 ≤ 39
          · rw [if_neg (not_not_intro h3), if_neg (not_not_intro h4)]
            rcases spec_NamesOk_inner v i hi2 (by omega) (v.g i).1 (v.g i).2.1 (v.g i).2.2 (fun e11 e12 => spec_NamesOk.F0 k e11 (wr (e12 + 1)) K0 Kr) (fun x11 => Kr x11) with ⟨h5, e⟩ | ⟨h5, e⟩
            · rw [e, zK (by omega)]
              exact ih (i + 1) ⟨hi2, good ⟨hpg, h2, h3, h4, h5⟩⟩ (by omega)
            · rw [e]
              exact .inr ⟨bad fun h => h5 h.2.2.2.2, rfl⟩
          · rw [if_neg (not_not_intro h3), if_pos h4]
            exact .inr ⟨bad fun h => h4 h.2.2.2.1, rfl⟩
        · rw [if_pos h3]
          exact .inr ⟨bad fun h => h3 h.2.2.1, rfl⟩
      simp only [Bool.true_eq_false, if_false]
      by_cases h0 : 0 < i
      · have e0 : (0 : Int) < i := by omega
        have e1 : i - 1 < v.n := by omega
        simp only [e0, wr_pred h0 (by omega : i < 4611686018427387904), Int.toNat_natCast, Int.ofNat_lt, Int.natCast_nonneg, e1, true_and, if_true]
        by_cases h2 : (v.g (i - 1)).1.toList < (v.g i).1.toList
        · rw [if_neg (not_not_intro h2)]
          exact tail fun _ => h2
        · rw [if_pos h2]
          exact .inr ⟨bad fun h => h2 (h.2.1 h0), rfl⟩
      · have e0 : ¬ (0 : Int) < i := by omega
        simp only [e0, if_false]
        exact tail fun h => absurd h h0
  · simp only [spec_NamesOk.F0, spec_NamesOk.B0, selb, decide_eq_true_eq, Int.ofNat_lt]
    rw [if_neg hi2]
    exact .inl ⟨fun j hj => hg j (by omega), rfl⟩
def isFirst (p : Nat → Prop) (n : Nat) (r : Int) : Prop := (r = -1 ∧ ∀ j, j < n → ¬ p j) ∨ ∃ i : Nat, r = i ∧ i < n ∧ p i ∧ ∀ j, j < i → ¬ p j
theorem idAt_loop {ρ : Type} (v : Vec (ByteArray × Int × Int)) (hn : v.n ≤ bN) (d : Int) (K0 : Int → Option ρ) (Kr : Int → Int → Option ρ) :
    ((∀ j, j < v.n → (v.g j).2.1 ≠ d) ∧ slices_IndexFunc_impl_Name_sf709.F0 fuelN v v.n 0 d K0 Kr = K0 d) ∨ (∃ i : Nat, i < v.n ∧ (v.g i).2.1 = d ∧ (∀ j, j < i → (v.g j).2.1 ≠ d) ∧ slices_IndexFunc_impl_Name_sf709.F0 fuelN v v.n 0 d K0 Kr = Kr i d) := by
  have hb : bN = 140737488351232 := rfl
  refine zP (σ := Nat) (fun i => v.n - i) (fun i => i ≤ v.n ∧ ∀ j, j < i → (v.g j).2.1 ≠ d)
    (fun _ x => ((∀ j, j < v.n → (v.g j).2.1 ≠ d) ∧ x = K0 d) ∨ (∃ i : Nat, i < v.n ∧ (v.g i).2.1 = d ∧ (∀ j, j < i → (v.g j).2.1 ≠ d) ∧ x = Kr i d)) (fun k i => slices_IndexFunc_impl_Name_sf709.F0 k v v.n (i : Int) d K0 Kr) ?_ fuelN 0 (by unfold fuelN; omega) ⟨Nat.zero_le _, fun j hj => by omega⟩
  intro k i ⟨hi, hg⟩ ih
  simp only [slices_IndexFunc_impl_Name_sf709.F0, slices_IndexFunc_impl_Name_sf709.B0, impl_idAt_1_s0fda.F, impl_idAt_1_s0fda.B, selb, chkb, decide_eq_true_eq, Option.bind_some, Int.toNat_natCast, Int.ofNat_lt, Int.natCast_nonneg, true_and]
  by_cases hi2 : i < v.n
  · rw [zK (by omega)]
    simp only [hi2, if_true]
    split
    · rename_i h
      exact .inr ⟨i, hi2, h, hg, rfl⟩
    · rename_i h
      refine ih (i + 1) ⟨by omega, fun k hk => ?_⟩ (by omega)
      rcases Nat.lt_or_ge k i with h3 | h3
      · exact hg k h3
      · obtain rfl : k = i := by omega
        exact h
  · rw [if_neg hi2]
    exact .inl ⟨fun k hk => hg k (by omega), rfl⟩
theorem impl_idAt_ok (v : Vec (ByteArray × Int × Int)) (hn : v.n ≤ bN) (d : Int) : ∃ r, impl_idAt.F v d = some r ∧ isFirst (fun i => (v.g i).2.1 = d) v.n r := by
  unfold impl_idAt.F impl_idAt.B slices_IndexFunc_impl_Name_sf709.F slices_IndexFunc_impl_Name_sf709.B
  rcases idAt_loop v hn d (fun e01 => some ((-1 : Int), e01)) (fun x01 x02 => some (x01, x02)) with ⟨h, e⟩ | ⟨i, h1, h2, h3, e⟩
  · exact ⟨-1, by rw [e]; rfl, .inl ⟨rfl, h⟩⟩
  · exact ⟨i, by rw [e]; rfl, .inr ⟨i, rfl, h1, h2, h3⟩⟩
theorem impl_NamesOk_loop {ρ : Type} (v : Vec (ByteArray × Int × Int)) (hv : Sml.sml v) (K0 : Unit → Option ρ) (Kr : Bool → Option ρ) :
    ((∀ i, i < v.n → zU v i) ∧ impl_NamesOk.F0 fuelN v v v.n 0 K0 Kr = K0 ()) ∨ (¬ (∀ i, i < v.n → zU v i) ∧ impl_NamesOk.F0 fuelN v v v.n 0 K0 Kr = Kr false) := by
  have hb : bN = 140737488351232 := rfl
  have hs : sN = 1048576 := rfl
  obtain ⟨hn, he⟩ := hv
  refine zP (σ := Nat) (fun i => v.n - i) (fun i => i ≤ v.n ∧ ∀ j, j < i → zU v j)
    (fun _ x => ((∀ i, i < v.n → zU v i) ∧ x = K0 ()) ∨ (¬ (∀ i, i < v.n → zU v i) ∧ x = Kr false)) (fun k i => impl_NamesOk.F0 k v v v.n (i : Int) K0 Kr) ?_ fuelN 0 (by unfold fuelN; omega) ⟨Nat.zero_le _, fun j hj => by omega⟩
  intro k i ⟨hi, hg⟩ ih
  by_cases hi2 : i < v.n
  · have bad : ¬ zU v i → ¬ (∀ j, j < v.n → zU v j) := fun h h2 => h (h2 i hi2)
    have good : zU v i → ∀ j, j < i + 1 → zU v j := fun h j hj => by
      rcases Nat.lt_or_ge j i with h3 | h3
      · exact hg j h3
      · obtain rfl : j = i := by omega
        exact h
    obtain ⟨b, hp, hpb⟩ := impl_PathOk_ok (v.g i).1 (he i hi2).1
    obtain ⟨r, hr, hrf⟩ := impl_idAt_ok v (by omega) (v.g i).2.1
    have hri : r = i ↔ ∀ j, j < i → (v.g j).2.1 ≠ (v.g i).2.1 := by
      rcases hrf with ⟨-, h⟩ | ⟨q, rfl, h1, h2, h3⟩
      · exact absurd rfl (h i hi2)
      · constructor
        · intro h
          obtain rfl : q = i := by omega
          exact h3
        · intro h
          rcases Nat.lt_trichotomy q i with hlt | rfl | hlt
          · exact absurd h2 (h q hlt)
          · rfl
          · exact absurd rfl (h3 i hlt)
    simp only [impl_NamesOk.F0, impl_NamesOk.B0, inRange_eq, hp, hr, selb, chkb, decide_eq_true_eq, Int.toNat_natCast, Int.ofNat_lt, Option.bind_some, Bool.not_eq_true', decide_eq_false_iff_not, Int.natCast_nonneg, true_and, hi2, if_true]
    rw [zK (by omega)]
    cases b with
    | false =>
      simp only [if_true]
      exact .inr ⟨bad fun h => by simpa using hpb.2 h.1, trivial⟩
    | true =>
      have hpg := hpb.1 rfl
      simp only [Bool.true_eq_false, if_false]
      split
      · rename_i h
        exact .inr ⟨bad fun h' => h h'.2.2.1, rfl⟩
      rename_i h3
      split
      · rename_i h
        exact .inr ⟨bad fun h' => h h'.2.2.2.1, rfl⟩
      rename_i h4
      by_cases h0 : 0 < i
      · have e0 : (0 : Int) < i := by omega
        have e1 : i - 1 < v.n := by omega
        simp only [e0, wr_pred h0 (by omega : i < 4611686018427387904), Int.toNat_natCast, Int.ofNat_lt, Int.natCast_nonneg, e1, true_and, if_true]
        by_cases h2 : (v.g (i - 1)).1.toList < (v.g i).1.toList
        · rw [if_neg (not_not_intro h2)]
          split
          · rename_i h
            exact .inr ⟨bad fun h' => h (hri.2 h'.2.2.2.2), rfl⟩
          · rename_i h
            exact ih (i + 1) ⟨hi2, good ⟨hpg, fun _ => h2, Decidable.not_not.1 h3, Decidable.not_not.1 h4, hri.1 (Decidable.not_not.1 h)⟩⟩ (by omega)
        · rw [if_pos h2]
          exact .inr ⟨bad fun h => h2 (h.2.1 h0), rfl⟩
      · have e0 : ¬ (0 : Int) < i := by omega
        simp only [e0, if_false]
        split
        · rename_i h
          exact .inr ⟨bad fun h' => h (hri.2 h'.2.2.2.2), rfl⟩
        · rename_i h
          exact ih (i + 1) ⟨hi2, good ⟨hpg, fun h => absurd h h0, Decidable.not_not.1 h3, Decidable.not_not.1 h4, hri.1 (Decidable.not_not.1 h)⟩⟩ (by omega)
  · simp only [impl_NamesOk.F0, impl_NamesOk.B0, selb, decide_eq_true_eq, Int.ofNat_lt]
    rw [if_neg hi2]
    exact .inl ⟨fun j hj => hg j (by omega), rfl⟩
theorem spec_NamesOk_ok (v : Vec (ByteArray × Int × Int)) (hv : Sml.sml v) : ∃ b, spec_NamesOk.F v = some b ∧ (b = true ↔ zZ v) := by
  unfold spec_NamesOk.F spec_NamesOk.B zZ
  simp only [selb, decide_eq_true_eq]
  split
  · exact ⟨false, rfl, by simp; omega⟩
  · rcases spec_NamesOk_loop v hv (fun _ => some true) (fun x => some x) with ⟨h, e⟩ | ⟨h, e⟩
    · exact ⟨true, by rw [e], by simp; exact ⟨by omega, h⟩⟩
    · exact ⟨false, by rw [e], by simp only [Bool.false_eq_true, false_iff]; exact fun h' => h h'.2⟩
theorem impl_NamesOk_ok (v : Vec (ByteArray × Int × Int)) (hv : Sml.sml v) : ∃ b, impl_NamesOk.F v = some b ∧ (b = true ↔ zZ v) := by
  unfold impl_NamesOk.F impl_NamesOk.B zZ
  simp only [selb, decide_eq_true_eq]
  split
  · exact ⟨false, rfl, by simp; omega⟩
  · rcases impl_NamesOk_loop v hv (fun _ => some true) (fun x => some x) with ⟨h, e⟩ | ⟨h, e⟩
    · exact ⟨true, by rw [e], by simp; exact ⟨by omega, h⟩⟩
    · exact ⟨false, by rw [e], by simp only [Bool.false_eq_true, false_iff]; exact fun h' => h h'.2⟩
end Go.Al
