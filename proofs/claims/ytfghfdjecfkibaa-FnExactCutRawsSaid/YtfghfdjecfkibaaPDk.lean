import Derived.Test.YtfghfdjecfkibaaPIns
import Derived.Test.YtfghfdjecfkibaaGPutRaw
import Derived.Test.YtfghfdjecfkibaaSPutRaw
set_option linter.unusedVariables false
set_option linter.unusedSimpArgs false
set_option linter.constructorNameAsVariable false
set_option linter.unusedSectionVars false
namespace Go.Al
/-- One file of a disk, seen with the one ahead of it. -/
def fileGood (v : Vec (ByteArray × ByteArray)) (i : Nat) : Prop :=
  (1 ≤ (v.g i).1.size ∧ (v.g i).1.size ≤ 24) ∧ (v.g i).2.size ≤ 60004 ∧ (0 < i → (v.g (i - 1)).1.toList < (v.g i).1.toList)
theorem spec_l01In_eq (a : Int) (b c : Int) : spec_l01In.F a b c = some (decide (b ≤ a ∧ a ≤ c)) := by
  unfold spec_l01In.F spec_l01In.B
  simp only [selb, decide_eq_true_eq]
  split <;> simp [*]
theorem impl_inRange_eq (a : Int) (b c : Int) : impl_inRange.F a b c = some (decide (b ≤ a ∧ a ≤ c)) := by
  unfold impl_inRange.F impl_inRange.B
  simp only [selb, decide_eq_true_eq]
  split <;> simp [*]
theorem impl_fileOk_eq (a b : ByteArray) : impl_fileOk.F a b = some (decide ((1 ≤ a.size ∧ a.size ≤ 24) ∧ b.size ≤ 60004)) := by
  unfold impl_fileOk.F impl_fileOk.B
  rw [impl_inRange_eq]
  simp only [selb, decide_eq_true_eq, Option.bind_some]
  split <;> (congr 1; rw [Bool.eq_iff_iff]; simp only [decide_eq_true_eq, Bool.false_eq_true, false_iff]; omega)
theorem spec_DiskOk_loop {ρ : Type} (v : Vec (ByteArray × ByteArray)) (hn : v.n ≤ bN) (K0 : Unit → Option ρ) (Kr : Bool → Option ρ) :
    ((∀ j, j < v.n → fileGood v j) ∧ spec_DiskOk.F0 fuelN 0 v K0 Kr = K0 ()) ∨ (¬ (∀ j, j < v.n → fileGood v j) ∧ spec_DiskOk.F0 fuelN 0 v K0 Kr = Kr false) := by
  have hb : bN = 140737488351232 := rfl
  refine loop_inv (σ := Nat) (fun i => v.n - i) (fun i => i ≤ v.n ∧ ∀ j, j < i → fileGood v j)
    (fun _ x => ((∀ j, j < v.n → fileGood v j) ∧ x = K0 ()) ∨ (¬ (∀ j, j < v.n → fileGood v j) ∧ x = Kr false)) (fun k i => spec_DiskOk.F0 k (i : Int) v K0 Kr) ?_ fuelN 0 (by unfold fuelN; omega) ⟨Nat.zero_le _, fun j hj => by omega⟩
  intro k i ⟨hi, hg⟩ ih
  simp only [spec_DiskOk.F0, spec_DiskOk.B0, spec_l01In_eq, selb, chkb, decide_eq_true_eq, Int.toNat_natCast, Int.ofNat_lt, Option.bind_some, Bool.not_eq_true', decide_eq_false_iff_not, Int.natCast_nonneg, true_and]
  by_cases hi2 : i < v.n
  · have bad : ¬ fileGood v i → ¬ (∀ j, j < v.n → fileGood v j) := fun h h2 => h (h2 i hi2)
    have good : fileGood v i → ∀ j, j < i + 1 → fileGood v j := fun h j hj => by
      rcases Nat.lt_or_ge j i with h3 | h3
      · exact hg j h3
      · obtain rfl : j = i := by omega
        exact h
    rw [wr_succ (by omega)]
    simp only [hi2, if_true]
    unfold fileGood at bad good
    split
    · exact .inr ⟨bad (by omega), rfl⟩
    · split
      · exact .inr ⟨bad (by omega), rfl⟩
      · split
        · rw [wr_pred (by omega) (by omega), if_pos (by omega), Int.toNat_natCast]
          split
          · rename_i h4
            exact .inr ⟨bad fun h => h4 (h.2.2 (by omega)), rfl⟩
          · rename_i h4
            exact ih (i + 1) ⟨by omega, good ⟨by omega, by omega, fun _ => Decidable.not_not.1 h4⟩⟩ (by omega)
        · exact ih (i + 1) ⟨by omega, good ⟨by omega, by omega, fun h => by omega⟩⟩ (by omega)
  · rw [if_neg hi2]
    exact .inl ⟨fun j hj => hg j (by omega), rfl⟩
theorem impl_DiskOk_loop {ρ : Type} (v : Vec (ByteArray × ByteArray)) (hn : v.n ≤ bN) (K0 : Vec (ByteArray × ByteArray) → Option ρ) (Kr : Bool → Option ρ) :
    ((∀ j, j < v.n → fileGood v j) ∧ impl_DiskOk.F0 fuelN v v.n 0 v K0 Kr = K0 v) ∨ (¬ (∀ j, j < v.n → fileGood v j) ∧ impl_DiskOk.F0 fuelN v v.n 0 v K0 Kr = Kr false) := by
  have hb : bN = 140737488351232 := rfl
  refine loop_inv (σ := Nat) (fun i => v.n - i) (fun i => i ≤ v.n ∧ ∀ j, j < i → fileGood v j)
    (fun _ x => ((∀ j, j < v.n → fileGood v j) ∧ x = K0 v) ∨ (¬ (∀ j, j < v.n → fileGood v j) ∧ x = Kr false)) (fun k i => impl_DiskOk.F0 k v v.n (i : Int) v K0 Kr) ?_ fuelN 0 (by unfold fuelN; omega) ⟨Nat.zero_le _, fun j hj => by omega⟩
  intro k i ⟨hi, hg⟩ ih
  simp only [impl_DiskOk.F0, impl_DiskOk.B0, impl_fileOk_eq, selb, chkb, decide_eq_true_eq, Int.toNat_natCast, Int.ofNat_lt, Option.bind_some, Bool.not_eq_true', decide_eq_false_iff_not, Int.natCast_nonneg, true_and]
  by_cases hi2 : i < v.n
  · have bad : ¬ fileGood v i → ¬ (∀ j, j < v.n → fileGood v j) := fun h h2 => h (h2 i hi2)
    have good : fileGood v i → ∀ j, j < i + 1 → fileGood v j := fun h j hj => by
      rcases Nat.lt_or_ge j i with h3 | h3
      · exact hg j h3
      · obtain rfl : j = i := by omega
        exact h
    rw [wr_succ (by omega)]
    simp only [hi2, if_true]
    unfold fileGood at bad good
    split
    · exact .inr ⟨bad (by omega), rfl⟩
    · split
      · rw [wr_pred (by omega) (by omega), if_pos (by omega), Int.toNat_natCast]
        split
        · rename_i h4
          exact .inr ⟨bad fun h => h4 (h.2.2 (by omega)), rfl⟩
        · rename_i h4
          exact ih (i + 1) ⟨by omega, good ⟨by omega, by omega, fun _ => Decidable.not_not.1 h4⟩⟩ (by omega)
      · exact ih (i + 1) ⟨by omega, good ⟨by omega, by omega, fun h => by omega⟩⟩ (by omega)
  · rw [if_neg hi2]
    exact .inl ⟨fun j hj => hg j (by omega), rfl⟩
def diskGood (v : Vec (ByteArray × ByteArray)) : Prop := v.n ≤ 40 ∧ ∀ j, j < v.n → fileGood v j
theorem spec_DiskOk_ok (v : Vec (ByteArray × ByteArray)) (hn : v.n ≤ bN) : ∃ b, spec_DiskOk.F v = some b ∧ (b = true ↔ diskGood v) := by
  unfold spec_DiskOk.F spec_DiskOk.B diskGood
  simp only [selb, decide_eq_true_eq]
  split
  · exact ⟨false, rfl, by simp; omega⟩
  · rcases spec_DiskOk_loop v hn (fun _ => some true) (fun x => some x) with ⟨h, e⟩ | ⟨h, e⟩
    · exact ⟨true, e, by simp; exact ⟨by omega, h⟩⟩
    · exact ⟨false, e, by simp [h]⟩
theorem impl_DiskOk_ok (v : Vec (ByteArray × ByteArray)) (hn : v.n ≤ bN) : ∃ b, impl_DiskOk.F v = some b ∧ (b = true ↔ diskGood v) := by
  unfold impl_DiskOk.F impl_DiskOk.B diskGood
  rcases impl_DiskOk_loop v hn (fun e => some (decide ((e.n : Int) ≤ 40))) (fun x => some x) with ⟨h, e⟩ | ⟨h, e⟩
  · exact ⟨_, e, by rw [decide_eq_true_eq]; exact ⟨fun h' => ⟨by omega, h⟩, fun h' => by omega⟩⟩
  · exact ⟨false, e, by simp [h]⟩
theorem diskGood_same {v w : Vec (ByteArray × ByteArray)} (h : Vec.Same v w) : diskGood v ↔ diskGood w := by
  obtain ⟨h1, h2⟩ := h
  unfold diskGood
  rw [h1]
  refine and_congr_right fun _ => forall_congr' fun j => ?_
  constructor
  · intro h hj
    have := h hj
    unfold fileGood at this ⊢
    rwa [h2 j (by omega), h2 (j - 1) (by omega)] at this
  · intro h hj
    have := h hj
    unfold fileGood at this ⊢
    rwa [h2 j (by omega), h2 (j - 1) (by omega)]
theorem disk_sorted {v : Vec (ByteArray × ByteArray)} (h : diskGood v) : ∀ j, j < v.n → ∀ i, i < j → bLt (v.g i).1 (v.g j).1 := by
  intro j
  induction j with
  | zero => intro _ i hi; omega
  | succ j ih =>
    intro hj i hi
    have h1 : bLt (v.g j).1 (v.g (j + 1)).1 := (h.2 (j + 1) hj).2.2 (by omega)
    rcases Nat.lt_or_ge i j with h2 | h2
    · exact bLt_trans (ih (by omega) i h2) h1
    · obtain rfl : i = j := by omega
      exact h1
theorem spec_l16At_loop {ρ : Type} (v : Vec (ByteArray × ByteArray)) (hn : v.n ≤ bN) (s : ByteArray) (K0 : Unit → Option ρ) (Kr : Int → Option ρ) :
    (spec_l16At.F0 fuelN s 0 v K0 Kr = K0 () ∧ ∀ i, i < v.n → (v.g i).1 ≠ s) ∨ ∃ i : Nat, i < v.n ∧ (v.g i).1 = s ∧ spec_l16At.F0 fuelN s 0 v K0 Kr = Kr (i : Int) := by
  have hb : bN = 140737488351232 := rfl
  refine loop_inv (σ := Nat) (fun i => v.n - i) (fun i => i ≤ v.n ∧ ∀ j, j < i → (v.g j).1 ≠ s)
    (fun _ x => (x = K0 () ∧ ∀ i, i < v.n → (v.g i).1 ≠ s) ∨ ∃ i : Nat, i < v.n ∧ (v.g i).1 = s ∧ x = Kr (i : Int))
    (fun k i => spec_l16At.F0 k s (i : Int) v K0 Kr) ?_ fuelN 0 (by unfold fuelN; omega) ⟨Nat.zero_le _, fun j hj => by omega⟩
  intro k i ⟨hi, hg⟩ ih
  simp only [spec_l16At.F0, spec_l16At.B0, selb, chkb, decide_eq_true_eq, Int.toNat_natCast, Int.ofNat_lt, Int.natCast_nonneg, true_and]
  by_cases hi2 : i < v.n
  · rw [wr_succ (by omega)]
    simp only [hi2, if_true]
    split
    · rename_i h
      exact .inr ⟨i, hi2, h, rfl⟩
    · rename_i h
      refine ih (i + 1) ⟨by omega, fun j hj => ?_⟩ (by omega)
      rcases Nat.lt_or_ge j i with h3 | h3
      · exact hg j h3
      · obtain rfl : j = i := by omega
        exact h
  · rw [if_neg hi2]
    exact .inl ⟨rfl, fun j hj => hg j (by omega)⟩
theorem spec_l16At_ok (v : Vec (ByteArray × ByteArray)) (hn : v.n ≤ bN) (s : ByteArray) :
    (spec_l16At.F v s = some (-1) ∧ ∀ i, i < v.n → (v.g i).1 ≠ s) ∨ ∃ i : Nat, i < v.n ∧ (v.g i).1 = s ∧ spec_l16At.F v s = some (i : Int) := by
  unfold spec_l16At.F spec_l16At.B
  rcases spec_l16At_loop v hn s (fun _ => some (-1)) (fun x => some x) with ⟨h, h2⟩ | ⟨i, h1, h2, h⟩
  · exact .inl ⟨h, h2⟩
  · refine .inr ⟨i, h1, h2, ?_⟩
    rw [h]
theorem impl_Disk_place_loop {ρ : Type} (v : Vec (ByteArray × ByteArray)) (hn : v.n ≤ bN) (s : ByteArray) (K0 : Vec (ByteArray × ByteArray) → ByteArray → Int → Option ρ) :
    ∃ i : Nat, i ≤ v.n ∧ (∀ j, j < i → bLt (v.g j).1 s) ∧ (i < v.n → ¬ bLt (v.g i).1 s) ∧ impl_Disk_place.F0 fuelN v s 0 K0 = K0 v s (i : Int) := by
  have hb : bN = 140737488351232 := rfl
  refine loop_inv (σ := Nat) (fun i => v.n - i) (fun i => i ≤ v.n ∧ ∀ j, j < i → bLt (v.g j).1 s)
    (fun _ x => ∃ i : Nat, i ≤ v.n ∧ (∀ j, j < i → bLt (v.g j).1 s) ∧ (i < v.n → ¬ bLt (v.g i).1 s) ∧ x = K0 v s (i : Int))
    (fun k i => impl_Disk_place.F0 k v s (i : Int) K0) ?_ fuelN 0 (by unfold fuelN; omega) ⟨Nat.zero_le _, fun j hj => by omega⟩
  intro k i ⟨hi, hg⟩ ih
  simp only [impl_Disk_place.F0, impl_Disk_place.B0, selb, chkb, decide_eq_true_eq, Int.toNat_natCast, Int.ofNat_lt, Int.natCast_nonneg, true_and]
  by_cases hi2 : i < v.n
  · rw [wr_succ (by omega)]
    simp only [hi2, if_true]
    split
    · rename_i h
      refine ih (i + 1) ⟨by omega, fun j hj => ?_⟩ (by omega)
      rcases Nat.lt_or_ge j i with h3 | h3
      · exact hg j h3
      · obtain rfl : j = i := by omega
        exact h
    · rename_i h
      exact ⟨i, hi, hg, fun _ => h, rfl⟩
  · simp only [if_neg hi2]
    exact ⟨i, hi, hg, fun h => absurd h hi2, rfl⟩
theorem impl_Disk_place_ok (v : Vec (ByteArray × ByteArray)) (hn : v.n ≤ bN) (s : ByteArray) :
    ∃ i : Nat, i ≤ v.n ∧ (∀ j, j < i → bLt (v.g j).1 s) ∧ (i < v.n → ¬ bLt (v.g i).1 s) ∧
      ((i < v.n ∧ (v.g i).1 = s ∧ impl_Disk_place.F v s = some ((i : Int), true)) ∨ (¬ (i < v.n ∧ (v.g i).1 = s) ∧ impl_Disk_place.F v s = some ((i : Int), false))) := by
  unfold impl_Disk_place.F impl_Disk_place.B
  obtain ⟨i, h1, h2, h3, h⟩ := impl_Disk_place_loop v hn s _
  refine ⟨i, h1, h2, h3, ?_⟩
  rw [h]
  simp only [selb, chkb, decide_eq_true_eq, Int.toNat_natCast, Int.ofNat_lt, Int.natCast_nonneg, true_and]
  by_cases hi2 : i < v.n
  · by_cases he : (v.g i).1 = s
    · exact .inl ⟨hi2, he, by simp [he, hi2]⟩
    · exact .inr ⟨fun h => he h.2, by simp [he, hi2]⟩
  · exact .inr ⟨fun h => hi2 h.1, by simp [hi2]⟩
end Go.Al
