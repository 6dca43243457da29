import Derived.Test.YtbpicgilplnmoaaAl39
import Derived.Test.YtbpicgilplnmoaaGDisk
set_option linter.unusedVariables false
set_option linter.unusedSimpArgs false
namespace Go.Al

theorem laws_szFile_ok (a b : ByteArray) (s : Int) (hs : s ≤ 1048576) (h0 : 0 ≤ s) (ha : a.size ≤ bN) (hb : b.size ≤ bN) : ∃ r, laws_szFile.F a b s = some r ∧ (0 ≤ r → r ≤ s) := by
  have hbN : bN = 140737488351232 := rfl
  unfold laws_szFile.F laws_szFile.B
  rw [wr_id (by omega) (by omega)]
  rw [wr_id (by omega) (by omega)]
  simp only [selb, decide_eq_true_eq]
  split
  · exact ⟨_, rfl, by omega⟩
  · split
    · exact ⟨_, rfl, by omega⟩
    · exact ⟨_, rfl, by omega⟩
theorem laws_szFileS_loop {ρ : Type} (v : Vec (ByteArray × ByteArray)) (hv : Bnd.bnd v) (K0 Kr : Int → Option ρ) : ∀ (k i : Nat) (s : Int), s ≤ 1048576 → 0 ≤ s → i ≤ v.n → v.n - i < k →
    ∃ r, (0 ≤ r → r ≤ s) ∧ (laws_szFileS.F0 k v s i K0 Kr = K0 r ∨ laws_szFileS.F0 k v s i K0 Kr = Kr r) := by
  have hb : bN = 140737488351232 := rfl
  obtain ⟨hn, hg⟩ := hv
  intro k
  induction k with
  | zero => intro i s _ _ h1 h2; omega
  | succ k ih =>
    intro i s hs hs0 h1 h2
    simp only [laws_szFileS.F0, laws_szFileS.B0, selb, chkb, decide_eq_true_eq, Int.toNat_natCast, Int.ofNat_lt]
    by_cases hi : i < v.n
    · obtain ⟨r, hr, hr2⟩ := laws_szFile_ok (v.g i).1 (v.g i).2 s hs hs0 (hg i hi).1 (hg i hi).2
      rw [if_pos hi, if_pos (by omega), hr, Option.bind_some, wr_succ (by omega)]
      split
      · exact ⟨_, by omega, .inr rfl⟩
      · obtain ⟨r', h3, h4⟩ := ih (i + 1) r (by omega) (by omega) (by omega) (by omega)
        exact ⟨r', by omega, h4⟩
    · rw [if_neg hi]
      exact ⟨_, fun h => by omega, .inl rfl⟩
theorem laws_szFileS_ok (v : Vec (ByteArray × ByteArray)) (hv : Bnd.bnd v) (s : Int) (hs : s ≤ 1048576) (hs0 : 0 ≤ s) : ∃ r, laws_szFileS.F v s = some r ∧ (0 ≤ r → v.n ≤ 1048576) := by
  have hb : bN = 140737488351232 := rfl
  have hn := hv.1
  unfold laws_szFileS.F laws_szFileS.B
  rw [wr_id (by omega) (by omega)]
  simp only [selb, decide_eq_true_eq]
  split
  · exact ⟨_, rfl, by omega⟩
  · obtain ⟨r, h2, h | h⟩ := laws_szFileS_loop v hv (fun e01 => some e01) (fun e01 => some e01) fuelN 0 (s - (v.n : Int)) (by omega) (by omega) (Nat.zero_le _) (by unfold fuelN; omega)
    · exact ⟨_, h, by omega⟩
    · exact ⟨_, h, by omega⟩
theorem laws_szDisk_ok (v : Vec (ByteArray × ByteArray)) (hv : Bnd.bnd v) (s : Int) (hs : s ≤ 1048576) (hs0 : 0 ≤ s) : ∃ r, laws_szDisk.F v s = some r ∧ (0 ≤ r → v.n ≤ 1048576) := by
  obtain ⟨r, hr, h2⟩ := laws_szFileS_ok v hv s hs hs0
  unfold laws_szDisk.F laws_szDisk.B
  rw [hr]
  simp only [Option.bind_some, selb, decide_eq_true_eq]
  split
  · exact ⟨_, rfl, by omega⟩
  · exact ⟨_, rfl, h2⟩

theorem laws_toFileS_loop {ρ : Type} (v : Vec (ByteArray × ByteArray)) (hn : v.n ≤ bN) (K0 : Vec (ByteArray × ByteArray) → Option ρ) : ∀ (k i : Nat) (u : Vec (ByteArray × ByteArray)), i ≤ v.n → v.n - i < k → u.n = v.n → (∀ j, j < i → u.g j = v.g j) →
    ∃ r, laws_toFileS.F0 k v i u K0 = K0 r ∧ Vec.Same r v := by
  have hb : bN = 140737488351232 := rfl
  intro k
  induction k with
  | zero => intro i s h1 h2; omega
  | succ k ih =>
    intro i u h1 h2 h3 h4
    simp only [laws_toFileS.F0, laws_toFileS.B0, laws_toFile.F, laws_toFile.B, selb, chkb, decide_eq_true_eq, Int.toNat_natCast, Int.ofNat_lt, Option.bind_some]
    by_cases hi : i < v.n
    · rw [if_pos hi, if_pos (by omega), if_pos (by omega), if_pos (by omega), wr_succ (by omega)]
      refine ih (i + 1) _ (by omega) (by omega) (by simpa using h3) fun j hj => ?_
      rw [Vec.set_g]
      split
      · rename_i h; rw [h]
      · exact h4 j (by omega)
    · rw [if_neg hi]
      obtain rfl : i = v.n := by omega
      exact ⟨u, rfl, h3, fun j hj => h4 j (by omega)⟩
theorem laws_toDisk_ok (v : Vec (ByteArray × ByteArray)) (hn : v.n ≤ 1048576) : ∃ r, laws_toDisk.F v = some r ∧ Vec.Same r v := by
  have hb : bN = 140737488351232 := rfl
  unfold laws_toDisk.F laws_toDisk.B laws_toFileS.F laws_toFileS.B
  simp only [Int.toNat_natCast, decide_eq_true_eq, chkb, mkOk]
  have hm : maxN = 140737488355328 := rfl
  rw [if_pos ⟨trivial, by omega⟩, if_pos (by omega)]
  obtain ⟨r, h, h2⟩ := laws_toFileS_loop v (by omega) (fun e => some e) fuelN 0 (Vec.rep v.n (ByteArray.empty, ByteArray.empty)) (Nat.zero_le _) (by unfold fuelN; omega) rfl (fun j hj => by omega)
  exact ⟨r, by rw [show ((0 : Int)) = ((0 : Nat) : Int) from rfl, h]; rfl, h2⟩

/-- One file of a disk, seen with the one ahead of it. -/
def fileGood (v : Vec (ByteArray × ByteArray)) (i : Nat) : Prop :=
  (1 ≤ (v.g i).1.size ∧ (v.g i).1.size ≤ 24) ∧ (v.g i).2.size ≤ 60004 ∧ (0 < i → (v.g (i - 1)).1.toList < (v.g i).1.toList)
theorem spec_l01In_eq (a : Int) (b c : Int) : spec_l01In.F a b c = some (decide (b ≤ a ∧ a ≤ c)) := by
  unfold spec_l01In.F spec_l01In.B
  simp only [selb, decide_eq_true_eq]
  split <;> simp [*]
theorem impl_inRange_eq (a : Int) (b c : Int) : impl_inRange.F a b c = some (decide (b ≤ a ∧ a ≤ c)) := by
  unfold impl_inRange.F impl_inRange.B
  simp only [selb, decide_eq_true_eq]
  split <;> simp [*]
theorem impl_fileOk_eq (a b : ByteArray) : impl_fileOk.F a b = some (decide ((1 ≤ a.size ∧ a.size ≤ 24) ∧ b.size ≤ 60004)) := by
  unfold impl_fileOk.F impl_fileOk.B
  rw [impl_inRange_eq]
  simp only [selb, decide_eq_true_eq, Option.bind_some]
  split <;> (congr 1; rw [Bool.eq_iff_iff]; simp only [decide_eq_true_eq, Bool.false_eq_true, false_iff]; omega)
theorem spec_DiskOk_loop {ρ : Type} (v : Vec (ByteArray × ByteArray)) (hn : v.n ≤ bN) (K0 : Unit → Option ρ) (Kr : Bool → Option ρ) :
    ((∀ j, j < v.n → fileGood v j) ∧ spec_DiskOk.F0 fuelN 0 v K0 Kr = K0 ()) ∨ (¬ (∀ j, j < v.n → fileGood v j) ∧ spec_DiskOk.F0 fuelN 0 v K0 Kr = Kr false) := by
  have hb : bN = 140737488351232 := rfl
  refine loop_inv (σ := Nat) (fun i => v.n - i) (fun i => i ≤ v.n ∧ ∀ j, j < i → fileGood v j)
    (fun _ x => ((∀ j, j < v.n → fileGood v j) ∧ x = K0 ()) ∨ (¬ (∀ j, j < v.n → fileGood v j) ∧ x = Kr false)) (fun k i => spec_DiskOk.F0 k (i : Int) v K0 Kr) ?_ fuelN 0 (by unfold fuelN; omega) ⟨Nat.zero_le _, fun j hj => by omega⟩
  intro k i ⟨hi, hg⟩ ih
  simp only [spec_DiskOk.F0, spec_DiskOk.B0, spec_l01In_eq, selb, chkb, decide_eq_true_eq, Int.toNat_natCast, Int.ofNat_lt, Option.bind_some, Bool.not_eq_true', decide_eq_false_iff_not, Int.natCast_nonneg, true_and]
  by_cases hi2 : i < v.n
  · have bad : ¬ fileGood v i → ¬ (∀ j, j < v.n → fileGood v j) := fun h h2 => h (h2 i hi2)
    have good : fileGood v i → ∀ j, j < i + 1 → fileGood v j := fun h j hj => by
      rcases Nat.lt_or_ge j i with h3 | h3
      · exact hg j h3
      · obtain rfl : j = i := by omega
        exact h
    rw [wr_succ (by omega)]
    simp only [hi2, if_true]
    unfold fileGood at bad good
    split
    · exact .inr ⟨bad (by omega), rfl⟩
    · split
      · exact .inr ⟨bad (by omega), rfl⟩
      · split
        · rw [wr_pred (by omega) (by omega), if_pos (by omega), Int.toNat_natCast]
          split
          · rename_i h4
            exact .inr ⟨bad fun h => h4 (h.2.2 (by omega)), rfl⟩
          · rename_i h4
            exact ih (i + 1) ⟨by omega, good ⟨by omega, by omega, fun _ => Decidable.not_not.1 h4⟩⟩ (by omega)
        · exact ih (i + 1) ⟨by omega, good ⟨by omega, by omega, fun h => by omega⟩⟩ (by omega)
  · rw [if_neg hi2]
    exact .inl ⟨fun j hj => hg j (by omega), rfl⟩
theorem impl_DiskOk_loop {ρ : Type} (v : Vec (ByteArray × ByteArray)) (hn : v.n ≤ bN) (K0 : Vec (ByteArray × ByteArray) → Option ρ) (Kr : Bool → Option ρ) :
    ((∀ j, j < v.n → fileGood v j) ∧ impl_DiskOk.F0 fuelN v v.n 0 v K0 Kr = K0 v) ∨ (¬ (∀ j, j < v.n → fileGood v j) ∧ impl_DiskOk.F0 fuelN v v.n 0 v K0 Kr = Kr false) := by
  have hb : bN = 140737488351232 := rfl
  refine loop_inv (σ := Nat) (fun i => v.n - i) (fun i => i ≤ v.n ∧ ∀ j, j < i → fileGood v j)
    (fun _ x => ((∀ j, j < v.n → fileGood v j) ∧ x = K0 v) ∨ (¬ (∀ j, j < v.n → fileGood v j) ∧ x = Kr false)) (fun k i => impl_DiskOk.F0 k v v.n (i : Int) v K0 Kr) ?_ fuelN 0 (by unfold fuelN; omega) ⟨Nat.zero_le _, fun j hj => by omega⟩
  intro k i ⟨hi, hg⟩ ih
  simp only [impl_DiskOk.F0, impl_DiskOk.B0, impl_fileOk_eq, selb, chkb, decide_eq_true_eq, Int.toNat_natCast, Int.ofNat_lt, Option.bind_some, Bool.not_eq_true', decide_eq_false_iff_not, Int.natCast_nonneg, true_and]
  by_cases hi2 : i < v.n
  · have bad : ¬ fileGood v i → ¬ (∀ j, j < v.n → fileGood v j) := fun h h2 => h (h2 i hi2)
    have good : fileGood v i → ∀ j, j < i + 1 → fileGood v j := fun h j hj => by
      rcases Nat.lt_or_ge j i with h3 | h3
      · exact hg j h3
      · obtain rfl : j = i := by omega
        exact h
    rw [wr_succ (by omega)]
    simp only [hi2, if_true]
    unfold fileGood at bad good
    split
    · exact .inr ⟨bad (by omega), rfl⟩
    · split
      · rw [wr_pred (by omega) (by omega), if_pos (by omega), Int.toNat_natCast]
        split
        · rename_i h4
          exact .inr ⟨bad fun h => h4 (h.2.2 (by omega)), rfl⟩
        · rename_i h4
          exact ih (i + 1) ⟨by omega, good ⟨by omega, by omega, fun _ => Decidable.not_not.1 h4⟩⟩ (by omega)
      · exact ih (i + 1) ⟨by omega, good ⟨by omega, by omega, fun h => by omega⟩⟩ (by omega)
  · rw [if_neg hi2]
    exact .inl ⟨fun j hj => hg j (by omega), rfl⟩
def diskGood (v : Vec (ByteArray × ByteArray)) : Prop := v.n ≤ 40 ∧ ∀ j, j < v.n → fileGood v j
theorem spec_DiskOk_ok (v : Vec (ByteArray × ByteArray)) (hn : v.n ≤ bN) : ∃ b, spec_DiskOk.F v = some b ∧ (b = true ↔ diskGood v) := by
  unfold spec_DiskOk.F spec_DiskOk.B diskGood
  simp only [selb, decide_eq_true_eq]
  split
  · exact ⟨false, rfl, by simp; omega⟩
  · rcases spec_DiskOk_loop v hn (fun _ => some true) (fun x => some x) with ⟨h, e⟩ | ⟨h, e⟩
    · exact ⟨true, e, by simp; exact ⟨by omega, h⟩⟩
    · exact ⟨false, e, by simp [h]⟩
theorem impl_DiskOk_ok (v : Vec (ByteArray × ByteArray)) (hn : v.n ≤ bN) : ∃ b, impl_DiskOk.F v = some b ∧ (b = true ↔ diskGood v) := by
  unfold impl_DiskOk.F impl_DiskOk.B diskGood
  rcases impl_DiskOk_loop v hn (fun e => some (decide ((e.n : Int) ≤ 40))) (fun x => some x) with ⟨h, e⟩ | ⟨h, e⟩
  · exact ⟨_, e, by rw [decide_eq_true_eq]; exact ⟨fun h' => ⟨by omega, h⟩, fun h' => by omega⟩⟩
  · exact ⟨false, e, by simp [h]⟩
theorem diskGood_same {v w : Vec (ByteArray × ByteArray)} (h : Vec.Same v w) : diskGood v ↔ diskGood w := by
  obtain ⟨h1, h2⟩ := h
  unfold diskGood
  rw [h1]
  refine and_congr_right fun _ => forall_congr' fun j => ?_
  constructor
  · intro h hj
    have := h hj
    unfold fileGood at this ⊢
    rwa [h2 j (by omega), h2 (j - 1) (by omega)] at this
  · intro h hj
    have := h hj
    unfold fileGood at this ⊢
    rwa [h2 j (by omega), h2 (j - 1) (by omega)]
theorem laws_eqFile_eq (a b : ByteArray) : laws_eqFile.F a b a b = some true := by
  unfold laws_eqFile.F laws_eqFile.B
  simp [selb]
theorem laws_eqFileS_ok (v w : Vec (ByteArray × ByteArray)) (hn : v.n ≤ bN) (h : Vec.Same v w) : laws_eqFileS.F v w = some true := by
  have hb : bN = 140737488351232 := rfl
  obtain ⟨h1, h2⟩ := h
  unfold laws_eqFileS.F laws_eqFileS.B
  rw [h1]
  simp only [selb, decide_true, Bool.not_true, Bool.false_eq_true, if_false]
  refine loop_inv (σ := Nat) (fun i => v.n - i) (fun i => i ≤ v.n) (fun _ x => x = some true) (fun k i => laws_eqFileS.F0 k v w (i : Int) (fun _ => some true) (fun x => some x)) ?_ fuelN 0 (by unfold fuelN; omega) (Nat.zero_le _)
  intro k i hi ih
  simp only [laws_eqFileS.F0, laws_eqFileS.B0, selb, chkb, decide_eq_true_eq, Int.toNat_natCast, Int.ofNat_lt, Option.bind_some, Bool.not_eq_true', decide_eq_false_iff_not, Int.natCast_nonneg, true_and]
  by_cases hi2 : i < v.n
  · have hi3 : i < w.n := by omega
    simp only [hi2, hi3, if_true, h2 i hi2, laws_eqFile_eq, Option.bind_some, wr_succ (i := i) (by omega)]
    exact ih (i + 1) hi2 (by omega)
  · rw [if_neg hi2]
theorem laws_eqDisk_ok (v w : Vec (ByteArray × ByteArray)) (hn : v.n ≤ bN) (h : Vec.Same v w) : laws_eqDisk.F v w = some true := by
  unfold laws_eqDisk.F laws_eqDisk.B
  rw [laws_eqFileS_ok v w hn h]
  rfl
end Go.Al
