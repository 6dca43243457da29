import Derived.Test.YtbpicgilplnmoaaPDisk
import Derived.Test.YtbpicgilplnmoaaGFileAt
set_option linter.unusedVariables false
set_option linter.unusedSimpArgs false
namespace Go.Al

theorem disk_sorted {v : Vec (ByteArray × ByteArray)} (h : diskGood v) : ∀ j, j < v.n → ∀ i, i < j → bLt (v.g i).1 (v.g j).1 := by
  intro j
  induction j with
  | zero => intro _ i hi; omega
  | succ j ih =>
    intro hj i hi
    have h1 : bLt (v.g j).1 (v.g (j + 1)).1 := (h.2 (j + 1) hj).2.2 (by omega)
    rcases Nat.lt_or_ge i j with h2 | h2
    · exact bLt_trans (ih (by omega) i h2) h1
    · obtain rfl : i = j := by omega
      exact h1
theorem spec_l16At_loop {ρ : Type} (v : Vec (ByteArray × ByteArray)) (hn : v.n ≤ bN) (s : ByteArray) (K0 : Unit → Option ρ) (Kr : Int → Option ρ) :
    (spec_l16At.F0 fuelN s 0 v K0 Kr = K0 () ∧ ∀ i, i < v.n → (v.g i).1 ≠ s) ∨ ∃ i : Nat, i < v.n ∧ (v.g i).1 = s ∧ spec_l16At.F0 fuelN s 0 v K0 Kr = Kr (i : Int) := by
  have hb : bN = 140737488351232 := rfl
  refine loop_inv (σ := Nat) (fun i => v.n - i) (fun i => i ≤ v.n ∧ ∀ j, j < i → (v.g j).1 ≠ s)
    (fun _ x => (x = K0 () ∧ ∀ i, i < v.n → (v.g i).1 ≠ s) ∨ ∃ i : Nat, i < v.n ∧ (v.g i).1 = s ∧ x = Kr (i : Int))
    (fun k i => spec_l16At.F0 k s (i : Int) v K0 Kr) ?_ fuelN 0 (by unfold fuelN; omega) ⟨Nat.zero_le _, fun j hj => by omega⟩
  intro k i ⟨hi, hg⟩ ih
  simp only [spec_l16At.F0, spec_l16At.B0, selb, chkb, decide_eq_true_eq, Int.toNat_natCast, Int.ofNat_lt, Int.natCast_nonneg, true_and]
  by_cases hi2 : i < v.n
  · rw [wr_succ (by omega)]
    simp only [hi2, if_true]
    split
    · rename_i h
      exact .inr ⟨i, hi2, h, rfl⟩
    · rename_i h
      refine ih (i + 1) ⟨by omega, fun j hj => ?_⟩ (by omega)
      rcases Nat.lt_or_ge j i with h3 | h3
      · exact hg j h3
      · obtain rfl : j = i := by omega
        exact h
  · rw [if_neg hi2]
    exact .inl ⟨rfl, fun j hj => hg j (by omega)⟩
theorem spec_l16At_ok (v : Vec (ByteArray × ByteArray)) (hn : v.n ≤ bN) (s : ByteArray) :
    (spec_l16At.F v s = some (-1) ∧ ∀ i, i < v.n → (v.g i).1 ≠ s) ∨ ∃ i : Nat, i < v.n ∧ (v.g i).1 = s ∧ spec_l16At.F v s = some (i : Int) := by
  unfold spec_l16At.F spec_l16At.B
  rcases spec_l16At_loop v hn s (fun _ => some (-1)) (fun x => some x) with ⟨h, h2⟩ | ⟨i, h1, h2, h⟩
  · exact .inl ⟨h, h2⟩
  · refine .inr ⟨i, h1, h2, ?_⟩
    rw [h]
theorem impl_Disk_place_loop {ρ : Type} (v : Vec (ByteArray × ByteArray)) (hn : v.n ≤ bN) (s : ByteArray) (K0 : Vec (ByteArray × ByteArray) → ByteArray → Int → Option ρ) :
    ∃ i : Nat, i ≤ v.n ∧ (∀ j, j < i → bLt (v.g j).1 s) ∧ (i < v.n → ¬ bLt (v.g i).1 s) ∧ impl_Disk_place.F0 fuelN v s 0 K0 = K0 v s (i : Int) := by
  have hb : bN = 140737488351232 := rfl
  refine loop_inv (σ := Nat) (fun i => v.n - i) (fun i => i ≤ v.n ∧ ∀ j, j < i → bLt (v.g j).1 s)
    (fun _ x => ∃ i : Nat, i ≤ v.n ∧ (∀ j, j < i → bLt (v.g j).1 s) ∧ (i < v.n → ¬ bLt (v.g i).1 s) ∧ x = K0 v s (i : Int))
    (fun k i => impl_Disk_place.F0 k v s (i : Int) K0) ?_ fuelN 0 (by unfold fuelN; omega) ⟨Nat.zero_le _, fun j hj => by omega⟩
  intro k i ⟨hi, hg⟩ ih
  simp only [impl_Disk_place.F0, impl_Disk_place.B0, selb, chkb, decide_eq_true_eq, Int.toNat_natCast, Int.ofNat_lt, Int.natCast_nonneg, true_and]
  by_cases hi2 : i < v.n
  · rw [wr_succ (by omega)]
    simp only [hi2, if_true]
    split
    · rename_i h
      refine ih (i + 1) ⟨by omega, fun j hj => ?_⟩ (by omega)
      rcases Nat.lt_or_ge j i with h3 | h3
      · exact hg j h3
      · obtain rfl : j = i := by omega
        exact h
    · rename_i h
      exact ⟨i, hi, hg, fun _ => h, rfl⟩
  · simp only [if_neg hi2]
    exact ⟨i, hi, hg, fun h => absurd h hi2, rfl⟩
theorem impl_Disk_place_ok (v : Vec (ByteArray × ByteArray)) (hn : v.n ≤ bN) (s : ByteArray) :
    ∃ i : Nat, i ≤ v.n ∧ (∀ j, j < i → bLt (v.g j).1 s) ∧ (i < v.n → ¬ bLt (v.g i).1 s) ∧
      ((i < v.n ∧ (v.g i).1 = s ∧ impl_Disk_place.F v s = some ((i : Int), true)) ∨ (¬ (i < v.n ∧ (v.g i).1 = s) ∧ impl_Disk_place.F v s = some ((i : Int), false))) := by
  unfold impl_Disk_place.F impl_Disk_place.B
  obtain ⟨i, h1, h2, h3, h⟩ := impl_Disk_place_loop v hn s _
  refine ⟨i, h1, h2, h3, ?_⟩
  rw [h]
  simp only [selb, chkb, decide_eq_true_eq, Int.toNat_natCast, Int.ofNat_lt, Int.natCast_nonneg, true_and]
  by_cases hi2 : i < v.n
  · by_cases he : (v.g i).1 = s
    · exact .inl ⟨hi2, he, by simp [he, hi2]⟩
    · exact .inr ⟨fun h => he h.2, by simp [he, hi2]⟩
  · exact .inr ⟨fun h => hi2 h.1, by simp [hi2]⟩
/-- What FileAt answers. -/
def fileAt (v : Vec (ByteArray × ByteArray)) (s : ByteArray) (x : ByteArray × Bool) : Prop :=
  (diskGood v ∧ ∃ i, i < v.n ∧ (v.g i).1 = s ∧ x = ((v.g i).2, true)) ∨ (¬ (diskGood v ∧ ∃ i, i < v.n ∧ (v.g i).1 = s) ∧ x = (ByteArray.empty, false))
theorem fileAt_one {v : Vec (ByteArray × ByteArray)} {s : ByteArray} {x y : ByteArray × Bool} (h : fileAt v s x) (h2 : fileAt v s y) : x = y := by
  rcases h with ⟨h, i, hi, e, rfl⟩ | ⟨h, rfl⟩ <;> rcases h2 with ⟨h', j, hj, e', rfl⟩ | ⟨h', rfl⟩
  · rcases Nat.lt_trichotomy i j with hlt | rfl | hlt
    · have := disk_sorted h j hj i hlt
      rw [e, e'] at this
      exact absurd this bLt_irrefl
    · rfl
    · have := disk_sorted h i hi j hlt
      rw [e, e'] at this
      exact absurd this bLt_irrefl
  · exact absurd ⟨h, i, hi, e⟩ h'
  · exact absurd ⟨h', j, hj, e'⟩ h
  · rfl
theorem spec_FileAt_ok (v : Vec (ByteArray × ByteArray)) (hn : v.n ≤ bN) (s : ByteArray) : ∃ x, spec_FileAt.F v s = some x ∧ fileAt v s x := by
  obtain ⟨b, hb, hb2⟩ := spec_DiskOk_ok v hn
  unfold spec_FileAt.F spec_FileAt.B
  rcases spec_l16At_ok v hn s with ⟨h, hno⟩ | ⟨i, hi, he, h⟩
  · refine ⟨(ByteArray.empty, false), ?_, .inr ⟨fun ⟨_, i, hi, he⟩ => hno i hi he, rfl⟩⟩
    rw [h, hb]
    cases b <;> rfl
  · rw [h, hb]
    cases b with
    | false =>
      exact ⟨_, rfl, .inr ⟨fun h => by simpa using hb2.2 h.1, rfl⟩⟩
    | true =>
      refine ⟨((v.g i).2, true), ?_, .inl ⟨hb2.1 rfl, i, hi, he, rfl⟩⟩
      simp only [Option.bind_some, selb, chkb, decide_eq_true_eq, Bool.not_true, Bool.false_eq_true, if_false, Int.toNat_natCast]
      rw [if_neg (by omega), if_pos (by omega)]
theorem impl_Disk_text_ok (v : Vec (ByteArray × ByteArray)) (hn : v.n ≤ bN) (s : ByteArray) (hd : diskGood v) : ∃ x, impl_Disk_text.F v s = some x ∧ fileAt v s x := by
  unfold impl_Disk_text.F impl_Disk_text.B
  obtain ⟨i, h1, h2, h3, ⟨hi, he, h⟩ | ⟨hno, h⟩⟩ := impl_Disk_place_ok v hn s
  · refine ⟨((v.g i).2, true), ?_, .inl ⟨hd, i, hi, he, rfl⟩⟩
    rw [h]
    simp only [Option.bind_some, selb, chkb, decide_eq_true_eq, Bool.not_true, Bool.false_eq_true, if_false, Int.toNat_natCast]
    rw [if_pos (by omega)]
  · refine ⟨(ByteArray.empty, false), ?_, .inr ⟨fun ⟨_, j, hj, he⟩ => ?_, rfl⟩⟩
    · rw [h]; rfl
    · rcases Nat.lt_trichotomy j i with hlt | rfl | hlt
      · have := h2 j hlt
        rw [he] at this
        exact bLt_irrefl this
      · exact hno ⟨hj, he⟩
      · have h4 := h3 (by omega)
        have h5 := disk_sorted hd j hj i hlt
        rw [he] at h5
        exact h4 h5
theorem impl_FileAt_ok (v : Vec (ByteArray × ByteArray)) (hn : v.n ≤ bN) (s : ByteArray) : ∃ x, impl_FileAt.F v s = some x ∧ fileAt v s x := by
  obtain ⟨b, hb, hb2⟩ := impl_DiskOk_ok v hn
  unfold impl_FileAt.F impl_FileAt.B
  rw [hb]
  cases b with
  | false => exact ⟨_, rfl, .inr ⟨fun h => by simpa using hb2.2 h.1, rfl⟩⟩
  | true =>
    obtain ⟨x, hx, h⟩ := impl_Disk_text_ok v hn s (hb2.1 rfl)
    exact ⟨x, by rw [Option.bind_some, hx]; rfl, h⟩
theorem laws_FnExactFileAt_true (v : Vec (ByteArray × ByteArray)) (s : ByteArray) (hv : Bnd.bnd v) (hs : Bnd.bnd s) : laws_FnExactFileAt.F v s = some true := by
  have hb : bN = 140737488351232 := rfl
  unfold laws_FnExactFileAt.F laws_FnExactFileAt.B
  obtain ⟨r, hr, hr2⟩ := laws_szDisk_ok v hv 1048576 (by omega) (by omega)
  rw [hr]
  simp only [Option.bind_some, selb, decide_eq_true_eq]
  split
  · rfl
  split
  · rfl
  · have hn := hr2 (by omega)
    obtain ⟨u, hu, hsm⟩ := laws_toDisk_ok v hn
    have hun : u.n ≤ bN := by rw [hsm.1]; omega
    obtain ⟨x, e1, h1⟩ := spec_FileAt_ok u hun s
    obtain ⟨y, e2, h2⟩ := impl_FileAt_ok u hun s
    obtain rfl := fileAt_one h1 h2
    simp [hu, e1, e2, laws_eqDisk_ok u u hun ⟨rfl, fun _ _ => rfl⟩]
end Go.Al
