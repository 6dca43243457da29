import Derived.Test.YtbhcecfdgkgjmaaAlI
import Derived.Test.YtbhcecfdgkgjmaaPIns
import Derived.Test.YtbhcecfdgkgjmaaGPutRaw
set_option linter.unusedVariables false
set_option linter.unusedSimpArgs false
namespace Go.Al
/-- One file of a disk, seen with the one ahead of it. -/
def fileGood (v : Vec (ByteArray × ByteArray)) (i : Nat) : Prop :=
  (1 ≤ (v.g i).1.size ∧ (v.g i).1.size ≤ 24) ∧ (v.g i).2.size ≤ 60004 ∧ (0 < i → (v.g (i - 1)).1.toList < (v.g i).1.toList)
theorem spec_l01In_eq (a : Int) (b c : Int) : spec_l01In.F a b c = some (decide (b ≤ a ∧ a ≤ c)) := by
  unfold spec_l01In.F spec_l01In.B
  simp only [selb, decide_eq_true_eq]
  split <;> simp [*]
theorem impl_inRange_eq (a : Int) (b c : Int) : impl_inRange.F a b c = some (decide (b ≤ a ∧ a ≤ c)) := by
  unfold impl_inRange.F impl_inRange.B
  simp only [selb, decide_eq_true_eq]
  split <;> simp [*]
theorem impl_fileOk_eq (a b : ByteArray) : impl_fileOk.F a b = some (decide ((1 ≤ a.size ∧ a.size ≤ 24) ∧ b.size ≤ 60004)) := by
  unfold impl_fileOk.F impl_fileOk.B
  rw [impl_inRange_eq]
  simp only [selb, decide_eq_true_eq, Option.bind_some]
  split <;> (congr 1; rw [Bool.eq_iff_iff]; simp only [decide_eq_true_eq, Bool.false_eq_true, false_iff]; omega)
theorem spec_DiskOk_loop {ρ : Type} (v : Vec (ByteArray × ByteArray)) (hn : v.n ≤ bN) (K0 : Unit → Option ρ) (Kr : Bool → Option ρ) :
    ((∀ j, j < v.n → fileGood v j) ∧ spec_DiskOk.F0 fuelN 0 v K0 Kr = K0 ()) ∨ (¬ (∀ j, j < v.n → fileGood v j) ∧ spec_DiskOk.F0 fuelN 0 v K0 Kr = Kr false) := by
  have hb : bN = 140737488351232 := rfl
  refine loop_inv (σ := Nat) (fun i => v.n - i) (fun i => i ≤ v.n ∧ ∀ j, j < i → fileGood v j)
    (fun _ x => ((∀ j, j < v.n → fileGood v j) ∧ x = K0 ()) ∨ (¬ (∀ j, j < v.n → fileGood v j) ∧ x = Kr false)) (fun k i => spec_DiskOk.F0 k (i : Int) v K0 Kr) ?_ fuelN 0 (by unfold fuelN; omega) ⟨Nat.zero_le _, fun j hj => by omega⟩
  intro k i ⟨hi, hg⟩ ih
  simp only [spec_DiskOk.F0, spec_DiskOk.B0, spec_l01In_eq, selb, chkb, decide_eq_true_eq, Int.toNat_natCast, Int.ofNat_lt, Option.bind_some, Bool.not_eq_true', decide_eq_false_iff_not, Int.natCast_nonneg, true_and]
  by_cases hi2 : i < v.n
  · have bad : ¬ fileGood v i → ¬ (∀ j, j < v.n → fileGood v j) := fun h h2 => h (h2 i hi2)
    have good : fileGood v i → ∀ j, j < i + 1 → fileGood v j := fun h j hj => by
      rcases Nat.lt_or_ge j i with h3 | h3
      · exact hg j h3
      · obtain rfl : j = i := by omega
        exact h
    rw [wr_succ (by omega)]
    simp only [hi2, if_true]
    unfold fileGood at bad good
    split
    · exact .inr ⟨bad (by omega), rfl⟩
    · split
      · exact .inr ⟨bad (by omega), rfl⟩
      · split
        · rw [wr_pred (by omega) (by omega), if_pos (by omega), Int.toNat_natCast]
          split
          · rename_i h4
            exact .inr ⟨bad fun h => h4 (h.2.2 (by omega)), rfl⟩
          · rename_i h4
            exact ih (i + 1) ⟨by omega, good ⟨by omega, by omega, fun _ => Decidable.not_not.1 h4⟩⟩ (by omega)
        · exact ih (i + 1) ⟨by omega, good ⟨by omega, by omega, fun h => by omega⟩⟩ (by omega)
  · rw [if_neg hi2]
    exact .inl ⟨fun j hj => hg j (by omega), rfl⟩
theorem impl_DiskOk_loop {ρ : Type} (v : Vec (ByteArray × ByteArray)) (hn : v.n ≤ bN) (K0 : Vec (ByteArray × ByteArray) → Option ρ) (Kr : Bool → Option ρ) :
    ((∀ j, j < v.n → fileGood v j) ∧ impl_DiskOk.F0 fuelN v v.n 0 v K0 Kr = K0 v) ∨ (¬ (∀ j, j < v.n → fileGood v j) ∧ impl_DiskOk.F0 fuelN v v.n 0 v K0 Kr = Kr false) := by
  have hb : bN = 140737488351232 := rfl
  refine loop_inv (σ := Nat) (fun i => v.n - i) (fun i => i ≤ v.n ∧ ∀ j, j < i → fileGood v j)
    (fun _ x => ((∀ j, j < v.n → fileGood v j) ∧ x = K0 v) ∨ (¬ (∀ j, j < v.n → fileGood v j) ∧ x = Kr false)) (fun k i => impl_DiskOk.F0 k v v.n (i : Int) v K0 Kr) ?_ fuelN 0 (by unfold fuelN; omega) ⟨Nat.zero_le _, fun j hj => by omega⟩
  intro k i ⟨hi, hg⟩ ih
  simp only [impl_DiskOk.F0, impl_DiskOk.B0, impl_fileOk_eq, selb, chkb, decide_eq_true_eq, Int.toNat_natCast, Int.ofNat_lt, Option.bind_some, Bool.not_eq_true', decide_eq_false_iff_not, Int.natCast_nonneg, true_and]
  by_cases hi2 : i < v.n
  · have bad : ¬ fileGood v i → ¬ (∀ j, j < v.n → fileGood v j) := fun h h2 => h (h2 i hi2)
    have good : fileGood v i → ∀ j, j < i + 1 → fileGood v j := fun h j hj => by
      rcases Nat.lt_or_ge j i with h3 | h3
      · exact hg j h3
      · obtain rfl : j = i := by omega
        exact h
    rw [wr_succ (by omega)]
    simp only [hi2, if_true]
    unfold fileGood at bad good
    split
    · exact .inr ⟨bad (by omega), rfl⟩
    · split
      · rw [wr_pred (by omega) (by omega), if_pos (by omega), Int.toNat_natCast]
        split
        · rename_i h4
          exact .inr ⟨bad fun h => h4 (h.2.2 (by omega)), rfl⟩
        · rename_i h4
          exact ih (i + 1) ⟨by omega, good ⟨by omega, by omega, fun _ => Decidable.not_not.1 h4⟩⟩ (by omega)
      · exact ih (i + 1) ⟨by omega, good ⟨by omega, by omega, fun h => by omega⟩⟩ (by omega)
  · rw [if_neg hi2]
    exact .inl ⟨fun j hj => hg j (by omega), rfl⟩
def diskGood (v : Vec (ByteArray × ByteArray)) : Prop := v.n ≤ 40 ∧ ∀ j, j < v.n → fileGood v j
theorem spec_DiskOk_ok (v : Vec (ByteArray × ByteArray)) (hn : v.n ≤ bN) : ∃ b, spec_DiskOk.F v = some b ∧ (b = true ↔ diskGood v) := by
  unfold spec_DiskOk.F spec_DiskOk.B diskGood
  simp only [selb, decide_eq_true_eq]
  split
  · exact ⟨false, rfl, by simp; omega⟩
  · rcases spec_DiskOk_loop v hn (fun _ => some true) (fun x => some x) with ⟨h, e⟩ | ⟨h, e⟩
    · exact ⟨true, e, by simp; exact ⟨by omega, h⟩⟩
    · exact ⟨false, e, by simp [h]⟩
theorem impl_DiskOk_ok (v : Vec (ByteArray × ByteArray)) (hn : v.n ≤ bN) : ∃ b, impl_DiskOk.F v = some b ∧ (b = true ↔ diskGood v) := by
  unfold impl_DiskOk.F impl_DiskOk.B diskGood
  rcases impl_DiskOk_loop v hn (fun e => some (decide ((e.n : Int) ≤ 40))) (fun x => some x) with ⟨h, e⟩ | ⟨h, e⟩
  · exact ⟨_, e, by rw [decide_eq_true_eq]; exact ⟨fun h' => ⟨by omega, h⟩, fun h' => by omega⟩⟩
  · exact ⟨false, e, by simp [h]⟩
theorem diskGood_same {v w : Vec (ByteArray × ByteArray)} (h : Vec.Same v w) : diskGood v ↔ diskGood w := by
  obtain ⟨h1, h2⟩ := h
  unfold diskGood
  rw [h1]
  refine and_congr_right fun _ => forall_congr' fun j => ?_
  constructor
  · intro h hj
    have := h hj
    unfold fileGood at this ⊢
    rwa [h2 j (by omega), h2 (j - 1) (by omega)] at this
  · intro h hj
    have := h hj
    unfold fileGood at this ⊢
    rwa [h2 j (by omega), h2 (j - 1) (by omega)]
theorem disk_sorted {v : Vec (ByteArray × ByteArray)} (h : diskGood v) : ∀ j, j < v.n → ∀ i, i < j → bLt (v.g i).1 (v.g j).1 := by
  intro j
  induction j with
  | zero => intro _ i hi; omega
  | succ j ih =>
    intro hj i hi
    have h1 : bLt (v.g j).1 (v.g (j + 1)).1 := (h.2 (j + 1) hj).2.2 (by omega)
    rcases Nat.lt_or_ge i j with h2 | h2
    · exact bLt_trans (ih (by omega) i h2) h1
    · obtain rfl : i = j := by omega
      exact h1
theorem spec_l16At_loop {ρ : Type} (v : Vec (ByteArray × ByteArray)) (hn : v.n ≤ bN) (s : ByteArray) (K0 : Unit → Option ρ) (Kr : Int → Option ρ) :
    (spec_l16At.F0 fuelN s 0 v K0 Kr = K0 () ∧ ∀ i, i < v.n → (v.g i).1 ≠ s) ∨ ∃ i : Nat, i < v.n ∧ (v.g i).1 = s ∧ spec_l16At.F0 fuelN s 0 v K0 Kr = Kr (i : Int) := by
  have hb : bN = 140737488351232 := rfl
  refine loop_inv (σ := Nat) (fun i => v.n - i) (fun i => i ≤ v.n ∧ ∀ j, j < i → (v.g j).1 ≠ s)
    (fun _ x => (x = K0 () ∧ ∀ i, i < v.n → (v.g i).1 ≠ s) ∨ ∃ i : Nat, i < v.n ∧ (v.g i).1 = s ∧ x = Kr (i : Int))
    (fun k i => spec_l16At.F0 k s (i : Int) v K0 Kr) ?_ fuelN 0 (by unfold fuelN; omega) ⟨Nat.zero_le _, fun j hj => by omega⟩
  intro k i ⟨hi, hg⟩ ih
  simp only [spec_l16At.F0, spec_l16At.B0, selb, chkb, decide_eq_true_eq, Int.toNat_natCast, Int.ofNat_lt, Int.natCast_nonneg, true_and]
  by_cases hi2 : i < v.n
  · rw [wr_succ (by omega)]
    simp only [hi2, if_true]
    split
    · rename_i h
      exact .inr ⟨i, hi2, h, rfl⟩
    · rename_i h
      refine ih (i + 1) ⟨by omega, fun j hj => ?_⟩ (by omega)
      rcases Nat.lt_or_ge j i with h3 | h3
      · exact hg j h3
      · obtain rfl : j = i := by omega
        exact h
  · rw [if_neg hi2]
    exact .inl ⟨rfl, fun j hj => hg j (by omega)⟩
theorem spec_l16At_ok (v : Vec (ByteArray × ByteArray)) (hn : v.n ≤ bN) (s : ByteArray) :
    (spec_l16At.F v s = some (-1) ∧ ∀ i, i < v.n → (v.g i).1 ≠ s) ∨ ∃ i : Nat, i < v.n ∧ (v.g i).1 = s ∧ spec_l16At.F v s = some (i : Int) := by
  unfold spec_l16At.F spec_l16At.B
  rcases spec_l16At_loop v hn s (fun _ => some (-1)) (fun x => some x) with ⟨h, h2⟩ | ⟨i, h1, h2, h⟩
  · exact .inl ⟨h, h2⟩
  · refine .inr ⟨i, h1, h2, ?_⟩
    rw [h]
theorem impl_Disk_place_loop {ρ : Type} (v : Vec (ByteArray × ByteArray)) (hn : v.n ≤ bN) (s : ByteArray) (K0 : Vec (ByteArray × ByteArray) → ByteArray → Int → Option ρ) :
    ∃ i : Nat, i ≤ v.n ∧ (∀ j, j < i → bLt (v.g j).1 s) ∧ (i < v.n → ¬ bLt (v.g i).1 s) ∧ impl_Disk_place.F0 fuelN v s 0 K0 = K0 v s (i : Int) := by
  have hb : bN = 140737488351232 := rfl
  refine loop_inv (σ := Nat) (fun i => v.n - i) (fun i => i ≤ v.n ∧ ∀ j, j < i → bLt (v.g j).1 s)
    (fun _ x => ∃ i : Nat, i ≤ v.n ∧ (∀ j, j < i → bLt (v.g j).1 s) ∧ (i < v.n → ¬ bLt (v.g i).1 s) ∧ x = K0 v s (i : Int))
    (fun k i => impl_Disk_place.F0 k v s (i : Int) K0) ?_ fuelN 0 (by unfold fuelN; omega) ⟨Nat.zero_le _, fun j hj => by omega⟩
  intro k i ⟨hi, hg⟩ ih
  simp only [impl_Disk_place.F0, impl_Disk_place.B0, selb, chkb, decide_eq_true_eq, Int.toNat_natCast, Int.ofNat_lt, Int.natCast_nonneg, true_and]
  by_cases hi2 : i < v.n
  · rw [wr_succ (by omega)]
    simp only [hi2, if_true]
    split
    · rename_i h
      refine ih (i + 1) ⟨by omega, fun j hj => ?_⟩ (by omega)
      rcases Nat.lt_or_ge j i with h3 | h3
      · exact hg j h3
      · obtain rfl : j = i := by omega
        exact h
    · rename_i h
      exact ⟨i, hi, hg, fun _ => h, rfl⟩
  · simp only [if_neg hi2]
    exact ⟨i, hi, hg, fun h => absurd h hi2, rfl⟩
theorem impl_Disk_place_ok (v : Vec (ByteArray × ByteArray)) (hn : v.n ≤ bN) (s : ByteArray) :
    ∃ i : Nat, i ≤ v.n ∧ (∀ j, j < i → bLt (v.g j).1 s) ∧ (i < v.n → ¬ bLt (v.g i).1 s) ∧
      ((i < v.n ∧ (v.g i).1 = s ∧ impl_Disk_place.F v s = some ((i : Int), true)) ∨ (¬ (i < v.n ∧ (v.g i).1 = s) ∧ impl_Disk_place.F v s = some ((i : Int), false))) := by
  unfold impl_Disk_place.F impl_Disk_place.B
  obtain ⟨i, h1, h2, h3, h⟩ := impl_Disk_place_loop v hn s _
  refine ⟨i, h1, h2, h3, ?_⟩
  rw [h]
  simp only [selb, chkb, decide_eq_true_eq, Int.toNat_natCast, Int.ofNat_lt, Int.natCast_nonneg, true_and]
  by_cases hi2 : i < v.n
  · by_cases he : (v.g i).1 = s
    · exact .inl ⟨hi2, he, by simp [he, hi2]⟩
    · exact .inr ⟨fun h => he h.2, by simp [he, hi2]⟩
  · exact .inr ⟨fun h => hi2 h.1, by simp [hi2]⟩
/-- What FileAt answers. -/
def fileAt (v : Vec (ByteArray × ByteArray)) (s : ByteArray) (x : ByteArray × Bool) : Prop :=
  (diskGood v ∧ ∃ i, i < v.n ∧ (v.g i).1 = s ∧ x = ((v.g i).2, true)) ∨ (¬ (diskGood v ∧ ∃ i, i < v.n ∧ (v.g i).1 = s) ∧ x = (ByteArray.empty, false))
theorem fileAt_one {v : Vec (ByteArray × ByteArray)} {s : ByteArray} {x y : ByteArray × Bool} (h : fileAt v s x) (h2 : fileAt v s y) : x = y := by
  rcases h with ⟨h, i, hi, e, rfl⟩ | ⟨h, rfl⟩ <;> rcases h2 with ⟨h', j, hj, e', rfl⟩ | ⟨h', rfl⟩
  · rcases Nat.lt_trichotomy i j with hlt | rfl | hlt
    · have := disk_sorted h j hj i hlt
      rw [e, e'] at this
      exact absurd this bLt_irrefl
    · rfl
    · have := disk_sorted h i hi j hlt
      rw [e, e'] at this
      exact absurd this bLt_irrefl
  · exact absurd ⟨h, i, hi, e⟩ h'
  · exact absurd ⟨h', j, hj, e'⟩ h
  · rfl
theorem impl_Disk_text_ok (v : Vec (ByteArray × ByteArray)) (hn : v.n ≤ bN) (s : ByteArray) (hd : diskGood v) : ∃ x, impl_Disk_text.F v s = some x ∧ fileAt v s x := by
  unfold impl_Disk_text.F impl_Disk_text.B
  obtain ⟨i, h1, h2, h3, ⟨hi, he, h⟩ | ⟨hno, h⟩⟩ := impl_Disk_place_ok v hn s
  · refine ⟨((v.g i).2, true), ?_, .inl ⟨hd, i, hi, he, rfl⟩⟩
    rw [h]
    simp only [Option.bind_some, selb, chkb, decide_eq_true_eq, Bool.not_true, Bool.false_eq_true, if_false, Int.toNat_natCast]
    rw [if_pos (by omega)]
  · refine ⟨(ByteArray.empty, false), ?_, .inr ⟨fun ⟨_, j, hj, he⟩ => ?_, rfl⟩⟩
    · rw [h]; rfl
    · rcases Nat.lt_trichotomy j i with hlt | rfl | hlt
      · have := h2 j hlt
        rw [he] at this
        exact bLt_irrefl this
      · exact hno ⟨hj, he⟩
      · have h4 := h3 (by omega)
        have h5 := disk_sorted hd j hj i hlt
        rw [he] at h5
        exact h4 h5
theorem impl_FileAt_ok (v : Vec (ByteArray × ByteArray)) (hn : v.n ≤ bN) (s : ByteArray) : ∃ x, impl_FileAt.F v s = some x ∧ fileAt v s x := by
  obtain ⟨b, hb, hb2⟩ := impl_DiskOk_ok v hn
  unfold impl_FileAt.F impl_FileAt.B
  rw [hb]
  cases b with
  | false => exact ⟨_, rfl, .inr ⟨fun h => by simpa using hb2.2 h.1, rfl⟩⟩
  | true =>
    obtain ⟨x, hx, h⟩ := impl_Disk_text_ok v hn s (hb2.1 rfl)
    exact ⟨x, by rw [Option.bind_some, hx]; rfl, h⟩
abbrev FL : Type := ByteArray × ByteArray
/-! ### Disks as lists -/
def fOk (f : FL) : Prop := (1 ≤ f.1.size ∧ f.1.size ≤ 24) ∧ f.2.size ≤ 60004
def sorted (l : List FL) : Prop := l.Pairwise fun a b => bLt a.1 b.1
def ltF (n : ByteArray) (x : FL) : Bool := decide (x.1.toList < n.toList)
def gtF (n : ByteArray) (x : FL) : Bool := decide (n.toList < x.1.toList)
def neF (n : ByteArray) (x : FL) : Bool := !decide (x.1 = n)
def putL (f : FL) (l : List FL) : List FL := l.filter (ltF f.1) ++ f :: l.filter (gtF f.1)
theorem ltF_iff {n : ByteArray} {x : FL} : ltF n x = true ↔ bLt x.1 n := decide_eq_true_iff
theorem gtF_iff {n : ByteArray} {x : FL} : gtF n x = true ↔ bLt n x.1 := decide_eq_true_iff
theorem ltF_no {n : ByteArray} {x : FL} (h : ¬ bLt x.1 n) : ltF n x = false := decide_eq_false h
theorem gtF_no {n : ByteArray} {x : FL} (h : ¬ bLt n x.1) : gtF n x = false := decide_eq_false h
theorem good_list {v : Vec FL} : diskGood v ↔ v.toL.length ≤ 40 ∧ sorted v.toL ∧ ∀ x ∈ v.toL, fOk x := by
  constructor
  · intro h
    refine ⟨by simpa using h.1, ?_, fun x hx => ?_⟩
    · rw [sorted, List.pairwise_iff_getElem]
      intro i j hi hj hij
      have hi' : i < v.n := by simpa using hi
      have hj' : j < v.n := by simpa using hj
      have e1 : v.toL[i] = v.g i := Option.some.inj ((List.getElem?_eq_getElem hi).symm.trans (Vec.toL_get v i hi'))
      have e2 : v.toL[j] = v.g j := Option.some.inj ((List.getElem?_eq_getElem hj).symm.trans (Vec.toL_get v j hj'))
      rw [e1, e2]
      exact disk_sorted h j hj' i hij
    · obtain ⟨i, hi, rfl⟩ := mem_toL hx
      obtain ⟨h1, h2, -⟩ := h.2 i hi
      exact ⟨h1, h2⟩
  · rintro ⟨h1, h2, h3⟩
    refine ⟨by simpa using h1, fun i hi => ?_⟩
    obtain ⟨h4, h5⟩ := h3 (v.g i) (List.mem_of_getElem? (Vec.toL_get v i hi))
    refine ⟨h4, h5, fun h0 => ?_⟩
    rw [sorted, List.pairwise_iff_getElem] at h2
    have h6 := h2 (i - 1) i (by simp; omega) (by simpa using hi) (by omega)
    have e1 : v.toL[i - 1]'(by simp; omega) = v.g (i - 1) := Option.some.inj ((List.getElem?_eq_getElem (by simp; omega)).symm.trans (Vec.toL_get v (i - 1) (by omega)))
    have e2 : v.toL[i]'(by simpa using hi) = v.g i := Option.some.inj ((List.getElem?_eq_getElem (by simpa using hi)).symm.trans (Vec.toL_get v i hi))
    rw [e1, e2] at h6
    exact h6
theorem not_gt_of_lt {a b : ByteArray} (h : bLt a b) : ¬ bLt b a := fun q => bLt_irrefl (bLt_trans h q)
/-- A sorted list, parted where f belongs. -/
theorem part_sorted {l : List FL} (hs : sorted l) {n : ByteArray} {i : Nat} (hi : i ≤ l.length) (h1 : ∀ j (h : j < l.length), j < i → bLt l[j].1 n) (h2 : ∀ h : i < l.length, ¬ bLt l[i].1 n) :
    l.filter (ltF n) = l.take i ∧ l.filter (gtF n) = (if ∃ h : i < l.length, l[i].1 = n then l.drop (i + 1) else l.drop i) := by
  have hp := hs
  rw [sorted, List.pairwise_iff_getElem] at hp
  have hT : ∀ x ∈ l.take i, bLt x.1 n := fun x hx => by
    obtain ⟨j, hj, rfl⟩ := List.mem_iff_getElem.1 hx
    rw [List.getElem_take]
    have hj' : j < i := by simp at hj; omega
    exact h1 j (by omega) hj'
  have hD : ∀ x ∈ l.drop i, ¬ bLt x.1 n := fun x hx => by
    obtain ⟨j, hj, rfl⟩ := List.mem_iff_getElem.1 hx
    rw [List.getElem_drop]
    have hj' : i + j < l.length := by simp at hj; omega
    have h0 := h2 (by omega)
    by_cases hj0 : j = 0
    · subst hj0; exact h0
    · intro q
      exact h0 (bLt_trans (hp i (i + j) (by omega) hj' (by omega)) q)
  have e : l = l.take i ++ l.drop i := (List.take_append_drop i l).symm
  constructor
  · conv => lhs; rw [e]
    rw [List.filter_append, List.filter_eq_self.2 (fun x hx => ltF_iff.2 (hT x hx)), List.filter_eq_nil_iff.2 (fun x hx => by rw [ltF_no (hD x hx)]; exact Bool.false_ne_true), List.append_nil]
  · conv => lhs; rw [e]
    rw [List.filter_append, List.filter_eq_nil_iff.2 (fun x hx => by rw [gtF_no (not_gt_of_lt (hT x hx))]; exact Bool.false_ne_true), List.nil_append]
    by_cases hil : i < l.length
    · have ed : l.drop i = l[i] :: l.drop (i + 1) := List.drop_eq_getElem_cons hil
      have hrest : ∀ x ∈ l.drop (i + 1), bLt l[i].1 x.1 := fun x hx => by
        obtain ⟨j, hj, rfl⟩ := List.mem_iff_getElem.1 hx
        rw [List.getElem_drop]
        exact hp i (i + 1 + j) hil (by simp at hj; omega) (by omega)
      by_cases he : l[i].1 = n
      · rw [if_pos ⟨hil, he⟩, ed, List.filter_cons]
        have : gtF n l[i] = false := gtF_no (by rw [he]; exact bLt_irrefl)
        rw [this]
        exact List.filter_eq_self.2 fun x hx => gtF_iff.2 (by have := hrest x hx; rw [he] at this; exact this)
      · rw [if_neg (fun ⟨_, h⟩ => he h)]
        have hgt : bLt n l[i].1 := Classical.byContradiction fun q => he (bLt_tri (h2 hil) q)
        refine List.filter_eq_self.2 fun x hx => gtF_iff.2 ?_
        rw [ed, List.mem_cons] at hx
        rcases hx with rfl | hx
        · exact hgt
        · exact bLt_trans hgt (hrest x hx)
    · rw [if_neg (fun ⟨h, _⟩ => hil h), List.drop_eq_nil_of_le (by omega)]
      rfl
theorem sorted_put {l : List FL} (hs : sorted l) (f : FL) : sorted (putL f l) := by
  rw [sorted, putL, List.pairwise_append]
  refine ⟨hs.filter _, ?_, ?_⟩
  · rw [List.pairwise_cons]
    exact ⟨fun x hx => gtF_iff.1 (List.mem_filter.1 hx).2, hs.filter _⟩
  · intro a ha b hb
    have h1 : bLt a.1 f.1 := ltF_iff.1 (List.mem_filter.1 ha).2
    rw [List.mem_cons] at hb
    rcases hb with rfl | hb
    · exact h1
    · exact bLt_trans h1 (gtF_iff.1 (List.mem_filter.1 hb).2)
theorem mem_put {l : List FL} {f x : FL} (h : x ∈ putL f l) : x = f ∨ x ∈ l := by
  rw [putL, List.mem_append, List.mem_cons] at h
  rcases h with h | h | h
  · exact .inr (List.mem_filter.1 h).1
  · exact .inl h
  · exact .inr (List.mem_filter.1 h).1
theorem put_length {l : List FL} (f : FL) : (putL f l).length ≤ l.length + 1 := by
  have key : ∀ l : List FL, (l.filter (ltF f.1)).length + (l.filter (gtF f.1)).length ≤ l.length := by
    intro l
    induction l with
    | nil => simp
    | cons y l ih =>
      rw [List.filter_cons, List.filter_cons]
      cases h1 : ltF f.1 y with
      | true =>
        have : gtF f.1 y = false := gtF_no (not_gt_of_lt (ltF_iff.1 h1))
        simp [this]; omega
      | false => cases gtF f.1 y <;> simp <;> omega
  rw [putL, List.length_append, List.length_cons]
  have := key l
  omega
/-! ### The functions -/
theorem l16Put_L0 (v : Vec FL) (hn : v.n ≤ 1048576) (f : FL) : ∀ (K0 : Vec FL → ByteArray → ByteArray → Vec FL → Option (Vec FL)), ∃ out, spec_l16Put.F0 fuelN ((0 : Nat) : Int) v f.1 f.2 Vec.nil K0 = K0 v f.1 f.2 out ∧ out.n ≤ v.n ∧ out.toL = v.toL.filter (ltF f.1) := by
  have hM : maxN = 140737488355328 := rfl
  intro K0
  have := loop_inv (σ := Nat × Vec FL) (fun s => v.n - s.1) (fun s => s.1 ≤ v.n ∧ s.2.n ≤ s.1 ∧ s.2.toL = (v.toL.take s.1).filter (ltF f.1))
    (fun _ x => ∃ out, x = K0 v f.1 f.2 out ∧ out.n ≤ v.n ∧ out.toL = v.toL.filter (ltF f.1)) (fun k s => spec_l16Put.F0 k (s.1 : Int) v f.1 f.2 s.2 K0) ?_ fuelN (0, Vec.nil) (by show v.n - 0 < fuelN; unfold fuelN; omega) ⟨Nat.zero_le _, Nat.zero_le _, rfl⟩
  · exact this
  · rintro k ⟨i, out⟩ ⟨h1, h2, h3⟩ ih
    simp only at h1 h2 h3 ⊢
    by_cases hi : i < v.n
    · have hT := toL_take_succ v i hi
      have hlt : decide ((i : Int) < (v.n : Int)) = true := decide_eq_true (by omega)
      have hix : decide (0 ≤ (i : Int) ∧ (i : Int) < (v.n : Int)) = true := decide_eq_true ⟨by omega, by omega⟩
      have e1 : ((v.g i).1, (v.g i).2) = v.g i := rfl
      have c1 : decide ((out.n + (Vec.lit [v.g i]).n) * 33 ≤ maxN) = true := decide_eq_true (by show (out.n + 1) * 33 ≤ maxN; omega)
      rw [spec_l16Put.F0, spec_l16Put.B0, hlt, hix]
      simp only [sel, chk, Int.toNat_natCast, wr_succ (i := i) (by omega), e1, c1]
      cases hc : decide ((v.g i).1.toList < f.1.toList) with
      | true => exact ih (i + 1, Vec.app out (Vec.lit [v.g i])) ⟨hi, by show out.n + 1 ≤ i + 1; omega, by
          show (Vec.app out (Vec.lit [v.g i])).toL = _
          rw [toL_app, toL_lit1, h3, hT, List.filter_append]; simp [ltF, of_decide_eq_true hc]⟩ (by show v.n - (i + 1) < v.n - i; omega)
      | false => exact ih (i + 1, out) ⟨hi, by show out.n ≤ i + 1; omega, by
          show out.toL = _
          rw [h3, hT, List.filter_append]; simp [ltF, of_decide_eq_false hc]⟩ (by show v.n - (i + 1) < v.n - i; omega)
    · have hlt : decide ((i : Int) < (v.n : Int)) = false := decide_eq_false (by omega)
      rw [spec_l16Put.F0, spec_l16Put.B0, hlt]
      exact ⟨out, rfl, by omega, by rw [h3, List.take_of_length_le (by simp; omega)]⟩
theorem l16Put_L1 (v : Vec FL) (hn : v.n ≤ 1048576) (f : FL) : ∀ (o0 : Vec FL) (h0 : o0.n ≤ v.n + 1) (K2 : Vec FL → Option (Vec FL)), ∃ out, spec_l16Put.F1 fuelN ((0 : Nat) : Int) v f.1 f.2 o0 K2 = K2 out ∧ out.toL = o0.toL ++ v.toL.filter (gtF f.1) := by
  have hM : maxN = 140737488355328 := rfl
  intro o0 h0 K2
  have := loop_inv (σ := Nat × Vec FL) (fun s => v.n - s.1) (fun s => s.1 ≤ v.n ∧ s.2.n ≤ v.n + 1 + s.1 ∧ s.2.toL = o0.toL ++ (v.toL.take s.1).filter (gtF f.1))
    (fun _ x => ∃ out, x = K2 out ∧ out.toL = o0.toL ++ v.toL.filter (gtF f.1)) (fun k s => spec_l16Put.F1 k (s.1 : Int) v f.1 f.2 s.2 K2) ?_ fuelN (0, o0) (by show v.n - 0 < fuelN; unfold fuelN; omega) ⟨Nat.zero_le _, h0, by simp⟩
  · exact this
  · rintro k ⟨i, out⟩ ⟨h1, h2, h3⟩ ih
    simp only at h1 h2 h3 ⊢
    by_cases hi : i < v.n
    · have hT := toL_take_succ v i hi
      have hlt : decide ((i : Int) < (v.n : Int)) = true := decide_eq_true (by omega)
      have hix : decide (0 ≤ (i : Int) ∧ (i : Int) < (v.n : Int)) = true := decide_eq_true ⟨by omega, by omega⟩
      have e1 : ((v.g i).1, (v.g i).2) = v.g i := rfl
      have c1 : decide ((out.n + (Vec.lit [v.g i]).n) * 33 ≤ maxN) = true := decide_eq_true (by show (out.n + 1) * 33 ≤ maxN; omega)
      rw [spec_l16Put.F1, spec_l16Put.B1, hlt, hix]
      simp only [sel, chk, Int.toNat_natCast, wr_succ (i := i) (by omega), e1, c1]
      cases hc : decide (f.1.toList < (v.g i).1.toList) with
      | true => exact ih (i + 1, Vec.app out (Vec.lit [v.g i])) ⟨hi, by show out.n + 1 ≤ v.n + 1 + (i + 1); omega, by
          show (Vec.app out (Vec.lit [v.g i])).toL = _
          rw [toL_app, toL_lit1, h3, hT, List.filter_append]; simp [gtF, of_decide_eq_true hc]⟩ (by show v.n - (i + 1) < v.n - i; omega)
      | false => exact ih (i + 1, out) ⟨hi, by show out.n ≤ v.n + 1 + (i + 1); omega, by
          show out.toL = _
          rw [h3, hT, List.filter_append]; simp [gtF, of_decide_eq_false hc]⟩ (by show v.n - (i + 1) < v.n - i; omega)
    · have hlt : decide ((i : Int) < (v.n : Int)) = false := decide_eq_false (by omega)
      rw [spec_l16Put.F1, spec_l16Put.B1, hlt]
      exact ⟨out, rfl, by rw [h3, List.take_of_length_le (by simp; omega)]⟩
theorem spec_l16Put_ok (v : Vec FL) (hn : v.n ≤ 1048576) (f : FL) : ∃ out, spec_l16Put.F v f.1 f.2 = some out ∧ out.toL = putL f v.toL := by
  have hM : maxN = 140737488355328 := rfl
  rw [spec_l16Put.F, spec_l16Put.B, show (0 : Int) = ((0 : Nat) : Int) from rfl]
  obtain ⟨o0, e0, b0, t0⟩ := l16Put_L0 v hn f (fun e01 e02 e03 e04 => chk (decide ((e04.n + (Vec.lit [(e02, e03)] : Vec FL).n) * 33 ≤ maxN)) (spec_l16Put.F1 fuelN ((0 : Nat) : Int) e01 e02 e03 (Vec.app e04 (Vec.lit [(e02, e03)])) (fun e11 => some e11)))
  rw [e0]
  have c1 : decide ((o0.n + (Vec.lit [(f.1, f.2)] : Vec FL).n) * 33 ≤ maxN) = true := decide_eq_true (by show (o0.n + 1) * 33 ≤ maxN; omega)
  obtain ⟨o1, e1, t1⟩ := l16Put_L1 v hn f (Vec.app o0 (Vec.lit [(f.1, f.2)])) (by show o0.n + 1 ≤ v.n + 1; omega) (fun e11 => some e11)
  rw [c1]
  simp only [chk]
  rw [e1]
  refine ⟨o1, rfl, ?_⟩
  rw [t1, toL_app, toL_lit1, t0, putL]
  simp
theorem spec_l16Drop_ok (v : Vec FL) (hn : v.n ≤ 1048576) (d : ByteArray) : ∃ out, spec_l16Drop.F v d = some out ∧ out.toL = v.toL.filter (neF d) := by
  have hM : maxN = 140737488355328 := rfl
  rw [spec_l16Drop.F, spec_l16Drop.B, show (0 : Int) = ((0 : Nat) : Int) from rfl]
  have := loop_inv (σ := Nat × Vec FL) (fun s => v.n - s.1) (fun s => s.1 ≤ v.n ∧ s.2.n ≤ s.1 ∧ s.2.toL = (v.toL.take s.1).filter (neF d))
    (fun _ x => ∃ out, x = some out ∧ out.toL = v.toL.filter (neF d)) (fun k s => spec_l16Drop.F0 k d (s.1 : Int) v s.2 (fun e01 => some e01)) ?_ fuelN (0, Vec.nil) (by show v.n - 0 < fuelN; unfold fuelN; omega) ⟨Nat.zero_le _, Nat.zero_le _, rfl⟩
  · exact this
  · rintro k ⟨i, out⟩ ⟨h1, h2, h3⟩ ih
    simp only at h1 h2 h3 ⊢
    by_cases hi : i < v.n
    · have hT := toL_take_succ v i hi
      have hlt : decide ((i : Int) < (v.n : Int)) = true := decide_eq_true (by omega)
      have hix : decide (0 ≤ (i : Int) ∧ (i : Int) < (v.n : Int)) = true := decide_eq_true ⟨by omega, by omega⟩
      have e1 : ((v.g i).1, (v.g i).2) = v.g i := rfl
      have c1 : decide ((out.n + (Vec.lit [v.g i]).n) * 33 ≤ maxN) = true := decide_eq_true (by show (out.n + 1) * 33 ≤ maxN; omega)
      rw [spec_l16Drop.F0, spec_l16Drop.B0, hlt, hix]
      simp only [sel, chk, Int.toNat_natCast, wr_succ (i := i) (by omega), e1, c1]
      cases hc : decide ((v.g i).1 = d) with
      | true => exact ih (i + 1, out) ⟨hi, by show out.n ≤ i + 1; omega, by
          show out.toL = _
          rw [h3, hT, List.filter_append]; simp [neF, of_decide_eq_true hc]⟩ (by show v.n - (i + 1) < v.n - i; omega)
      | false => exact ih (i + 1, Vec.app out (Vec.lit [v.g i])) ⟨hi, by show out.n + 1 ≤ i + 1; omega, by
          show (Vec.app out (Vec.lit [v.g i])).toL = _
          rw [toL_app, toL_lit1, h3, hT, List.filter_append]; simp [neF, of_decide_eq_false hc]⟩ (by show v.n - (i + 1) < v.n - i; omega)
    · have hlt : decide ((i : Int) < (v.n : Int)) = false := decide_eq_false (by omega)
      rw [spec_l16Drop.F0, spec_l16Drop.B0, hlt]
      exact ⟨out, rfl, by rw [h3, List.take_of_length_le (by simp; omega)]⟩
theorem toL_idx {v : Vec FL} {j : Nat} (h : j < v.toL.length) : v.toL[j] = v.g j := Option.some.inj ((List.getElem?_eq_getElem h).symm.trans (Vec.toL_get v j (by simpa using h)))
theorem place_list {v : Vec FL} {n : ByteArray} {i : Nat} (hs : sorted v.toL) (hi : i ≤ v.n) (h1 : ∀ j, j < i → bLt (v.g j).1 n) (h2 : i < v.n → ¬ bLt (v.g i).1 n) :
    v.toL.filter (ltF n) = v.toL.take i ∧ v.toL.filter (gtF n) = (if i < v.n ∧ (v.g i).1 = n then v.toL.drop (i + 1) else v.toL.drop i) := by
  obtain ⟨q1, q2⟩ := part_sorted hs (n := n) (i := i) (by simpa using hi) (fun j h hj => by rw [toL_idx h]; exact h1 j hj) (fun h => by rw [toL_idx h]; exact h2 (by simpa using h))
  refine ⟨q1, q2.trans ?_⟩
  by_cases h : i < v.n ∧ (v.g i).1 = n
  · rw [if_pos h, if_pos ⟨by simpa using h.1, by rw [toL_idx]; exact h.2⟩]
  · rw [if_neg h, if_neg (fun ⟨q, e⟩ => h ⟨by simpa using q, by rw [toL_idx q] at e; exact e⟩)]
theorem impl_put_ok (v : Vec FL) (hs : sorted v.toL) (hn : v.n ≤ 1048576) (f : FL) : ∃ out, impl_Disk_put_s22c0.F f.1 f.2 v = some out ∧ out.toL = putL f v.toL := by
  have hM : maxN = 140737488355328 := rfl
  obtain ⟨i, h1, h2, h3, h4⟩ := impl_Disk_place_ok v (by unfold bN; omega) f.1
  obtain ⟨q1, q2⟩ := place_list hs h1 h2 h3
  rw [impl_Disk_put_s22c0.F, impl_Disk_put_s22c0.B]
  rcases h4 with ⟨h5, h6, e⟩ | ⟨h5, e⟩
  · have hix : decide (0 ≤ (i : Int) ∧ (i : Int) < (v.n : Int)) = true := decide_eq_true ⟨by omega, by omega⟩
    have hin : decide (i < v.n) = true := decide_eq_true h5
    rw [e, Option.bind_some]
    simp only [sel, hix, chk, Int.toNat_natCast, hin]
    refine ⟨_, rfl, ?_⟩
    rw [toL_set, putL, q1, q2, if_pos ⟨h5, h6⟩, List.set_eq_take_append_cons_drop, if_pos (by simpa using h5)]
  · have hix : decide (0 ≤ (i : Int) ∧ (i : Int) ≤ (v.n : Int) ∧ (Vec.lit [(f.1, f.2)] : Vec FL).n = 1 ∧ (v.n + 1) * (32 + 1) ≤ maxN) = true := decide_eq_true ⟨by omega, by omega, rfl, by omega⟩
    rw [e, Option.bind_some]
    simp only [sel, slices_Insert_impl_File_s0fce.F, hix, Option.bind_some]
    refine ⟨_, rfl, ?_⟩
    rw [toL_ins1 _ _ _ h1, putL, q1, q2, if_neg h5]
    rfl
theorem impl_del_ok (v : Vec FL) (hn : v.n ≤ 1048576) (i : Nat) (hi : i < v.n) : slices_Delete_impl_File_s5d7b.F (i : Int) (wr ((i : Int) + 1)) v = some (v.del i (i + 1)) := by
  have h : decide ((0 : Int) ≤ (i : Int) ∧ (i : Int) < ((i + 1 : Nat) : Int) ∧ ((i + 1 : Nat) : Int) ≤ (v.n : Int)) = true := decide_eq_true ⟨by omega, by omega, by omega⟩
  rw [slices_Delete_impl_File_s5d7b.F, wr_succ (i := i) (by omega), h]
  rfl
theorem erase_filter {v : Vec FL} (hs : sorted v.toL) {i : Nat} (hi : i < v.n) : v.toL.eraseIdx i = v.toL.filter (neF (v.g i).1) := by
  have hp := hs
  rw [sorted, List.pairwise_iff_getElem] at hp
  refine (filter_erase (by simpa using hi) ?_ fun j hj hne => ?_).symm
  · rw [toL_idx]; simp [neF]
  · have hi' : i < v.toL.length := by simpa using hi
    have : v.toL[j].1 ≠ (v.g i).1 := by
      rw [← toL_idx hi']
      intro e
      rcases Nat.lt_or_gt_of_ne hne with h | h
      · have := hp j i hj hi' h; rw [e] at this; exact bLt_irrefl this
      · have := hp i j hi' hj h; rw [e] at this; exact bLt_irrefl this
    simp [neF, this]
theorem good_put {v out : Vec FL} {f : FL} (hg : sorted v.toL) (hf : ∀ x ∈ v.toL, fOk x) (h : out.toL = putL f v.toL) : diskGood out ↔ fOk f ∧ out.n ≤ 40 := by
  rw [good_list, h, ← h, Vec.toL_length, h]
  constructor
  · rintro ⟨h1, h2, h3⟩
    exact ⟨h3 f (by rw [putL]; simp), h1⟩
  · rintro ⟨h1, h2⟩
    exact ⟨h2, sorted_put hg f, fun x hx => (mem_put hx).elim (fun e => e ▸ h1) (hf x)⟩
theorem good_sml {v : Vec FL} (h : diskGood v) : Sml.sml v := by
  have hs : sN = 1048576 := rfl
  refine ⟨by have := h.1; omega, fun i hi => ?_⟩
  obtain ⟨h1, h2, -⟩ := h.2 i hi
  exact ⟨by show (v.g i).1.size ≤ sN; omega, by show (v.g i).2.size ≤ sN; omega⟩
theorem put_drop {v : Vec FL} (hs : sorted v.toL) {i : Nat} (hi : i < v.n) (f : FL) (hf : f.1 = (v.g i).1) : putL f (v.toL.filter (neF (v.g i).1)) = putL f v.toL := by
  have e1 : ∀ (p : FL → Bool), (∀ x, p x = true → neF (v.g i).1 x = true) → (v.toL.filter (neF (v.g i).1)).filter p = v.toL.filter p := fun p hp => by
    rw [List.filter_filter]
    refine List.filter_congr fun x _ => ?_
    cases hx : p x with
    | false => rfl
    | true => rw [hp x hx]; rfl
  rw [putL, putL, e1 (ltF f.1) fun x hx => ?_, e1 (gtF f.1) fun x hx => ?_]
  · have := ltF_iff.1 hx
    have hne : x.1 ≠ (v.g i).1 := fun e => by rw [e, hf] at this; exact bLt_irrefl this
    simp [neF, hne]
  · have := gtF_iff.1 hx
    have hne : x.1 ≠ (v.g i).1 := fun e => by rw [e, hf] at this; exact bLt_irrefl this
    simp [neF, hne]
theorem put_self {v : Vec FL} (hs : sorted v.toL) {i : Nat} (hi : i < v.n) : putL (v.g i) v.toL = v.toL := by
  have hp := hs
  rw [sorted, List.pairwise_iff_getElem] at hp
  have hi' : i < v.toL.length := by simpa using hi
  obtain ⟨q1, q2⟩ := place_list hs (n := (v.g i).1) (i := i) (by omega) (fun j hj => by
    have := hp j i (by simp; omega) hi' hj
    rw [toL_idx, toL_idx] at this
    exact this) (fun _ => bLt_irrefl)
  rw [putL, q1, q2, if_pos ⟨hi, rfl⟩, ← toL_idx hi', ← List.drop_eq_getElem_cons hi', List.take_append_drop]
theorem fileOk_iff (a b : ByteArray) : ∃ c, impl_fileOk.F a b = some c ∧ (c = true ↔ fOk (a, b)) := ⟨_, impl_fileOk_eq a b, decide_eq_true_iff⟩
/-- A raw write on a right disk, both ways. -/
theorem do_twow (v w : Vec FL) (hw : Vec.Same w v) (hg : diskGood v) (k : Int) (n t x : ByteArray) : ∃ b o u, spec_PutRaw.F v k n t x = some (b, o) ∧ impl_Disk_do_s08b6.F k n t x w = some (b, u) ∧ (b = true → Vec.Same u o ∧ diskGood o) ∧ (b = false → o = Vec.nil) := by
  have hM : maxN = 140737488355328 := rfl
  have hbN : bN = 140737488351232 := rfl
  obtain ⟨hl, hs, hf⟩ := good_list.1 hg
  have hn : v.n ≤ 40 := hg.1
  have hwn : w.n = v.n := hw.1
  have hwg : ∀ j, j < v.n → w.g j = v.g j := fun j hj => hw.2 j (by omega)
  have hwl : w.toL = v.toL := same_iff.1 hw
  have hsw : sorted w.toL := by rw [hwl]; exact hs
  obtain ⟨c, d1, d2⟩ := spec_DiskOk_ok v (by omega)
  obtain rfl : c = true := d2.2 hg
  have c33 : decide (v.n * 33 ≤ maxN) = true := decide_eq_true (by omega)
  have hnil : ∀ (b : Bool) (o u : Vec FL), b = false → o = Vec.nil → (b = true → Vec.Same u o ∧ diskGood o) ∧ (b = false → o = Vec.nil) := fun b o u h1 h2 => ⟨fun h => (by rw [h1] at h; cases h), fun _ => h2⟩
  have fin : ∀ (o u : Vec FL) (e : Bool), (e = true ↔ diskGood o) → (diskGood o → Vec.Same u o) → o.n ≤ 1048576 → ∃ b o2 u2, ((spec_DiskOk.F o).bind fun r5 => sel (!r5) (some (false, (Vec.nil : Vec FL))) (some (true, o))) = some (b, o2) ∧ some (e, u) = some (b, u2) ∧ (b = true → Vec.Same u2 o2 ∧ diskGood o2) ∧ (b = false → o2 = Vec.nil) := by
    intro o u e he hsame hon
    obtain ⟨c, f1, f2⟩ := spec_DiskOk_ok o (by omega)
    have hce : c = e := by rw [Bool.eq_iff_iff, f2, he]
    subst hce
    rw [f1, Option.bind_some]
    cases c with
    | false => exact ⟨_, _, _, rfl, rfl, hnil _ _ _ rfl rfl⟩
    | true => exact ⟨_, _, _, rfl, rfl, fun _ => ⟨hsame (f2.1 rfl), f2.1 rfl⟩, fun h => by cases h⟩
  have hAt := spec_l16At_ok v (by omega) n
  obtain ⟨i, p1', p2', p3', p4'⟩ := impl_Disk_place_ok w (by omega) n
  have p1 : i ≤ v.n := by omega
  have p2 : ∀ j, j < i → bLt (v.g j).1 n := fun j hj => by have := p2' j hj; rwa [hwg j (by omega)] at this
  have p3 : i < v.n → ¬ bLt (v.g i).1 n := fun h => by have := p3' (by omega); rwa [hwg i h] at this
  have p4 : (i < v.n ∧ (v.g i).1 = n ∧ impl_Disk_place.F w n = some ((i : Int), true)) ∨ (¬ (i < v.n ∧ (v.g i).1 = n) ∧ impl_Disk_place.F w n = some ((i : Int), false)) := by
    rcases p4' with ⟨h5, h6, e⟩ | ⟨h5, e⟩
    · exact .inl ⟨by omega, by rwa [hwg i (by omega)] at h6, e⟩
    · exact .inr ⟨fun h => h5 ⟨by omega, by rw [hwg i h.1]; exact h.2⟩, e⟩
  rw [spec_PutRaw.F, spec_PutRaw.B, impl_Disk_do_s08b6.F, impl_Disk_do_s08b6.B]
  have hIn := spec_l01In_eq k 1 4
  rcases Classical.em (¬ (1 ≤ k ∧ k ≤ 4)) with hk | hk
  · -- no such write
    have k4 : decide (k = 4) = false := decide_eq_false (by omega)
    have k1 : decide (k = 1) = false := decide_eq_false (by omega)
    have k3 : decide (k = 3) = false := decide_eq_false (by omega)
    have k2 : decide (k = 2) = false := decide_eq_false (by omega)
    have kin : decide (1 ≤ k ∧ k ≤ 4) = false := decide_eq_false hk
    obtain ⟨r1, hr1⟩ : ∃ r1, spec_l16At.F v n = some r1 := by
      rcases hAt with ⟨e, -⟩ | ⟨_, _, _, e⟩
      · exact ⟨_, e⟩
      · exact ⟨_, e⟩
    rw [hr1, d1, hIn, k4, k1, k3, k2, kin]
    simp only [Option.bind_some, sel, Bool.not_true, Bool.not_false]
    rcases p4 with ⟨h5, h6, e⟩ | ⟨h5, e⟩
    · have hix : decide (0 ≤ (i : Int) ∧ (i : Int) < (w.n : Int)) = true := decide_eq_true ⟨by omega, by omega⟩
      have hixv : decide (0 ≤ (i : Int) ∧ (i : Int) < (v.n : Int)) = true := decide_eq_true ⟨by omega, by omega⟩
      have hin : decide (i < w.n) = true := decide_eq_true (by omega)
      rw [e, Option.bind_some]
      simp only [sel, Bool.not_true, hixv, hix, chk, Int.toNat_natCast, hin]
      exact ⟨_, _, _, rfl, rfl, hnil _ _ _ rfl rfl⟩
    · rw [e, Option.bind_some]
      exact ⟨_, _, _, rfl, rfl, hnil _ _ _ rfl rfl⟩
  · replace hk := Classical.not_not.1 hk
    have kin : decide (1 ≤ k ∧ k ≤ 4) = true := decide_eq_true hk
    simp only [hIn, kin, d1, Option.bind_some, sel, Bool.not_true]
    have hcases : k = 1 ∨ k = 2 ∨ k = 3 ∨ k = 4 := by omega
    rcases hcases with rfl | rfl | rfl | rfl
    · -- put
      obtain ⟨o1, e1, t1⟩ := spec_l16Put_ok v (by omega) (n, x)
      obtain ⟨o2, e2, t2⟩ := impl_put_ok w hsw (by omega) (n, x)
      rw [hwl] at t2
      obtain ⟨c, e3, h3⟩ := fileOk_iff n x
      simp only at e1 e2
      have ho : o1.n ≤ 41 := by
        have := put_length (l := v.toL) (n, x)
        rw [← t1, Vec.toL_length, Vec.toL_length] at this
        omega
      have hoo : o2.n = o1.n := by rw [← Vec.toL_length, ← Vec.toL_length, t1, t2]
      have key : ∃ b o u, ((spec_DiskOk.F o1).bind fun r5 => sel (!r5) (some (false, (Vec.nil : Vec FL))) (some (true, o1))) = some (b, o) ∧
          (sel c (some (decide ((o2.n : Int) ≤ 40), o2)) (some (false, o2))) = some (b, u) ∧ (b = true → Vec.Same u o ∧ diskGood o) ∧ (b = false → o = Vec.nil) := by
        have hgood := good_put hs hf t1
        cases c with
        | false => exact fin o1 o2 false ⟨fun h => (by cases h), fun h => by have := h3.2 (hgood.1 h).1; cases this⟩ (fun h => by rw [same_iff, t1, t2]) (by omega)
        | true => exact fin o1 o2 (decide ((o2.n : Int) ≤ 40)) (by rw [decide_eq_true_iff, hgood, hoo]; exact ⟨fun h => ⟨h3.1 rfl, by omega⟩, fun h => by omega⟩) (fun h => by rw [same_iff, t1, t2]) (by omega)
      rw [e1, e2]
      simp only [Option.bind_some, e3]
      rcases hAt with ⟨e, -⟩ | ⟨j, _, _, e⟩
      · rw [e]
        simp only [Option.bind_some, show decide ((-1 : Int) < 0) = true from rfl, show decide ((1 : Int) = 2) = false from rfl, show decide ((1 : Int) = 3) = false from rfl, show decide ((1 : Int) = 1) = true from rfl, show decide ((1 : Int) = 4) = false from rfl, sel, c33, chk]
        exact key
      · rw [e]
        simp only [Option.bind_some, show decide ((j : Int) < 0) = false from decide_eq_false (by omega), show decide ((1 : Int) = 1) = true from rfl, show decide ((1 : Int) = 4) = false from rfl, sel, c33, chk]
        exact key
    · -- move
      simp only [show decide ((2 : Int) = 4) = false from rfl, show decide ((2 : Int) = 1) = false from rfl, show decide ((2 : Int) = 3) = false from rfl, show decide ((2 : Int) = 2) = true from rfl, sel]
      rcases p4 with ⟨h5, h6, e⟩ | ⟨h5, e⟩
      · have hix : decide (0 ≤ (i : Int) ∧ (i : Int) < (w.n : Int)) = true := decide_eq_true ⟨by omega, by omega⟩
        have hixv : decide (0 ≤ (i : Int) ∧ (i : Int) < (v.n : Int)) = true := decide_eq_true ⟨by omega, by omega⟩
        have hin : decide (i < w.n) = true := decide_eq_true (by omega)
        rcases hAt with ⟨-, h7⟩ | ⟨j, hj, hjn, e0⟩
        · exact absurd h6 (h7 i h5)
        have hij : j = i := by
          rcases Nat.lt_trichotomy j i with h | h | h
          · have := p2 j h; rw [hjn] at this; exact (bLt_irrefl this).elim
          · exact h
          · have := disk_sorted hg j hj i h; rw [h6, hjn] at this; exact (bLt_irrefl this).elim
        subst hij
        have j0 : decide ((j : Int) < 0) = false := decide_eq_false (by omega)
        obtain ⟨o2, e2, t2⟩ := impl_put_ok (w.del j (j + 1)) (by rw [toL_del1 w j (by omega), hwl, erase_filter hs hj]; exact hs.filter _) (by show w.n - _ ≤ _; omega) (t, (v.g j).2)
        rw [toL_del1 w j (by omega), hwl, erase_filter hs hj] at t2
        have hwj := hwg j hj
        obtain ⟨c, e3, h3⟩ := fileOk_iff t (v.g j).2
        simp only at e2
        simp only [e, e0, Option.bind_some, Bool.not_true, hixv, hix, chk, Int.toNat_natCast, hin, impl_del_ok w (by omega) j (by omega), hwj, e2, e3, j0, c33]
        by_cases htn : t = n
        · subst htn
          have hgj := hf (v.g j) (List.mem_of_getElem? (Vec.toL_get v j hj))
          have hc : c = true := h3.2 (by rw [← hjn]; exact hgj)
          have heq : o2.toL = v.toL := by
            rw [t2, put_drop hs hj (t, (v.g j).2) hjn.symm]
            have := put_self hs hj
            rw [show v.g j = (t, (v.g j).2) from by rw [← hjn]] at this
            exact this
          simp only [show decide (t = t) = true from decide_eq_true rfl, Bool.not_true, d1, Option.bind_some, hc]
          exact ⟨_, _, _, rfl, rfl, fun _ => ⟨same_iff.2 heq, hg⟩, fun h => by cases h⟩
        · obtain ⟨o0, e5, t5⟩ := spec_l16Drop_ok v (by omega) n
          have hs0 : sorted o0.toL := by rw [t5]; exact hs.filter _
          have hf0 : ∀ x ∈ o0.toL, fOk x := fun x hx => by rw [t5] at hx; exact hf x (List.mem_filter.1 hx).1
          have hl0 : o0.toL = v.toL.eraseIdx j := by rw [t5, erase_filter hs hj, hjn]
          have hn0 : o0.n = v.n - 1 := by rw [← Vec.toL_length, hl0, List.length_eraseIdx, if_pos (by simpa using hj), Vec.toL_length]
          obtain ⟨o1, e6, t6⟩ := spec_l16Put_ok o0 (by omega) (t, (v.g j).2)
          simp only at e6
          have hlen := put_length (l := o0.toL) (t, (v.g j).2)
          rw [← t6, Vec.toL_length, Vec.toL_length] at hlen
          simp only [show decide (t = n) = false from decide_eq_false htn, Bool.not_false, e5, Option.bind_some, e6]
          exact fin o1 o2 c (by rw [h3, good_put hs0 hf0 t6]; exact ⟨fun h => ⟨h, by omega⟩, fun h => h.1⟩) (fun _ => by rw [same_iff, t2, t6, t5, hjn]) (by omega)
      · rcases hAt with ⟨e0, -⟩ | ⟨j, hj, hjn, -⟩
        · simp only [e, e0, Option.bind_some, show decide ((-1 : Int) < 0) = true from rfl, Bool.not_false]
          exact ⟨_, _, _, rfl, rfl, hnil _ _ _ rfl rfl⟩
        · exfalso
          have h8 : j = i := by
            rcases Nat.lt_trichotomy j i with h | h | h
            · have := p2 j h; rw [hjn] at this; exact (bLt_irrefl this).elim
            · exact h
            · have h9 := disk_sorted hg j hj i h; rw [hjn] at h9; exact (p3 (by omega) h9).elim
          subst h8
          exact h5 ⟨hj, hjn⟩
    · -- drop
      simp only [show decide ((3 : Int) = 4) = false from rfl, show decide ((3 : Int) = 1) = false from rfl, show decide ((3 : Int) = 3) = true from rfl, show decide ((3 : Int) = 2) = false from rfl, sel]
      rcases p4 with ⟨h5, h6, e⟩ | ⟨h5, e⟩
      · have hix : decide (0 ≤ (i : Int) ∧ (i : Int) < (w.n : Int)) = true := decide_eq_true ⟨by omega, by omega⟩
        have hixv : decide (0 ≤ (i : Int) ∧ (i : Int) < (v.n : Int)) = true := decide_eq_true ⟨by omega, by omega⟩
        have hin : decide (i < w.n) = true := decide_eq_true (by omega)
        rcases hAt with ⟨-, h7⟩ | ⟨j, hj, hjn, e0⟩
        · exact absurd h6 (h7 i h5)
        have j0 : decide ((j : Int) < 0) = false := decide_eq_false (by omega)
        obtain ⟨o0, e5, t5⟩ := spec_l16Drop_ok v (by omega) n
        have hgo : diskGood o0 := good_list.2 ⟨by rw [t5]; exact Nat.le_trans (List.length_filter_le _ _) hl, by rw [t5]; exact hs.filter _, fun x hx => by rw [t5] at hx; exact hf x (List.mem_filter.1 hx).1⟩
        simp only [e, e0, Option.bind_some, Bool.not_true, hixv, hix, chk, Int.toNat_natCast, hin, impl_del_ok w (by omega) i (by omega), j0, c33, e5]
        exact fin o0 _ true ⟨fun _ => hgo, fun _ => rfl⟩ (fun _ => by rw [same_iff, toL_del1 w i (by omega), hwl, erase_filter hs h5, t5, h6]) (by have := hgo.1; omega)
      · rcases hAt with ⟨e0, -⟩ | ⟨j, hj, hjn, -⟩
        · simp only [e, e0, Option.bind_some, show decide ((-1 : Int) < 0) = true from rfl, Bool.not_false]
          exact ⟨_, _, _, rfl, rfl, hnil _ _ _ rfl rfl⟩
        · exfalso
          have h8 : j = i := by
            rcases Nat.lt_trichotomy j i with h | h | h
            · have := p2 j h; rw [hjn] at this; exact (bLt_irrefl this).elim
            · exact h
            · have h9 := disk_sorted hg j hj i h; rw [hjn] at h9; exact (p3 (by omega) h9).elim
          subst h8
          exact h5 ⟨hj, hjn⟩
    · -- sync
      simp only [show decide ((4 : Int) = 4) = true from rfl, show decide ((4 : Int) = 1) = false from rfl, show decide ((4 : Int) = 3) = false from rfl, show decide ((4 : Int) = 2) = false from rfl, sel, c33, chk, d1, Option.bind_some, Bool.not_true]
      rcases hAt with ⟨e0, -⟩ | ⟨j, hj, hjn, e0⟩
      · simp only [e0, Option.bind_some, show decide ((-1 : Int) < 0) = true from rfl]
        exact ⟨_, _, _, rfl, rfl, fun _ => ⟨hw, hg⟩, fun h => by cases h⟩
      · simp only [e0, Option.bind_some, show decide ((j : Int) < 0) = false from decide_eq_false (by omega)]
        exact ⟨_, _, _, rfl, rfl, fun _ => ⟨hw, hg⟩, fun h => by cases h⟩
theorem do_two (v : Vec FL) (hg : diskGood v) (k : Int) (n t x : ByteArray) : ∃ b o u, spec_PutRaw.F v k n t x = some (b, o) ∧ impl_Disk_do_s08b6.F k n t x v = some (b, u) ∧ (b = true → Vec.Same u o ∧ diskGood o) ∧ (b = false → o = Vec.nil) := do_twow v v ⟨rfl, fun _ _ => rfl⟩ hg k n t x
theorem clone_file (v : Vec FL) (hn : v.n ≤ 1048576) : impl_copyDisk.F v = some v := by
  have hM : maxN = 140737488355328 := rfl
  have c33 : decide (v.n * 33 ≤ maxN) = true := decide_eq_true (by omega)
  rw [impl_copyDisk.F, impl_copyDisk.B, slices_Clone_impl_File.F, c33]
  rfl
theorem PutRaw_two (v : Vec FL) (hv : Sml.sml v) (k : Int) (n t x : ByteArray) : ∃ b o u, spec_PutRaw.F v k n t x = some (b, o) ∧ impl_PutRaw.F v k n t x = some (b, u) ∧ Vec.Same u o ∧ Sml.sml u ∧ (b = true → diskGood v ∧ diskGood o) := by
  have hs : sN = 1048576 := rfl
  have hbN : bN = 140737488351232 := rfl
  have hn := hv.1
  have hnilS : Sml.sml (Vec.nil : Vec FL) := ⟨Nat.zero_le _, fun i hi => absurd hi (Nat.not_lt_zero i)⟩
  obtain ⟨c, d1, d2⟩ := spec_DiskOk_ok v (by omega)
  obtain ⟨c', d3, d4⟩ := impl_DiskOk_ok v (by omega)
  obtain rfl : c' = c := by rw [Bool.eq_iff_iff, d2, d4]
  rw [impl_PutRaw.F, impl_PutRaw.B, clone_file v (by omega), d3]
  cases c' with
  | false =>
    obtain ⟨r1, hr1⟩ : ∃ r1, spec_l16At.F v n = some r1 := by
      rcases spec_l16At_ok v (by omega) n with ⟨e, -⟩ | ⟨_, _, _, e⟩
      · exact ⟨_, e⟩
      · exact ⟨_, e⟩
    rw [spec_PutRaw.F, spec_PutRaw.B, hr1, d1]
    exact ⟨_, _, _, rfl, rfl, ⟨rfl, fun _ _ => rfl⟩, hnilS, fun h => by cases h⟩
  | true =>
    have hg := d2.1 rfl
    obtain ⟨b, o, u, e1, e2, h1, h2⟩ := do_two v hg k n t x
    rw [e1]
    simp only [Option.bind_some, sel, Bool.not_true, e2]
    cases b with
    | false => exact ⟨_, _, _, rfl, rfl, by rw [h2 rfl]; exact ⟨rfl, fun _ _ => rfl⟩, hnilS, fun h => by cases h⟩
    | true =>
      obtain ⟨q1, q2⟩ := h1 rfl
      exact ⟨_, _, _, rfl, rfl, q1, good_sml ((diskGood_same q1).2 q2), fun _ => ⟨hg, q2⟩⟩
theorem PutRaw_twow (v w : Vec FL) (hw : Vec.Same w v) (hg : diskGood v) (k : Int) (n t x : ByteArray) (b : Bool) (o : Vec FL) (he : spec_PutRaw.F v k n t x = some (b, o)) : ∃ u, impl_PutRaw.F w k n t x = some (b, u) ∧ (b = false → u = Vec.nil) ∧ (b = true → Vec.Same u o) := by
  have hbN : bN = 140737488351232 := rfl
  have hwg : diskGood w := (diskGood_same hw).2 hg
  have hn : w.n ≤ 40 := hwg.1
  obtain ⟨c', d3, d4⟩ := impl_DiskOk_ok w (by omega)
  obtain rfl : c' = true := d4.2 hwg
  rw [impl_PutRaw.F, impl_PutRaw.B, clone_file w (by omega), d3]
  obtain ⟨b', o', u, e1, e2, h1, h2⟩ := do_twow v w hw hg k n t x
  rw [he] at e1
  cases e1
  simp only [Option.bind_some, sel, Bool.not_true, e2]
  cases b with
  | false => exact ⟨_, rfl, fun _ => rfl, fun h => by cases h⟩
  | true => exact ⟨_, rfl, fun h => (by cases h), fun h => (h1 h).1⟩
end Go.Al
