import Derived.Test.YtbhcecfdgkgjmaaAlI
import Derived.Test.YtbhcecfdgkgjmaaGNames2
set_option linter.unusedVariables false
set_option linter.unusedSimpArgs false
set_option linter.constructorNameAsVariable false
set_option linter.unusedSectionVars false
namespace Go.Al

def pathCh (c : Int) : Prop := (97 ≤ c ∧ c ≤ 122) ∨ (48 ≤ c ∧ c ≤ 57) ∨ c = 46 ∨ c = 45 ∨ c = 47
def pathAll (s : ByteArray) : Prop := ∀ i, i < s.size → pathCh (byteAt s i)
def pathSep (s : ByteArray) : Prop := ∀ i, i < s.size → 0 < i → ¬ (byteAt s i = 47 ∧ byteAt s (i - 1) = 47)
theorem impl_PathOk_loop {ρ : Type} (s : ByteArray) (hs : s.size ≤ bN) (K0 : ByteArray → Option ρ) (Kr : Bool → Option ρ) :
    (pathAll s ∧ impl_PathOk.F0 fuelN s 0 K0 Kr = K0 s) ∨ (¬ pathAll s ∧ impl_PathOk.F0 fuelN s 0 K0 Kr = Kr false) := by
  have hb : bN = 140737488351232 := rfl
  refine loop_inv (σ := Nat) (fun i => s.size - i) (fun i => i ≤ s.size ∧ ∀ j, j < i → pathCh (byteAt s j))
    (fun _ x => (pathAll s ∧ x = K0 s) ∨ (¬ pathAll s ∧ x = Kr false)) (fun k i => impl_PathOk.F0 k s (i : Int) K0 Kr) ?_ fuelN 0 (by unfold fuelN; omega) ⟨Nat.zero_le _, fun j hj => by omega⟩
  intro k i ⟨hi, hg⟩ ih
  simp only [impl_PathOk.F0, impl_PathOk.B0, selb, chkb, decide_eq_true_eq, Int.toNat_natCast, Int.ofNat_lt, Option.bind_some, Bool.not_eq_true', decide_eq_false_iff_not, Int.natCast_nonneg, true_and]
  by_cases hi2 : i < s.size
  · have bad : ¬ pathCh (byteAt s i) → ¬ pathAll s := fun h h2 => h (h2 i hi2)
    have good : pathCh (byteAt s i) → (pathAll s ∧ impl_PathOk.F0 k s ((i + 1 : Nat) : Int) K0 Kr = K0 s) ∨ (¬ pathAll s ∧ impl_PathOk.F0 k s ((i + 1 : Nat) : Int) K0 Kr = Kr false) := fun h => ih (i + 1) ⟨by omega, fun j hj => by
      rcases Nat.lt_or_ge j i with h3 | h3
      · exact hg j h3
      · obtain rfl : j = i := by omega
        exact h⟩ (by omega)
    rw [wr_succ (by omega)]
    simp only [hi2, if_true]
    unfold pathCh at bad good
    repeat' split
    all_goals first
      | exact good (by omega)
      | exact .inr ⟨bad (by omega), rfl⟩
  · rw [if_neg hi2]
    exact .inl ⟨fun j hj => hg j (by omega), rfl⟩
theorem spec_PathOk_loop {ρ : Type} (s : ByteArray) (hs : s.size ≤ bN) (K0 : Unit → Option ρ) (Kr : Bool → Option ρ) :
    ((pathAll s ∧ pathSep s) ∧ spec_PathOk.F0 fuelN s s.size 0 K0 Kr = K0 ()) ∨ (¬ (pathAll s ∧ pathSep s) ∧ spec_PathOk.F0 fuelN s s.size 0 K0 Kr = Kr false) := by
  have hb : bN = 140737488351232 := rfl
  refine loop_inv (σ := Nat) (fun i => s.size - i) (fun i => i ≤ s.size ∧ (∀ j, j < i → pathCh (byteAt s j)) ∧ ∀ j, j < i → 0 < j → ¬ (byteAt s j = 47 ∧ byteAt s (j - 1) = 47))
    (fun _ x => ((pathAll s ∧ pathSep s) ∧ x = K0 ()) ∨ (¬ (pathAll s ∧ pathSep s) ∧ x = Kr false)) (fun k i => spec_PathOk.F0 k s s.size (i : Int) K0 Kr) ?_ fuelN 0 (by unfold fuelN; omega) ⟨Nat.zero_le _, fun j hj => by omega, fun j hj => by omega⟩
  intro k i ⟨hi, hg, hq⟩ ih
  simp only [spec_PathOk.F0, spec_PathOk.B0, selb, chkb, decide_eq_true_eq, Int.toNat_natCast, Int.ofNat_lt, Option.bind_some, Bool.not_eq_true', decide_eq_false_iff_not, Int.natCast_nonneg, true_and]
  by_cases hi2 : i < s.size
  · have bad : ¬ (pathCh (byteAt s i) ∧ (0 < i → ¬ (byteAt s i = 47 ∧ byteAt s (i - 1) = 47))) → ¬ (pathAll s ∧ pathSep s) := fun h h2 => h ⟨h2.1 i hi2, h2.2 i hi2⟩
    have good : (pathCh (byteAt s i) ∧ (0 < i → ¬ (byteAt s i = 47 ∧ byteAt s (i - 1) = 47))) → ((pathAll s ∧ pathSep s) ∧ spec_PathOk.F0 k s s.size ((i + 1 : Nat) : Int) K0 Kr = K0 ()) ∨ (¬ (pathAll s ∧ pathSep s) ∧ spec_PathOk.F0 k s s.size ((i + 1 : Nat) : Int) K0 Kr = Kr false) := fun h => ih (i + 1) ⟨by omega, fun j hj => by
      rcases Nat.lt_or_ge j i with h3 | h3
      · exact hg j h3
      · obtain rfl : j = i := by omega
        exact h.1, fun j hj => by
      rcases Nat.lt_or_ge j i with h3 | h3
      · exact hq j h3
      · obtain rfl : j = i := by omega
        exact h.2⟩ (by omega)
    rw [wr_succ (by omega)]
    simp only [hi2, if_true]
    unfold pathCh at bad good
    by_cases h0 : 0 < i
    · have e : wr ((i : Int) - 1) = ((i - 1 : Nat) : Int) := wr_pred h0 (by omega)
      have e1 : i - 1 < s.size := by omega
      have e2 : (0 : Int) < i := by omega
      simp only [e, Int.toNat_natCast, Int.natCast_nonneg, Int.ofNat_lt, e1, e2, if_true, true_and]
      generalize byteAt s (i - 1) = d at *
      generalize byteAt s i = c at *
      repeat' split
      all_goals first
        | exact good (by omega)
        | exact .inr ⟨bad (by omega), rfl⟩
    · have e2 : ¬ (0 : Int) < i := by omega
      simp only [e2, if_false]
      generalize byteAt s (i - 1) = d at *
      generalize byteAt s i = c at *
      repeat' split
      all_goals first
        | exact good (by omega)
        | exact .inr ⟨bad (by omega), rfl⟩
  · rw [if_neg hi2]
    exact .inl ⟨⟨fun j hj => hg j (by omega), fun j hj => hq j (by omega)⟩, rfl⟩
theorem byteAt_toList (s : ByteArray) (i : Nat) (h : i < s.size) : s.data.toList[i]? = some (UInt8.ofNat (byteAt s i).toNat) := by
  have h' : i < s.data.toList.length := by simpa using h
  unfold byteAt
  rw [List.getD_eq_getElem?_getD, List.getElem?_eq_getElem h']
  simp
theorem byteAt_47 (s : ByteArray) (i : Nat) : byteAt s i = 47 ↔ s.data.toList.getD i 0 = 47 := by
  unfold byteAt
  constructor
  · intro h
    apply UInt8.toNat_inj.1
    have : (s.data.toList.getD i 0).toNat = 47 := by omega
    rw [this]; rfl
  · intro h
    rw [h]; rfl
theorem extract_one (s : ByteArray) (i : Nat) (h : i < s.size) : s.extract i (i + 1) = ByteArray.mk #[47] ↔ byteAt s i = 47 := by
  have h' : i < s.data.toList.length := by simpa using h
  rw [byteAt_47]
  have e : (s.extract i (i + 1)).data.toList = [s.data.toList.getD i 0] := by
    simp only [ByteArray.data_extract, Array.toList_extract]
    rw [List.getD_eq_getElem?_getD, List.getElem?_eq_getElem h']
    simp [List.extract, List.take_one, h']
  constructor
  · intro h
    rw [h] at e
    simpa using e.symm
  · intro h
    rw [h] at e
    cases hs : s.extract i (i + 1) with
    | mk d =>
      rw [hs] at e
      simp only [ByteArray.mk.injEq]
      exact Array.toList_inj.1 e
theorem first_of {p : Nat → Prop} : ∀ (n : Nat), p n → ∃ i, p i ∧ ∀ j, j < i → ¬ p j := by
  intro n
  induction n using Nat.strongRecOn with
  | _ n ih =>
    intro h
    by_cases hs : ∃ j, j < n ∧ p j
    · obtain ⟨j, hj, hp⟩ := hs
      exact ih j hj hp
    · exact ⟨n, h, fun j hj hp => hs ⟨j, hj, hp⟩⟩
theorem occ_two (l : List UInt8) (a b : UInt8) (i : Nat) : Lib.occAt l [a, b] i = true ↔ l[i]? = some a ∧ l[i + 1]? = some b := by
  have e0 : (l.drop i)[0]? = l[i]? := by simp
  have e1 : (l.drop i)[1]? = l[i + 1]? := by simp
  unfold Lib.occAt
  rw [← e0, ← e1]
  cases l.drop i with
  | nil => simp
  | cons x t =>
    cases t with
    | nil => simp
    | cons y t =>
      simp
      constructor
      · rintro ⟨rfl, rfl⟩; exact ⟨rfl, rfl⟩
      · rintro ⟨rfl, rfl⟩; exact ⟨rfl, rfl⟩
theorem contains_sep (s : ByteArray) : Lib.contains s.data.toList [47, 47] = true ↔ ¬ pathSep s := by
  have hl : s.data.toList.length = s.size := by simp
  have hocc : ∀ i, i < s.size → 0 < i → (Lib.occAt s.data.toList [47, 47] (i - 1) = true ↔ (byteAt s i = 47 ∧ byteAt s (i - 1) = 47)) := by
    intro i hi h0
    rw [occ_two, byteAt_47, byteAt_47, List.getD_eq_getElem?_getD, List.getD_eq_getElem?_getD]
    have e : i - 1 + 1 = i := by omega
    rw [e, List.getElem?_eq_getElem (by omega : i < s.data.toList.length), List.getElem?_eq_getElem (by omega : i - 1 < s.data.toList.length)]
    simp only [Option.some.injEq, Option.getD_some]
    exact And.comm
  have hout : ∀ j, Lib.occAt s.data.toList [47, 47] j = true → j + 1 < s.size := by
    intro j h
    have := ((occ_two _ _ _ _).1 h).2
    have := (List.getElem?_eq_some_iff.1 this).1
    omega
  unfold Lib.contains
  rw [decide_eq_true_eq]
  constructor
  · intro h hp
    have : Lib.index s.data.toList [47, 47] = -1 := Lib.index_none fun j hj => by
      cases ho : Lib.occAt s.data.toList [47, 47] j with
      | false => rfl
      | true =>
        have h1 := hout j ho
        exact absurd ((hocc (j + 1) h1 (by omega)).1 ho) (hp (j + 1) h1 (by omega))
    omega
  · intro hp
    have : ∃ i, i < s.size ∧ 0 < i ∧ (byteAt s i = 47 ∧ byteAt s (i - 1) = 47) := Classical.byContradiction fun hn => hp fun i hi h0 h => hn ⟨i, hi, h0, h⟩
    obtain ⟨i, hi, h0, h⟩ := this
    obtain ⟨j, hj, hf⟩ := first_of (p := fun j => Lib.occAt s.data.toList [47, 47] j = true) (i - 1) ((hocc i hi h0).2 h)
    have h1 := hout j hj
    rw [Lib.index_first (i := j) (by omega) hj fun k hk => by simpa using hf k hk]
    omega
def pathGood (s : ByteArray) : Prop := (1 ≤ s.size ∧ s.size ≤ 24) ∧ byteAt s 0 ≠ 47 ∧ byteAt s (s.size - 1) ≠ 47 ∧ pathAll s ∧ pathSep s
theorem spec_PathOk_ok (s : ByteArray) (hs : s.size ≤ bN) : ∃ b, spec_PathOk.F s = some b ∧ (b = true ↔ pathGood s) := by
  have hb : bN = 140737488351232 := rfl
  have e44 : spec_l01In.F (s.size : Int) 1 24 = some (decide (1 ≤ s.size ∧ s.size ≤ 24)) := by
    unfold spec_l01In.F spec_l01In.B
    simp only [selb, decide_eq_true_eq]
    split <;> (congr 1; rw [Bool.eq_iff_iff]; simp only [decide_eq_true_eq, Bool.false_eq_true, false_iff]; omega)
  unfold spec_PathOk.F spec_PathOk.B pathGood
  rw [e44]
  simp only [selb, chkb, decide_eq_true_eq, Option.bind_some, Bool.not_eq_true', decide_eq_false_iff_not, Int.le_refl, true_and]
  by_cases h1 : 1 ≤ s.size ∧ s.size ≤ 24
  · have e : wr ((s.size : Int) - 1) = ((s.size - 1 : Nat) : Int) := wr_pred (by omega) (by omega)
    simp only [h1, e, not_true_eq_false, and_self, if_false, Int.toNat_natCast, Int.toNat_zero]
    rw [if_pos (by omega)]
    split
    · rename_i h
      exact ⟨false, rfl, by simp [h]⟩
    · rename_i h
      rw [if_pos (by omega)]
      split
      · rename_i h'
        exact ⟨false, rfl, by simp [h']⟩
      · rename_i h'
        rcases spec_PathOk_loop s hs (fun _ => some true) (fun x => some x) with ⟨h2, h3⟩ | ⟨h2, h3⟩
        · refine ⟨true, ?_, ?_⟩
          · rw [h3]
          · simp [h, h', h2]
        · refine ⟨false, ?_, ?_⟩
          · rw [h3]
          · simp only [Bool.false_eq_true, false_iff, true_and]
            exact fun h => h2 h.2.2
  · rw [if_pos h1]
    exact ⟨false, rfl, by simp only [Bool.false_eq_true, false_iff]; exact fun h => h1 h.1⟩
theorem hasPrefix_sep (s : ByteArray) : strings_HasPrefix.F s (ByteArray.mk #[47]) = some (decide (1 ≤ s.size ∧ byteAt s 0 = 47)) := by
  unfold strings_HasPrefix.F strings_HasPrefix.B stringslite_HasPrefix.F stringslite_HasPrefix.B
  have e : (ByteArray.mk #[47]).size = 1 := rfl
  simp only [selb, chkb, decide_eq_true_eq, e]
  by_cases h : 1 ≤ s.size
  · rw [if_pos (by omega), if_pos (by omega)]
    simp only [Option.bind_some, Option.some.injEq, decide_eq_decide]
    have := extract_one s 0 (by omega)
    simp only [Int.toNat_zero]
    rw [show ((1 : Nat) : Int).toNat = 0 + 1 from rfl, this]
    exact ⟨fun h' => ⟨h, h'⟩, fun h' => h'.2⟩
  · rw [if_neg (by omega)]
    simp [h]
theorem hasSuffix_sep (s : ByteArray) (hs : s.size ≤ bN) : strings_HasSuffix.F s (ByteArray.mk #[47]) = some (decide (1 ≤ s.size ∧ byteAt s (s.size - 1) = 47)) := by
  have hb : bN = 140737488351232 := rfl
  unfold strings_HasSuffix.F strings_HasSuffix.B stringslite_HasSuffix.F stringslite_HasSuffix.B
  have e : (ByteArray.mk #[47]).size = 1 := rfl
  simp only [selb, chkb, decide_eq_true_eq, e]
  by_cases h : 1 ≤ s.size
  · have e1 : wr ((s.size : Int) - (1 : Nat)) = ((s.size - 1 : Nat) : Int) := wr_pred (by omega) (by omega)
    rw [e1, if_pos (by omega), if_pos (by omega)]
    simp only [Option.bind_some, Option.some.injEq, decide_eq_decide, Int.toNat_natCast]
    have := extract_one s (s.size - 1) (by omega)
    rw [show s.size - 1 + 1 = s.size from by omega] at this
    rw [this]
    exact ⟨fun h' => ⟨h, h'⟩, fun h' => h'.2⟩
  · rw [if_neg (by omega)]
    simp [h]
theorem impl_PathOk_ok (s : ByteArray) (hs : s.size ≤ 1048576) : ∃ b, impl_PathOk.F s = some b ∧ (b = true ↔ pathGood s) := by
  have hb : bN = 140737488351232 := rfl
  have e44 : impl_inRange.F (s.size : Int) 1 24 = some (decide (1 ≤ s.size ∧ s.size ≤ 24)) := by
    unfold impl_inRange.F impl_inRange.B
    simp only [selb, decide_eq_true_eq]
    split <;> (congr 1; rw [Bool.eq_iff_iff]; simp only [decide_eq_true_eq, Bool.false_eq_true, false_iff]; omega)
  have e4 : strings_Contains.F s (ByteArray.mk #[47, 47]) = some (Lib.contains s.data.toList [47, 47]) := by
    unfold strings_Contains.F
    rw [selb, if_pos (by rw [decide_eq_true_eq]; omega)]
  unfold impl_PathOk.F impl_PathOk.B pathGood
  rcases impl_PathOk_loop s (by omega) _ (fun x => some x) with ⟨h2, h3⟩ | ⟨h2, h3⟩
  · rw [h3, e44]
    simp only [hasPrefix_sep, hasSuffix_sep s (by omega), e4, selb, chkb, decide_eq_true_eq, Option.bind_some, Bool.not_eq_true', decide_eq_false_iff_not]
    by_cases h1 : 1 ≤ s.size ∧ s.size ≤ 24
    · simp only [h1, not_true_eq_false, and_self, if_false, true_and]
      by_cases h : byteAt s 0 = 47
      · simp [h]
      · by_cases h' : byteAt s (s.size - 1) = 47
        · simp [h, h']
        · simp only [h, h', not_false_eq_true, if_true, h2, ne_eq, true_and]
          refine ⟨_, rfl, ?_⟩
          have := contains_sep s
          cases hc : Lib.contains s.data.toList [47, 47] with
          | true => simp; exact this.1 hc
          | false =>
            simp
            exact Classical.byContradiction fun hn => by rw [this.2 hn] at hc; cases hc
    · rw [if_pos h1]
      exact ⟨false, rfl, by simp only [Bool.false_eq_true, false_iff]; exact fun h => h1 h.1⟩
  · rw [h3]
    exact ⟨false, rfl, by simp only [Bool.false_eq_true, false_iff]; exact fun h => h2 h.2.2.2.1⟩
def nameGood (v : Vec (ByteArray × Int × Int)) (i : Nat) : Prop :=
  pathGood (v.g i).1 ∧ (0 < i → bLt (v.g (i - 1)).1 (v.g i).1) ∧ (0 ≤ (v.g i).2.1 ∧ (v.g i).2.1 ≤ 11) ∧ (0 ≤ (v.g i).2.2 ∧ (v.g i).2.2 ≤ 39) ∧ ∀ j, j < i → (v.g j).2.1 ≠ (v.g i).2.1
def namesGood (v : Vec (ByteArray × Int × Int)) : Prop := v.n ≤ 12 ∧ ∀ i, i < v.n → nameGood v i
theorem in_eq (x a b : Int) : spec_l01In.F x a b = some (decide (a ≤ x ∧ x ≤ b)) := by
  unfold spec_l01In.F spec_l01In.B
  simp only [selb, decide_eq_true_eq]
  split <;> simp [*]
theorem inRange_eq (x a b : Int) : impl_inRange.F x a b = some (decide (a ≤ x ∧ x ≤ b)) := by
  unfold impl_inRange.F impl_inRange.B
  simp only [selb, decide_eq_true_eq]
  split <;> simp [*]
/-- The inner round of the reference: is the id new? -/
theorem spec_NamesOk_inner {ρ : Type} (v : Vec (ByteArray × Int × Int)) (i : Nat) (hi : i < v.n) (hn : v.n ≤ bN) (p : ByteArray) (d q : Int) (K2 : Vec (ByteArray × Int × Int) → Int → Option ρ) (Kr : Bool → Option ρ) :
    ((∀ j, j < i → (v.g j).2.1 ≠ d) ∧ spec_NamesOk.F1 fuelN v i 0 p d q K2 Kr = K2 v i) ∨ (¬ (∀ j, j < i → (v.g j).2.1 ≠ d) ∧ spec_NamesOk.F1 fuelN v i 0 p d q K2 Kr = Kr false) := by
  have hb : bN = 140737488351232 := rfl
  refine loop_inv (σ := Nat) (fun j => i - j) (fun j => j ≤ i ∧ ∀ k, k < j → (v.g k).2.1 ≠ d)
    (fun _ x => ((∀ j, j < i → (v.g j).2.1 ≠ d) ∧ x = K2 v i) ∨ (¬ (∀ j, j < i → (v.g j).2.1 ≠ d) ∧ x = Kr false)) (fun k j => spec_NamesOk.F1 k v i (j : Int) p d q K2 Kr) ?_ fuelN 0 (by unfold fuelN; omega) ⟨Nat.zero_le _, fun j hj => by omega⟩
  intro k j ⟨hj, hg⟩ ih
  simp only [spec_NamesOk.F1, spec_NamesOk.B1, selb, chkb, decide_eq_true_eq, Int.toNat_natCast, Int.ofNat_lt, Int.natCast_nonneg, true_and]
  by_cases hj2 : j < i
  · rw [wr_succ (by omega)]
    have hjn : j < v.n := by omega
    simp only [hj2, hjn, if_true]
    split
    · rename_i h
      exact .inr ⟨fun h2 => h2 j hj2 h, rfl⟩
    · rename_i h
      refine ih (j + 1) ⟨by omega, fun k hk => ?_⟩ (by omega)
      rcases Nat.lt_or_ge k j with h3 | h3
      · exact hg k h3
      · obtain rfl : k = j := by omega
        exact h
  · rw [if_neg hj2]
    exact .inl ⟨fun k hk => hg k (by omega), rfl⟩
theorem spec_NamesOk_loop {ρ : Type} (v : Vec (ByteArray × Int × Int)) (hv : Sml.sml v) (K0 : Unit → Option ρ) (Kr : Bool → Option ρ) :
    ((∀ i, i < v.n → nameGood v i) ∧ spec_NamesOk.F0 fuelN v 0 K0 Kr = K0 ()) ∨ (¬ (∀ i, i < v.n → nameGood v i) ∧ spec_NamesOk.F0 fuelN v 0 K0 Kr = Kr false) := by
  have hb : bN = 140737488351232 := rfl
  have hs : sN = 1048576 := rfl
  obtain ⟨hn, he⟩ := hv
  refine loop_inv (σ := Nat) (fun i => v.n - i) (fun i => i ≤ v.n ∧ ∀ j, j < i → nameGood v j)
    (fun _ x => ((∀ i, i < v.n → nameGood v i) ∧ x = K0 ()) ∨ (¬ (∀ i, i < v.n → nameGood v i) ∧ x = Kr false)) (fun k i => spec_NamesOk.F0 k v (i : Int) K0 Kr) ?_ fuelN 0 (by unfold fuelN; omega) ⟨Nat.zero_le _, fun j hj => by omega⟩
  intro k i ⟨hi, hg⟩ ih
  by_cases hi2 : i < v.n
  · have bad : ¬ nameGood v i → ¬ (∀ j, j < v.n → nameGood v j) := fun h h2 => h (h2 i hi2)
    have good : nameGood v i → ∀ j, j < i + 1 → nameGood v j := fun h j hj => by
      rcases Nat.lt_or_ge j i with h3 | h3
      · exact hg j h3
      · obtain rfl : j = i := by omega
        exact h
    obtain ⟨b, hp, hpb⟩ := spec_PathOk_ok (v.g i).1 (by have : (v.g i).1.size ≤ sN := (he i hi2).1; omega)
    simp only [spec_NamesOk.F0, spec_NamesOk.B0, in_eq, hp, selb, chkb, decide_eq_true_eq, Int.toNat_natCast, Int.ofNat_lt, Option.bind_some, Bool.not_eq_true', decide_eq_false_iff_not, Int.natCast_nonneg, true_and, hi2, if_true]
    cases b with
    | false =>
      simp only [if_true]
      exact .inr ⟨bad fun h => by simpa using hpb.2 h.1, trivial⟩
    | true =>
      have hpg := hpb.1 rfl
      have tail : ∀ (h2 : 0 < i → bLt (v.g (i - 1)).1 (v.g i).1),
        (((∀ i, i < v.n → nameGood v i) ∧ (if ¬ (0 ≤ (v.g i).2.1 ∧ (v.g i).2.1 ≤ 11) then Kr false else if ¬ (0 ≤ (v.g i).2.2 ∧ (v.g i).2.2 ≤ 39) then Kr false else
          spec_NamesOk.F1 fuelN v (i : Int) 0 (v.g i).1 (v.g i).2.1 (v.g i).2.2 (fun e11 e12 => spec_NamesOk.F0 k e11 (wr (e12 + 1)) K0 Kr) (fun x11 => Kr x11)) = K0 ()) ∨
        (¬ (∀ i, i < v.n → nameGood v i) ∧ (if ¬ (0 ≤ (v.g i).2.1 ∧ (v.g i).2.1 ≤ 11) then Kr false else if ¬ (0 ≤ (v.g i).2.2 ∧ (v.g i).2.2 ≤ 39) then Kr false else
          spec_NamesOk.F1 fuelN v (i : Int) 0 (v.g i).1 (v.g i).2.1 (v.g i).2.2 (fun e11 e12 => spec_NamesOk.F0 k e11 (wr (e12 + 1)) K0 Kr) (fun x11 => Kr x11)) = Kr false)) := by
        intro h2
        by_cases h3 : 0 ≤ (v.g i).2.1 ∧ (v.g i).2.1 ≤ 11
        · by_cases h4 : 0 ≤ (v.g i).2.2 ∧ (v.g i).2.2 ≤ 39
          · rw [if_neg (not_not_intro h3), if_neg (not_not_intro h4)]
            rcases spec_NamesOk_inner v i hi2 (by omega) (v.g i).1 (v.g i).2.1 (v.g i).2.2 (fun e11 e12 => spec_NamesOk.F0 k e11 (wr (e12 + 1)) K0 Kr) (fun x11 => Kr x11) with ⟨h5, e⟩ | ⟨h5, e⟩
            · rw [e, wr_succ (by omega)]
              exact ih (i + 1) ⟨hi2, good ⟨hpg, h2, h3, h4, h5⟩⟩ (by omega)
            · rw [e]
              exact .inr ⟨bad fun h => h5 h.2.2.2.2, rfl⟩
          · rw [if_neg (not_not_intro h3), if_pos h4]
            exact .inr ⟨bad fun h => h4 h.2.2.2.1, rfl⟩
        · rw [if_pos h3]
          exact .inr ⟨bad fun h => h3 h.2.2.1, rfl⟩
      simp only [Bool.true_eq_false, if_false]
      by_cases h0 : 0 < i
      · have e0 : (0 : Int) < i := by omega
        have e1 : i - 1 < v.n := by omega
        simp only [e0, wr_pred h0 (by omega : i < 4611686018427387904), Int.toNat_natCast, Int.ofNat_lt, Int.natCast_nonneg, e1, true_and, if_true]
        by_cases h2 : (v.g (i - 1)).1.toList < (v.g i).1.toList
        · rw [if_neg (not_not_intro h2)]
          exact tail fun _ => h2
        · rw [if_pos h2]
          exact .inr ⟨bad fun h => h2 (h.2.1 h0), rfl⟩
      · have e0 : ¬ (0 : Int) < i := by omega
        simp only [e0, if_false]
        exact tail fun h => absurd h h0
  · simp only [spec_NamesOk.F0, spec_NamesOk.B0, selb, decide_eq_true_eq, Int.ofNat_lt]
    rw [if_neg hi2]
    exact .inl ⟨fun j hj => hg j (by omega), rfl⟩
/-- The place of an id. -/
def isFirst (p : Nat → Prop) (n : Nat) (r : Int) : Prop := (r = -1 ∧ ∀ j, j < n → ¬ p j) ∨ ∃ i : Nat, r = i ∧ i < n ∧ p i ∧ ∀ j, j < i → ¬ p j
theorem idAt_loop {ρ : Type} (v : Vec (ByteArray × Int × Int)) (hn : v.n ≤ bN) (d : Int) (K0 : Int → Option ρ) (Kr : Int → Int → Option ρ) :
    ((∀ j, j < v.n → (v.g j).2.1 ≠ d) ∧ slices_IndexFunc_impl_Name_sf709.F0 fuelN v v.n 0 d K0 Kr = K0 d) ∨ (∃ i : Nat, i < v.n ∧ (v.g i).2.1 = d ∧ (∀ j, j < i → (v.g j).2.1 ≠ d) ∧ slices_IndexFunc_impl_Name_sf709.F0 fuelN v v.n 0 d K0 Kr = Kr i d) := by
  have hb : bN = 140737488351232 := rfl
  refine loop_inv (σ := Nat) (fun i => v.n - i) (fun i => i ≤ v.n ∧ ∀ j, j < i → (v.g j).2.1 ≠ d)
    (fun _ x => ((∀ j, j < v.n → (v.g j).2.1 ≠ d) ∧ x = K0 d) ∨ (∃ i : Nat, i < v.n ∧ (v.g i).2.1 = d ∧ (∀ j, j < i → (v.g j).2.1 ≠ d) ∧ x = Kr i d)) (fun k i => slices_IndexFunc_impl_Name_sf709.F0 k v v.n (i : Int) d K0 Kr) ?_ fuelN 0 (by unfold fuelN; omega) ⟨Nat.zero_le _, fun j hj => by omega⟩
  intro k i ⟨hi, hg⟩ ih
  simp only [slices_IndexFunc_impl_Name_sf709.F0, slices_IndexFunc_impl_Name_sf709.B0, impl_idAt_1_s0fda.F, impl_idAt_1_s0fda.B, selb, chkb, decide_eq_true_eq, Option.bind_some, Int.toNat_natCast, Int.ofNat_lt, Int.natCast_nonneg, true_and]
  by_cases hi2 : i < v.n
  · rw [wr_succ (by omega)]
    simp only [hi2, if_true]
    split
    · rename_i h
      exact .inr ⟨i, hi2, h, hg, rfl⟩
    · rename_i h
      refine ih (i + 1) ⟨by omega, fun k hk => ?_⟩ (by omega)
      rcases Nat.lt_or_ge k i with h3 | h3
      · exact hg k h3
      · obtain rfl : k = i := by omega
        exact h
  · rw [if_neg hi2]
    exact .inl ⟨fun k hk => hg k (by omega), rfl⟩
theorem impl_idAt_ok (v : Vec (ByteArray × Int × Int)) (hn : v.n ≤ bN) (d : Int) : ∃ r, impl_idAt.F v d = some r ∧ isFirst (fun i => (v.g i).2.1 = d) v.n r := by
  unfold impl_idAt.F impl_idAt.B slices_IndexFunc_impl_Name_sf709.F slices_IndexFunc_impl_Name_sf709.B
  rcases idAt_loop v hn d (fun e01 => some ((-1 : Int), e01)) (fun x01 x02 => some (x01, x02)) with ⟨h, e⟩ | ⟨i, h1, h2, h3, e⟩
  · exact ⟨-1, by rw [e]; rfl, .inl ⟨rfl, h⟩⟩
  · exact ⟨i, by rw [e]; rfl, .inr ⟨i, rfl, h1, h2, h3⟩⟩
theorem impl_NamesOk_loop {ρ : Type} (v : Vec (ByteArray × Int × Int)) (hv : Sml.sml v) (K0 : Unit → Option ρ) (Kr : Bool → Option ρ) :
    ((∀ i, i < v.n → nameGood v i) ∧ impl_NamesOk.F0 fuelN v v v.n 0 K0 Kr = K0 ()) ∨ (¬ (∀ i, i < v.n → nameGood v i) ∧ impl_NamesOk.F0 fuelN v v v.n 0 K0 Kr = Kr false) := by
  have hb : bN = 140737488351232 := rfl
  have hs : sN = 1048576 := rfl
  obtain ⟨hn, he⟩ := hv
  refine loop_inv (σ := Nat) (fun i => v.n - i) (fun i => i ≤ v.n ∧ ∀ j, j < i → nameGood v j)
    (fun _ x => ((∀ i, i < v.n → nameGood v i) ∧ x = K0 ()) ∨ (¬ (∀ i, i < v.n → nameGood v i) ∧ x = Kr false)) (fun k i => impl_NamesOk.F0 k v v v.n (i : Int) K0 Kr) ?_ fuelN 0 (by unfold fuelN; omega) ⟨Nat.zero_le _, fun j hj => by omega⟩
  intro k i ⟨hi, hg⟩ ih
  by_cases hi2 : i < v.n
  · have bad : ¬ nameGood v i → ¬ (∀ j, j < v.n → nameGood v j) := fun h h2 => h (h2 i hi2)
    have good : nameGood v i → ∀ j, j < i + 1 → nameGood v j := fun h j hj => by
      rcases Nat.lt_or_ge j i with h3 | h3
      · exact hg j h3
      · obtain rfl : j = i := by omega
        exact h
    obtain ⟨b, hp, hpb⟩ := impl_PathOk_ok (v.g i).1 (he i hi2).1
    obtain ⟨r, hr, hrf⟩ := impl_idAt_ok v (by omega) (v.g i).2.1
    have hri : r = i ↔ ∀ j, j < i → (v.g j).2.1 ≠ (v.g i).2.1 := by
      rcases hrf with ⟨-, h⟩ | ⟨q, rfl, h1, h2, h3⟩
      · exact absurd rfl (h i hi2)
      · constructor
        · intro h
          obtain rfl : q = i := by omega
          exact h3
        · intro h
          rcases Nat.lt_trichotomy q i with hlt | rfl | hlt
          · exact absurd h2 (h q hlt)
          · rfl
          · exact absurd rfl (h3 i hlt)
    simp only [impl_NamesOk.F0, impl_NamesOk.B0, inRange_eq, hp, hr, selb, chkb, decide_eq_true_eq, Int.toNat_natCast, Int.ofNat_lt, Option.bind_some, Bool.not_eq_true', decide_eq_false_iff_not, Int.natCast_nonneg, true_and, hi2, if_true]
    rw [wr_succ (by omega)]
    cases b with
    | false =>
      simp only [if_true]
      exact .inr ⟨bad fun h => by simpa using hpb.2 h.1, trivial⟩
    | true =>
      have hpg := hpb.1 rfl
      simp only [Bool.true_eq_false, if_false]
      split
      · rename_i h
        exact .inr ⟨bad fun h' => h h'.2.2.1, rfl⟩
      rename_i h3
      split
      · rename_i h
        exact .inr ⟨bad fun h' => h h'.2.2.2.1, rfl⟩
      rename_i h4
      by_cases h0 : 0 < i
      · have e0 : (0 : Int) < i := by omega
        have e1 : i - 1 < v.n := by omega
        simp only [e0, wr_pred h0 (by omega : i < 4611686018427387904), Int.toNat_natCast, Int.ofNat_lt, Int.natCast_nonneg, e1, true_and, if_true]
        by_cases h2 : (v.g (i - 1)).1.toList < (v.g i).1.toList
        · rw [if_neg (not_not_intro h2)]
          split
          · rename_i h
            exact .inr ⟨bad fun h' => h (hri.2 h'.2.2.2.2), rfl⟩
          · rename_i h
            exact ih (i + 1) ⟨hi2, good ⟨hpg, fun _ => h2, Decidable.not_not.1 h3, Decidable.not_not.1 h4, hri.1 (Decidable.not_not.1 h)⟩⟩ (by omega)
        · rw [if_pos h2]
          exact .inr ⟨bad fun h => h2 (h.2.1 h0), rfl⟩
      · have e0 : ¬ (0 : Int) < i := by omega
        simp only [e0, if_false]
        split
        · rename_i h
          exact .inr ⟨bad fun h' => h (hri.2 h'.2.2.2.2), rfl⟩
        · rename_i h
          exact ih (i + 1) ⟨hi2, good ⟨hpg, fun h => absurd h h0, Decidable.not_not.1 h3, Decidable.not_not.1 h4, hri.1 (Decidable.not_not.1 h)⟩⟩ (by omega)
  · simp only [impl_NamesOk.F0, impl_NamesOk.B0, selb, decide_eq_true_eq, Int.ofNat_lt]
    rw [if_neg hi2]
    exact .inl ⟨fun j hj => hg j (by omega), rfl⟩
theorem spec_NamesOk_ok (v : Vec (ByteArray × Int × Int)) (hv : Sml.sml v) : ∃ b, spec_NamesOk.F v = some b ∧ (b = true ↔ namesGood v) := by
  unfold spec_NamesOk.F spec_NamesOk.B namesGood
  simp only [selb, decide_eq_true_eq]
  split
  · exact ⟨false, rfl, by simp; omega⟩
  · rcases spec_NamesOk_loop v hv (fun _ => some true) (fun x => some x) with ⟨h, e⟩ | ⟨h, e⟩
    · exact ⟨true, by rw [e], by simp; exact ⟨by omega, h⟩⟩
    · exact ⟨false, by rw [e], by simp only [Bool.false_eq_true, false_iff]; exact fun h' => h h'.2⟩
theorem impl_NamesOk_ok (v : Vec (ByteArray × Int × Int)) (hv : Sml.sml v) : ∃ b, impl_NamesOk.F v = some b ∧ (b = true ↔ namesGood v) := by
  unfold impl_NamesOk.F impl_NamesOk.B namesGood
  simp only [selb, decide_eq_true_eq]
  split
  · exact ⟨false, rfl, by simp; omega⟩
  · rcases impl_NamesOk_loop v hv (fun _ => some true) (fun x => some x) with ⟨h, e⟩ | ⟨h, e⟩
    · exact ⟨true, by rw [e], by simp; exact ⟨by omega, h⟩⟩
    · exact ⟨false, by rw [e], by simp only [Bool.false_eq_true, false_iff]; exact fun h' => h h'.2⟩
theorem spec_l13Path_ok (v : Vec (ByteArray × Int × Int)) (hv : Sml.sml v) (d : ByteArray) : ∃ r, spec_l13Path.F v d = some r ∧ IsFirst (fun i => (v.g i).1 = d) v.n r := by
  have hs : sN = 1048576 := rfl
  have hb : bN = 140737488351232 := rfl
  have hn := hv.1
  unfold spec_l13Path.F spec_l13Path.B
  rcases first_loop (p := fun i => (v.g i).1 = d) (n := v.n) (by omega) (fun k i => spec_l13Path.F0 k v d i (fun _ => some (-1 : Int)) (fun x => some x)) (some (-1)) (fun i => some i) (fun k i => by
    simp only [spec_l13Path.F0, spec_l13Path.B0, selb, chkb, decide_eq_true_eq, Int.toNat_natCast, Int.ofNat_lt, Int.natCast_nonneg, true_and]
    refine ⟨fun h1 h2 => by simp [h1, h2], fun h1 h2 => ?_, fun h1 => by simp [h1]⟩
    rw [wr_succ (by omega)]
    simp [h1, h2]) with ⟨h, e⟩ | ⟨i, h1, h2, h3, e⟩
  · exact ⟨-1, e, .inl ⟨rfl, h⟩⟩
  · exact ⟨i, e, .inr ⟨i, rfl, h1, h2, h3⟩⟩
theorem impl_pathAt_ok (v : Vec (ByteArray × Int × Int)) (hv : Sml.sml v) (d : ByteArray) : ∃ r, impl_pathAt.F v d = some r ∧ IsFirst (fun i => (v.g i).1 = d) v.n r := by
  have hs : sN = 1048576 := rfl
  have hb : bN = 140737488351232 := rfl
  have hn := hv.1
  unfold impl_pathAt.F impl_pathAt.B slices_IndexFunc_impl_Name_sb609.F slices_IndexFunc_impl_Name_sb609.B
  rcases first_loop (p := fun i => (v.g i).1 = d) (n := v.n) (by omega) (fun k i => slices_IndexFunc_impl_Name_sb609.F0 k v v.n i d (fun e01 => some ((-1 : Int), e01)) (fun x01 x02 => some (x01, x02))) (some (-1, d)) (fun i => some (i, d)) (fun k i => by
    simp only [slices_IndexFunc_impl_Name_sb609.F0, slices_IndexFunc_impl_Name_sb609.B0, impl_pathAt_1_sbb22.F, impl_pathAt_1_sbb22.B, Option.bind_some, selb, chkb, decide_eq_true_eq, Int.toNat_natCast, Int.ofNat_lt, Int.natCast_nonneg, true_and]
    refine ⟨fun h1 h2 => by simp [h1, h2], fun h1 h2 => ?_, fun h1 => by simp [h1]⟩
    rw [wr_succ (by omega)]
    simp [h1, h2]) with ⟨h, e⟩ | ⟨i, h1, h2, h3, e⟩
  · exact ⟨-1, by rw [e]; rfl, .inl ⟨rfl, h⟩⟩
  · exact ⟨i, by rw [e]; rfl, .inr ⟨i, rfl, h1, h2, h3⟩⟩
theorem ByPath_same (v : Vec (ByteArray × Int × Int)) (hv : Sml.sml v) (d : ByteArray) : ∃ r, spec_ByPath.F v d = some r ∧ impl_ByPath.F v d = some r := by
  obtain ⟨b, e1, h1⟩ := spec_NamesOk_ok v hv
  obtain ⟨b', e2, h2⟩ := impl_NamesOk_ok v hv
  have : b' = b := by rw [Bool.eq_iff_iff, h1, h2]
  subst this
  obtain ⟨r, e3, h3⟩ := spec_l13Path_ok v hv d
  obtain ⟨q, e4, h4⟩ := impl_pathAt_ok v hv d
  obtain rfl := h3.one h4
  unfold spec_ByPath.F spec_ByPath.B impl_ByPath.F impl_ByPath.B
  rw [e1, e2, e3, e4]
  simp only [Option.bind_some, selb]
  split
  · exact ⟨_, rfl, rfl⟩
  · exact ⟨_, rfl, rfl⟩
end Go.Al
