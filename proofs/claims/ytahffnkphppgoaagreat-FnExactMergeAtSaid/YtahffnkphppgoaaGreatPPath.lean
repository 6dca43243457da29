import Derived.Test.YtahffnkphppgoaaGreatAlH
import Derived.Test.YtahffnkphppgoaaGreatGNm
set_option linter.unusedVariables false
set_option linter.unusedSimpArgs false
set_option linter.constructorNameAsVariable false
set_option linter.unusedSectionVars false
namespace Go.Al
def pathCh (c : Int) : Prop := (97 ≤ c ∧ c ≤ 122) ∨ (48 ≤ c ∧ c ≤ 57) ∨ c = 46 ∨ c = 45 ∨ c = 47
def pathAll (s : ByteArray) : Prop := ∀ i, i < s.size → pathCh (byteAt s i)
def pathSep (s : ByteArray) : Prop := ∀ i, i < s.size → 0 < i → ¬ (byteAt s i = 47 ∧ byteAt s (i - 1) = 47)
theorem impl_PathOk_loop {ρ : Type} (s : ByteArray) (hs : s.size ≤ bN) (K0 : ByteArray → Option ρ) (Kr : Bool → Option ρ) :
    (pathAll s ∧ impl_PathOk.F0 fuelN s 0 K0 Kr = K0 s) ∨ (¬ pathAll s ∧ impl_PathOk.F0 fuelN s 0 K0 Kr = Kr false) := by
  have hb : bN = 140737488351232 := rfl
  refine zP (σ := Nat) (fun i => s.size - i) (fun i => i ≤ s.size ∧ ∀ j, j < i → pathCh (byteAt s j))
    (fun _ x => (pathAll s ∧ x = K0 s) ∨ (¬ pathAll s ∧ x = Kr false)) (fun k i => impl_PathOk.F0 k s (i : Int) K0 Kr) ?_ fuelN 0 (by unfold fuelN; omega) ⟨Nat.zero_le _, fun j hj => by omega⟩
  intro k i ⟨hi, hg⟩ ih
  simp only [impl_PathOk.F0, impl_PathOk.B0, selb, chkb, decide_eq_true_eq, Int.toNat_natCast, Int.ofNat_lt, Option.bind_some, Bool.not_eq_true', decide_eq_false_iff_not, Int.natCast_nonneg, true_and]
  by_cases hi2 : i < s.size
  · have bad : ¬ pathCh (byteAt s i) → ¬ pathAll s := fun h h2 => h (h2 i hi2)
    have good : pathCh (byteAt s i) → (pathAll s ∧ impl_PathOk.F0 k s ((i + 1 : Nat) : Int) K0 Kr = K0 s) ∨ (¬ pathAll s ∧ impl_PathOk.F0 k s ((i + 1 : Nat) : Int) K0 Kr = Kr false) := fun h => ih (i + 1) ⟨by omega, fun j hj => by
      rcases Nat.lt_or_ge j i with h3 | h3
      · exact hg j h3
      · obtain rfl : j = i := by omega
        exact h⟩ (by omega)
    rw [zK (by omega)]
    simp only [hi2, if_true]
    unfold pathCh at bad good
    repeat' split
    all_goals first
      | exact good (by omega)
      | exact .inr ⟨bad (by omega), rfl⟩
  · rw [if_neg hi2]
    exact .inl ⟨fun j hj => hg j (by omega), rfl⟩
theorem spec_PathOk_loop {ρ : Type} (s : ByteArray) (hs : s.size ≤ bN) (K0 : Unit → Option ρ) (Kr : Bool → Option ρ) :
    ((pathAll s ∧ pathSep s) ∧ spec_PathOk.F0 fuelN s s.size 0 K0 Kr = K0 ()) ∨ (¬ (pathAll s ∧ pathSep s) ∧ spec_PathOk.F0 fuelN s s.size 0 K0 Kr = Kr false) := by
  have hb : bN = 140737488351232 := rfl
  refine zP (σ := Nat) (fun i => s.size - i) (fun i => i ≤ s.size ∧ (∀ j, j < i → pathCh (byteAt s j)) ∧ ∀ j, j < i → 0 < j → ¬ (byteAt s j = 47 ∧ byteAt s (j - 1) = 47))
    (fun _ x => ((pathAll s ∧ pathSep s) ∧ x = K0 ()) ∨ (¬ (pathAll s ∧ pathSep s) ∧ x = Kr false)) (fun k i => spec_PathOk.F0 k s s.size (i : Int) K0 Kr) ?_ fuelN 0 (by unfold fuelN; omega) ⟨Nat.zero_le _, fun j hj => by omega, fun j hj => by omega⟩
  intro k i ⟨hi, hg, hq⟩ ih
  simp only [spec_PathOk.F0, spec_PathOk.B0, selb, chkb, decide_eq_true_eq, Int.toNat_natCast, Int.ofNat_lt, Option.bind_some, Bool.not_eq_true', decide_eq_false_iff_not, Int.natCast_nonneg, true_and]
  by_cases hi2 : i < s.size
  · have bad : ¬ (pathCh (byteAt s i) ∧ (0 < i → ¬ (byteAt s i = 47 ∧ byteAt s (i - 1) = 47))) → ¬ (pathAll s ∧ pathSep s) := fun h h2 => h ⟨h2.1 i hi2, h2.2 i hi2⟩
    have good : (pathCh (byteAt s i) ∧ (0 < i → ¬ (byteAt s i = 47 ∧ byteAt s (i - 1) = 47))) → ((pathAll s ∧ pathSep s) ∧ spec_PathOk.F0 k s s.size ((i + 1 : Nat) : Int) K0 Kr = K0 ()) ∨ (¬ (pathAll s ∧ pathSep s) ∧ spec_PathOk.F0 k s s.size ((i + 1 : Nat) : Int) K0 Kr = Kr false) := fun h => ih (i + 1) ⟨by omega, fun j hj => by
      rcases Nat.lt_or_ge j i with h3 | h3
      · exact hg j h3
      · obtain rfl : j = i := by omega
        exact h.1, fun j hj => by
      rcases Nat.lt_or_ge j i with h3 | h3
      · exact hq j h3
      · obtain rfl : j = i := by omega
        exact h.2⟩ (by omega)
    rw [zK (by omega)]
    simp only [hi2, if_true]
    unfold pathCh at bad good
    by_cases h0 : 0 < i
    · have e : wr ((i : Int) - 1) = ((i - 1 : Nat) : Int) := wr_pred h0 (by omega)
      have e1 : i - 1 < s.size := by omega
      have e2 : (0 : Int) < i := by omega
      simp only [e, Int.toNat_natCast, Int.natCast_nonneg, Int.ofNat_lt, e1, e2, if_true, true_and]
      generalize byteAt s (i - 1) = d at *
      generalize byteAt s i = c at *
      repeat' split
      all_goals first
        | exact good (by omega)
        | exact .inr ⟨bad (by omega), rfl⟩
    · have e2 : ¬ (0 : Int) < i := by omega
      simp only [e2, if_false]
      generalize byteAt s (i - 1) = d at *
      generalize byteAt s i = c at *
      repeat' split
      all_goals first
        | exact good (by omega)
        | exact .inr ⟨bad (by omega), rfl⟩
  · rw [if_neg hi2]
    exact .inl ⟨⟨fun j hj => hg j (by omega), fun j hj => hq j (by omega)⟩, rfl⟩
theorem byteAt_47 (s : ByteArray) (i : Nat) : byteAt s i = 47 ↔ s.data.toList.getD i 0 = 47 := by
  unfold byteAt
  constructor
  · intro h
    apply UInt8.toNat_inj.1
    have : (s.data.toList.getD i 0).toNat = 47 := by omega
    rw [this]; rfl
  · intro h
    rw [h]; rfl
theorem extract_one (s : ByteArray) (i : Nat) (h : i < s.size) : s.extract i (i + 1) = ByteArray.mk #[47] ↔ byteAt s i = 47 := by
  have h' : i < s.data.toList.length := by simpa using h
  rw [byteAt_47]
  have e : (s.extract i (i + 1)).data.toList = [s.data.toList.getD i 0] := by
    simp only [ByteArray.data_extract, Array.toList_extract]
    rw [List.getD_eq_getElem?_getD, List.getElem?_eq_getElem h']
    simp [List.extract, List.take_one, h']
  constructor
  · intro h
    rw [h] at e
    simpa using e.symm
  · intro h
    rw [h] at e
    cases hs : s.extract i (i + 1) with
    | mk d =>
      rw [hs] at e
      simp only [ByteArray.mk.injEq]
      exact Array.toList_inj.1 e
theorem first_of {p : Nat → Prop} : ∀ (n : Nat), p n → ∃ i, p i ∧ ∀ j, j < i → ¬ p j := by
  intro n
  induction n using Nat.strongRecOn with
  | _ n ih =>
    intro h
    by_cases hs : ∃ j, j < n ∧ p j
    · obtain ⟨j, hj, hp⟩ := hs
      exact ih j hj hp
    · exact ⟨n, h, fun j hj hp => hs ⟨j, hj, hp⟩⟩
theorem occ_two (l : List UInt8) (a b : UInt8) (i : Nat) : Lib.occAt l [a, b] i = true ↔ l[i]? = some a ∧ l[i + 1]? = some b := by
  have e0 : (l.drop i)[0]? = l[i]? := by simp
  have e1 : (l.drop i)[1]? = l[i + 1]? := by simp
  unfold Lib.occAt
  rw [← e0, ← e1]
  cases l.drop i with
  | nil => simp
  | cons x t =>
    cases t with
    | nil => simp
    | cons y t =>
      simp
      constructor
      · rintro ⟨rfl, rfl⟩; exact ⟨rfl, rfl⟩
      · rintro ⟨rfl, rfl⟩; exact ⟨rfl, rfl⟩
theorem contains_sep (s : ByteArray) : Lib.contains s.data.toList [47, 47] = true ↔ ¬ pathSep s := by
  have hl : s.data.toList.length = s.size := by simp
  have hocc : ∀ i, i < s.size → 0 < i → (Lib.occAt s.data.toList [47, 47] (i - 1) = true ↔ (byteAt s i = 47 ∧ byteAt s (i - 1) = 47)) := by
    intro i hi h0
    rw [occ_two, byteAt_47, byteAt_47, List.getD_eq_getElem?_getD, List.getD_eq_getElem?_getD]
    have e : i - 1 + 1 = i := by omega
    rw [e, List.getElem?_eq_getElem (by omega : i < s.data.toList.length), List.getElem?_eq_getElem (by omega : i - 1 < s.data.toList.length)]
    simp only [Option.some.injEq, Option.getD_some]
    exact And.comm
  have hout : ∀ j, Lib.occAt s.data.toList [47, 47] j = true → j + 1 < s.size := by
    intro j h
    have := ((occ_two _ _ _ _).1 h).2
    have := (List.getElem?_eq_some_iff.1 this).1
    omega
  unfold Lib.contains
  rw [decide_eq_true_eq]
  constructor
  · intro h hp
    have : Lib.index s.data.toList [47, 47] = -1 := Lib.index_none fun j hj => by
      cases ho : Lib.occAt s.data.toList [47, 47] j with
      | false => rfl
      | true =>
        have h1 := hout j ho
        exact absurd ((hocc (j + 1) h1 (by omega)).1 ho) (hp (j + 1) h1 (by omega))
    omega
  · intro hp
    have : ∃ i, i < s.size ∧ 0 < i ∧ (byteAt s i = 47 ∧ byteAt s (i - 1) = 47) := Classical.byContradiction fun hn => hp fun i hi h0 h => hn ⟨i, hi, h0, h⟩
    obtain ⟨i, hi, h0, h⟩ := this
    obtain ⟨j, hj, hf⟩ := first_of (p := fun j => Lib.occAt s.data.toList [47, 47] j = true) (i - 1) ((hocc i hi h0).2 h)
    have h1 := hout j hj
    rw [Lib.index_first (i := j) (by omega) hj fun k hk => by simpa using hf k hk]
    omega
def pathGood (s : ByteArray) : Prop := (1 ≤ s.size ∧ s.size ≤ 24) ∧ byteAt s 0 ≠ 47 ∧ byteAt s (s.size - 1) ≠ 47 ∧ pathAll s ∧ pathSep s
theorem spec_PathOk_ok (s : ByteArray) (hs : s.size ≤ bN) : ∃ b, spec_PathOk.F s = some b ∧ (b = true ↔ pathGood s) := by
  have hb : bN = 140737488351232 := rfl
  have e44 : spec_l01In.F (s.size : Int) 1 24 = some (decide (1 ≤ s.size ∧ s.size ≤ 24)) := by
    unfold spec_l01In.F spec_l01In.B
    simp only [selb, decide_eq_true_eq]
    split <;> (congr 1; rw [Bool.eq_iff_iff]; simp only [decide_eq_true_eq, Bool.false_eq_true, false_iff]; omega)
  unfold spec_PathOk.F spec_PathOk.B pathGood
  rw [e44]
  simp only [selb, chkb, decide_eq_true_eq, Option.bind_some, Bool.not_eq_true', decide_eq_false_iff_not, Int.le_refl, true_and]
  by_cases h1 : 1 ≤ s.size ∧ s.size ≤ 24
  · have e : wr ((s.size : Int) - 1) = ((s.size - 1 : Nat) : Int) := wr_pred (by omega) (by omega)
    simp only [h1, e, not_true_eq_false, and_self, if_false, Int.toNat_natCast, Int.toNat_zero]
    rw [if_pos (by omega)]
    split
    · rename_i h
      exact ⟨false, rfl, by simp [h]⟩
    · rename_i h
      rw [if_pos (by omega)]
      split
      · rename_i h'
        exact ⟨false, rfl, by simp [h']⟩
      · rename_i h'
        rcases spec_PathOk_loop s hs (fun _ => some true) (fun x => some x) with ⟨h2, h3⟩ | ⟨h2, h3⟩
        · refine ⟨true, ?_, ?_⟩
          · rw [h3]
          · simp [h, h', h2]
        · refine ⟨false, ?_, ?_⟩
          · rw [h3]
          · simp only [Bool.false_eq_true, false_iff, true_and]
            exact fun h => h2 h.2.2
  · rw [if_pos h1]
    exact ⟨false, rfl, by simp only [Bool.false_eq_true, false_iff]; exact fun h => h1 h.1⟩
theorem hasPrefix_sep (s : ByteArray) : strings_HasPrefix.F s (ByteArray.mk #[47]) = some (decide (1 ≤ s.size ∧ byteAt s 0 = 47)) := by
  unfold strings_HasPrefix.F strings_HasPrefix.B stringslite_HasPrefix.F stringslite_HasPrefix.B
  have e : (ByteArray.mk #[47]).size = 1 := rfl
  simp only [selb, chkb, decide_eq_true_eq, e]
  by_cases h : 1 ≤ s.size
  · rw [if_pos (by omega), if_pos (by omega)]
    simp only [Option.bind_some, Option.some.injEq, decide_eq_decide]
    have := extract_one s 0 (by omega)
    simp only [Int.toNat_zero]
    rw [show ((1 : Nat) : Int).toNat = 0 + 1 from rfl, this]
    exact ⟨fun h' => ⟨h, h'⟩, fun h' => h'.2⟩
  · rw [if_neg (by omega)]
    simp [h]
theorem hasSuffix_sep (s : ByteArray) (hs : s.size ≤ bN) : strings_HasSuffix.F s (ByteArray.mk #[47]) = some (decide (1 ≤ s.size ∧ byteAt s (s.size - 1) = 47)) := by
  have hb : bN = 140737488351232 := rfl
  unfold strings_HasSuffix.F strings_HasSuffix.B stringslite_HasSuffix.F stringslite_HasSuffix.B
  have e : (ByteArray.mk #[47]).size = 1 := rfl
  simp only [selb, chkb, decide_eq_true_eq, e]
  by_cases h : 1 ≤ s.size
  · have e1 : wr ((s.size : Int) - (1 : Nat)) = ((s.size - 1 : Nat) : Int) := wr_pred (by omega) (by omega)
    rw [e1, if_pos (by omega), if_pos (by omega)]
    simp only [Option.bind_some, Option.some.injEq, decide_eq_decide, Int.toNat_natCast]
    have := extract_one s (s.size - 1) (by omega)
    rw [show s.size - 1 + 1 = s.size from by omega] at this
    rw [this]
    exact ⟨fun h' => ⟨h, h'⟩, fun h' => h'.2⟩
  · rw [if_neg (by omega)]
    simp [h]
theorem impl_PathOk_ok (s : ByteArray) (hs : s.size ≤ 1048576) : ∃ b, impl_PathOk.F s = some b ∧ (b = true ↔ pathGood s) := by
  have hb : bN = 140737488351232 := rfl
  have e44 : impl_inRange.F (s.size : Int) 1 24 = some (decide (1 ≤ s.size ∧ s.size ≤ 24)) := by
    unfold impl_inRange.F impl_inRange.B
    simp only [selb, decide_eq_true_eq]
    split <;> (congr 1; rw [Bool.eq_iff_iff]; simp only [decide_eq_true_eq, Bool.false_eq_true, false_iff]; omega)
  have e4 : strings_Contains.F s (ByteArray.mk #[47, 47]) = some (Lib.contains s.data.toList [47, 47]) := by
    unfold strings_Contains.F
    rw [selb, if_pos (by rw [decide_eq_true_eq]; omega)]
  unfold impl_PathOk.F impl_PathOk.B pathGood
  rcases impl_PathOk_loop s (by omega) _ (fun x => some x) with ⟨h2, h3⟩ | ⟨h2, h3⟩
  · rw [h3, e44]
    simp only [hasPrefix_sep, hasSuffix_sep s (by omega), e4, selb, chkb, decide_eq_true_eq, Option.bind_some, Bool.not_eq_true', decide_eq_false_iff_not]
    by_cases h1 : 1 ≤ s.size ∧ s.size ≤ 24
    · simp only [h1, not_true_eq_false, and_self, if_false, true_and]
      by_cases h : byteAt s 0 = 47
      · simp [h]
      · by_cases h' : byteAt s (s.size - 1) = 47
        · simp [h, h']
        · simp only [h, h', not_false_eq_true, if_true, h2, ne_eq, true_and]
          refine ⟨_, rfl, ?_⟩
          have := contains_sep s
          cases hc : Lib.contains s.data.toList [47, 47] with
          | true => simp; exact this.1 hc
          | false =>
            simp
            exact Classical.byContradiction fun hn => by rw [this.2 hn] at hc; cases hc
    · rw [if_pos h1]
      exact ⟨false, rfl, by simp only [Bool.false_eq_true, false_iff]; exact fun h => h1 h.1⟩
  · rw [h3]
    exact ⟨false, rfl, by simp only [Bool.false_eq_true, false_iff]; exact fun h => h2 h.2.2.2.1⟩
end Go.Al
