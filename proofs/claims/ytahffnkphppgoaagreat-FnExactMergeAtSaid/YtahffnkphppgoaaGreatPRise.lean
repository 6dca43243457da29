import Derived.Test.YtahffnkphppgoaaGreatAlH
import Derived.Test.YtahffnkphppgoaaGreatGRise
set_option linter.unusedVariables false
set_option linter.unusedSimpArgs false
set_option linter.constructorNameAsVariable false
set_option linter.unusedSectionVars false
namespace Go.Al
abbrev Gr : Type := Vec (Vec Int)
abbrev Bd : Type := ByteArray × Int × Int × (Vec Int)
theorem zT {τ : Type} {p : Nat → Prop} {n : Nat} (hn : n ≤ bN) (G : Nat → Int → τ) (a : τ) (b : τ)
    (h : ∀ k (i : Nat), i < n → (¬ p i → G (k + 1) i = b) ∧ (p i → G (k + 1) i = G k ((i + 1 : Nat) : Int))) (h2 : ∀ k (i : Nat), ¬ i < n → G (k + 1) i = a) :
    ((∀ j, j < n → p j) ∧ G fuelN 0 = a) ∨ (¬ (∀ j, j < n → p j) ∧ G fuelN 0 = b) := by
  rcases ZH (p := fun i => ¬ p i) hn G a (fun _ => b) (fun k i => ⟨fun h1 h3 => (h k i h1).1 h3, fun h1 h3 => (h k i h1).2 (Classical.not_not.1 h3), h2 k i⟩) with ⟨h3, e⟩ | ⟨i, h3, h4, -, e⟩
  · exact .inl ⟨fun j hj => Classical.not_not.1 (h3 j hj), e⟩
  · exact .inr ⟨fun h5 => h4 (h5 i h3), e⟩
def riseAt (l : Vec Int) (m : Int) (i : Nat) : Prop := 0 ≤ l.g i ∧ l.g i ≤ m - 1 ∧ (0 < i → l.g (i - 1) < l.g i)
def rise (l : Vec Int) (m : Int) : Prop := ∀ i, i < l.n → riseAt l m i
theorem spec_l01In_eq (a : Int) (b c : Int) : spec_l01In.F a b c = some (decide (b ≤ a ∧ a ≤ c)) := by
  unfold spec_l01In.F spec_l01In.B
  simp only [selb, decide_eq_true_eq]
  split <;> simp [*]
theorem impl_inRange_eq (a : Int) (b c : Int) : impl_inRange.F a b c = some (decide (b ≤ a ∧ a ≤ c)) := by
  unfold impl_inRange.F impl_inRange.B
  simp only [selb, decide_eq_true_eq]
  split <;> simp [*]
theorem spec_l05Rise_ok (l : Vec Int) (hn : l.n ≤ bN) (m : Int) (h0 : 0 ≤ m) (h1 : m ≤ 1000000000) : ∃ c, spec_l05Rise.F l m = some c ∧ (c = true ↔ rise l m) := by
  rw [spec_l05Rise.F, spec_l05Rise.B]
  have hb : bN = 140737488351232 := rfl
  rcases zT (p := riseAt l m) hn (fun k i => spec_l05Rise.F0 k l m i (fun _ => some true) (fun x => some x)) (some true) (some false)
    (fun k i hi => by
      simp only [spec_l05Rise.F0, spec_l05Rise.B0, spec_l01In_eq, selb, chkb, decide_eq_true_eq, Int.toNat_natCast, Int.ofNat_lt, Option.bind_some, Bool.not_eq_true', decide_eq_false_iff_not, Int.natCast_nonneg, true_and]
      rw [zK (by omega), if_pos hi, if_pos hi, zQ (x := m - 1) (by omega) (by omega)]
      unfold riseAt
      by_cases h2 : 0 ≤ l.g i ∧ l.g i ≤ m - 1
      · rw [if_neg (by omega)]
        by_cases h3 : 0 < i
        · rw [wr_pred h3 (by omega), Int.toNat_natCast, if_pos (by omega), if_pos (by omega), if_pos hi]
          by_cases h4 : l.g i ≤ l.g (i - 1)
          · rw [if_pos h4]; exact ⟨fun _ => rfl, fun h => by have := h.2.2 h3; omega⟩
          · rw [if_neg h4]; exact ⟨fun h => absurd ⟨h2.1, h2.2, fun _ => by omega⟩ h, fun _ => rfl⟩
        · rw [if_neg (by omega)]; exact ⟨fun h => absurd ⟨h2.1, h2.2, fun h => by omega⟩ h, fun _ => rfl⟩
      · rw [if_pos h2]; exact ⟨fun _ => rfl, fun h => absurd ⟨h.1, h.2.1⟩ h2⟩)
    (fun k i hi => by
      simp only [spec_l05Rise.F0, spec_l05Rise.B0, selb, decide_eq_true_eq, Int.ofNat_lt, if_neg hi]) with ⟨h, e⟩ | ⟨h, e⟩
  · exact ⟨true, e, fun _ => h, fun _ => rfl⟩
  · exact ⟨false, e, fun h2 => (by cases h2), fun h2 => absurd h2 h⟩
theorem impl_ascends_ok (l : Vec Int) (hn : l.n ≤ bN) (m : Int) (h0 : 0 ≤ m) (h1 : m ≤ 1000000000) : ∃ c, impl_ascends.F l m = some c ∧ (c = true ↔ rise l m) := by
  rw [impl_ascends.F, impl_ascends.B]
  have hb : bN = 140737488351232 := rfl
  rcases zT (p := riseAt l m) hn (fun k i => impl_ascends.F0 k l m l (l.n : Int) i (fun _ => some true) (fun x => some x)) (some true) (some false)
    (fun k i hi => by
      simp only [impl_ascends.F0, impl_ascends.B0, impl_inRange_eq, selb, chkb, decide_eq_true_eq, Int.toNat_natCast, Int.ofNat_lt, Option.bind_some, Bool.not_eq_true', decide_eq_false_iff_not, Int.natCast_nonneg, true_and]
      rw [zK (by omega), if_pos hi, if_pos hi, zQ (x := m - 1) (by omega) (by omega)]
      unfold riseAt
      by_cases h2 : 0 ≤ l.g i ∧ l.g i ≤ m - 1
      · rw [if_neg (by omega)]
        by_cases h3 : 0 < i
        · rw [wr_pred h3 (by omega), Int.toNat_natCast, if_pos (by omega), if_pos (by omega)]
          by_cases h4 : l.g i ≤ l.g (i - 1)
          · rw [if_pos h4]; exact ⟨fun _ => rfl, fun h => by have := h.2.2 h3; omega⟩
          · rw [if_neg h4]; exact ⟨fun h => absurd ⟨h2.1, h2.2, fun _ => by omega⟩ h, fun _ => rfl⟩
        · rw [if_neg (by omega)]; exact ⟨fun h => absurd ⟨h2.1, h2.2, fun h => by omega⟩ h, fun _ => rfl⟩
      · rw [if_pos h2]; exact ⟨fun _ => rfl, fun h => absurd ⟨h.1, h.2.1⟩ h2⟩)
    (fun k i hi => by
      simp only [impl_ascends.F0, impl_ascends.B0, selb, decide_eq_true_eq, Int.ofNat_lt, if_neg hi]) with ⟨h, e⟩ | ⟨h, e⟩
  · exact ⟨true, e, fun _ => h, fun _ => rfl⟩
  · exact ⟨false, e, fun h2 => (by cases h2), fun h2 => absurd h2 h⟩
def grAt (P : Gr) (v : Nat) : Prop := (P.g v).n ≤ 4 ∧ rise (P.g v) (v : Int)
def zV (P : Gr) : Prop := P.n ≤ 40 ∧ ∀ v, v < P.n → grAt P v
end Go.Al
