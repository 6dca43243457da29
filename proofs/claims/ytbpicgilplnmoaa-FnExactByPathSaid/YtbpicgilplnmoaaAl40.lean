import Derived.Test.YtbpicgilplnmoaaAl39
set_option linter.unusedVariables false
set_option linter.unusedSimpArgs false
set_option linter.unusedSectionVars false
namespace Go.Al

/-! ### 55. Sizes, copies, comparisons, as the laws print them for each type -/
def sN : Nat := 1048576
/-- Data no greater than the laws let pass. -/
class Sml (A : Type) where
  sml : A → Prop
instance : Sml Int := ⟨fun x => -9223372036854775808 ≤ x ∧ x ≤ 9223372036854775807⟩
instance {k : IntKind} : Sml (IK k) := ⟨fun x => k.min ≤ x.v ∧ x.v ≤ k.max⟩
instance : Sml Bool := ⟨fun _ => True⟩
instance : Sml ByteArray := ⟨fun s => s.size ≤ sN⟩
instance {A : Type} [Sml A] : Sml (Vec A) := ⟨fun v => v.n ≤ sN ∧ ∀ i, i < v.n → Sml.sml (v.g i)⟩
instance {A B : Type} [Sml A] [Sml B] : Sml (A × B) := ⟨fun p => Sml.sml p.1 ∧ Sml.sml p.2⟩
/-- Data that cost nothing. -/
class Free (A : Type) [Bnd A] [Sml A] : Prop where
  free : ∀ a : A, Bnd.bnd a → Sml.sml a
instance : Free Int := ⟨fun _ h => h⟩
instance {k : IntKind} : Free (IK k) := ⟨fun _ h => h⟩
instance : Free Bool := ⟨fun _ _ => trivial⟩
instance {A B : Type} [Bnd A] [Sml A] [Bnd B] [Sml B] [Free A] [Free B] : Free (A × B) := ⟨fun a h => ⟨Free.free _ h.1, Free.free _ h.2⟩⟩

def SzOk {A : Type} [Bnd A] [Sml A] (F : A → Int → Option Int) : Prop := ∀ (a : A) (s : Int), Bnd.bnd a → 0 ≤ s → s ≤ 1048576 → ∃ r, F a s = some r ∧ (0 ≤ r → r ≤ s ∧ Sml.sml a)
def ToOk {A : Type} [Sml A] (F : A → Option A) : Prop := ∀ a : A, Sml.sml a → ∃ b, F a = some b ∧ Sml.sml b
def EqOk {A : Type} [Sml A] (F : A → A → Option Bool) : Prop := ∀ a : A, Sml.sml a → F a a = some true

section
variable {A : Type} [Enc A] [Bnd A] [Sml A]
theorem sz_str (a : ByteArray) (s : Int) (ha : Bnd.bnd a) (h0 : 0 ≤ s) (h1 : s ≤ 1048576) : wr (s - (a.size : Int)) = s - a.size ∧ (0 ≤ s - (a.size : Int) → s - (a.size : Int) ≤ s ∧ Sml.sml a) := by
  have hb : bN = 140737488351232 := rfl
  have ha' : a.size ≤ bN := ha
  exact ⟨wr_id (by omega) (by omega), fun h => ⟨by omega, show a.size ≤ sN by unfold sN; omega⟩⟩
/-- A slice whose elements cost nothing. -/
theorem szS_free [Free A] {F : Vec A → Int → Option Int} (hF : ∀ v s, F v s = sel (decide ((wr (s - (v.n : Int))) < (0 : Int))) (some (-1)) (some (wr (s - (v.n : Int))))) : SzOk F := by
  have hb : bN = 140737488351232 := rfl
  rintro v s ⟨hn, hg⟩ h0 h1
  rw [hF, wr_id (by omega) (by omega), selb]
  simp only [decide_eq_true_eq]
  split
  · exact ⟨_, rfl, by omega⟩
  · exact ⟨_, rfl, fun h => ⟨by omega, by unfold sN; omega, fun i hi => Free.free _ (hg i hi)⟩⟩
/-- A slice. -/
theorem szS {C : A → Int → Option Int} (hC : SzOk C) {F : Vec A → Int → Option Int} {F0 : Nat → Vec A → Int → Int → (Int → Option Int) → (Int → Option Int) → Option Int}
    (h0 : ∀ k v s i K0 Kr, F0 (k + 1) v s i K0 Kr = sel (decide (i < (v.n : Int))) (chk (decide (0 ≤ i ∧ i < (v.n : Int))) ((C (v.g i.toNat) s).bind fun r => sel (decide (r < (0 : Int))) (Kr (-1)) (F0 k v r (wr (i + 1)) K0 Kr))) (K0 s))
    (hF : ∀ v s, F v s = sel (decide ((wr (s - (v.n : Int))) < (0 : Int))) (some (-1)) (F0 fuelN v (wr (s - (v.n : Int))) 0 some some)) : SzOk F := by
  have hb : bN = 140737488351232 := rfl
  rintro v s ⟨hn, hg⟩ hs0 hs1
  rw [hF, wr_id (by omega) (by omega), selb]
  simp only [decide_eq_true_eq]
  split
  · exact ⟨_, rfl, by omega⟩
  · rename_i hneg
    have key : ∃ r, F0 fuelN v (s - (v.n : Int)) 0 some some = some r ∧ (0 ≤ r → r ≤ s - (v.n : Int) ∧ ∀ i, i < v.n → Sml.sml (v.g i)) := by
      refine loop_inv (σ := Nat × Int) (fun p => v.n - p.1) (fun p => p.1 ≤ v.n ∧ (∀ j, j < p.1 → Sml.sml (v.g j)) ∧ 0 ≤ p.2 ∧ p.2 ≤ s - (v.n : Int)) (fun _ x => ∃ r, x = some r ∧ (0 ≤ r → r ≤ s - (v.n : Int) ∧ ∀ i, i < v.n → Sml.sml (v.g i)))
        (fun k p => F0 k v p.2 (p.1 : Int) some some) ?_ fuelN (0, s - (v.n : Int)) (by unfold fuelN; omega) ⟨Nat.zero_le _, fun j hj => by omega, by omega, by omega⟩
      rintro k ⟨i, q⟩ ⟨h1, h2, h3, h4⟩ ih
      simp only at h1 h2 h3 h4
      simp only [h0, selb, chkb, decide_eq_true_eq, Int.toNat_natCast, Int.ofNat_lt, Int.natCast_nonneg, true_and]
      by_cases hi : i < v.n
      · obtain ⟨r, hr, hr2⟩ := hC (v.g i) q (hg i hi) h3 (by omega)
        simp only [hi, if_true, hr, Option.bind_some, wr_succ (i := i) (by omega)]
        split
        · exact ⟨_, rfl, by omega⟩
        · have hr3 := hr2 (by omega)
          refine ih (i + 1, r) ⟨hi, fun j hj => ?_, by omega, ?_⟩ (by simp only; omega)
          · rcases Nat.lt_or_ge j i with h5 | h5
            · exact h2 j h5
            · obtain rfl : j = i := by omega
              exact hr3.2
          · have := hr3.1; simp only; omega
      · rw [if_neg hi]
        exact ⟨q, rfl, fun h => ⟨h4, fun j hj => h2 j (by omega)⟩⟩
    obtain ⟨r, hr, hr2⟩ := key
    exact ⟨r, hr, fun h => ⟨by have := (hr2 h).1; omega, by unfold sN; omega, (hr2 h).2⟩⟩
/-- A slice of strings. -/
theorem szStr {F : Vec ByteArray → Int → Option Int} {F0 : Nat → Vec ByteArray → Int → Int → (Int → Option Int) → (Int → Option Int) → Option Int}
    (h0 : ∀ k v s i K0 Kr, F0 (k + 1) v s i K0 Kr = sel (decide (i < (v.n : Int))) (chk (decide (0 ≤ i ∧ i < (v.n : Int))) (sel (decide ((wr (s - ((v.g i.toNat).size : Int))) < (0 : Int))) (Kr (-1)) (F0 k v (wr (s - ((v.g i.toNat).size : Int))) (wr (i + 1)) K0 Kr))) (K0 s))
    (hF : ∀ v s, F v s = sel (decide ((wr (s - (v.n : Int))) < (0 : Int))) (some (-1)) (F0 fuelN v (wr (s - (v.n : Int))) 0 some some)) : SzOk F := by
  refine szS (C := fun a s => some (sel (decide ((wr (s - (a.size : Int))) < (0 : Int))) (-1) (wr (s - (a.size : Int))))) ?_ (F0 := F0) ?_ hF
  · intro a s ha hs0 hs1
    obtain ⟨e, h⟩ := sz_str a s ha hs0 hs1
    refine ⟨_, rfl, ?_⟩
    rw [e, selb]
    split
    · omega
    · exact h
  · intro k v s i K0 Kr
    rw [h0]
    simp only [Option.bind_some, selb, decide_eq_true_eq]
    split
    · by_cases h : wr (s - ((v.g i.toNat).size : Int)) < 0
      · simp [h]
      · simp [h]
    · rfl
/-- A copy. -/
theorem toS {B : Int → Bool} (hB : ∀ n : Nat, n ≤ sN → B n = true) {C : A → Option A} (hC : ToOk C) {z : A} {F : Vec A → Option (Vec A)} {F0 : Nat → Vec A → Int → Vec A → (Vec A → Option (Vec A)) → Option (Vec A)}
    (h0 : ∀ k v i u K0, F0 (k + 1) v i u K0 = sel (decide (i < (v.n : Int))) (chk (decide (0 ≤ i ∧ i < (v.n : Int))) ((C (v.g i.toNat)).bind fun r => chk (decide (0 ≤ i ∧ i < (u.n : Int))) (chk (decide (i.toNat < u.n)) (F0 k v (wr (i + 1)) (Vec.set u i.toNat r) K0)))) (K0 u))
    (hF : ∀ v, F v = chk (decide ((v.n : Int) = (v.n : Int) ∧ 0 ≤ (v.n : Int))) (chk (B (v.n : Int)) (F0 fuelN v 0 (Vec.rep v.n z) some))) : ToOk F := by
  have hs : sN = 1048576 := rfl
  rintro v ⟨hn, hg⟩
  rw [hF, chkb, if_pos (by simp), chkb, if_pos (hB _ hn)]
  refine loop_inv (σ := Nat × Vec A) (fun p => v.n - p.1) (fun p => p.1 ≤ v.n ∧ p.2.n = v.n ∧ ∀ j, j < p.1 → Sml.sml (p.2.g j)) (fun _ x => ∃ b, x = some b ∧ Sml.sml b)
    (fun k p => F0 k v (p.1 : Int) p.2 some) ?_ fuelN (0, Vec.rep v.n z) (by unfold fuelN; omega) ⟨Nat.zero_le _, rfl, fun j hj => by omega⟩
  rintro k ⟨i, u⟩ ⟨h1, h2, h3⟩ ih
  simp only at h1 h2 h3
  simp only [h0, selb, chkb, decide_eq_true_eq, Int.toNat_natCast, Int.ofNat_lt, Int.natCast_nonneg, true_and, h2]
  by_cases hi : i < v.n
  · obtain ⟨b, hb, hb2⟩ := hC (v.g i) (hg i hi)
    simp only [hi, if_true, hb, Option.bind_some, wr_succ (i := i) (by omega)]
    refine ih (i + 1, Vec.set u i b) ⟨hi, h2, fun j hj => ?_⟩ (by simp only; omega)
    show Sml.sml ((Vec.set u i b).g j)
    rw [Vec.set_g]
    split
    · exact hb2
    · exact h3 j (by simp only at hj; omega)
  · rw [if_neg hi]
    exact ⟨u, rfl, show u.n ≤ sN by rw [h2]; exact hn, fun j hj => h3 j (by omega)⟩
/-- The same slice, compared with itself. -/
theorem eqS {C : A → A → Option Bool} (hC : EqOk C) {F : Vec A → Vec A → Option Bool} {F0 : Nat → Vec A → Vec A → Int → (Unit → Option Bool) → (Bool → Option Bool) → Option Bool}
    (h0 : ∀ k v w i K0 Kr, F0 (k + 1) v w i K0 Kr = sel (decide (i < (v.n : Int))) (chk (decide (0 ≤ i ∧ i < (v.n : Int))) (chk (decide (0 ≤ i ∧ i < (w.n : Int))) ((C (v.g i.toNat) (w.g i.toNat)).bind fun r => sel (!r) (Kr false) (F0 k v w (wr (i + 1)) K0 Kr)))) (K0 ()))
    (hF : ∀ v w, F v w = sel (!decide ((v.n : Int) = (w.n : Int))) (some false) (F0 fuelN v w 0 (fun _ => some true) some)) : EqOk F := by
  have hs : sN = 1048576 := rfl
  rintro v ⟨hn, hg⟩
  rw [hF]
  simp only [selb, decide_true, Bool.not_true, Bool.false_eq_true, if_false]
  refine loop_inv (σ := Nat) (fun i => v.n - i) (fun i => i ≤ v.n) (fun _ x => x = some true) (fun k i => F0 k v v (i : Int) (fun _ => some true) some) ?_ fuelN 0 (by unfold fuelN; omega) (Nat.zero_le _)
  intro k i hi ih
  simp only [h0, selb, chkb, decide_eq_true_eq, Int.toNat_natCast, Int.ofNat_lt, Int.natCast_nonneg, true_and]
  by_cases hi2 : i < v.n
  · simp only [hi2, if_true, hC _ (hg i hi2), Option.bind_some, wr_succ (i := i) (by omega), Bool.not_true, Bool.false_eq_true, if_false]
    exact ih (i + 1) hi2 (by omega)
  · rw [if_neg hi2]
end
theorem mk_small {b : Nat} (hb : b ≤ 1000000) (n : Nat) (h : n ≤ sN) : mkOk (n : Int) b = true := by
  have hs : sN = 1048576 := rfl
  have hm : maxN = 140737488355328 := rfl
  unfold mkOk
  rw [decide_eq_true_eq]
  have : n * (b + 1) ≤ 1048576 * 1000001 := Nat.mul_le_mul (by omega) (by omega)
  have e : ((n : Int) * ((b : Int) + 1)) = ((n * (b + 1) : Nat) : Int) := by simp
  show (n : Int) * ((b : Int) + 1) ≤ (maxN : Int)
  rw [e]
  omega
theorem eq_free {A : Type} [Sml A] {F : A → A → Option Bool} (h : ∀ a, F a a = some true) : EqOk F := fun a _ => h a
theorem to_id {A : Type} [Sml A] {F : A → Option A} (h : ∀ a, F a = some a) : ToOk F := fun a ha => ⟨a, h a, ha⟩

/-- The first place where something holds, or none. -/
def IsFirst (p : Nat → Prop) (n : Nat) (r : Int) : Prop := (r = -1 ∧ ∀ j, j < n → ¬ p j) ∨ ∃ i : Nat, r = i ∧ i < n ∧ p i ∧ ∀ j, j < i → ¬ p j
theorem IsFirst.one {p : Nat → Prop} {n : Nat} {r q : Int} (h : IsFirst p n r) (k : IsFirst p n q) : r = q := by
  rcases h with ⟨rfl, h⟩ | ⟨i, rfl, h1, h2, h3⟩ <;> rcases k with ⟨rfl, k⟩ | ⟨j, rfl, k1, k2, k3⟩
  · rfl
  · exact absurd k2 (h j k1)
  · exact absurd h2 (k i h1)
  · rcases Nat.lt_trichotomy i j with hlt | rfl | hlt
    · exact absurd h2 (k3 i hlt)
    · rfl
    · exact absurd k2 (h3 j hlt)
/-- A loop that looks for it. -/
theorem first_loop {τ : Type} {p : Nat → Prop} {n : Nat} (hn : n ≤ bN) (G : Nat → Int → τ) (a : τ) (b : Int → τ)
    (h : ∀ k (i : Nat), (i < n → p i → G (k + 1) i = b i) ∧ (i < n → ¬ p i → G (k + 1) i = G k ((i + 1 : Nat) : Int)) ∧ (¬ i < n → G (k + 1) i = a)) :
    ((∀ j, j < n → ¬ p j) ∧ G fuelN 0 = a) ∨ ∃ i : Nat, i < n ∧ p i ∧ (∀ j, j < i → ¬ p j) ∧ G fuelN 0 = b i := by
  have hb : bN = 140737488351232 := rfl
  refine loop_inv (σ := Nat) (fun i => n - i) (fun i => i ≤ n ∧ ∀ j, j < i → ¬ p j)
    (fun _ x => ((∀ j, j < n → ¬ p j) ∧ x = a) ∨ ∃ i : Nat, i < n ∧ p i ∧ (∀ j, j < i → ¬ p j) ∧ x = b i) (fun k i => G k (i : Int)) ?_ fuelN 0 (by unfold fuelN; omega) ⟨Nat.zero_le _, fun j hj => by omega⟩
  intro k i ⟨hi, hg⟩ ih
  obtain ⟨h1, h2, h3⟩ := h k i
  by_cases hi2 : i < n
  · by_cases hp : p i
    · exact .inr ⟨i, hi2, hp, hg, h1 hi2 hp⟩
    · rw [h2 hi2 hp]
      refine ih (i + 1) ⟨hi2, fun j hj => ?_⟩ (by omega)
      rcases Nat.lt_or_ge j i with h5 | h5
      · exact hg j h5
      · obtain rfl : j = i := by omega
        exact hp
  · exact .inl ⟨fun j hj => hg j (by omega), h3 hi2⟩
end Go.Al
