import Derived.Test.YtahffnkphppgoaaGreatPRise
import Derived.Test.YtahffnkphppgoaaGreatPBits
import Derived.Test.YtahffnkphppgoaaGreatGWv
set_option linter.unusedVariables false
set_option linter.unusedSimpArgs false
set_option linter.constructorNameAsVariable false
set_option linter.unusedSectionVars false
namespace Go.Al
theorem spec_GraphOk_ok (P : Gr) : ∃ c, spec_GraphOk.F P = some c ∧ (c = true ↔ zV P) := by
  have hb : bN = 140737488351232 := rfl
  rw [spec_GraphOk.F, spec_GraphOk.B, selb]
  split
  · rename_i h
    rw [decide_eq_true_eq] at h
    exact ⟨false, rfl, by simp [zV]; intro h2; omega⟩
  · rename_i h
    rw [decide_eq_true_eq] at h
    rcases zT (p := grAt P) (n := P.n) (by omega) (fun k i => spec_GraphOk.F0 k P i (fun _ => some true) (fun x => some x)) (some true) (some false)
      (fun k i hi => by
        simp only [spec_GraphOk.F0, spec_GraphOk.B0, selb, chkb, decide_eq_true_eq, Int.toNat_natCast, Int.ofNat_lt, Int.natCast_nonneg, true_and]
        rw [zK (by omega), if_pos hi, if_pos hi]
        unfold grAt
        by_cases h2 : (P.g i).n ≤ 4
        · rw [if_neg (by omega), if_pos hi]
          obtain ⟨c, e, hc⟩ := spec_l05Rise_ok (P.g i) (by omega) (i : Int) (by omega) (by omega)
          rw [e, Option.bind_some]
          cases c with
          | false => exact ⟨fun _ => rfl, fun h => by have := hc.2 h.2; cases this⟩
          | true => exact ⟨fun h => absurd ⟨h2, hc.1 rfl⟩ h, fun _ => rfl⟩
        · rw [if_pos (by omega)]
          exact ⟨fun _ => rfl, fun h => absurd h.1 h2⟩)
      (fun k i hi => by
        simp only [spec_GraphOk.F0, spec_GraphOk.B0, selb, decide_eq_true_eq, Int.ofNat_lt, if_neg hi]) with ⟨h3, e⟩ | ⟨h3, e⟩
    · exact ⟨true, e, by simpa using ⟨by omega, h3⟩⟩
    · exact ⟨false, e, by simp; exact fun h4 => h3 h4.2⟩
theorem impl_GraphOk_ok (P : Gr) (hn : P.n ≤ 1048576) : ∃ c, impl_GraphOk.F P = some c ∧ (c = true ↔ zV P) := by
  have hb : bN = 140737488351232 := rfl
  rw [impl_GraphOk.F, impl_GraphOk.B]
  rcases zT (p := grAt P) (n := P.n) (by omega) (fun k i => impl_GraphOk.F0 k P P (P.n : Int) i (fun e01 => some (decide ((e01.n : Int) ≤ (40 : Int)))) (fun x => some x)) (some (decide ((P.n : Int) ≤ (40 : Int)))) (some false)
      (fun k i hi => by
        simp only [impl_GraphOk.F0, impl_GraphOk.B0, selb, chkb, decide_eq_true_eq, Int.toNat_natCast, Int.ofNat_lt, Int.natCast_nonneg, true_and]
        rw [zK (by omega), if_pos hi, if_pos hi]
        unfold grAt
        by_cases h2 : (P.g i).n ≤ 4
        · rw [if_neg (by omega)]
          obtain ⟨c, e, hc⟩ := impl_ascends_ok (P.g i) (by omega) (i : Int) (by omega) (by omega)
          rw [e, Option.bind_some]
          cases c with
          | false => exact ⟨fun _ => rfl, fun h => by have := hc.2 h.2; cases this⟩
          | true => exact ⟨fun h => absurd ⟨h2, hc.1 rfl⟩ h, fun _ => rfl⟩
        · rw [if_pos (by omega)]
          exact ⟨fun _ => rfl, fun h => absurd h.1 h2⟩)
      (fun k i hi => by
        simp only [impl_GraphOk.F0, impl_GraphOk.B0, selb, decide_eq_true_eq, Int.ofNat_lt, if_neg hi]) with ⟨h3, e⟩ | ⟨h3, e⟩
  · exact ⟨_, e, by rw [decide_eq_true_eq, zV]; exact ⟨fun h => ⟨by omega, h3⟩, fun h => by have := h.1; omega⟩⟩
  · exact ⟨false, e, by simp; exact fun h4 => h3 h4.2⟩
inductive Cl (P : Gr) : Nat → Nat → Prop
  | self (v : Nat) : Cl P v v
  | up (v k u : Nat) (hk : k < (P.g v).n) (h : Cl P ((P.g v).g k).toNat u) : Cl P v u
theorem gr_par {P : Gr} (hg : zV P) {v : Nat} (hv : v < P.n) {k : Nat} (hk : k < (P.g v).n) : 0 ≤ (P.g v).g k ∧ (P.g v).g k < (v : Int) := by
  obtain ⟨h1, h2, -⟩ := (hg.2 v hv).2 k hk
  exact ⟨h1, by omega⟩
theorem Cl.le {P : Gr} (hg : zV P) {v u : Nat} (h : Cl P v u) : v < P.n → u ≤ v := by
  induction h with
  | self v => exact fun _ => Nat.le_refl _
  | up v k u hk h ih =>
    intro hv
    have := gr_par hg hv hk
    have := ih (by omega)
    omega
theorem Cl.iff {P : Gr} {v u : Nat} : Cl P v u ↔ u = v ∨ ∃ k, k < (P.g v).n ∧ Cl P ((P.g v).g k).toNat u := by
  constructor
  · intro h
    cases h with
    | self => exact .inl rfl
    | up v k u hk h => exact .inr ⟨k, hk, h⟩
  · rintro (rfl | ⟨k, hk, h⟩)
    · exact .self _
    · exact .up _ k _ hk h
def ClL (P : Gr) (l : Vec Int) (u : Nat) : Prop := ∃ i, i < l.n ∧ 0 ≤ l.g i ∧ l.g i < (P.n : Int) ∧ Cl P (l.g i).toNat u
end Go.Al
