import Derived.Test.YtnkmpehikhmbjaaPWv
import Derived.Test.YtnkmpehikhmbjaaGCmp
set_option linter.unusedVariables false
set_option linter.unusedSimpArgs false
set_option linter.constructorNameAsVariable false
set_option linter.unusedSectionVars false
namespace Go.Al
abbrev Pr : Type := Int × Int × Int × ByteArray
theorem dSml_of {B : Vec Bd} (h : Sml.sml B) : dSml B := ⟨h.1, fun i hi => ⟨(h.2 i hi).2.2.2.1, (h.2 i hi).1⟩⟩
/-! ### Which versions are asked -/
theorem spec_has_ok (P : Gr) (hP : P.n ≤ 1048576) (B : Vec Bd) (a : Int) : spec_l06Has.F P B a = some (decide (0 ≤ a ∧ a < (P.n : Int))) := by
  rw [spec_l06Has.F, spec_l06Has.B, spec_l01In_eq, wr_small (by omega) (by omega), Option.bind_some]
  exact congrArg some (decide_eq_decide.2 ⟨fun h => ⟨h.1, by omega⟩, fun h => ⟨h.1, by omega⟩⟩)
def inV (P : Gr) (l : Vec Int) : Prop := ∀ i, i < l.n → 0 ≤ l.g i ∧ l.g i < (P.n : Int)
theorem areVersions_ok (P : Gr) (hP : P.n ≤ 1048576) (B : Vec Bd) (l : Vec Int) (hl : l.n ≤ bN) : ∃ c, impl_Weave_areVersions.F P B l = some c ∧ (c = true ↔ inV P l) := by
  have hb : bN = 140737488351232 := rfl
  rw [impl_Weave_areVersions.F, impl_Weave_areVersions.B]
  rcases all_loop (p := fun i => 0 ≤ l.g i ∧ l.g i < (P.n : Int)) (n := l.n) hl (fun k i => impl_Weave_areVersions.F0 k P B l (l.n : Int) i (fun _ => some true) (fun x => some x)) (some true) (some false)
    (fun k i hi => by
      simp only [impl_Weave_areVersions.F0, impl_Weave_areVersions.B0, impl_isPlace_ok _ (P.n : Int) (by omega) (by omega), selb, chkb, decide_eq_true_eq, Int.toNat_natCast, Int.ofNat_lt, Int.natCast_nonneg, true_and, Option.bind_some]
      rw [if_pos hi, if_pos hi, wr_succ (by omega)]
      by_cases h : 0 ≤ l.g i ∧ l.g i < (P.n : Int)
      · rw [decide_eq_true h, if_neg (by simp)]; exact ⟨fun h2 => absurd h h2, fun _ => rfl⟩
      · rw [decide_eq_false h, if_pos (by simp)]; exact ⟨fun _ => rfl, fun h2 => absurd h2 h⟩)
    (fun k i hi => by
      simp only [impl_Weave_areVersions.F0, impl_Weave_areVersions.B0, selb, decide_eq_true_eq, Int.ofNat_lt, if_neg hi]) with ⟨h, e⟩ | ⟨h, e⟩
  · exact ⟨true, e, fun _ => h, fun _ => rfl⟩
  · exact ⟨false, e, fun h2 => (by cases h2), fun h2 => absurd h2 h⟩
theorem vcode_ok (P : Gr) (hP : P.n ≤ 1048576) (B : Vec Bd) (hB : dSml B) (l : Vec Int) (hl : l.n ≤ bN) :
    (¬ wvGood P B ∧ impl_versionsCode.F P B l = some 1) ∨ (wvGood P B ∧ ¬ inV P l ∧ impl_versionsCode.F P B l = some 2) ∨ (wvGood P B ∧ inV P l ∧ impl_versionsCode.F P B l = some 0) := by
  obtain ⟨c, e, hc⟩ := impl_WeaveOk_ok P hP B hB
  obtain ⟨d, e2, hd⟩ := areVersions_ok P hP B l hl
  rw [impl_versionsCode.F, impl_versionsCode.B, e, Option.bind_some, e2, Option.bind_some]
  cases c with
  | false => exact .inl ⟨fun h => (by have := hc.2 h; cases this), rfl⟩
  | true =>
    cases d with
    | false => exact .inr (.inl ⟨hc.1 rfl, fun h => (by have := hd.2 h; cases this), rfl⟩)
    | true => exact .inr (.inr ⟨hc.1 rfl, hd.1 rfl, rfl⟩)
/-! ### Compare -/
open Classical in
noncomputable def cmp1 (b : Bd) (S T : Nat → Prop) : List Pr :=
  if live b S then (if live b T then [(1, b.2.1, b.2.2.1, b.1)] else [(2, b.2.1, b.2.2.1, b.1)]) else (if live b T then [(3, b.2.1, b.2.2.1, b.1)] else [])
theorem cmp1_len (b : Bd) (S T : Nat → Prop) : (cmp1 b S T).length ≤ 1 := by unfold cmp1; split <;> split <;> simp
noncomputable def cmpN (B : Vec Bd) (S T : Nat → Prop) : Nat → List Pr
  | 0 => []
  | i + 1 => cmpN B S T i ++ cmp1 (B.g i) S T
theorem cmpN_len (B : Vec Bd) (S T : Nat → Prop) : ∀ i, (cmpN B S T i).length ≤ i
  | 0 => Nat.le_refl _
  | i + 1 => by have := cmpN_len B S T i; have := cmp1_len (B.g i) S T; rw [cmpN, List.length_append]; omega
theorem cmpN_mem (B : Vec Bd) (S T : Nat → Prop) (x : Pr) : ∀ i, x ∈ cmpN B S T i → ∃ j, j < i ∧ x ∈ cmp1 (B.g j) S T
  | 0, h => by simp [cmpN] at h
  | i + 1, h => by
    rw [cmpN, List.mem_append] at h
    rcases h with h | h
    · obtain ⟨j, h1, h2⟩ := cmpN_mem B S T x i h
      exact ⟨j, by omega, h2⟩
    · exact ⟨i, by omega, h⟩
theorem spec_cmp_loop {ρ : Type} (P : Gr) (B : Vec Bd) (hB : dSml B) (n : Nat) (hn : n ≤ 40) (s t : Vec Bool) (S T : Nat → Prop) (hs : Marks s n S) (ht : Marks t n T) (hS : ∀ u, S u → u < n) (hT : ∀ u, T u → u < n) (K0 : Vec Pr → Option ρ) :
    ∃ r, spec_Compare.F0 fuelN 0 P B Vec.nil s t K0 = K0 r ∧ r.toL = cmpN B S T B.n := by
  have hb : bN = 140737488351232 := rfl
  have hM : maxN = 140737488355328 := rfl
  have hB1 := hB.1
  refine loop_inv (σ := Nat × Vec Pr) (fun t => B.n - t.1) (fun t => t.1 ≤ B.n ∧ t.2.toL = cmpN B S T t.1)
    (fun _ x => ∃ r, x = K0 r ∧ r.toL = cmpN B S T B.n) (fun k q => spec_Compare.F0 k (q.1 : Int) P B q.2 s t K0) ?_ fuelN (0, Vec.nil) (by simp only [fuelN]; omega)
    ⟨Nat.zero_le _, rfl⟩
  rintro k ⟨i, r⟩ ⟨hi, hr⟩ ih
  simp only at hi hr
  have hrn : r.n ≤ i := by have := cmpN_len B S T i; rw [← hr, Vec.toL_length] at this; exact this
  simp only [spec_Compare.F0, spec_Compare.B0, selb, chkb, decide_eq_true_eq, Int.toNat_natCast, Int.ofNat_lt, Int.natCast_nonneg, true_and]
  by_cases h : i < B.n
  · have hd := (hB.2 i h).1
    obtain ⟨c, e, hc⟩ := spec_live_ok (B.g i) (by omega) s n hn S hs hS
    obtain ⟨d, e2, hd⟩ := spec_live_ok (B.g i) (by omega) t n hn T ht hT
    have en : spec_l09Note.F (B.g i).1 (B.g i).2.1 (B.g i).2.2.1 (B.g i).2.2.2 = some ((B.g i).2.1, (B.g i).2.2.1, (B.g i).1) := rfl
    have c41 : (r.n + 1) * 41 ≤ maxN := by omega
    have go : ∀ (x : Vec Pr), x.toL = r.toL ++ cmp1 (B.g i) S T → ∃ q, spec_Compare.F0 k ((i + 1 : Nat) : Int) P B x s t K0 = K0 q ∧ q.toL = cmpN B S T B.n := fun x hx =>
      ih (i + 1, x) ⟨by simp only; omega, by simp only; rw [hx, hr]; rfl⟩ (by simp only; omega)
    have hlit : ∀ x : Pr, (Vec.lit [x] : Vec Pr).n = 1 := fun _ => rfl
    simp only [if_pos h, e, e2, en, Option.bind_some, wr_succ (i := i) (by omega), hlit, if_pos c41]
    cases c with
    | true =>
      have h1 := hc.1 rfl
      cases d with
      | true => exact go _ (by rw [toL_app, toL_lit, cmp1, if_pos h1, if_pos (hd.1 rfl)])
      | false => exact go _ (by rw [toL_app, toL_lit, cmp1, if_pos h1, if_neg (fun h => by have := hd.2 h; cases this)])
    | false =>
      have h1 : ¬ live (B.g i) S := fun h => by have := hc.2 h; cases this
      cases d with
      | true => exact go _ (by rw [toL_app, toL_lit, cmp1, if_neg h1, if_pos (hd.1 rfl)])
      | false => exact go _ (by rw [cmp1, if_neg h1, if_neg (fun h => by have := hd.2 h; cases this), List.append_nil])
  · rw [if_neg h]
    have e : i = B.n := by omega
    subst e
    exact ⟨r, rfl, hr⟩
theorem impl_compare_ok (P : Gr) (hg : grGood P) (B : Vec Bd) (hB : dSml B) (a b : Nat) (ha : a < P.n) (hb' : b < P.n) :
    ∃ r, impl_Weave_compare.F P B (a : Int) (b : Int) = some r ∧ r.toL = cmpN B (Cl P a) (Cl P b) B.n := by
  have hb : bN = 140737488351232 := rfl
  have hM : maxN = 140737488355328 := rfl
  have hB1 := hB.1
  obtain ⟨C, e0, hC⟩ := impl_closures_T P hg
  have hCn := hC.1
  rw [impl_Weave_compare.F, impl_Weave_compare.B, e0, Option.bind_some]
  refine loop_inv (σ := Nat × Vec Pr) (fun t => B.n - t.1) (fun t => t.1 ≤ B.n ∧ t.2.toL = cmpN B (Cl P a) (Cl P b) t.1)
    (fun _ x => ∃ r, x = some r ∧ r.toL = cmpN B (Cl P a) (Cl P b) B.n) (fun k q => impl_Weave_compare.F0 k (a : Int) (b : Int) B (B.n : Int) (q.1 : Int) C q.2 (fun e01 => some e01)) ?_ fuelN (0, Vec.nil) (by simp only [fuelN]; omega)
    ⟨Nat.zero_le _, rfl⟩
  rintro k ⟨i, r⟩ ⟨hi, hr⟩ ih
  simp only at hi hr
  have hrn : r.n ≤ i := by have := cmpN_len B (Cl P a) (Cl P b) i; rw [← hr, Vec.toL_length] at this; exact this
  simp only [impl_Weave_compare.F0, impl_Weave_compare.B0, selb, chkb, decide_eq_true_eq, Int.toNat_natCast, Int.ofNat_lt, Int.natCast_nonneg, true_and]
  by_cases h : i < B.n
  · have hd := (hB.2 i h).1
    obtain ⟨c, e, hc⟩ := impl_live_ok (B.g i) (by omega) (C.g a).v (Cl P a) (hC.2 a ha)
    obtain ⟨d, e2, hd⟩ := impl_live_ok (B.g i) (by omega) (C.g b).v (Cl P b) (hC.2 b hb')
    have en : impl_Body_note.F (B.g i).1 (B.g i).2.1 (B.g i).2.2.1 (B.g i).2.2.2 = some ((B.g i).2.1, (B.g i).2.2.1, (B.g i).1) := rfl
    have c41 : (r.n + 1) * 41 ≤ maxN := by omega
    have go : ∀ (x : Vec Pr), x.toL = r.toL ++ cmp1 (B.g i) (Cl P a) (Cl P b) → ∃ q, impl_Weave_compare.F0 k (a : Int) (b : Int) B (B.n : Int) ((i + 1 : Nat) : Int) C x (fun e01 => some e01) = some q ∧ q.toL = cmpN B (Cl P a) (Cl P b) B.n := fun x hx =>
      ih (i + 1, x) ⟨by simp only; omega, by simp only; rw [hx, hr]; rfl⟩ (by simp only; omega)
    have hlit : ∀ x : Pr, (Vec.lit [x] : Vec Pr).n = 1 := fun _ => rfl
    simp only [if_pos h, hCn, if_pos ha, if_pos hb', e, e2, en, Option.bind_some, wr_succ (i := i) (by omega), hlit, if_pos c41]
    cases c with
    | true =>
      have h1 := hc.1 rfl
      cases d with
      | true => exact go _ (by rw [toL_app, toL_lit, cmp1, if_pos h1, if_pos (hd.1 rfl)])
      | false => exact go _ (by rw [toL_app, toL_lit, cmp1, if_pos h1, if_neg (fun h => by have := hd.2 h; cases this)])
    | false =>
      have h1 : ¬ live (B.g i) (Cl P a) := fun h => by have := hc.2 h; cases this
      cases d with
      | true => exact go _ (by rw [toL_app, toL_lit, cmp1, if_neg h1, if_pos (hd.1 rfl)])
      | false => exact go _ (by rw [cmp1, if_neg h1, if_neg (fun h => by have := hd.2 h; cases this), List.append_nil])
  · rw [if_neg h]
    have e : i = B.n := by omega
    subst e
    exact ⟨r, rfl, hr⟩
theorem inV_two (P : Gr) (a b : Int) : inV P (Vec.lit [a, b]) ↔ (0 ≤ a ∧ a < (P.n : Int)) ∧ (0 ≤ b ∧ b < (P.n : Int)) := by
  constructor
  · intro h
    exact ⟨h 0 (by show 0 < 2; omega), h 1 (by show 1 < 2; omega)⟩
  · rintro ⟨h1, h2⟩ i hi
    have h3 : i < 2 := hi
    rcases Nat.lt_or_ge i 1 with h4 | h4
    · obtain rfl : i = 0 := by omega
      exact h1
    · obtain rfl : i = 1 := by omega
      exact h2
end Go.Al
