import Derived.Test.YtahffnkphppgoaaGreatPMap0
import Derived.Test.YtahffnkphppgoaaGreatGMergeAt
set_option linter.unusedVariables false
set_option linter.unusedSimpArgs false
set_option linter.constructorNameAsVariable false
set_option linter.unusedSectionVars false
namespace Go.Al
theorem nil_smlT {A : Type} [Enc A] [Sml A] : Sml.sml (Vec.nil : Vec A) := ⟨Nat.zero_le _, fun i hi => absurd hi (Nat.not_lt_zero i)⟩
abbrev Pr : Type := Int × Int × Int × ByteArray
theorem spec_has_ok (P : Gr) (hP : P.n ≤ 1048576) (B : Vec Bd) (a : Int) : spec_l06Has.F P B a = some (decide (0 ≤ a ∧ a < (P.n : Int))) := by
  rw [spec_l06Has.F, spec_l06Has.B, spec_l01In_eq, zQ (by omega) (by omega), Option.bind_some]
  exact congrArg some (decide_eq_decide.2 ⟨fun h => ⟨h.1, by omega⟩, fun h => ⟨h.1, by omega⟩⟩)
open Classical in
noncomputable def cmp1 (b : Bd) (S T : Nat → Prop) : List Pr :=
  if live b S then (if live b T then [(1, b.2.1, b.2.2.1, b.1)] else [(2, b.2.1, b.2.2.1, b.1)]) else (if live b T then [(3, b.2.1, b.2.2.1, b.1)] else [])
theorem cmp1_len (b : Bd) (S T : Nat → Prop) : (cmp1 b S T).length ≤ 1 := by unfold cmp1; split <;> split <;> simp
noncomputable def cmpN (B : Vec Bd) (S T : Nat → Prop) : Nat → List Pr
  | 0 => []
  | i + 1 => cmpN B S T i ++ cmp1 (B.g i) S T
theorem cmpN_len (B : Vec Bd) (S T : Nat → Prop) : ∀ i, (cmpN B S T i).length ≤ i
  | 0 => Nat.le_refl _
  | i + 1 => by have := cmpN_len B S T i; have := cmp1_len (B.g i) S T; rw [cmpN, List.length_append]; omega
theorem cmpN_mem (B : Vec Bd) (S T : Nat → Prop) (x : Pr) : ∀ i, x ∈ cmpN B S T i → ∃ j, j < i ∧ x ∈ cmp1 (B.g j) S T
  | 0, h => by simp [cmpN] at h
  | i + 1, h => by
    rw [cmpN, List.mem_append] at h
    rcases h with h | h
    · obtain ⟨j, h1, h2⟩ := cmpN_mem B S T x i h
      exact ⟨j, by omega, h2⟩
    · exact ⟨i, by omega, h⟩
theorem spec_cmp_loop {ρ : Type} (P : Gr) (B : Vec Bd) (hB : dSml B) (n : Nat) (hn : n ≤ 40) (s t : Vec Bool) (S T : Nat → Prop) (hs : Marks s n S) (ht : Marks t n T) (hS : ∀ u, S u → u < n) (hT : ∀ u, T u → u < n) (K0 : Vec Pr → Option ρ) :
    ∃ r, spec_Compare.F0 fuelN 0 P B Vec.nil s t K0 = K0 r ∧ r.toL = cmpN B S T B.n := by
  have hb : bN = 140737488351232 := rfl
  have hM : maxN = 140737488355328 := rfl
  have hB1 := hB.1
  refine zP (σ := Nat × Vec Pr) (fun t => B.n - t.1) (fun t => t.1 ≤ B.n ∧ t.2.toL = cmpN B S T t.1)
    (fun _ x => ∃ r, x = K0 r ∧ r.toL = cmpN B S T B.n) (fun k q => spec_Compare.F0 k (q.1 : Int) P B q.2 s t K0) ?_ fuelN (0, Vec.nil) (by simp only [fuelN]; omega)
    ⟨Nat.zero_le _, rfl⟩
  rintro k ⟨i, r⟩ ⟨hi, hr⟩ ih
  simp only at hi hr
  have hrn : r.n ≤ i := by have := cmpN_len B S T i; rw [← hr, Vec.toL_length] at this; exact this
  simp only [spec_Compare.F0, spec_Compare.B0, selb, chkb, decide_eq_true_eq, Int.toNat_natCast, Int.ofNat_lt, Int.natCast_nonneg, true_and]
  by_cases h : i < B.n
  · have hd := (hB.2 i h).1
    obtain ⟨c, e, hc⟩ := spec_live_ok (B.g i) (by omega) s n hn S hs hS
    obtain ⟨d, e2, hd⟩ := spec_live_ok (B.g i) (by omega) t n hn T ht hT
    have en : spec_l09Note.F (B.g i).1 (B.g i).2.1 (B.g i).2.2.1 (B.g i).2.2.2 = some ((B.g i).2.1, (B.g i).2.2.1, (B.g i).1) := rfl
    have c41 : (r.n + 1) * 41 ≤ maxN := by omega
    have go : ∀ (x : Vec Pr), x.toL = r.toL ++ cmp1 (B.g i) S T → ∃ q, spec_Compare.F0 k ((i + 1 : Nat) : Int) P B x s t K0 = K0 q ∧ q.toL = cmpN B S T B.n := fun x hx =>
      ih (i + 1, x) ⟨by simp only; omega, by simp only; rw [hx, hr]; rfl⟩ (by simp only; omega)
    have hlit : ∀ x : Pr, (Vec.lit [x] : Vec Pr).n = 1 := fun _ => rfl
    simp only [if_pos h, e, e2, en, Option.bind_some, zK (i := i) (by omega), hlit, if_pos c41]
    cases c with
    | true =>
      have h1 := hc.1 rfl
      cases d with
      | true => exact go _ (by rw [toL_app, toL_lit, cmp1, if_pos h1, if_pos (hd.1 rfl)])
      | false => exact go _ (by rw [toL_app, toL_lit, cmp1, if_pos h1, if_neg (fun h => by have := hd.2 h; cases this)])
    | false =>
      have h1 : ¬ live (B.g i) S := fun h => by have := hc.2 h; cases this
      cases d with
      | true => exact go _ (by rw [toL_app, toL_lit, cmp1, if_neg h1, if_pos (hd.1 rfl)])
      | false => exact go _ (by rw [cmp1, if_neg h1, if_neg (fun h => by have := hd.2 h; cases this), List.append_nil])
  · rw [if_neg h]
    have e : i = B.n := by omega
    subst e
    exact ⟨r, rfl, hr⟩
theorem impl_compare_ok (P : Gr) (hg : zV P) (B : Vec Bd) (hB : dSml B) (a b : Nat) (ha : a < P.n) (hb' : b < P.n) :
    ∃ r, impl_Weave_compare.F P B (a : Int) (b : Int) = some r ∧ r.toL = cmpN B (Cl P a) (Cl P b) B.n := by
  have hb : bN = 140737488351232 := rfl
  have hM : maxN = 140737488355328 := rfl
  have hB1 := hB.1
  obtain ⟨C, e0, hC⟩ := impl_closures_T P hg
  have hCn := hC.1
  rw [impl_Weave_compare.F, impl_Weave_compare.B, e0, Option.bind_some]
  refine zP (σ := Nat × Vec Pr) (fun t => B.n - t.1) (fun t => t.1 ≤ B.n ∧ t.2.toL = cmpN B (Cl P a) (Cl P b) t.1)
    (fun _ x => ∃ r, x = some r ∧ r.toL = cmpN B (Cl P a) (Cl P b) B.n) (fun k q => impl_Weave_compare.F0 k (a : Int) (b : Int) B (B.n : Int) (q.1 : Int) C q.2 (fun e01 => some e01)) ?_ fuelN (0, Vec.nil) (by simp only [fuelN]; omega)
    ⟨Nat.zero_le _, rfl⟩
  rintro k ⟨i, r⟩ ⟨hi, hr⟩ ih
  simp only at hi hr
  have hrn : r.n ≤ i := by have := cmpN_len B (Cl P a) (Cl P b) i; rw [← hr, Vec.toL_length] at this; exact this
  simp only [impl_Weave_compare.F0, impl_Weave_compare.B0, selb, chkb, decide_eq_true_eq, Int.toNat_natCast, Int.ofNat_lt, Int.natCast_nonneg, true_and]
  by_cases h : i < B.n
  · have hd := (hB.2 i h).1
    obtain ⟨c, e, hc⟩ := impl_live_ok (B.g i) (by omega) (C.g a).v (Cl P a) (hC.2 a ha)
    obtain ⟨d, e2, hd⟩ := impl_live_ok (B.g i) (by omega) (C.g b).v (Cl P b) (hC.2 b hb')
    have en : impl_Body_note.F (B.g i).1 (B.g i).2.1 (B.g i).2.2.1 (B.g i).2.2.2 = some ((B.g i).2.1, (B.g i).2.2.1, (B.g i).1) := rfl
    have c41 : (r.n + 1) * 41 ≤ maxN := by omega
    have go : ∀ (x : Vec Pr), x.toL = r.toL ++ cmp1 (B.g i) (Cl P a) (Cl P b) → ∃ q, impl_Weave_compare.F0 k (a : Int) (b : Int) B (B.n : Int) ((i + 1 : Nat) : Int) C x (fun e01 => some e01) = some q ∧ q.toL = cmpN B (Cl P a) (Cl P b) B.n := fun x hx =>
      ih (i + 1, x) ⟨by simp only; omega, by simp only; rw [hx, hr]; rfl⟩ (by simp only; omega)
    have hlit : ∀ x : Pr, (Vec.lit [x] : Vec Pr).n = 1 := fun _ => rfl
    simp only [if_pos h, hCn, if_pos ha, if_pos hb', e, e2, en, Option.bind_some, zK (i := i) (by omega), hlit, if_pos c41]
    cases c with
    | true =>
      have h1 := hc.1 rfl
      cases d with
      | true => exact go _ (by rw [toL_app, toL_lit, cmp1, if_pos h1, if_pos (hd.1 rfl)])
      | false => exact go _ (by rw [toL_app, toL_lit, cmp1, if_pos h1, if_neg (fun h => by have := hd.2 h; cases this)])
    | false =>
      have h1 : ¬ live (B.g i) (Cl P a) := fun h => by have := hc.2 h; cases this
      cases d with
      | true => exact go _ (by rw [toL_app, toL_lit, cmp1, if_neg h1, if_pos (hd.1 rfl)])
      | false => exact go _ (by rw [cmp1, if_neg h1, if_neg (fun h => by have := hd.2 h; cases this), List.append_nil])
  · rw [if_neg h]
    have e : i = B.n := by omega
    subst e
    exact ⟨r, rfl, hr⟩
theorem SCompare_cases (P : Gr) (hP : P.n ≤ 1048576) (B : Vec Bd) (hB : dSml B) (a b : Int) :
    (¬ wvGood P B ∧ spec_Compare.F P B a b = some (1, Vec.nil)) ∨
    (wvGood P B ∧ ¬ ((0 ≤ a ∧ a < (P.n : Int)) ∧ (0 ≤ b ∧ b < (P.n : Int))) ∧ spec_Compare.F P B a b = some (2, Vec.nil)) ∨
    (wvGood P B ∧ ∃ (i j : Nat) (r : Vec Pr), a = i ∧ b = j ∧ i < P.n ∧ j < P.n ∧ spec_Compare.F P B a b = some (0, r) ∧ r.toL = cmpN B (Cl P i) (Cl P j) B.n) := by
  obtain ⟨c, e, hc⟩ := spec_WeaveOk_ok P B hB
  rw [spec_Compare.F, spec_Compare.B, e, Option.bind_some, spec_has_ok P hP, spec_has_ok P hP, Option.bind_some, Option.bind_some]
  by_cases h : wvGood P B
  · obtain rfl : c = true := hc.2 h
    by_cases h2 : (0 ≤ a ∧ a < (P.n : Int)) ∧ (0 ≤ b ∧ b < (P.n : Int))
    · rw [decide_eq_true h2.1, decide_eq_true h2.2]
      have hg := h.1
      obtain ⟨a, rfl⟩ : ∃ n : Nat, a = n := ⟨a.toNat, by omega⟩
      obtain ⟨b, rfl⟩ : ∃ n : Nat, b = n := ⟨b.toNat, by omega⟩
      have ha : a < P.n := by omega
      have hb : b < P.n := by omega
      obtain ⟨s, e3, hs⟩ := spec_l06Closure_ok P hg B a ha
      obtain ⟨t, e4, ht⟩ := spec_l06Closure_ok P hg B b hb
      obtain ⟨r, e6, hr⟩ := spec_cmp_loop P B hB P.n hg.1 s t (Cl P a) (Cl P b) hs ht (fun u hu => Cl_lt hg hu ha) (fun u hu => Cl_lt hg hu hb) (fun e01 => some ((0 : Int), e01))
      have w1 : spec_Compare.F0 fuelN 0 P B Vec.nil s t (fun e01 => some ((0 : Int), e01)) = some ((0 : Int), r) := e6
      clear e6
      refine .inr (.inr ⟨h, a, b, r, rfl, rfl, ha, hb, ?_, hr⟩)
      rw [e3, Option.bind_some, e4, Option.bind_some, w1]
      rfl
    · refine .inr (.inl ⟨h, h2, ?_⟩)
      by_cases ha : 0 ≤ a ∧ a < (P.n : Int)
      · rw [decide_eq_true ha, decide_eq_false (fun hb => h2 ⟨ha, hb⟩)]
        rfl
      · rw [decide_eq_false ha]
        rfl
  · obtain rfl : c = false := by cases c with | false => rfl | true => exact absurd (hc.1 rfl) h
    exact .inl ⟨h, rfl⟩
theorem cmpN_one {B : Vec Bd} {S T : Nat → Prop} {x : Pr} {n : Nat} (h : x ∈ cmpN B S T n) : ∃ i, i < n ∧ (1 ≤ x.1 ∧ x.1 ≤ 3) ∧ x.2 = ((B.g i).2.1, (B.g i).2.2.1, (B.g i).1) := by
  obtain ⟨j, hj, hx⟩ := cmpN_mem _ _ _ _ _ h
  refine ⟨j, hj, ?_⟩
  unfold cmp1 at hx
  split at hx <;> split at hx <;> simp at hx <;> subst hx <;> exact ⟨⟨by simp only; omega, by simp only; omega⟩, rfl⟩
theorem pr_sml {P : Gr} {B : Vec Bd} (hB : Sml.sml B) {S T : Nat → Prop} {x : Pr} (h : x ∈ cmpN B S T B.n) : Sml.sml x := by
  obtain ⟨i, hi, ⟨h1, h2⟩, e⟩ := cmpN_one h
  obtain ⟨x1, x2⟩ := x
  simp only at e h1 h2
  subst e
  have := hB.2 i hi
  exact ⟨int_small _ (by omega) (by omega), this.2.1, this.2.2.1, this.1⟩
open Classical in
noncomputable def markOf (S T : Nat → Prop) (x : Pr) : Pr :=
  if x.1 = 2 then (if T x.2.1.toNat then (5, x.2) else (2, x.2)) else (if x.1 = 3 then (if S x.2.1.toNat then (4, x.2) else (3, x.2)) else (1, x.2))
theorem markOf_snd (S T : Nat → Prop) (x : Pr) : (markOf S T x).2 = x.2 ∧ 1 ≤ (markOf S T x).1 ∧ (markOf S T x).1 ≤ 5 := by
  unfold markOf
  repeat' split
  all_goals exact ⟨rfl, by simp only; omega, by simp only; omega⟩
theorem spec_marks_loop {ρ : Type} (l : Vec Pr) (hl : l.n ≤ 1000) (n : Nat) (hin : ∀ x ∈ l.toL, 0 ≤ x.2.1 ∧ x.2.1 < (n : Int)) (s t : Vec Bool) (S T : Nat → Prop) (hs : Marks s n S) (ht : Marks t n T) (K0 : Vec Pr → Option ρ) : ∃ o, spec_MarksOf.F0 fuelN 0 l Vec.nil s t K0 = K0 o ∧ o.toL = l.toL.map (markOf S T) := by
  have hM : maxN = 140737488355328 := rfl
  have hsn := hs.1
  have htn := ht.1
  refine map_loop l (by omega) (markOf S T) (fun k i out => spec_MarksOf.F0 k i l out s t K0) K0 (fun k i out hn hi => ?_) (fun k i out hi => ?_)
  · have hlit : ∀ x : Pr, (Vec.lit [x] : Vec Pr).n = 1 := fun _ => rfl
    have hx := hin (l.g i) (List.mem_of_getElem? (Vec.toL_get l i hi))
    simp only [spec_MarksOf.F0, spec_MarksOf.B0, selb, chkb, decide_eq_true_eq, Int.toNat_natCast, Int.ofNat_lt, Int.natCast_nonneg, true_and, if_pos hi, hlit, if_pos (show (out.n + 1) * 41 ≤ maxN by omega), zK (i := i) (by omega), hsn, htn, if_pos hx, if_pos (show (l.g i).2.1.toNat < n by omega)]
    unfold markOf
    have h1 := ht.2 (l.g i).2.1.toNat (by omega)
    have h2 := hs.2 (l.g i).2.1.toNat (by omega)
    by_cases a1 : (l.g i).1 = 2
    · rw [if_pos a1, if_pos a1]
      by_cases a2 : t.g (l.g i).2.1.toNat = true
      · rw [if_pos a2, if_pos (h1.1 a2)]
      · rw [if_neg a2, if_neg (fun h => a2 (h1.2 h))]
    · rw [if_neg a1, if_neg a1]
      by_cases a3 : (l.g i).1 = 3
      · rw [if_pos a3, if_pos a3]
        by_cases a2 : s.g (l.g i).2.1.toNat = true
        · rw [if_pos a2, if_pos (h2.1 a2)]
        · rw [if_neg a2, if_neg (fun h => a2 (h2.2 h))]
      · rw [if_neg a3, if_neg a3]
  · simp only [spec_MarksOf.F0, spec_MarksOf.B0, selb, decide_eq_true_eq, Int.ofNat_lt, if_neg hi]
theorem impl_marks_loop {ρ : Type} (a b : Nat) (l : Vec Pr) (hl : l.n ≤ 1000) (hin : ∀ x ∈ l.toL, 0 ≤ x.2.1) (C : Vec (IK .u64)) (ha : a < C.n) (hb : b < C.n) (S T : Nat → Prop) (hS : Bits (C.g a).v S) (hT : Bits (C.g b).v T) (K0 : Vec Pr → Option ρ) : ∃ o, impl_Weave_marksOf.F0 fuelN (a : Int) (b : Int) (l.n : Int) 0 C Vec.nil l K0 = K0 o ∧ o.toL = l.toL.map (markOf S T) := by
  have hM : maxN = 140737488355328 := rfl
  refine map_loop l (by omega) (markOf S T) (fun k i out => impl_Weave_marksOf.F0 k (a : Int) (b : Int) (l.n : Int) i C out l K0) K0 (fun k i out hn hi => ?_) (fun k i out hi => ?_)
  · have hlit : ∀ x : Pr, (Vec.lit [x] : Vec Pr).n = 1 := fun _ => rfl
    have hx := hin (l.g i) (List.mem_of_getElem? (Vec.toL_get l i hi))
    obtain ⟨c, e1, hc⟩ := impl_has_ok (C.g a).v S hS (l.g i).2.1
    obtain ⟨d, e2, hd⟩ := impl_has_ok (C.g b).v T hT (l.g i).2.1
    simp only [impl_Weave_marksOf.F0, impl_Weave_marksOf.B0, selb, chkb, decide_eq_true_eq, Int.toNat_natCast, Int.ofNat_lt, Int.natCast_nonneg, true_and, if_pos hi, hlit, if_pos (show (out.n + 1) * 41 ≤ maxN by omega), zK (i := i) (by omega), if_pos ha, if_pos hb, e1, e2, Option.bind_some]
    unfold markOf
    by_cases a1 : (l.g i).1 = 2
    · rw [if_pos a1, if_pos a1]
      by_cases a2 : d = true
      · rw [if_pos a2, if_pos (hd.1 a2).2]
      · rw [if_neg a2, if_neg (fun h => a2 (hd.2 ⟨hx, h⟩))]
    · rw [if_neg a1, if_neg a1]
      by_cases a3 : (l.g i).1 = 3
      · rw [if_pos a3, if_pos a3]
        by_cases a2 : c = true
        · rw [if_pos a2, if_pos (hc.1 a2).2]
        · rw [if_neg a2, if_neg (fun h => a2 (hc.2 ⟨hx, h⟩))]
      · rw [if_neg a3, if_neg a3]
  · simp only [impl_Weave_marksOf.F0, impl_Weave_marksOf.B0, selb, decide_eq_true_eq, Int.ofNat_lt, if_neg hi]
theorem pr_in {P : Gr} {B : Vec Bd} (hw : wvGood P B) {S T : Nat → Prop} {x : Pr} (h : x ∈ cmpN B S T B.n) : 0 ≤ x.2.1 ∧ x.2.1 < (P.n : Int) := by
  obtain ⟨i, hi, -, e⟩ := cmpN_one h
  rw [e]
  exact (hw.2.2.1 i hi).2.1
theorem impl_marksOf_ok (P : Gr) (B : Vec Bd) (hB : dSml B) (hw : wvGood P B) (i j : Nat) (hi : i < P.n) (hj : j < P.n) : ∃ q, impl_Weave_marksOf.F P B (i : Int) (j : Int) = some q ∧ q.toL = (cmpN B (Cl P i) (Cl P j) B.n).map (markOf (Cl P i) (Cl P j)) := by
  have hg := hw.1
  obtain ⟨C, e0, hC⟩ := impl_closures_T P hg
  have hCn := hC.1
  obtain ⟨l, e1, hl⟩ := impl_compare_ok P hg B hB i j hi hj
  have hln : l.n ≤ 300 := by rw [← Vec.toL_length, hl]; exact Nat.le_trans (cmpN_len _ _ _ _) hw.2.1
  obtain ⟨o, e2, ho⟩ := impl_marks_loop i j l (by omega) (fun x hx => by rw [hl] at hx; exact (pr_in hw hx).1) C (by omega) (by omega) (Cl P i) (Cl P j) (hC.2 i hi) (hC.2 j hj) (fun e01 => some e01)
  rw [impl_Weave_marksOf.F, impl_Weave_marksOf.B, e0, Option.bind_some, e1, Option.bind_some, e2]
  exact ⟨o, rfl, by rw [ho, hl]⟩
theorem spec_MarksOf_cases (P : Gr) (hP : P.n ≤ 1048576) (B : Vec Bd) (hB : dSml B) (a b : Int) :
    (¬ wvGood P B ∧ spec_MarksOf.F P B a b = some (1, Vec.nil)) ∨
    (wvGood P B ∧ ¬ ((0 ≤ a ∧ a < (P.n : Int)) ∧ (0 ≤ b ∧ b < (P.n : Int))) ∧ spec_MarksOf.F P B a b = some (2, Vec.nil)) ∨
    (wvGood P B ∧ ∃ (i j : Nat) (r : Vec Pr), a = i ∧ b = j ∧ i < P.n ∧ j < P.n ∧ spec_MarksOf.F P B a b = some (0, r) ∧ r.toL = (cmpN B (Cl P i) (Cl P j) B.n).map (markOf (Cl P i) (Cl P j))) := by
  rw [spec_MarksOf.F, spec_MarksOf.B]
  rcases SCompare_cases P hP B hB a b with ⟨h, e1⟩ | ⟨h, h2, e1⟩ | ⟨hw, i, j, r, rfl, rfl, hi, hj, e1, hr⟩
  · rw [e1]; exact .inl ⟨h, rfl⟩
  · rw [e1]; exact .inr (.inl ⟨h, h2, rfl⟩)
  · have hg := hw.1
    obtain ⟨s, e3, hs⟩ := spec_l06Closure_ok P hg B i hi
    obtain ⟨t, e4, ht⟩ := spec_l06Closure_ok P hg B j hj
    have hrn : r.n ≤ 300 := by rw [← Vec.toL_length, hr]; exact Nat.le_trans (cmpN_len _ _ _ _) hw.2.1
    obtain ⟨o, e5, ho⟩ := spec_marks_loop r (by omega) P.n (fun x hx => by rw [hr] at hx; exact pr_in hw hx) s t (Cl P i) (Cl P j) hs ht (fun e01 => some ((0 : Int), e01))
    rw [e1, Option.bind_some, e3, Option.bind_some, e4, Option.bind_some, e5]
    exact .inr (.inr ⟨hw, i, j, o, rfl, rfl, hi, hj, rfl, by rw [ho, hr]⟩)
theorem mk_sml {P : Gr} {B : Vec Bd} (hB : Sml.sml B) {S T S' T' : Nat → Prop} {x : Pr} (h : x ∈ (cmpN B S T B.n).map (markOf S' T')) : Sml.sml x := by
  obtain ⟨y, hy, rfl⟩ := List.mem_map.1 h
  have := pr_sml (P := P) hB hy
  obtain ⟨e, h1, h2⟩ := markOf_snd S' T' y
  have h3 : markOf S' T' y = ((markOf S' T' y).1, y.2) := by rw [← e]
  rw [h3]
  exact ⟨int_small _ (by omega) (by omega), this.2⟩
abbrev Rg : Type := Bool × Vec ByteArray × Vec ByteArray × Vec ByteArray
abbrev RgL : Type := Bool × List ByteArray × List ByteArray × List ByteArray
def rgL (r : Rg) : RgL := (r.1, r.2.1.toL, r.2.2.1.toL, r.2.2.2.toL)
def isL (m : Pr) : Bool := decide (m.1 = 2) || decide (m.1 = 4)
def isR (m : Pr) : Bool := decide (m.1 = 3) || decide (m.1 = 5)
def isN (m : Pr) : Bool := decide (m.1 = 2) || decide (m.1 = 3)
def isA (m : Pr) : Bool := decide (m.1 = 2) || decide (m.1 = 5)
def lnOf (m : Pr) : ByteArray := m.2.2.2
def regOf (l : List Pr) : RgL := (l.any isL && l.any isR, if l.any isL && l.any isR then [] else (l.filter isN).map lnOf, (l.filter isA).map lnOf, (l.filter fun m => !isA m).map lnOf)
def appB (v : Vec ByteArray) (b : Bool) (x : ByteArray) : Vec ByteArray := if b = true then Vec.app v (Vec.lit [x]) else v
theorem appB_L (v : Vec ByteArray) (b : Bool) (x : ByteArray) : (appB v b x).toL = v.toL ++ (if b = true then [x] else []) := by
  unfold appB
  split
  · rw [toL_app, toL_lit]
  · simp
theorem filter_take {v : Vec Pr} {i : Nat} (hi : i < v.n) (p : Pr → Bool) : ((v.toL.take (i + 1)).filter p).map lnOf = ((v.toL.take i).filter p).map lnOf ++ (if p (v.g i) = true then [lnOf (v.g i)] else []) := by
  rw [toL_take_succ v i hi, List.filter_append, List.map_append]
  congr 1
  by_cases h : p (v.g i) = true <;> simp [h]
theorem any_take {v : Vec Pr} {i : Nat} (hi : i < v.n) (p : Pr → Bool) : (v.toL.take (i + 1)).any p = ((v.toL.take i).any p || p (v.g i)) := by
  rw [toL_take_succ v i hi, List.any_append]
  simp
theorem kinds (k : Int) : (k = 2 ∧ k ≠ 3 ∧ k ≠ 4 ∧ k ≠ 5) ∨ (k ≠ 2 ∧ k = 3 ∧ k ≠ 4 ∧ k ≠ 5) ∨ (k ≠ 2 ∧ k ≠ 3 ∧ k = 4 ∧ k ≠ 5) ∨ (k ≠ 2 ∧ k ≠ 3 ∧ k ≠ 4 ∧ k = 5) ∨ (k ≠ 2 ∧ k ≠ 3 ∧ k ≠ 4 ∧ k ≠ 5) := by omega
theorem spec_reg_step {ρ : Type} (k : Nat) (l : Vec Pr) (a b : Bool) (i : Nat) (hi : i < l.n) (hl : l.n ≤ 1000) (x y z : Vec ByteArray) (hx : x.n ≤ 1000) (hy : y.n ≤ 1000) (hz : z.n ≤ 1000) (p q : Bool) (K0 : Bool → Bool → Bool → Bool → Vec ByteArray → Vec ByteArray → Vec ByteArray → Option ρ) :
    spec_l11Region.F0 (k + 1) l a b (i : Int) p q x y z K0 = spec_l11Region.F0 k l (a || isL (l.g i)) (b || isR (l.g i)) ((i + 1 : Nat) : Int) p q (appB x (isN (l.g i)) (lnOf (l.g i))) (appB y (isA (l.g i)) (lnOf (l.g i))) (appB z (!isA (l.g i)) (lnOf (l.g i))) K0 := by
  have hM : maxN = 140737488355328 := rfl
  have hlit : ∀ x : ByteArray, (Vec.lit [x] : Vec ByteArray).n = 1 := fun _ => rfl
  simp only [spec_l11Region.F0, spec_l11Region.B0, selb, chkb, decide_eq_true_eq, Int.toNat_natCast, Int.ofNat_lt, Int.natCast_nonneg, true_and, if_pos hi, hlit, zK (i := i) (by omega),
    if_pos (show (x.n + 1) * 17 ≤ maxN by omega), if_pos (show (y.n + 1) * 17 ≤ maxN by omega), if_pos (show (z.n + 1) * 17 ≤ maxN by omega)]
  unfold isL isR isN isA lnOf appB
  rcases kinds (l.g i).1 with ⟨h2, h3, h4, h5⟩ | ⟨h2, h3, h4, h5⟩ | ⟨h2, h3, h4, h5⟩ | ⟨h2, h3, h4, h5⟩ | ⟨h2, h3, h4, h5⟩ <;> cases a <;> cases b <;> simp [h2, h3, h4, h5]
theorem impl_reg_step {ρ : Type} (k : Nat) (l : Vec Pr) (a b : Bool) (i : Nat) (hi : i < l.n) (hl : l.n ≤ 1000) (x y z : Vec ByteArray) (hx : x.n ≤ 1000) (hy : y.n ≤ 1000) (hz : z.n ≤ 1000) (p q : Bool) (K0 : Bool → Bool → Bool → Bool → Vec ByteArray → Vec ByteArray → Vec ByteArray → Option ρ) :
    impl_regionOf.F0 (k + 1) a b l (l.n : Int) (i : Int) p q x y z K0 = impl_regionOf.F0 k (a || isL (l.g i)) (b || isR (l.g i)) l (l.n : Int) ((i + 1 : Nat) : Int) p q (appB x (isN (l.g i)) (lnOf (l.g i))) (appB y (isA (l.g i)) (lnOf (l.g i))) (appB z (!isA (l.g i)) (lnOf (l.g i))) K0 := by
  have hM : maxN = 140737488355328 := rfl
  have hlit : ∀ x : ByteArray, (Vec.lit [x] : Vec ByteArray).n = 1 := fun _ => rfl
  simp only [impl_regionOf.F0, impl_regionOf.B0, selb, chkb, decide_eq_true_eq, Int.toNat_natCast, Int.ofNat_lt, Int.natCast_nonneg, true_and, if_pos hi, hlit, zK (i := i) (by omega),
    if_pos (show (x.n + 1) * 17 ≤ maxN by omega), if_pos (show (y.n + 1) * 17 ≤ maxN by omega), if_pos (show (z.n + 1) * 17 ≤ maxN by omega)]
  unfold isL isR isN isA lnOf appB
  rcases kinds (l.g i).1 with ⟨h2, h3, h4, h5⟩ | ⟨h2, h3, h4, h5⟩ | ⟨h2, h3, h4, h5⟩ | ⟨h2, h3, h4, h5⟩ | ⟨h2, h3, h4, h5⟩ <;> cases a <;> cases b <;> simp [h2, h3, h4, h5]
theorem reg_loop {ρ : Type} (l : Vec Pr) (hl : l.n ≤ 1000) (G : Nat → Bool → Bool → Int → Vec ByteArray → Vec ByteArray → Vec ByteArray → Option ρ) (K : Bool → Bool → Vec ByteArray → Vec ByteArray → Vec ByteArray → Option ρ)
    (h : ∀ k a b (i : Nat) x y z, i < l.n → x.n ≤ 1000 → y.n ≤ 1000 → z.n ≤ 1000 → G (k + 1) a b (i : Int) x y z = G k (a || isL (l.g i)) (b || isR (l.g i)) ((i + 1 : Nat) : Int) (appB x (isN (l.g i)) (lnOf (l.g i))) (appB y (isA (l.g i)) (lnOf (l.g i))) (appB z (!isA (l.g i)) (lnOf (l.g i))))
    (h2 : ∀ k a b (i : Nat) x y z, ¬ i < l.n → G (k + 1) a b (i : Int) x y z = K a b x y z) :
    ∃ x y z, G fuelN false false 0 Vec.nil Vec.nil Vec.nil = K (l.toL.any isL) (l.toL.any isR) x y z ∧ x.toL = (l.toL.filter isN).map lnOf ∧ y.toL = (l.toL.filter isA).map lnOf ∧ z.toL = (l.toL.filter fun m => !isA m).map lnOf := by
  refine zP (σ := Nat × Vec ByteArray × Vec ByteArray × Vec ByteArray) (fun t => l.n - t.1)
    (fun t => t.1 ≤ l.n ∧ t.2.1.toL = ((l.toL.take t.1).filter isN).map lnOf ∧ t.2.2.1.toL = ((l.toL.take t.1).filter isA).map lnOf ∧ t.2.2.2.toL = ((l.toL.take t.1).filter fun m => !isA m).map lnOf)
    (fun _ v => ∃ x y z, v = K (l.toL.any isL) (l.toL.any isR) x y z ∧ x.toL = (l.toL.filter isN).map lnOf ∧ y.toL = (l.toL.filter isA).map lnOf ∧ z.toL = (l.toL.filter fun m => !isA m).map lnOf)
    (fun k t => G k ((l.toL.take t.1).any isL) ((l.toL.take t.1).any isR) (t.1 : Int) t.2.1 t.2.2.1 t.2.2.2) ?_ fuelN (0, Vec.nil, Vec.nil, Vec.nil) (by simp only [fuelN]; omega)
    ⟨Nat.zero_le _, rfl, rfl, rfl⟩
  rintro k ⟨i, x, y, z⟩ ⟨hi, hx, hy, hz⟩ ih
  simp only at hi hx hy hz ⊢
  have bound : ∀ (v : Vec ByteArray) (p : Pr → Bool), v.toL = ((l.toL.take i).filter p).map lnOf → v.n ≤ 1000 := fun v p e => by
    rw [← Vec.toL_length, e, List.length_map]
    exact Nat.le_trans (List.length_filter_le _ _) (by rw [List.length_take, Vec.toL_length]; omega)
  by_cases hlt : i < l.n
  · rw [h k _ _ i x y z hlt (bound x _ hx) (bound y _ hy) (bound z _ hz), ← any_take hlt isL, ← any_take hlt isR]
    exact ih (i + 1, appB x (isN (l.g i)) (lnOf (l.g i)), appB y (isA (l.g i)) (lnOf (l.g i)), appB z (!isA (l.g i)) (lnOf (l.g i)))
      ⟨hlt, by rw [appB_L, hx, filter_take hlt], by rw [appB_L, hy, filter_take hlt], by rw [appB_L, hz, filter_take hlt]⟩ (by simp only; omega)
  · rw [h2 k _ _ i x y z hlt]
    have e : l.toL.take i = l.toL := List.take_of_length_le (by rw [Vec.toL_length]; omega)
    rw [e] at hx hy hz ⊢
    exact ⟨x, y, z, rfl, hx, hy, hz⟩
theorem rgL_of {b : Bool} {x y z : Vec ByteArray} {l : List Pr} (hb : b = (l.any isL && l.any isR)) (hx : x.toL = if l.any isL && l.any isR then [] else (l.filter isN).map lnOf) (hy : y.toL = (l.filter isA).map lnOf) (hz : z.toL = (l.filter fun m => !isA m).map lnOf) : rgL (b, x, y, z) = regOf l := by
  unfold rgL regOf
  simp only
  rw [hb, hx, hy, hz]
theorem spec_reg_ok (l : Vec Pr) (hl : l.n ≤ 1000) : ∃ r, spec_l11Region.F l = some r ∧ rgL r = regOf l.toL := by
  rw [spec_l11Region.F, spec_l11Region.B]
  obtain ⟨x, y, z, e, hx, hy, hz⟩ := reg_loop l hl (fun k a b i x y z => spec_l11Region.F0 k l a b i false false x y z (fun e01 e02 e03 e04 e05 e06 e07 => sel (e01) (sel ((!e02)) (some (e02, e05, e06, e07)) (some (e02, (Vec.nil : Vec ByteArray), e06, e07))) (some (false, e05, e06, e07))))
    (fun a b x y z => sel a (sel (!b) (some (b, x, y, z)) (some (b, Vec.nil, y, z))) (some (false, x, y, z)))
    (fun k a b i x y z hi hx hy hz => spec_reg_step k l a b i hi hl x y z hx hy hz _ _ _)
    (fun k a b i x y z hi => by simp only [spec_l11Region.F0, spec_l11Region.B0, selb, decide_eq_true_eq, Int.ofNat_lt, if_neg hi])
  rw [e]
  cases ha : l.toL.any isL with
  | false => exact ⟨_, rfl, rgL_of (by rw [ha]; rfl) (by rw [ha]; simpa using hx) hy hz⟩
  | true =>
    cases hb : l.toL.any isR with
    | false => exact ⟨_, rfl, rgL_of (by rw [ha, hb]; rfl) (by rw [ha, hb]; simpa using hx) hy hz⟩
    | true => exact ⟨_, rfl, rgL_of (by rw [ha, hb]; rfl) (by rw [ha, hb]; rfl) hy hz⟩
theorem impl_reg_ok (l : Vec Pr) (hl : l.n ≤ 1000) : ∃ r, impl_regionOf.F l = some r ∧ rgL r = regOf l.toL := by
  rw [impl_regionOf.F, impl_regionOf.B]
  obtain ⟨x, y, z, e, hx, hy, hz⟩ := reg_loop l hl (fun k a b i x y z => impl_regionOf.F0 k a b l (l.n : Int) i false false x y z (fun e01 e02 e03 e04 e05 e06 e07 => sel (e01) (sel (e02) (some (true, (Vec.nil : Vec ByteArray), e06, e07)) (some (e04, e05, e06, e07))) (some (e04, e05, e06, e07))))
    (fun a b x y z => sel a (sel b (some (true, Vec.nil, y, z)) (some (false, x, y, z))) (some (false, x, y, z)))
    (fun k a b i x y z hi hx hy hz => impl_reg_step k l a b i hi hl x y z hx hy hz _ _ _)
    (fun k a b i x y z hi => by simp only [impl_regionOf.F0, impl_regionOf.B0, selb, decide_eq_true_eq, Int.ofNat_lt, if_neg hi])
  rw [e]
  cases ha : l.toL.any isL with
  | false => exact ⟨_, rfl, rgL_of (by rw [ha]; rfl) (by rw [ha]; simpa using hx) hy hz⟩
  | true =>
    cases hb : l.toL.any isR with
    | false => exact ⟨_, rfl, rgL_of (by rw [ha, hb]; rfl) (by rw [ha, hb]; simpa using hx) hy hz⟩
    | true => exact ⟨_, rfl, rgL_of (by rw [ha, hb]; rfl) (by rw [ha, hb]; rfl) hy hz⟩
def flsh (now : List Pr) : List RgL := if now = [] then [] else [regOf now]
def rgs : List Pr → List Pr → List RgL
  | [], now => flsh now
  | m :: l, now => if m.1 = 1 then flsh now ++ (false, [lnOf m], [], []) :: rgs l [] else rgs l (now ++ [m])
theorem rgs_at {v : Vec Pr} {i : Nat} (hi : i < v.n) (now : List Pr) : rgs (v.toL.drop i) now = if (v.g i).1 = 1 then flsh now ++ (false, [lnOf (v.g i)], [], []) :: rgs (v.toL.drop (i + 1)) [] else rgs (v.toL.drop (i + 1)) (now ++ [v.g i]) := by
  have h : v.toL.drop i = v.g i :: v.toL.drop (i + 1) := by
    rw [List.drop_eq_getElem_cons (by rw [Vec.toL_length]; exact hi)]
    congr 1
    exact (List.getElem_eq_iff _).2 (Vec.toL_get v i hi)
  rw [h, rgs]
theorem lit_Lg {A : Type} [Enc A] (out : Vec A) (x : A) : (Vec.app out (Vec.lit [x])).toL = out.toL ++ [x] := by rw [toL_app, toL_lit]
theorem nil_n {A : Type} {v : Vec A} (h : v.toL = []) : v.n = 0 := by rw [← Vec.toL_length, h]; rfl
abbrev Gok (v4 : Vec Rg) (L : List RgL) : Prop := v4.toL.map rgL = L
theorem spec_regions_loop {ρ : Type} (l : Vec Pr) (hl : l.n ≤ 300) (K0 : Int → Vec Rg → Option ρ) : ∃ o, spec_RegionsOf.F0 fuelN 0 0 l Vec.nil Vec.nil K0 = K0 0 o ∧ o.toL.map rgL = rgs l.toL [] ∧ o.n ≤ 700 := by
  have hM : maxN = 140737488355328 := rfl
  have hlit : ∀ x : Pr, (Vec.lit [x] : Vec Pr).n = 1 := fun _ => rfl
  have hlit2 : ∀ x : Rg, (Vec.lit [x] : Vec Rg).n = 1 := fun _ => rfl
  refine zP (σ := Nat × Vec Rg × Vec Pr) (fun t => l.n + 1 - t.1) (fun t => t.2.1.n + (if 0 < t.2.2.n then 1 else 0) ≤ 2 * t.1 ∧ t.2.2.n ≤ t.1 ∧ ((t.1 ≤ l.n ∧ t.2.1.toL.map rgL ++ rgs (l.toL.drop t.1) t.2.2.toL = rgs l.toL []) ∨ (t.1 = l.n + 1 ∧ t.2.1.toL.map rgL = rgs l.toL [])))
    (fun _ x => ∃ o, x = K0 0 o ∧ o.toL.map rgL = rgs l.toL [] ∧ o.n ≤ 700) (fun k t => spec_RegionsOf.F0 k 0 (t.1 : Int) l t.2.1 t.2.2 K0) ?_ fuelN (0, Vec.nil, Vec.nil) (by simp only [fuelN]; omega)
    ⟨by simp [Vec.nil], Nat.le_refl _, .inl ⟨Nat.zero_le _, by simp [Vec.toL]⟩⟩
  rintro k ⟨i, out, now⟩ ⟨hn1, hn2, hi⟩ ih
  simp only at hn1 hn2 hi ⊢
  rcases hi with ⟨hi, hv⟩ | ⟨hi, hv⟩
  · have hile : (i : Int) ≤ (l.n : Int) := by omega
    have hout : out.n ≤ 600 := by split at hn1 <;> omega
    by_cases hlt : i < l.n
    · rw [rgs_at hlt] at hv
      by_cases hk : (l.g i).1 = 1
      · rw [if_pos hk] at hv
        by_cases hnow : 0 < now.n
        · obtain ⟨r, e, hr⟩ := spec_reg_ok now (by omega)
          rw [if_pos hnow] at hn1
          simp only [spec_RegionsOf.F0, spec_RegionsOf.B0, selb, chkb, decide_eq_true_eq, Int.toNat_natCast, Int.ofNat_lt, Int.natCast_nonneg, true_and, if_pos hlt, if_pos hile, hlit, hlit2, if_true, hk, decide_true, Bool.not_true, Bool.false_eq_true, if_false, e, Option.bind_some, zK (i := i) (by omega),
            if_pos (show (0 : Int) < (now.n : Int) by omega), if_pos (show (out.n + 1) * 81 ≤ maxN by omega), if_pos (show ((Vec.app out (Vec.lit [(r.1, r.2.1, r.2.2.1, r.2.2.2)] : Vec Rg)).n + 1) * 81 ≤ maxN by show (out.n + 1 + 1) * 81 ≤ maxN; omega)]
          refine ih (i + 1, Vec.app (Vec.app out (Vec.lit [((r.1, r.2.1, r.2.2.1, r.2.2.2) : Rg)])) (Vec.lit [((false, Vec.lit [(l.g i).2.2.2], Vec.nil, Vec.nil) : Rg)]), Vec.nil) ⟨?_, Nat.zero_le _, .inl ⟨hlt, ?_⟩⟩ (by simp only; omega)
          · show out.n + 1 + 1 + 0 ≤ 2 * (i + 1)
            omega
          · simp only
            rw [lit_Lg, lit_Lg, List.map_append, List.map_append, ← hv]
            have hne : now.toL ≠ [] := fun h => by rw [nil_n h] at hnow; cases hnow
            simp only [flsh, if_neg hne, List.map_cons, List.map_nil, List.append_assoc, List.cons_append, List.nil_append]
            rw [show ((r.1, r.2.1, r.2.2.1, r.2.2.2) : Rg) = r from rfl, hr]
            rfl
        · rw [if_neg hnow] at hn1
          simp only [spec_RegionsOf.F0, spec_RegionsOf.B0, selb, chkb, decide_eq_true_eq, Int.toNat_natCast, Int.ofNat_lt, Int.natCast_nonneg, true_and, if_pos hlt, if_pos hile, hlit, hlit2, if_true, hk, decide_true, Bool.not_true, Bool.false_eq_true, if_false, zK (i := i) (by omega),
            if_neg (show ¬ (0 : Int) < (now.n : Int) by omega), if_pos (show (out.n + 1) * 81 ≤ maxN by omega)]
          refine ih (i + 1, Vec.app out (Vec.lit [((false, Vec.lit [(l.g i).2.2.2], Vec.nil, Vec.nil) : Rg)]), Vec.nil) ⟨?_, Nat.zero_le _, .inl ⟨hlt, ?_⟩⟩ (by simp only; omega)
          · show out.n + 1 + 0 ≤ 2 * (i + 1)
            omega
          · simp only
            have hne : now.toL = [] := List.eq_nil_of_length_eq_zero (by rw [Vec.toL_length]; omega)
            rw [lit_Lg, List.map_append, ← hv]
            simp only [flsh, hne, if_true, List.map_cons, List.map_nil, List.append_assoc, List.cons_append, List.nil_append]
            rfl
      · rw [if_neg hk] at hv
        simp only [spec_RegionsOf.F0, spec_RegionsOf.B0, selb, chkb, decide_eq_true_eq, Int.toNat_natCast, Int.ofNat_lt, Int.natCast_nonneg, true_and, if_pos hlt, if_pos hile, hlit, hlit2, if_true, decide_eq_false hk, Bool.not_false, zK (i := i) (by omega),
          if_pos (show (now.n + 1) * 41 ≤ maxN by omega)]
        refine ih (i + 1, out, Vec.app now (Vec.lit [((l.g i).1, (l.g i).2.1, (l.g i).2.2.1, (l.g i).2.2.2)])) ⟨?_, by show now.n + 1 ≤ i + 1; omega, .inl ⟨hlt, ?_⟩⟩ (by simp only; omega)
        · show out.n + (if 0 < now.n + 1 then 1 else 0) ≤ 2 * (i + 1)
          split at hn1 <;> simp <;> omega
        · simp only
          rw [lit_Lg, ← hv]
    · have e : i = l.n := by omega
      have hd : l.toL.drop i = [] := List.drop_eq_nil_of_le (by rw [Vec.toL_length]; omega)
      rw [hd, rgs] at hv
      have hlt' : ¬ (i : Int) < (l.n : Int) := by omega
      by_cases hnow : 0 < now.n
      · obtain ⟨r, e, hr⟩ := spec_reg_ok now (by omega)
        rw [if_pos hnow] at hn1
        simp only [spec_RegionsOf.F0, spec_RegionsOf.B0, selb, chkb, decide_eq_true_eq, if_neg hlt', if_pos hile, hlit, hlit2, if_true, e, Option.bind_some, zK (i := i) (by omega),
          if_pos (show (0 : Int) < (now.n : Int) by omega), if_pos (show (out.n + 1) * 81 ≤ maxN by omega)]
        refine ih (i + 1, Vec.app out (Vec.lit [((r.1, r.2.1, r.2.2.1, r.2.2.2) : Rg)]), Vec.nil) ⟨?_, Nat.zero_le _, .inr ⟨by omega, ?_⟩⟩ (by simp only; omega)
        · show out.n + 1 + 0 ≤ 2 * (i + 1)
          omega
        · simp only
          have hne : now.toL ≠ [] := fun h => by rw [nil_n h] at hnow; cases hnow
          rw [lit_Lg, List.map_append, ← hv]
          simp only [flsh, if_neg hne, List.map_cons, List.map_nil]
          rw [show ((r.1, r.2.1, r.2.2.1, r.2.2.2) : Rg) = r from rfl, hr]
      · rw [if_neg hnow] at hn1
        simp only [spec_RegionsOf.F0, spec_RegionsOf.B0, selb, chkb, decide_eq_true_eq, if_neg hlt', if_pos hile, if_true, zK (i := i) (by omega), if_neg (show ¬ (0 : Int) < (now.n : Int) by omega)]
        have hne : now.toL = [] := List.eq_nil_of_length_eq_zero (by rw [Vec.toL_length]; omega)
        refine ih (i + 1, out, Vec.nil) ⟨?_, Nat.zero_le _, .inr ⟨by omega, ?_⟩⟩ (by simp only; omega)
        · show out.n + 0 ≤ 2 * (i + 1)
          omega
        · simp only
          rw [← hv, flsh, if_pos hne, List.append_nil]
  · have hile : ¬ (i : Int) ≤ (l.n : Int) := by omega
    simp only [spec_RegionsOf.F0, spec_RegionsOf.B0, selb, decide_eq_true_eq, if_neg hile]
    exact ⟨out, rfl, hv, by split at hn1 <;> omega⟩
theorem flush_ok (now : Vec Pr) (hn : now.n ≤ 1000) (out : Vec Rg) (ho : out.n ≤ 1000) : ∃ o, impl_Weave_regionsOf_1_sfaa7.F now out = some (now, o) ∧ o.toL.map rgL = out.toL.map rgL ++ flsh now.toL ∧ o.n = out.n + (if 0 < now.n then 1 else 0) := by
  have hM : maxN = 140737488355328 := rfl
  have hlit2 : ∀ x : Rg, (Vec.lit [x] : Vec Rg).n = 1 := fun _ => rfl
  rw [impl_Weave_regionsOf_1_sfaa7.F, impl_Weave_regionsOf_1_sfaa7.B, selb]
  by_cases hnow : 0 < now.n
  · obtain ⟨r, e, hr⟩ := impl_reg_ok now hn
    rw [if_pos (by simpa using hnow)]
    simp only [e, Option.bind_some, both_self]
    rw [hlit2, chkb, if_pos (by rw [decide_eq_true_eq]; omega)]
    have hne : now.toL ≠ [] := fun h => by rw [nil_n h] at hnow; cases hnow
    refine ⟨_, rfl, ?_, by rw [if_pos hnow]; rfl⟩
    rw [lit_Lg, List.map_append, flsh, if_neg hne, show ((r.1, r.2.1, r.2.2.1, r.2.2.2) : Rg) = r from rfl, List.map_cons, List.map_nil, hr]
  · rw [if_neg (by simpa using hnow)]
    have hne : now.toL = [] := List.eq_nil_of_length_eq_zero (by rw [Vec.toL_length]; omega)
    exact ⟨_, rfl, by rw [flsh, if_pos hne, List.append_nil], by rw [if_neg hnow]; rfl⟩
theorem impl_regions_loop {ρ : Type} (l : Vec Pr) (hl : l.n ≤ 300) (K0 : Vec Rg → Vec Pr → Option ρ) : ∃ o now, impl_Weave_regionsOf.F0 fuelN (l.n : Int) 0 l Vec.nil Vec.nil K0 = K0 o now ∧ o.toL.map rgL ++ flsh now.toL = rgs l.toL [] ∧ o.n ≤ 600 ∧ now.n ≤ 300 := by
  have hM : maxN = 140737488355328 := rfl
  have hlit : ∀ x : Pr, (Vec.lit [x] : Vec Pr).n = 1 := fun _ => rfl
  have hlit2 : ∀ x : Rg, (Vec.lit [x] : Vec Rg).n = 1 := fun _ => rfl
  refine zP (σ := Nat × Vec Rg × Vec Pr) (fun t => l.n - t.1) (fun t => t.2.1.n + (if 0 < t.2.2.n then 1 else 0) ≤ 2 * t.1 ∧ t.2.2.n ≤ t.1 ∧ t.1 ≤ l.n ∧ t.2.1.toL.map rgL ++ rgs (l.toL.drop t.1) t.2.2.toL = rgs l.toL [])
    (fun _ x => ∃ o now, x = K0 o now ∧ o.toL.map rgL ++ flsh now.toL = rgs l.toL [] ∧ o.n ≤ 600 ∧ now.n ≤ 300) (fun k t => impl_Weave_regionsOf.F0 k (l.n : Int) (t.1 : Int) l t.2.1 t.2.2 K0) ?_ fuelN (0, Vec.nil, Vec.nil) (by simp only [fuelN]; omega)
    ⟨by simp [Vec.nil], Nat.le_refl _, Nat.zero_le _, by simp [Vec.toL]⟩
  rintro k ⟨i, out, now⟩ ⟨hn1, hn2, hi, hv⟩ ih
  simp only at hn1 hn2 hi hv ⊢
  have hout : out.n ≤ 600 := by split at hn1 <;> omega
  by_cases hlt : i < l.n
  · rw [rgs_at hlt] at hv
    by_cases hk : (l.g i).1 = 1
    · rw [if_pos hk] at hv
      obtain ⟨o, e, ho1, ho2⟩ := flush_ok now (by omega) out (by omega)
      simp only [impl_Weave_regionsOf.F0, impl_Weave_regionsOf.B0, selb, chkb, decide_eq_true_eq, Int.toNat_natCast, Int.ofNat_lt, Int.natCast_nonneg, true_and, if_pos hlt, hlit, hlit2, if_true, hk, decide_true, Bool.not_true, Bool.false_eq_true, if_false, e, Option.bind_some, zK (i := i) (by omega),
        if_pos (show (o.n + 1) * 81 ≤ maxN by split at ho2 <;> omega)]
      refine ih (i + 1, Vec.app o (Vec.lit [((false, Vec.lit [(l.g i).2.2.2], Vec.nil, Vec.nil) : Rg)]), Vec.nil) ⟨?_, Nat.zero_le _, hlt, ?_⟩ (by simp only; omega)
      · show o.n + 1 + 0 ≤ 2 * (i + 1)
        omega
      · simp only
        rw [lit_Lg, List.map_append, ho1, ← hv]
        simp only [List.map_cons, List.map_nil, List.append_assoc, List.cons_append, List.nil_append]
        rfl
    · rw [if_neg hk] at hv
      simp only [impl_Weave_regionsOf.F0, impl_Weave_regionsOf.B0, selb, chkb, decide_eq_true_eq, Int.toNat_natCast, Int.ofNat_lt, Int.natCast_nonneg, true_and, if_pos hlt, hlit, hlit2, if_true, decide_eq_false hk, Bool.not_false, zK (i := i) (by omega),
        if_pos (show (now.n + 1) * 41 ≤ maxN by omega)]
      refine ih (i + 1, out, Vec.app now (Vec.lit [((l.g i).1, (l.g i).2.1, (l.g i).2.2.1, (l.g i).2.2.2)])) ⟨?_, by show now.n + 1 ≤ i + 1; omega, hlt, ?_⟩ (by simp only; omega)
      · show out.n + (if 0 < now.n + 1 then 1 else 0) ≤ 2 * (i + 1)
        split at hn1 <;> simp <;> omega
      · simp only
        rw [lit_Lg, ← hv]
  · have hd : l.toL.drop i = [] := List.drop_eq_nil_of_le (by rw [Vec.toL_length]; omega)
    rw [hd, rgs] at hv
    simp only [impl_Weave_regionsOf.F0, impl_Weave_regionsOf.B0, selb, decide_eq_true_eq, Int.ofNat_lt, if_neg hlt]
    exact ⟨out, now, rfl, hv, hout, by omega⟩
theorem impl_regionsOf_ok (P : Gr) (B : Vec Bd) (hB : dSml B) (hw : wvGood P B) (i j : Nat) (hi : i < P.n) (hj : j < P.n) : ∃ q, impl_Weave_regionsOf.F P B (i : Int) (j : Int) = some q ∧ q.toL.map rgL = rgs ((cmpN B (Cl P i) (Cl P j) B.n).map (markOf (Cl P i) (Cl P j))) [] ∧ q.n ≤ 700 := by
  rw [impl_Weave_regionsOf.F, impl_Weave_regionsOf.B]
  obtain ⟨m, e1, hm⟩ := impl_marksOf_ok P B hB hw i j hi hj
  have hmn : m.n ≤ 300 := by rw [← Vec.toL_length, hm, List.length_map]; exact Nat.le_trans (cmpN_len _ _ _ _) hw.2.1
  obtain ⟨o, now, e2, h2, h3, h4⟩ := impl_regions_loop m hmn (fun e01 e02 => (impl_Weave_regionsOf_1_sfaa7.F e02 e01).bind fun r2 => some r2.2)
  obtain ⟨q, e3, h5, h6⟩ := flush_ok now (by omega) o (by omega)
  rw [e1, Option.bind_some, e2, e3, Option.bind_some]
  refine ⟨q, rfl, by rw [h5, h2, hm], by split at h6 <;> omega⟩
theorem rg_sim {x y : Rg} (h : rgL x = rgL y) : Sim.sim x y := by
  unfold rgL at h
  simp only [Prod.mk.injEq] at h
  exact ⟨h.1, Sim.same (same_iff.2 h.2.1), Sim.same (same_iff.2 h.2.2.1), Sim.same (same_iff.2 h.2.2.2)⟩
theorem rgs_sim {v w : Vec Rg} (h : v.toL.map rgL = w.toL.map rgL) : Sim.sim v w := by
  have hn : v.n = w.n := by
    have := congrArg List.length h
    rwa [List.length_map, List.length_map, Vec.toL_length, Vec.toL_length] at this
  refine ⟨hn, fun i hi => rg_sim ?_⟩
  have h1 := congrArg (fun l => l[i]?) h
  simp only [List.getElem?_map, Vec.toL_get v i hi, Vec.toL_get w i (hn ▸ hi), Option.map_some, Option.some.injEq] at h1
  exact h1
def rgGood (N : Nat) (p : ByteArray → Prop) (R : RgL) : Prop := (R.2.1.length ≤ N ∧ ∀ s ∈ R.2.1, p s) ∧ (R.2.2.1.length ≤ N ∧ ∀ s ∈ R.2.2.1, p s) ∧ (R.2.2.2.length ≤ N ∧ ∀ s ∈ R.2.2.2, p s)
theorem flsh_good {N : Nat} {p : ByteArray → Prop} {now : List Pr} (h : ∀ m ∈ now, p (lnOf m)) (hn : now.length ≤ N) : ∀ R ∈ flsh now, rgGood N p R := by
  intro R hR
  unfold flsh at hR
  split at hR
  · cases hR
  obtain rfl : R = regOf now := by simpa using hR
  have key : ∀ q : Pr → Bool, ((now.filter q).map lnOf).length ≤ N ∧ ∀ s ∈ (now.filter q).map lnOf, p s := fun q => ⟨by rw [List.length_map]; exact Nat.le_trans (List.length_filter_le _ _) hn, fun s hs => by
    obtain ⟨m, hm, rfl⟩ := List.mem_map.1 hs
    exact h m (List.mem_filter.1 hm).1⟩
  unfold regOf rgGood
  refine ⟨?_, key _, key _⟩
  simp only
  split
  · exact ⟨Nat.zero_le _, fun s hs => by cases hs⟩
  · exact key _
theorem rgs_good {N : Nat} {p : ByteArray → Prop} (hN : 1 ≤ N) : ∀ (l now : List Pr), (∀ m ∈ l, p (lnOf m)) → (∀ m ∈ now, p (lnOf m)) → l.length + now.length ≤ N → ∀ R ∈ rgs l now, rgGood N p R
  | [], now, _, h2, hn, R, hR => flsh_good h2 (by simpa using hn) R (by rwa [rgs] at hR)
  | m :: l, now, h1, h2, hn, R, hR => by
    rw [List.length_cons] at hn
    rw [rgs] at hR
    split at hR
    · rw [List.mem_append, List.mem_cons] at hR
      rcases hR with hR | rfl | hR
      · exact flsh_good h2 (by omega) R hR
      · exact ⟨⟨hN, fun s hs => by
          obtain rfl : s = lnOf m := by simpa using hs
          exact h1 m List.mem_cons_self⟩, ⟨Nat.zero_le _, fun s hs => by cases hs⟩, ⟨Nat.zero_le _, fun s hs => by cases hs⟩⟩
      · exact rgs_good hN l [] (fun m hm => h1 m (List.mem_cons_of_mem _ hm)) (fun m hm => by cases hm) (by simp; omega) R hR
    · refine rgs_good hN l (now ++ [m]) (fun m hm => h1 m (List.mem_cons_of_mem _ hm)) (fun x hx => ?_) (by simp; omega) R hR
      rcases List.mem_append.1 hx with hx | hx
      · exact h2 x hx
      · obtain rfl : x = m := by simpa using hx
        exact h1 x List.mem_cons_self
theorem str_sml {v : Vec ByteArray} {l : List ByteArray} (h : v.toL = l) (hl : l.length ≤ 400) (hp : ∀ s ∈ l, Sml.sml s) : Sml.sml v := sml_of h (by unfold sN; omega) hp
theorem rg_sml {x : Rg} (h : rgGood 400 (fun s => Sml.sml s) (rgL x)) : Sml.sml x := ⟨trivial, str_sml rfl h.1.1 h.1.2, str_sml rfl h.2.1.1 h.2.1.2, str_sml rfl h.2.2.1 h.2.2.2⟩
theorem rgs_sml {P : Gr} {B : Vec Bd} (hB : Sml.sml B) (hw : wvGood P B) {S T S' T' : Nat → Prop} {q : Vec Rg} (hq : q.toL.map rgL = rgs ((cmpN B S T B.n).map (markOf S' T')) []) (hn : q.n ≤ 700) : Sml.sml q := by
  refine sml_of (l := q.toL) rfl (by rw [Vec.toL_length]; unfold sN; omega) fun x hx => rg_sml ?_
  refine rgs_good (N := 400) (p := fun s => Sml.sml s) (by omega) ((cmpN B S T B.n).map (markOf S' T')) [] (fun m hm => ?_) (fun m hm => (by cases hm)) ?_ (rgL x) (by rw [← hq]; exact List.mem_map_of_mem hx)
  · exact (mk_sml (P := P) hB hm).2.2.2
  · rw [List.length_map]
    have := cmpN_len B S T B.n
    have := hw.2.1
    simp
    omega
theorem spec_regionsOf_ok (P : Gr) (hP : P.n ≤ 1048576) (B : Vec Bd) (hB : dSml B) (hw : wvGood P B) (i j : Nat) (hi : i < P.n) (hj : j < P.n) : ∃ r, spec_RegionsOf.F P B (i : Int) (j : Int) = some ((0 : Int), r) ∧ r.toL.map rgL = rgs ((cmpN B (Cl P i) (Cl P j) B.n).map (markOf (Cl P i) (Cl P j))) [] := by
  rw [spec_RegionsOf.F, spec_RegionsOf.B]
  rcases spec_MarksOf_cases P hP B hB i j with ⟨h, -⟩ | ⟨-, h, -⟩ | ⟨-, i', j', r, ei, ej, -, -, e1, hr⟩
  · exact absurd hw h
  · exact absurd ⟨⟨by omega, by omega⟩, ⟨by omega, by omega⟩⟩ h
  · obtain rfl : i' = i := by omega
    obtain rfl : j' = j := by omega
    have hrn : r.n ≤ 300 := by rw [← Vec.toL_length, hr, List.length_map]; exact Nat.le_trans (cmpN_len _ _ _ _) hw.2.1
    obtain ⟨o, e3, ho, hon⟩ := spec_regions_loop r hrn (fun e01 e02 => some (e01, e02))
    rw [e1, Option.bind_some, e3]
    exact ⟨o, rfl, by rw [ho, hr]⟩
end Go.Al
