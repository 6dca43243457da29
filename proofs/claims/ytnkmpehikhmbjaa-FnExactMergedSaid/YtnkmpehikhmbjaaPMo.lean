import Derived.Test.YtnkmpehikhmbjaaPCo
import Derived.Test.YtnkmpehikhmbjaaGMo
set_option linter.unusedVariables false
set_option linter.unusedSimpArgs false
set_option linter.constructorNameAsVariable false
set_option linter.unusedSectionVars false
namespace Go.Al
open Classical in
/-- What a merge says of a pair. -/
noncomputable def markOf (S T : Nat → Prop) (x : Pr) : Pr :=
  if x.1 = 2 then (if T x.2.1.toNat then (5, x.2) else (2, x.2)) else (if x.1 = 3 then (if S x.2.1.toNat then (4, x.2) else (3, x.2)) else (1, x.2))
theorem markOf_snd (S T : Nat → Prop) (x : Pr) : (markOf S T x).2 = x.2 ∧ 1 ≤ (markOf S T x).1 ∧ (markOf S T x).1 ≤ 5 := by
  unfold markOf
  repeat' split
  all_goals exact ⟨rfl, by simp only; omega, by simp only; omega⟩
theorem spec_marks_loop {ρ : Type} (l : Vec Pr) (hl : l.n ≤ 1000) (n : Nat) (hin : ∀ x ∈ l.toL, 0 ≤ x.2.1 ∧ x.2.1 < (n : Int)) (s t : Vec Bool) (S T : Nat → Prop) (hs : Marks s n S) (ht : Marks t n T) (K0 : Vec Pr → Option ρ) : ∃ o, spec_MarksOf.F0 fuelN 0 l Vec.nil s t K0 = K0 o ∧ o.toL = l.toL.map (markOf S T) := by
  have hM : maxN = 140737488355328 := rfl
  have hsn := hs.1
  have htn := ht.1
  refine map_loop l (by omega) (markOf S T) (fun k i out => spec_MarksOf.F0 k i l out s t K0) K0 (fun k i out hn hi => ?_) (fun k i out hi => ?_)
  · have hlit : ∀ x : Pr, (Vec.lit [x] : Vec Pr).n = 1 := fun _ => rfl
    have hx := hin (l.g i) (List.mem_of_getElem? (Vec.toL_get l i hi))
    simp only [spec_MarksOf.F0, spec_MarksOf.B0, selb, chkb, decide_eq_true_eq, Int.toNat_natCast, Int.ofNat_lt, Int.natCast_nonneg, true_and, if_pos hi, hlit, if_pos (show (out.n + 1) * 41 ≤ maxN by omega), wr_succ (i := i) (by omega), hsn, htn, if_pos hx, if_pos (show (l.g i).2.1.toNat < n by omega)]
    unfold markOf
    have h1 := ht.2 (l.g i).2.1.toNat (by omega)
    have h2 := hs.2 (l.g i).2.1.toNat (by omega)
    by_cases a1 : (l.g i).1 = 2
    · rw [if_pos a1, if_pos a1]
      by_cases a2 : t.g (l.g i).2.1.toNat = true
      · rw [if_pos a2, if_pos (h1.1 a2)]
      · rw [if_neg a2, if_neg (fun h => a2 (h1.2 h))]
    · rw [if_neg a1, if_neg a1]
      by_cases a3 : (l.g i).1 = 3
      · rw [if_pos a3, if_pos a3]
        by_cases a2 : s.g (l.g i).2.1.toNat = true
        · rw [if_pos a2, if_pos (h2.1 a2)]
        · rw [if_neg a2, if_neg (fun h => a2 (h2.2 h))]
      · rw [if_neg a3, if_neg a3]
  · simp only [spec_MarksOf.F0, spec_MarksOf.B0, selb, decide_eq_true_eq, Int.ofNat_lt, if_neg hi]
theorem impl_marks_loop {ρ : Type} (a b : Nat) (l : Vec Pr) (hl : l.n ≤ 1000) (hin : ∀ x ∈ l.toL, 0 ≤ x.2.1) (C : Vec (IK .u64)) (ha : a < C.n) (hb : b < C.n) (S T : Nat → Prop) (hS : Bits (C.g a).v S) (hT : Bits (C.g b).v T) (K0 : Vec Pr → Option ρ) : ∃ o, impl_Weave_marksOf.F0 fuelN (a : Int) (b : Int) (l.n : Int) 0 C Vec.nil l K0 = K0 o ∧ o.toL = l.toL.map (markOf S T) := by
  have hM : maxN = 140737488355328 := rfl
  refine map_loop l (by omega) (markOf S T) (fun k i out => impl_Weave_marksOf.F0 k (a : Int) (b : Int) (l.n : Int) i C out l K0) K0 (fun k i out hn hi => ?_) (fun k i out hi => ?_)
  · have hlit : ∀ x : Pr, (Vec.lit [x] : Vec Pr).n = 1 := fun _ => rfl
    have hx := hin (l.g i) (List.mem_of_getElem? (Vec.toL_get l i hi))
    obtain ⟨c, e1, hc⟩ := impl_has_ok (C.g a).v S hS (l.g i).2.1
    obtain ⟨d, e2, hd⟩ := impl_has_ok (C.g b).v T hT (l.g i).2.1
    simp only [impl_Weave_marksOf.F0, impl_Weave_marksOf.B0, selb, chkb, decide_eq_true_eq, Int.toNat_natCast, Int.ofNat_lt, Int.natCast_nonneg, true_and, if_pos hi, hlit, if_pos (show (out.n + 1) * 41 ≤ maxN by omega), wr_succ (i := i) (by omega), if_pos ha, if_pos hb, e1, e2, Option.bind_some]
    unfold markOf
    by_cases a1 : (l.g i).1 = 2
    · rw [if_pos a1, if_pos a1]
      by_cases a2 : d = true
      · rw [if_pos a2, if_pos (hd.1 a2).2]
      · rw [if_neg a2, if_neg (fun h => a2 (hd.2 ⟨hx, h⟩))]
    · rw [if_neg a1, if_neg a1]
      by_cases a3 : (l.g i).1 = 3
      · rw [if_pos a3, if_pos a3]
        by_cases a2 : c = true
        · rw [if_pos a2, if_pos (hc.1 a2).2]
        · rw [if_neg a2, if_neg (fun h => a2 (hc.2 ⟨hx, h⟩))]
      · rw [if_neg a3, if_neg a3]
  · simp only [impl_Weave_marksOf.F0, impl_Weave_marksOf.B0, selb, decide_eq_true_eq, Int.ofNat_lt, if_neg hi]
theorem pr_in {P : Gr} {B : Vec Bd} (hw : wvGood P B) {S T : Nat → Prop} {x : Pr} (h : x ∈ cmpN B S T B.n) : 0 ≤ x.2.1 ∧ x.2.1 < (P.n : Int) := by
  obtain ⟨i, hi, -, e⟩ := cmpN_one h
  rw [e]
  exact (hw.2.2.1 i hi).2.1
theorem impl_marksOf_ok (P : Gr) (B : Vec Bd) (hB : dSml B) (hw : wvGood P B) (i j : Nat) (hi : i < P.n) (hj : j < P.n) : ∃ q, impl_Weave_marksOf.F P B (i : Int) (j : Int) = some q ∧ q.toL = (cmpN B (Cl P i) (Cl P j) B.n).map (markOf (Cl P i) (Cl P j)) := by
  have hg := hw.1
  obtain ⟨C, e0, hC⟩ := impl_closures_T P hg
  have hCn := hC.1
  obtain ⟨l, e1, hl⟩ := impl_compare_ok P hg B hB i j hi hj
  have hln : l.n ≤ 300 := by rw [← Vec.toL_length, hl]; exact Nat.le_trans (cmpN_len _ _ _ _) hw.2.1
  obtain ⟨o, e2, ho⟩ := impl_marks_loop i j l (by omega) (fun x hx => by rw [hl] at hx; exact (pr_in hw hx).1) C (by omega) (by omega) (Cl P i) (Cl P j) (hC.2 i hi) (hC.2 j hj) (fun e01 => some e01)
  rw [impl_Weave_marksOf.F, impl_Weave_marksOf.B, e0, Option.bind_some, e1, Option.bind_some, e2]
  exact ⟨o, rfl, by rw [ho, hl]⟩
theorem vcode_two (P : Gr) (hP : P.n ≤ 1048576) (B : Vec Bd) (hB : dSml B) (a b : Int) :
    (¬ wvGood P B ∧ impl_versionsCode.F P B (Vec.lit [a, b]) = some 1) ∨ (wvGood P B ∧ ¬ ((0 ≤ a ∧ a < (P.n : Int)) ∧ (0 ≤ b ∧ b < (P.n : Int))) ∧ impl_versionsCode.F P B (Vec.lit [a, b]) = some 2) ∨ (wvGood P B ∧ ((0 ≤ a ∧ a < (P.n : Int)) ∧ (0 ≤ b ∧ b < (P.n : Int))) ∧ impl_versionsCode.F P B (Vec.lit [a, b]) = some 0) := by
  have := vcode_ok P hP B hB (Vec.lit [a, b]) (by show 2 ≤ _; unfold bN; omega)
  rwa [inV_two] at this
theorem spec_MarksOf_cases (P : Gr) (hP : P.n ≤ 1048576) (B : Vec Bd) (hB : dSml B) (a b : Int) :
    (¬ wvGood P B ∧ spec_MarksOf.F P B a b = some (1, Vec.nil)) ∨
    (wvGood P B ∧ ¬ ((0 ≤ a ∧ a < (P.n : Int)) ∧ (0 ≤ b ∧ b < (P.n : Int))) ∧ spec_MarksOf.F P B a b = some (2, Vec.nil)) ∨
    (wvGood P B ∧ ∃ (i j : Nat) (r : Vec Pr), a = i ∧ b = j ∧ i < P.n ∧ j < P.n ∧ spec_MarksOf.F P B a b = some (0, r) ∧ r.toL = (cmpN B (Cl P i) (Cl P j) B.n).map (markOf (Cl P i) (Cl P j))) := by
  rw [spec_MarksOf.F, spec_MarksOf.B]
  rcases SCompare_cases P hP B hB a b with ⟨h, e1⟩ | ⟨h, h2, e1⟩ | ⟨hw, i, j, r, rfl, rfl, hi, hj, e1, hr⟩
  · rw [e1]; exact .inl ⟨h, rfl⟩
  · rw [e1]; exact .inr (.inl ⟨h, h2, rfl⟩)
  · have hg := hw.1
    obtain ⟨s, e3, hs⟩ := spec_l06Closure_ok P hg B i hi
    obtain ⟨t, e4, ht⟩ := spec_l06Closure_ok P hg B j hj
    have hrn : r.n ≤ 300 := by rw [← Vec.toL_length, hr]; exact Nat.le_trans (cmpN_len _ _ _ _) hw.2.1
    obtain ⟨o, e5, ho⟩ := spec_marks_loop r (by omega) P.n (fun x hx => by rw [hr] at hx; exact pr_in hw hx) s t (Cl P i) (Cl P j) hs ht (fun e01 => some ((0 : Int), e01))
    rw [e1, Option.bind_some, e3, Option.bind_some, e4, Option.bind_some, e5]
    exact .inr (.inr ⟨hw, i, j, o, rfl, rfl, hi, hj, rfl, by rw [ho, hr]⟩)
theorem mk_sml {P : Gr} {B : Vec Bd} (hB : Sml.sml B) {S T S' T' : Nat → Prop} {x : Pr} (h : x ∈ (cmpN B S T B.n).map (markOf S' T')) : Sml.sml x := by
  obtain ⟨y, hy, rfl⟩ := List.mem_map.1 h
  have := pr_sml (P := P) hB hy
  obtain ⟨e, h1, h2⟩ := markOf_snd S' T' y
  have h3 : markOf S' T' y = ((markOf S' T' y).1, y.2) := by rw [← e]
  rw [h3]
  exact ⟨int_small _ (by omega) (by omega), this.2⟩
end Go.Al
