import Derived.Test.YtefdhjnlnmljpaaPMkW
import Derived.Test.YtefdhjnlnmljpaaPCo
import Derived.Test.YtefdhjnlnmljpaaSTwins
set_option linter.unusedVariables false
set_option linter.unusedSimpArgs false
set_option linter.constructorNameAsVariable false
set_option linter.unusedSectionVars false
namespace Go.Al
/-! ### The lines of a version -/
def lineAt (B : Vec Bd) (x : Int) : ByteArray := (B.g x.toNat).1
noncomputable def textOf (B : Vec Bd) (S : Nat → Prop) : List ByteArray := (places B S).map (lineAt B)
theorem spec_lines_ok (P : Gr) (B : Vec Bd) (l : Vec Int) (hl : l.n ≤ 1000) (hin : ∀ x ∈ l.toL, 0 ≤ x ∧ x < (B.n : Int)) : ∃ o, spec_l06Lines.F P B l = some o ∧ o.toL = l.toL.map (lineAt B) := by
  have hM : maxN = 140737488355328 := rfl
  rw [spec_l06Lines.F, spec_l06Lines.B]
  refine map_loop l (by omega) (lineAt B) (fun k i out => spec_l06Lines.F0 k l i P B out (fun e01 => some e01)) some (fun k i out hn hi => ?_) (fun k i out hi => ?_)
  · have hlit : ∀ x : ByteArray, (Vec.lit [x] : Vec ByteArray).n = 1 := fun _ => rfl
    have hx := hin (l.g i) (List.mem_of_getElem? (Vec.toL_get l i hi))
    simp only [spec_l06Lines.F0, spec_l06Lines.B0, selb, chkb, decide_eq_true_eq, Int.toNat_natCast, Int.ofNat_lt, Int.natCast_nonneg, true_and, if_pos hi, if_pos hx, hlit, if_pos (show (out.n + 1) * 17 ≤ maxN by omega), wr_succ (i := i) (by omega), lineAt]
  · simp only [spec_l06Lines.F0, spec_l06Lines.B0, selb, decide_eq_true_eq, Int.ofNat_lt, if_neg hi]
theorem impl_linesAt_ok (P : Gr) (B : Vec Bd) (l : Vec Int) (hl : l.n ≤ 1000) (hin : ∀ x ∈ l.toL, 0 ≤ x ∧ x < (B.n : Int)) : ∃ o, impl_Weave_linesAt.F P B l = some o ∧ o.toL = l.toL.map (lineAt B) := by
  have hM : maxN = 140737488355328 := rfl
  rw [impl_Weave_linesAt.F, impl_Weave_linesAt.B]
  refine map_loop l (by omega) (lineAt B) (fun k i out => impl_Weave_linesAt.F0 k P B l (l.n : Int) i out (fun e01 => some e01)) some (fun k i out hn hi => ?_) (fun k i out hi => ?_)
  · have hlit : ∀ x : ByteArray, (Vec.lit [x] : Vec ByteArray).n = 1 := fun _ => rfl
    have hx := hin (l.g i) (List.mem_of_getElem? (Vec.toL_get l i hi))
    simp only [impl_Weave_linesAt.F0, impl_Weave_linesAt.B0, selb, chkb, decide_eq_true_eq, Int.toNat_natCast, Int.ofNat_lt, Int.natCast_nonneg, true_and, if_pos hi, if_pos hx, hlit, if_pos (show (out.n + 1) * 17 ≤ maxN by omega), wr_succ (i := i) (by omega), lineAt]
  · simp only [impl_Weave_linesAt.F0, impl_Weave_linesAt.B0, selb, decide_eq_true_eq, Int.ofNat_lt, if_neg hi]
theorem places_le {P : Gr} {B : Vec Bd} (hw : wvGood P B) {v : Nat} (hv : v < P.n) : (places B (Cl P v)).length ≤ 80 := (hw.2.2.2 v hv).2
theorem spec_text_ok (P : Gr) (B : Vec Bd) (hB : dSml B) (hw : wvGood P B) (v : Nat) (hv : v < P.n) : ∃ o, spec_l06Text.F P B (v : Int) = some o ∧ o.toL = textOf B (Cl P v) := by
  have hg := hw.1
  rw [spec_l06Text.F, spec_l06Text.B]
  obtain ⟨s, e1, hs⟩ := spec_l06Closure_ok P hg B v hv
  obtain ⟨l, e2, hl⟩ := spec_places_ok P B hB s P.n hg.1 (Cl P v) hs (fun u hu => Cl_lt hg hu hv)
  obtain ⟨o, e3, ho⟩ := spec_lines_ok P B l (by rw [← Vec.toL_length, hl]; exact Nat.le_trans (places_le hw hv) (by omega)) (fun x hx => by rw [hl] at hx; exact places_mem hx)
  rw [e1, Option.bind_some, e2, Option.bind_some, e3, Option.bind_some]
  exact ⟨o, rfl, by rw [ho, hl]; rfl⟩
theorem impl_text_ok (P : Gr) (B : Vec Bd) (hB : dSml B) (hw : wvGood P B) (v : Nat) (hv : v < P.n) : ∃ o, impl_Weave_extract.F P B (v : Int) = some o ∧ o.toL = textOf B (Cl P v) := by
  have hg := hw.1
  rw [impl_Weave_extract.F, impl_Weave_extract.B]
  obtain ⟨C, e1, hC⟩ := impl_closures_T P hg
  have hvC : v < C.n := by rw [hC.1]; exact hv
  obtain ⟨l, e2, hl⟩ := impl_liveIn_ok P B hB (C.g v).v (Cl P v) (hC.2 v hv)
  obtain ⟨o, e3, ho⟩ := impl_linesAt_ok P B l (by rw [← Vec.toL_length, hl]; exact Nat.le_trans (places_le hw hv) (by omega)) (fun x hx => by rw [hl] at hx; exact places_mem hx)
  rw [e1, Option.bind_some, chkb, if_pos (by simp only [decide_eq_true_eq]; omega), chkb, if_pos (by simp only [decide_eq_true_eq, Int.toNat_natCast]; omega), Int.toNat_natCast, e2, Option.bind_some, e3, Option.bind_some]
  exact ⟨o, rfl, by rw [ho, hl]; rfl⟩
/-! ### Whether two lists of lines are the same -/
theorem eq_loop {τ : Type} (x y : Vec ByteArray) (hn : x.n ≤ 1000) (hxy : x.n = y.n) (G : Nat → Int → τ) (K0 : τ) (Kr : τ)
    (h : ∀ k (i : Nat), i < x.n → G (k + 1) (i : Int) = if x.g i = y.g i then G k ((i + 1 : Nat) : Int) else Kr)
    (h2 : ∀ k (i : Nat), ¬ i < x.n → G (k + 1) (i : Int) = K0) : G fuelN 0 = if x.toL = y.toL then K0 else Kr := by
  refine loop_inv (σ := Nat) (fun t => x.n - t) (fun t => t ≤ x.n ∧ ∀ j, j < t → x.g j = y.g j) (fun _ v => v = if x.toL = y.toL then K0 else Kr) (fun k i => G k (i : Int)) ?_ fuelN 0 (by simp only [fuelN]; omega) ⟨Nat.zero_le _, fun j hj => absurd hj (Nat.not_lt_zero j)⟩
  rintro k i ⟨hi, hall⟩ ih
  by_cases hlt : i < x.n
  · rw [h k i hlt]
    by_cases he : x.g i = y.g i
    · rw [if_pos he]
      refine ih (i + 1) ⟨hlt, fun j hj => ?_⟩ (by omega)
      rcases Nat.lt_or_ge j i with h3 | h3
      · exact hall j h3
      · obtain rfl : j = i := by omega
        exact he
    · rw [if_neg he, if_neg]
      intro hh
      apply he
      have h1 := Vec.toL_get x i hlt
      have h3 := Vec.toL_get y i (by omega)
      rw [hh, h3] at h1
      exact (Option.some.inj h1).symm
  · rw [h2 k i hlt, if_pos]
    exact same_iff.1 ⟨hxy, fun j hj => hall j (by omega)⟩
theorem len_ne {x y : Vec ByteArray} (h : x.n ≠ y.n) : x.toL ≠ y.toL := fun e => h (by rw [← Vec.toL_length, e, Vec.toL_length])
theorem spec_same_ok (x y : Vec ByteArray) (hn : x.n ≤ 1000) : spec_l12SameTexts.F x y = some (decide (x.toL = y.toL)) := by
  rw [spec_l12SameTexts.F, spec_l12SameTexts.B, selb]
  by_cases hxy : x.n = y.n
  · rw [if_neg (by simp [hxy])]
    rw [eq_loop x y hn hxy (fun k i => spec_l12SameTexts.F0 k x y i (fun _ => some true) (fun x01 => some x01)) (some true) (some false) (fun k i hi => ?_) (fun k i hi => ?_)]
    · by_cases he : x.toL = y.toL
      · rw [if_pos he, decide_eq_true he]
      · rw [if_neg he, decide_eq_false he]
    · have hi2 : i < y.n := by omega
      simp only [spec_l12SameTexts.F0, spec_l12SameTexts.B0, selb, chkb, decide_eq_true_eq, Int.toNat_natCast, Int.ofNat_lt, Int.natCast_nonneg, true_and, if_pos hi, if_pos hi2, wr_succ (i := i) (by omega)]
      by_cases he : x.g i = y.g i
      · rw [if_pos he, if_neg (by simp [he])]
      · rw [if_neg he, if_pos (by simp [he])]
    · simp only [spec_l12SameTexts.F0, spec_l12SameTexts.B0, selb, decide_eq_true_eq, Int.ofNat_lt, if_neg hi]
  · rw [if_pos (by rw [Bool.not_eq_true', decide_eq_false_iff_not]; omega), decide_eq_false (len_ne hxy)]
theorem slices_Equal_ok (x y : Vec ByteArray) (hn : x.n ≤ 1000) : slices_Equal_string_string.F x y = some (decide (x.toL = y.toL)) := by
  rw [slices_Equal_string_string.F, slices_Equal_string_string.B, selb]
  by_cases hxy : x.n = y.n
  · rw [if_neg (by simp [hxy])]
    rw [eq_loop x y hn hxy (fun k i => slices_Equal_string_string.F0 k x y (x.n : Int) i (fun _ => some true) (fun x01 => some x01)) (some true) (some false) (fun k i hi => ?_) (fun k i hi => ?_)]
    · by_cases he : x.toL = y.toL
      · rw [if_pos he, decide_eq_true he]
      · rw [if_neg he, decide_eq_false he]
    · have hi2 : i < y.n := by omega
      simp only [slices_Equal_string_string.F0, slices_Equal_string_string.B0, selb, chkb, decide_eq_true_eq, Int.toNat_natCast, Int.ofNat_lt, Int.natCast_nonneg, true_and, if_pos hi, if_pos hi2, wr_succ (i := i) (by omega)]
      by_cases he : x.g i = y.g i
      · rw [if_pos he, if_neg (by simp [he])]
      · rw [if_neg he, if_pos (by simp [he])]
    · simp only [slices_Equal_string_string.F0, slices_Equal_string_string.B0, selb, decide_eq_true_eq, Int.ofNat_lt, if_neg hi]
  · rw [if_pos (by rw [Bool.not_eq_true', decide_eq_false_iff_not]; omega), decide_eq_false (len_ne hxy)]
/-! ### The pairs -/
abbrev Pq : Type := Vec Int
def pq (a b : Nat) : Pq := Vec.lit [(a : Int), (b : Int)]
def twI (T : Nat → List ByteArray) (a m : Nat) : List Pq := ((List.range m).filter fun b => decide (a < b ∧ T a = T b)).map (pq a)
theorem twI_zero (T : Nat → List ByteArray) (a : Nat) : twI T a (a + 1) = [] := by
  unfold twI
  rw [List.map_eq_nil_iff, List.filter_eq_nil_iff]
  intro b hb
  have := List.mem_range.1 hb
  simp
  omega
theorem twI_succ (T : Nat → List ByteArray) (a m : Nat) (h : a < m) : twI T a (m + 1) = twI T a m ++ (if T a = T m then [pq a m] else []) := by
  unfold twI
  rw [List.range_succ, List.filter_append, List.map_append]
  congr 1
  by_cases he : T a = T m
  · rw [if_pos he, List.filter_cons_of_pos (by simp [h, he])]
    rfl
  · rw [if_neg he, List.filter_cons_of_neg (by simp [he])]
    rfl
theorem twI_len (T : Nat → List ByteArray) (a m : Nat) : (twI T a m).length ≤ m := by
  unfold twI
  rw [List.length_map]
  exact Nat.le_trans (List.length_filter_le _ _) (by simp)
def twA (T : Nat → List ByteArray) (n a : Nat) : List Pq := (List.range a).flatMap fun a => twI T a n
theorem tw_inner {τ : Type} (T : Nat → List ByteArray) (n a : Nat) (ha : a < n) (hn : n ≤ 40) (X : Vec Pq) (hX : X.n ≤ 1600) (G : Nat → Int → Vec Pq → τ) (K : Vec Pq → τ)
    (h : ∀ k (b : Nat) out, a < b → b < n → out.n ≤ 1700 → G (k + 1) (b : Int) out = G k ((b + 1 : Nat) : Int) (if T a = T b then Vec.app out (Vec.lit [pq a b]) else out))
    (h2 : ∀ k (b : Nat) out, ¬ b < n → G (k + 1) (b : Int) out = K out) : ∃ o, G fuelN ((a + 1 : Nat) : Int) X = K o ∧ o.toL = X.toL ++ twI T a n := by
  refine loop_inv (σ := Nat × Vec Pq) (fun t => n - t.1) (fun t => a < t.1 ∧ t.1 ≤ n ∧ t.2.toL = X.toL ++ twI T a t.1) (fun _ x => ∃ o, x = K o ∧ o.toL = X.toL ++ twI T a n) (fun k t => G k (t.1 : Int) t.2) ?_ fuelN (a + 1, X) (by simp only [fuelN]; omega) ⟨Nat.lt_succ_self a, ha, by rw [twI_zero, List.append_nil]⟩
  rintro k ⟨b, out⟩ ⟨hb, hbn, hv⟩ ih
  simp only at hb hbn hv ⊢
  by_cases hlt : b < n
  · have hol : out.n ≤ 1700 := by
      rw [← Vec.toL_length, hv, List.length_append, Vec.toL_length]
      have := twI_len T a b
      omega
    rw [h k b out hb hlt hol]
    refine ih (b + 1, if T a = T b then Vec.app out (Vec.lit [pq a b]) else out) ⟨by simp only; omega, hlt, ?_⟩ (by simp only; omega)
    simp only
    rw [twI_succ T a b hb, ← List.append_assoc, ← hv]
    split
    · rw [toL_app, toL_lit]
    · rw [List.append_nil]
  · rw [h2 k b out hlt]
    obtain rfl : b = n := by omega
    exact ⟨out, rfl, hv⟩
theorem tw_outer {τ : Type} (T : Nat → List ByteArray) (n : Nat) (hn : n ≤ 40) (G : Nat → Int → Vec Pq → τ) (K : Vec Pq → τ)
    (h : ∀ k (a : Nat) out, a < n → out.n ≤ 1600 → ∃ o, G (k + 1) (a : Int) out = G k ((a + 1 : Nat) : Int) o ∧ o.toL = out.toL ++ twI T a n)
    (h2 : ∀ k (a : Nat) out, ¬ a < n → G (k + 1) (a : Int) out = K out) : ∃ o, G fuelN 0 Vec.nil = K o ∧ o.toL = twA T n n := by
  refine loop_inv (σ := Nat × Vec Pq) (fun t => n - t.1) (fun t => t.1 ≤ n ∧ t.2.toL = twA T n t.1 ∧ t.2.n ≤ 40 * t.1) (fun _ x => ∃ o, x = K o ∧ o.toL = twA T n n) (fun k t => G k (t.1 : Int) t.2) ?_ fuelN (0, Vec.nil) (by simp only [fuelN]; omega) ⟨Nat.zero_le _, rfl, Nat.le_refl _⟩
  rintro k ⟨a, out⟩ ⟨ha, hv, hol⟩ ih
  simp only at ha hv hol ⊢
  by_cases hlt : a < n
  · obtain ⟨o, e, ho⟩ := h k a out hlt (by omega)
    rw [e]
    have hln : o.n ≤ 40 * (a + 1) := by
      rw [← Vec.toL_length, ho, List.length_append, Vec.toL_length]
      have := twI_len T a n
      omega
    refine ih (a + 1, o) ⟨hlt, ?_, hln⟩ (by simp only; omega)
    simp only
    rw [ho, hv]
    unfold twA
    rw [List.range_succ, List.flatMap_append]
    simp
  · rw [h2 k a out hlt]
    obtain rfl : a = n := by omega
    exact ⟨out, rfl, hv⟩
noncomputable abbrev TX (P : Gr) (B : Vec Bd) (v : Nat) : List ByteArray := textOf B (Cl P v)
theorem text_le {P : Gr} {B : Vec Bd} (hw : wvGood P B) {v : Nat} (hv : v < P.n) {o : Vec ByteArray} (h : o.toL = TX P B v) : o.n ≤ 80 := by
  rw [← Vec.toL_length, h]
  unfold TX textOf
  rw [List.length_map]
  exact places_le hw hv
theorem spec_twins_loop (P : Gr) (B : Vec Bd) (hB : dSml B) (hw : wvGood P B) : ∃ r, spec_Twins.F0 fuelN true 0 P B Vec.nil (fun e01 => some e01) = some r ∧ r.toL = twA (TX P B) P.n P.n := by
  have hM : maxN = 140737488355328 := rfl
  have hn := hw.1.1
  refine tw_outer (TX P B) P.n hn (fun k i out => spec_Twins.F0 k true i P B out (fun e01 => some e01)) some (fun kk a out ha ho => ?_) (fun k a out ha => ?_)
  · simp only [spec_Twins.F0, spec_Twins.B0, selb, decide_eq_true_eq, Int.ofNat_lt, if_pos ha, if_true, wr_succ (i := a) (by omega)]
    obtain ⟨o, e, h3⟩ := tw_inner (TX P B) P.n a ha hn out ho (fun k i out => spec_Twins.F1 k true (a : Int) i P B out (fun e11 e12 e13 e14 e15 => spec_Twins.F0 kk e11 (wr (e12 + (1 : Int))) e13 e14 e15 (fun e01 => some e01))) (fun o => spec_Twins.F0 kk true ((a + 1 : Nat) : Int) P B o (fun e01 => some e01))
      (fun k b out hab hb ho => by
        obtain ⟨x, e1, hx⟩ := spec_text_ok P B hB hw a ha
        obtain ⟨y, e2, hy⟩ := spec_text_ok P B hB hw b hb
        have e3 := spec_same_ok x y (by have := text_le hw ha hx; omega)
        rw [hx, hy] at e3
        have hlit : ∀ x : Pq, (Vec.lit [x] : Vec Pq).n = 1 := fun _ => rfl
        simp only [spec_Twins.F1, spec_Twins.B1, selb, chkb, decide_eq_true_eq, Int.ofNat_lt, if_pos hb, e1, e2, e3, Option.bind_some, hlit, if_pos (show (out.n + 1) * 25 ≤ maxN by omega), wr_succ (i := b) (by omega)]
        by_cases he : TX P B a = TX P B b
        · rw [if_pos he, if_pos he]
          rfl
        · rw [if_neg he, if_neg he])
      (fun k b out hb => by simp only [spec_Twins.F1, spec_Twins.B1, selb, decide_eq_true_eq, Int.ofNat_lt, if_neg hb, wr_succ (i := a) (by omega)])
    exact ⟨o, e, h3⟩
  · simp only [spec_Twins.F0, spec_Twins.B0, selb, decide_eq_true_eq, Int.ofNat_lt, if_neg ha]
theorem impl_texts_loop {ρ : Type} (P : Gr) (B : Vec Bd) (hB : dSml B) (hw : wvGood P B) (K0 : Vec (Vec ByteArray) → Option ρ) : ∃ t, impl_Twins.F0 fuelN (P.n : Int) 0 P B Vec.nil K0 = K0 t ∧ t.n = P.n ∧ ∀ v, v < P.n → (t.g v).toL = TX P B v := by
  have hM : maxN = 140737488355328 := rfl
  have hn := hw.1.1
  have hlit : ∀ x : Vec ByteArray, (Vec.lit [x] : Vec (Vec ByteArray)).n = 1 := fun _ => rfl
  refine loop_inv (σ := Nat × Vec (Vec ByteArray)) (fun t => P.n - t.1) (fun t => t.1 ≤ P.n ∧ t.2.n = t.1 ∧ ∀ v, v < t.1 → (t.2.g v).toL = TX P B v) (fun _ x => ∃ t, x = K0 t ∧ t.n = P.n ∧ ∀ v, v < P.n → (t.g v).toL = TX P B v)
    (fun k t => impl_Twins.F0 k (P.n : Int) (t.1 : Int) P B t.2 K0) ?_ fuelN (0, Vec.nil) (by simp only [fuelN]; omega) ⟨Nat.zero_le _, rfl, fun v hv => absurd hv (Nat.not_lt_zero v)⟩
  rintro k ⟨i, t⟩ ⟨hi, ht, hall⟩ ih
  simp only at hi ht hall ⊢
  by_cases hlt : i < P.n
  · obtain ⟨x, e, hx⟩ := impl_text_ok P B hB hw i hlt
    simp only [impl_Twins.F0, impl_Twins.B0, selb, chkb, decide_eq_true_eq, Int.ofNat_lt, if_pos hlt, e, Option.bind_some, hlit, if_pos (show (t.n + 1) * 25 ≤ maxN by omega), wr_succ (i := i) (by omega)]
    refine ih (i + 1, Vec.app t (Vec.lit [x])) ⟨hlt, by show t.n + 1 = i + 1; omega, fun v hv => ?_⟩ (by simp only; omega)
    have h1 : (Vec.app t (Vec.lit [x])).toL = t.toL ++ [x] := by rw [toL_app, toL_lit]
    have hv' : v < i + 1 := hv
    have h2 := Vec.toL_get (Vec.app t (Vec.lit [x])) v (by show v < t.n + 1; omega)
    rw [h1] at h2
    rcases Nat.lt_or_ge v i with h3 | h3
    · rw [List.getElem?_append_left (by rw [Vec.toL_length]; omega), Vec.toL_get t v (by omega)] at h2
      simp only
      rw [← Option.some.inj h2]
      exact hall v h3
    · obtain rfl : v = i := by omega
      rw [List.getElem?_append_right (by rw [Vec.toL_length]; omega), Vec.toL_length, ht, Nat.sub_self] at h2
      simp only
      rw [← Option.some.inj h2]
      exact hx
  · simp only [impl_Twins.F0, impl_Twins.B0, selb, decide_eq_true_eq, Int.ofNat_lt, if_neg hlt]
    obtain rfl : i = P.n := by omega
    exact ⟨t, rfl, ht, hall⟩
theorem impl_twins_loop (P : Gr) (B : Vec Bd) (hw : wvGood P B) (t : Vec (Vec ByteArray)) (ht : t.n = P.n) (hall : ∀ v, v < P.n → (t.g v).toL = TX P B v) : ∃ r, impl_Twins.F1 fuelN (t.n : Int) 0 t Vec.nil (fun e11 => some e11) = some r ∧ r.toL = twA (TX P B) P.n P.n := by
  have hM : maxN = 140737488355328 := rfl
  have hn := hw.1.1
  refine tw_outer (TX P B) P.n hn (fun k i out => impl_Twins.F1 k (t.n : Int) i t out (fun e11 => some e11)) some (fun kk a out ha ho => ?_) (fun k a out ha => ?_)
  · have ha2 : a < t.n := by omega
    simp only [impl_Twins.F1, impl_Twins.B1, selb, decide_eq_true_eq, Int.ofNat_lt, if_pos ha2, if_true, wr_succ (i := a) (by omega)]
    obtain ⟨o, e, h3⟩ := tw_inner (TX P B) P.n a ha hn out ho (fun k i out => impl_Twins.F2 k (a : Int) i (t.n : Int) (a : Int) t out (fun e21 e22 e23 e24 => impl_Twins.F1 kk e21 (wr (e22 + (1 : Int))) e23 e24 (fun e11 => some e11))) (fun o => impl_Twins.F1 kk (t.n : Int) ((a + 1 : Nat) : Int) t o (fun e11 => some e11))
      (fun k b out hab hb ho => by
        have hb2 : b < t.n := by omega
        have e3 := slices_Equal_ok (t.g a) (t.g b) (by have := text_le hw ha (hall a ha); omega)
        rw [hall a ha, hall b hb] at e3
        have hlit : ∀ x : Pq, (Vec.lit [x] : Vec Pq).n = 1 := fun _ => rfl
        simp only [impl_Twins.F2, impl_Twins.B2, selb, chkb, decide_eq_true_eq, Int.toNat_natCast, Int.ofNat_lt, Int.natCast_nonneg, true_and, if_pos hb2, if_pos ha2, e3, Option.bind_some, hlit, if_pos (show (out.n + 1) * 25 ≤ maxN by omega), wr_succ (i := b) (by omega)]
        by_cases he : TX P B a = TX P B b
        · rw [if_pos he, if_pos he]
          rfl
        · rw [if_neg he, if_neg he])
      (fun k b out hb => by
        have hb2 : ¬ b < t.n := by omega
        simp only [impl_Twins.F2, impl_Twins.B2, selb, decide_eq_true_eq, Int.ofNat_lt, if_neg hb2, wr_succ (i := a) (by omega)])
    exact ⟨o, e, h3⟩
  · have ha2 : ¬ a < t.n := by omega
    simp only [impl_Twins.F1, impl_Twins.B1, selb, decide_eq_true_eq, Int.ofNat_lt, if_neg ha2]
theorem twA_mem {T : Nat → List ByteArray} {n m : Nat} {x : Pq} (h : x ∈ twA T n m) : ∃ a b : Nat, a < m ∧ b < n ∧ x = pq a b := by
  unfold twA at h
  obtain ⟨a, ha, hx⟩ := List.mem_flatMap.1 h
  unfold twI at hx
  obtain ⟨b, hb, rfl⟩ := List.mem_map.1 hx
  exact ⟨a, b, List.mem_range.1 ha, List.mem_range.1 (List.mem_filter.1 hb).1, rfl⟩
theorem twA_len (T : Nat → List ByteArray) (n : Nat) : ∀ m, (twA T n m).length ≤ n * m
  | 0 => Nat.zero_le _
  | m + 1 => by
    have := twA_len T n m
    unfold twA at this ⊢
    rw [List.range_succ, List.flatMap_append, List.length_append]
    have h2 := twI_len T m n
    simp only [List.flatMap_cons, List.flatMap_nil, List.append_nil]
    rw [Nat.mul_add]
    omega
theorem Twins_two (P : Gr) (B : Vec Bd) (hP : Sml.sml P) (hB : Sml.sml B) : ∃ r q, spec_Twins.F P B = some r ∧ impl_Twins.F P B = some q ∧ Vec.Same q r ∧ Sml.sml q := by
  rw [spec_Twins.F, spec_Twins.B, impl_Twins.F, impl_Twins.B]
  obtain ⟨c, e1, h1⟩ := spec_WeaveOk_ok P B (dSml_of hB)
  obtain ⟨d, e2, h2⟩ := impl_WeaveOk_ok P hP.1 B (dSml_of hB)
  rw [e1, e2, Option.bind_some, Option.bind_some]
  by_cases hw : wvGood P B
  · obtain rfl : c = true := h1.2 hw
    obtain rfl : d = true := h2.2 hw
    have hn := hw.1.1
    obtain ⟨r, e3, hr⟩ := spec_twins_loop P B (dSml_of hB) hw
    obtain ⟨t, e4, ht, hall⟩ := impl_texts_loop P B (dSml_of hB) hw (fun e01 => impl_Twins.F1 fuelN (e01.n : Int) 0 e01 Vec.nil (fun e11 => some e11))
    obtain ⟨q, e5, hq⟩ := impl_twins_loop P B hw t ht hall
    rw [e3, selb, if_neg (by decide), e4, e5]
    refine ⟨r, q, rfl, rfl, same_iff.2 (by rw [hr, hq]), sml_of hq ?_ fun x hx => ?_⟩
    · have := twA_len (TX P B) P.n P.n
      have h3 : P.n * P.n ≤ 40 * 40 := Nat.mul_le_mul hn hn
      unfold sN
      omega
    · obtain ⟨a, b, ha, hb, rfl⟩ := twA_mem hx
      refine sml_of (l := [(a : Int), (b : Int)]) (toL_lit _) (by show 2 ≤ sN; unfold sN; omega) fun y hy => ?_
      simp only [List.mem_cons, List.not_mem_nil, or_false] at hy
      rcases hy with rfl | rfl <;> exact int_small _ (by omega) (by omega)
  · obtain rfl : c = false := by cases c with | false => rfl | true => exact absurd (h1.1 rfl) hw
    obtain rfl : d = false := by cases d with | false => rfl | true => exact absurd (h2.1 rfl) hw
    obtain ⟨f, hf⟩ : ∃ f, fuelN = f + 1 := ⟨fuelN - 1, by unfold fuelN; omega⟩
    have e3 : spec_Twins.F0 fuelN false 0 P B Vec.nil (fun e01 => some e01) = some Vec.nil := by
      rw [hf, spec_Twins.F0, spec_Twins.B0, selb]
      split
      · rw [selb, if_neg (by decide)]
      · rfl
    rw [e3, selb, if_pos (by decide)]
    exact ⟨_, _, rfl, rfl, ⟨rfl, fun _ _ => rfl⟩, nil_smlT⟩
theorem laws_FnExactTwins_true (P : Gr) (B : Vec Bd) (hb : Bnd.bnd ((P, B) : Gr × Vec Bd)) : laws_FnExactTwins.F P B = some true := by
  rw [laws_FnExactTwins.F, laws_FnExactTwins.B]
  obtain ⟨r, hr, hr2⟩ := laws_szWeave_ok (P, B) 1048576 hb (by omega) (by omega)
  simp only at hr
  rw [hr, Option.bind_some, selb]
  split
  · rfl
  rename_i hr0
  rw [decide_eq_true_eq] at hr0
  obtain ⟨hr1, hvs⟩ := hr2 (by omega)
  obtain ⟨⟨p, b⟩, hu, hsm⟩ := laws_toWeave_ok (P, B) hvs
  simp only at hu
  have q2 := laws_eqWeave_ok (p, b) (p, b) hsm (Sim.refl _)
  simp only at q2
  obtain ⟨o, y, e1, e2, hyo, hy⟩ := Twins_two p b hsm.1 hsm.2
  have q1 := laws_eqIntSS_ok y o hy (Sim.same hyo)
  obtain ⟨k1, m1, m2, n1, n2, n3⟩ := markWv_tot p b hsm.1 (dSml_of hsm.2)
  obtain ⟨k', m', n1', n2', n3'⟩ := laws_markIntSS_s45a1_mk.mark (by unfold sN mN; omega) y hy
  have p1 : decide (k1 < 0) = false := decide_eq_false (by omega)
  have p2 : decide (k' < 0) = false := decide_eq_false (by omega)
  have p4 : decide (k' = k') = true := decide_eq_true rfl
  rw [hu]
  repeat (first | rw [Option.bind_some] | rw [e1] | rw [e2] | rw [q1] | rw [q2] | rw [n1] | rw [n1'] | rw [n3'])
  rw [p1, p2, p4]
  repeat (first | rw [Option.bind_some] | rw [e2] | rw [q1] | rw [n1] | rw [n1'] | rw [n3'] | rw [p1] | rw [p2] | rw [p4])
  rfl
end Go.Al
