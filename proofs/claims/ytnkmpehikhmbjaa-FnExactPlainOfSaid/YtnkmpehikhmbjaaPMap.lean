import Derived.Test.YtnkmpehikhmbjaaPCmp
set_option linter.unusedVariables false
set_option linter.unusedSimpArgs false
set_option linter.constructorNameAsVariable false
set_option linter.unusedSectionVars false
namespace Go.Al
theorem sml_of {A : Type} [Sml A] {v : Vec A} {l : List A} (h : v.toL = l) (hl : l.length ≤ sN) (hs : ∀ x ∈ l, Sml.sml x) : Sml.sml v := by
  refine ⟨by rw [← Vec.toL_length, h]; exact hl, fun i hi => hs _ ?_⟩
  rw [← h]
  exact List.mem_of_getElem? (Vec.toL_get v i hi)
theorem toL_take_succ {A : Type} (v : Vec A) (i : Nat) (hi : i < v.n) : v.toL.take (i + 1) = v.toL.take i ++ [v.g i] := by
  rw [List.take_add_one, Vec.toL_get v i hi]; rfl
/-! ### A list made from a list -/
theorem map_loop {A C τ : Type} [Enc A] [Enc C] (r : Vec A) (hr : r.n ≤ 1048576) (f : A → C) (G : Nat → Int → Vec C → τ) (K : Vec C → τ)
    (h : ∀ k (i : Nat) (out : Vec C), out.n = i → i < r.n → G (k + 1) (i : Int) out = G k ((i + 1 : Nat) : Int) (Vec.app out (Vec.lit [f (r.g i)])))
    (h2 : ∀ k (i : Nat) (out : Vec C), ¬ i < r.n → G (k + 1) (i : Int) out = K out) : ∃ o, G fuelN 0 Vec.nil = K o ∧ o.toL = r.toL.map f := by
  refine loop_inv (σ := Nat × Vec C) (fun t => r.n - t.1) (fun t => t.1 ≤ r.n ∧ t.2.toL = (r.toL.take t.1).map f) (fun _ x => ∃ o, x = K o ∧ o.toL = r.toL.map f) (fun k t => G k (t.1 : Int) t.2) ?_ fuelN (0, Vec.nil) (by simp only [fuelN]; omega)
    ⟨Nat.zero_le _, by simp [Vec.toL]⟩
  rintro k ⟨i, out⟩ ⟨hi, ho⟩ ih
  simp only at hi ho
  by_cases hlt : i < r.n
  · have hn : out.n = i := by
      have := congrArg List.length ho
      rw [Vec.toL_length, List.length_map, List.length_take, Vec.toL_length] at this
      omega
    simp only
    rw [h k i out hn hlt]
    refine ih (i + 1, Vec.app out (Vec.lit [f (r.g i)])) ⟨by simp only; omega, ?_⟩ (by simp only; omega)
    simp only
    rw [toL_app, toL_lit, ho, toL_take_succ r i hlt, List.map_append]
    rfl
  · simp only
    rw [h2 k i out hlt]
    refine ⟨out, rfl, ?_⟩
    rw [ho, List.take_of_length_le (by rw [Vec.toL_length]; omega)]
/-- Compare, case by case. -/
theorem SCompare_cases (P : Gr) (hP : P.n ≤ 1048576) (B : Vec Bd) (hB : dSml B) (a b : Int) :
    (¬ wvGood P B ∧ spec_Compare.F P B a b = some (1, Vec.nil)) ∨
    (wvGood P B ∧ ¬ ((0 ≤ a ∧ a < (P.n : Int)) ∧ (0 ≤ b ∧ b < (P.n : Int))) ∧ spec_Compare.F P B a b = some (2, Vec.nil)) ∨
    (wvGood P B ∧ ∃ (i j : Nat) (r : Vec Pr), a = i ∧ b = j ∧ i < P.n ∧ j < P.n ∧ spec_Compare.F P B a b = some (0, r) ∧ r.toL = cmpN B (Cl P i) (Cl P j) B.n) := by
  obtain ⟨c, e, hc⟩ := spec_WeaveOk_ok P B hB
  rw [spec_Compare.F, spec_Compare.B, e, Option.bind_some, spec_has_ok P hP, spec_has_ok P hP, Option.bind_some, Option.bind_some]
  by_cases h : wvGood P B
  · obtain rfl : c = true := hc.2 h
    by_cases h2 : (0 ≤ a ∧ a < (P.n : Int)) ∧ (0 ≤ b ∧ b < (P.n : Int))
    · rw [decide_eq_true h2.1, decide_eq_true h2.2]
      have hg := h.1
      obtain ⟨a, rfl⟩ : ∃ n : Nat, a = n := ⟨a.toNat, by omega⟩
      obtain ⟨b, rfl⟩ : ∃ n : Nat, b = n := ⟨b.toNat, by omega⟩
      have ha : a < P.n := by omega
      have hb : b < P.n := by omega
      obtain ⟨s, e3, hs⟩ := spec_l06Closure_ok P hg B a ha
      obtain ⟨t, e4, ht⟩ := spec_l06Closure_ok P hg B b hb
      obtain ⟨r, e6, hr⟩ := spec_cmp_loop P B hB P.n hg.1 s t (Cl P a) (Cl P b) hs ht (fun u hu => Cl_lt hg hu ha) (fun u hu => Cl_lt hg hu hb) (fun e01 => some ((0 : Int), e01))
      have w1 : spec_Compare.F0 fuelN 0 P B Vec.nil s t (fun e01 => some ((0 : Int), e01)) = some ((0 : Int), r) := e6
      clear e6
      refine .inr (.inr ⟨h, a, b, r, rfl, rfl, ha, hb, ?_, hr⟩)
      rw [e3, Option.bind_some, e4, Option.bind_some, w1]
      rfl
    · refine .inr (.inl ⟨h, h2, ?_⟩)
      by_cases ha : 0 ≤ a ∧ a < (P.n : Int)
      · rw [decide_eq_true ha, decide_eq_false (fun hb => h2 ⟨ha, hb⟩)]
        rfl
      · rw [decide_eq_false ha]
        rfl
  · obtain rfl : c = false := by cases c with | false => rfl | true => exact absurd (hc.1 rfl) h
    exact .inl ⟨h, rfl⟩
theorem cmpN_one {B : Vec Bd} {S T : Nat → Prop} {x : Pr} {n : Nat} (h : x ∈ cmpN B S T n) : ∃ i, i < n ∧ (1 ≤ x.1 ∧ x.1 ≤ 3) ∧ x.2 = ((B.g i).2.1, (B.g i).2.2.1, (B.g i).1) := by
  obtain ⟨j, hj, hx⟩ := cmpN_mem _ _ _ _ _ h
  refine ⟨j, hj, ?_⟩
  unfold cmp1 at hx
  split at hx <;> split at hx <;> simp at hx <;> subst hx <;> exact ⟨⟨by simp only; omega, by simp only; omega⟩, rfl⟩
theorem places_mem {B : Vec Bd} {S : Nat → Prop} {x : Int} (h : x ∈ places B S) : 0 ≤ x ∧ x < (B.n : Int) := by
  unfold places placesN at h
  obtain ⟨j, hj, rfl⟩ := List.mem_map.1 h
  have := List.mem_range.1 (List.mem_filter.1 hj).1
  omega
/-- Same lists of small things. -/
theorem sml_same {A : Type} [Sml A] {q : Vec A} {l : List A} (h : q.toL = l) (hl : l.length ≤ 300) (hx : ∀ x ∈ l, Sml.sml x) : Sml.sml q := sml_of h (by unfold sN; omega) hx
theorem int_small (x : Int) (h1 : -1000000 ≤ x) (h2 : x ≤ 1000000) : Sml.sml x := ⟨by omega, by omega⟩
end Go.Al
