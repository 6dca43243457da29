import Derived.Test.YtahffnkphppgoaaGreatPWv
set_option linter.unusedVariables false
set_option linter.unusedSimpArgs false
namespace Go.Al
theorem sml_of {A : Type} [Sml A] {v : Vec A} {l : List A} (h : v.toL = l) (hl : l.length ≤ sN) (hs : ∀ x ∈ l, Sml.sml x) : Sml.sml v := by
  refine ⟨by rw [← Vec.toL_length, h]; exact hl, fun i hi => hs _ ?_⟩
  rw [← h]
  exact List.mem_of_getElem? (Vec.toL_get v i hi)
theorem toL_take_succ {A : Type} (v : Vec A) (i : Nat) (hi : i < v.n) : v.toL.take (i + 1) = v.toL.take i ++ [v.g i] := by
  rw [List.take_add_one, Vec.toL_get v i hi]; rfl
theorem map_loop {A C τ : Type} [Enc A] [Enc C] (r : Vec A) (hr : r.n ≤ 1048576) (f : A → C) (G : Nat → Int → Vec C → τ) (K : Vec C → τ)
    (h : ∀ k (i : Nat) (out : Vec C), out.n = i → i < r.n → G (k + 1) (i : Int) out = G k ((i + 1 : Nat) : Int) (Vec.app out (Vec.lit [f (r.g i)])))
    (h2 : ∀ k (i : Nat) (out : Vec C), ¬ i < r.n → G (k + 1) (i : Int) out = K out) : ∃ o, G fuelN 0 Vec.nil = K o ∧ o.toL = r.toL.map f := by
  refine zP (σ := Nat × Vec C) (fun t => r.n - t.1) (fun t => t.1 ≤ r.n ∧ t.2.toL = (r.toL.take t.1).map f) (fun _ x => ∃ o, x = K o ∧ o.toL = r.toL.map f) (fun k t => G k (t.1 : Int) t.2) ?_ fuelN (0, Vec.nil) (by simp only [fuelN]; omega)
    ⟨Nat.zero_le _, by simp [Vec.toL]⟩
  rintro k ⟨i, out⟩ ⟨hi, ho⟩ ih
  simp only at hi ho
  by_cases hlt : i < r.n
  · have hn : out.n = i := by
      have := congrArg List.length ho
      rw [Vec.toL_length, List.length_map, List.length_take, Vec.toL_length] at this
      omega
    simp only
    rw [h k i out hn hlt]
    refine ih (i + 1, Vec.app out (Vec.lit [f (r.g i)])) ⟨by simp only; omega, ?_⟩ (by simp only; omega)
    simp only
    rw [toL_app, toL_lit, ho, toL_take_succ r i hlt, List.map_append]
    rfl
  · simp only
    rw [h2 k i out hlt]
    refine ⟨out, rfl, ?_⟩
    rw [ho, List.take_of_length_le (by rw [Vec.toL_length]; omega)]
theorem int_small (x : Int) (h1 : -1000000 ≤ x) (h2 : x ≤ 1000000) : Sml.sml x := ⟨by omega, by omega⟩
end Go.Al
