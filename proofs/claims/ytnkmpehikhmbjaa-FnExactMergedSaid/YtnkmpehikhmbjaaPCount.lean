import Derived.Test.YtnkmpehikhmbjaaPRegions
import Derived.Test.YtnkmpehikhmbjaaGClIn
set_option linter.unusedVariables false
set_option linter.unusedSimpArgs false
set_option linter.constructorNameAsVariable false
set_option linter.unusedSectionVars false
namespace Go.Al
/-! ### How many of the regions clash -/
def cntL (L : List RgL) : Nat := L.countP (·.1)
theorem cnt_loop {ρ : Type} (r : Vec Rg) (hr : r.n ≤ 1000) (G : Nat → Int → Int → Option ρ) (K : Int → Option ρ)
    (h : ∀ k (c i : Nat), i < r.n → c ≤ i → G (k + 1) (c : Int) (i : Int) = G k ((c + (if (r.g i).1 = true then 1 else 0) : Nat) : Int) ((i + 1 : Nat) : Int))
    (h2 : ∀ k (c i : Nat), ¬ i < r.n → G (k + 1) (c : Int) (i : Int) = K (c : Int)) : G fuelN 0 0 = K ((cntL (r.toL.map rgL) : Nat) : Int) := by
  refine loop_inv (σ := Nat) (fun t => r.n - t) (fun t => t ≤ r.n) (fun _ x => x = K ((cntL (r.toL.map rgL) : Nat) : Int)) (fun k i => G k ((cntL ((r.toL.take i).map rgL) : Nat) : Int) (i : Int)) ?_ fuelN 0 (by simp only [fuelN]; omega) (Nat.zero_le _)
  intro k i hi ih
  have hle : cntL ((r.toL.take i).map rgL) ≤ i := by
    unfold cntL
    refine Nat.le_trans List.countP_le_length ?_
    rw [List.length_map, List.length_take]
    omega
  by_cases hlt : i < r.n
  · rw [h k _ i hlt hle]
    have := ih (i + 1) hlt (by omega)
    rw [toL_take_succ r i hlt] at this
    unfold cntL at this ⊢
    rw [List.map_append, List.countP_append] at this
    rw [← this]
    congr 2
    by_cases hb : (r.g i).1 = true <;> simp [hb, rgL]
  · rw [h2 k _ i hlt, List.take_of_length_le (by rw [Vec.toL_length]; omega)]
theorem impl_clashesIn_ok (r : Vec Rg) (hr : r.n ≤ 1000) : impl_clashesIn.F r = some ((cntL (r.toL.map rgL) : Nat) : Int) := by
  rw [impl_clashesIn.F, impl_clashesIn.B]
  refine cnt_loop r hr (fun k c i => impl_clashesIn.F0 k c r (r.n : Int) i (fun e01 => some e01)) some (fun k c i hi hc => ?_) (fun k c i hi => ?_)
  · simp only [impl_clashesIn.F0, impl_clashesIn.B0, selb, chkb, decide_eq_true_eq, Int.toNat_natCast, Int.ofNat_lt, Int.natCast_nonneg, true_and, if_pos hi, wr_succ (i := i) (by omega)]
    by_cases hb : (r.g i).1 = true
    · rw [if_pos hb, if_pos hb, wr_succ (i := c) (by omega)]
    · rw [if_neg hb, if_neg hb, show c + 0 = c from rfl]
  · simp only [impl_clashesIn.F0, impl_clashesIn.B0, selb, decide_eq_true_eq, Int.ofNat_lt, if_neg hi]
theorem spec_clash_loop (r : Vec Rg) (hr : r.n ≤ 1000) {ρ : Type} (K : Int → Option ρ) : spec_Clashes.F0 fuelN 0 0 r K = K ((cntL (r.toL.map rgL) : Nat) : Int) := by
  refine cnt_loop r hr (fun k c i => spec_Clashes.F0 k c i r K) K (fun k c i hi hc => ?_) (fun k c i hi => ?_)
  · simp only [spec_Clashes.F0, spec_Clashes.B0, selb, chkb, decide_eq_true_eq, Int.toNat_natCast, Int.ofNat_lt, Int.natCast_nonneg, true_and, if_pos hi, wr_succ (i := i) (by omega)]
    by_cases hb : (r.g i).1 = true
    · rw [if_pos hb, if_pos hb, wr_succ (i := c) (by omega)]
    · rw [if_neg hb, if_neg hb, show c + 0 = c from rfl]
  · simp only [spec_Clashes.F0, spec_Clashes.B0, selb, decide_eq_true_eq, Int.ofNat_lt, if_neg hi]
end Go.Al
