import Derived.Test.YtefdhjnlnmljpaaAlH
import Derived.Test.YtefdhjnlnmljpaaGTwins
import Derived.Test.YtefdhjnlnmljpaaSWl
import Derived.Test.YtefdhjnlnmljpaaSMkW
set_option linter.unusedVariables false
set_option linter.unusedSimpArgs false
set_option linter.constructorNameAsVariable false
set_option linter.unusedSectionVars false
namespace Go.Al
theorem laws_heldIntS_step (f k i : Nat) (v : (Vec Int)) (K0 Kr : Int → Option Int) (hk1 : 1 ≤ k) (hk2 : k + 1 * (v.n - i) ≤ mN) (hn : v.n ≤ sN) (hv : i < v.n → v.g i = laws_markIntS_s68b2_val (k : Int)) : laws_heldIntS.F0 (f + 1) v (k : Int) (i : Int) K0 Kr = if i < v.n then laws_heldIntS.F0 f v ((k + 1 : Nat) : Int) ((i + 1 : Nat) : Int) K0 Kr else K0 (k : Int) := by
  have hs : sN = 1048576 := rfl
  have hm : mN = 4611686018000000000 := rfl
  by_cases hi : i < v.n
  · have hle : 1 ≤ 1 * (v.n - i) := by omega
    have w0 : wr ((k : Int) + 1) = ((k + 1 : Nat) : Int) := wr_small (by omega) (by omega)
    have z1 : wr ((k + 1 : Nat) : Int) = ((k + 1 : Nat) : Int) := wr_small (by omega) (by omega)
    have c1 : (k : Int) + 1 = ((k + 1 : Nat) : Int) := by omega
    have wi : wr ((i : Int) + 1) = ((i + 1 : Nat) : Int) := wr_small (by omega) (by omega)
    have hg := hv hi
    simp only [laws_markIntS_s68b2_val] at hg
    simp only [laws_heldIntS.F0, laws_heldIntS.B0, selb, chkb, hi, wi, Vec.set_set, Vec.set_g, Vec.set_n, if_true, laws_markIntS_s68b2_val, w0, z1, c1, Int.toNat_natCast, Int.ofNat_lt, Int.natCast_nonneg, true_and, decide_true, Option.bind_some, Bool.not_true, Bool.false_eq_true, if_false, hg]
  · simp [laws_heldIntS.F0, laws_heldIntS.B0, selb, hi]
theorem laws_heldIntS_hold (u : (Vec Int)) (hn : u.n ≤ sN) (hu : ∀ t, t < u.n → u.g t = laws_markIntS_s68b2_val ((1 + 1 * t : Nat) : Int)) : laws_heldIntS.F0 fuelN u ((1 : Nat) : Int) 0 (fun x1 => some x1) (fun x1 => some x1) = some ((1 + 1 * u.n : Nat) : Int) := by
  have hs : sN = 1048576 := rfl
  have hm : mN = 4611686018000000000 := rfl
  exact heldS (c := 1) (val := laws_markIntS_s68b2_val) (F0 := laws_heldIntS.F0) (by decide) laws_heldIntS_step u hn 1 (by decide) (by omega) hu (fun x1 => some x1) (fun x1 => some x1)
theorem laws_markIntS_s68b2_ok : MarkOk (A := (Vec Int)) laws_markIntS_s68b2.F laws_heldIntS.F := by
  rintro a ⟨hn, -⟩
  obtain ⟨u, h1, h2, h3⟩ := laws_markIntS_s68b2_lay a hn
  have h4 := laws_heldIntS_hold u (by omega) (by rw [h1]; exact h2)
  rw [show ((1 : Nat) : Int) = 1 from rfl] at h3 h4
  refine ⟨((1 + 1 * a.n : Nat) : Int), u, ?_, by omega, ?_⟩
  · rw [laws_markIntS_s68b2.F, laws_markIntS_s68b2.B]
    exact h3
  · rw [laws_heldIntS.F, laws_heldIntS.B, ← h1]
    exact h4
theorem laws_markIntS_s68b2_mk : MkOk (A := (Vec Int)) (1 * sN) laws_markIntS_s68b2.F laws_heldIntS.F := mk_flat (by decide) (M0 := laws_markIntS_s68b2.F0) (H0 := laws_heldIntS.F0) laws_markIntS_s68b2_step laws_heldIntS_step (fun k v => by rw [laws_markIntS_s68b2.F, laws_markIntS_s68b2.B]) (fun v k => by rw [laws_heldIntS.F, laws_heldIntS.B])
theorem laws_markIntSS_s45a1_mk : MkOk (A := (Vec (Vec Int))) (sN * (1 * sN)) laws_markIntSS_s45a1.F laws_heldIntSS.F := by
  have hs : sN = 1048576 := rfl
  have hm : mN = 4611686018000000000 := rfl
  refine mkHS (b := 1 * sN) (M0 := laws_markIntSS_s45a1.F0) (H0 := laws_heldIntSS.F0) ?_ ?_ ?_ (fun k v => by rw [laws_markIntSS_s45a1.F, laws_markIntSS_s45a1.B]) (fun v k => by rw [laws_heldIntSS.F, laws_heldIntSS.B])
  · intro f k i v K0 hi hn hsm hk1 hk2
    have s0 := hsm
    obtain ⟨c0, u0, d0, e0, g0⟩ := laws_markIntS_s68b2_mk (v.g i) s0 (k) (by omega) (by omega)
    have hk : k + (c0) = k + c0 := by omega
    refine ⟨c0, u0, by omega, ?_, ?_⟩
    · simp only [laws_markIntSS_s45a1.F0, laws_markIntSS_s45a1.B0, selb, chkb, decide_eq_true_eq, Int.toNat_natCast, Int.ofNat_lt, Int.natCast_nonneg, true_and, Vec.set_set, Vec.set_g, Vec.set_n, if_true, if_pos hi, Option.bind_some, decide_true, Bool.not_true, Bool.false_eq_true, if_false, beq_self_eq_true, e0, wr_succ (i := i) (by omega)]
      try simp only [hi, decide_true, if_true, hk]
    · intro f u L0 Lr hi hn hu
      have p0 : ¬ (((k + c0 : Nat) : Int) < 0) := by omega
      simp only [laws_heldIntSS.F0, laws_heldIntSS.B0, selb, chkb, decide_eq_true_eq, Int.toNat_natCast, Int.ofNat_lt, Int.natCast_nonneg, true_and, Vec.set_set, Vec.set_g, Vec.set_n, if_true, if_pos hi, Option.bind_some, decide_true, Bool.not_true, Bool.false_eq_true, if_false, beq_self_eq_true, hu, g0, p0, wr_succ (i := i) (by omega), hk]
  · intro f k i v K0 hi
    simp only [laws_markIntSS_s45a1.F0, laws_markIntSS_s45a1.B0, selb, decide_eq_true_eq, Int.ofNat_lt, if_neg hi]
  · intro f k i v L0 Lr hi
    simp only [laws_heldIntSS.F0, laws_heldIntSS.B0, selb, decide_eq_true_eq, Int.ofNat_lt, if_neg hi]
end Go.Al
