import Derived.Test.YtdiclekkkaaahaaGreatAlH
import Derived.Test.YtdiclekkkaaahaaGreatGTextAt
import Derived.Test.YtdiclekkkaaahaaGreatSStoreOk
import Derived.Test.YtdiclekkkaaahaaGreatSNamesAt
set_option linter.unusedVariables false
set_option linter.unusedSimpArgs false
set_option linter.constructorNameAsVariable false
set_option linter.unusedSectionVars false
namespace Go.Al
theorem laws_eqStringS_ok : SimOk (A := (Vec ByteArray)) laws_eqStringS.F := simS (C := fun a b => some (decide (a = b))) (sim_free (fun _ _ h => h) fun _ => by simp) (F0 := laws_eqStringS.F0) (fun k v w i K0 Kr => rfl) (fun v w => by simp only [laws_eqStringS.F, laws_eqStringS.B])
noncomputable def laws_markStringS_s1401_val (k : Int) : ByteArray := mT k
theorem laws_markStringS_s1401_step (f k i : Nat) (v : (Vec ByteArray)) (K0 : Int → (Vec ByteArray) → Option (Int × (Vec ByteArray))) (hk1 : 1 ≤ k) (hk2 : k + 1 * (v.n - i) ≤ mN) (hn : v.n ≤ sN) : laws_markStringS_s1401.F0 (f + 1) (k : Int) (i : Int) v K0 = if i < v.n then laws_markStringS_s1401.F0 f ((k + 1 : Nat) : Int) ((i + 1 : Nat) : Int) (v.set i (laws_markStringS_s1401_val (k : Int))) K0 else K0 (k : Int) v := by
  have hs : sN = 1048576 := rfl
  have hm : mN = 4611686018000000000 := rfl
  by_cases hi : i < v.n
  · have hle : 1 ≤ 1 * (v.n - i) := by omega
    have e0 := mT_eq (k) (by omega) (by omega)
    have w0 : wr ((k : Int) + 1) = ((k + 1 : Nat) : Int) := wr_small (by omega) (by omega)
    have z1 : wr ((k + 1 : Nat) : Int) = ((k + 1 : Nat) : Int) := wr_small (by omega) (by omega)
    have c1 : (k : Int) + 1 = ((k + 1 : Nat) : Int) := by omega
    have wi : wr ((i : Int) + 1) = ((i + 1 : Nat) : Int) := wr_small (by omega) (by omega)
    simp only [laws_markStringS_s1401.F0, laws_markStringS_s1401.B0, selb, chkb, hi, wi, Vec.set_set, Vec.set_g, Vec.set_n, if_true, laws_markStringS_s1401_val, e0, w0, z1, c1, Int.toNat_natCast, Int.ofNat_lt, Int.natCast_nonneg, true_and, decide_true, Option.bind_some, Bool.not_true, Bool.false_eq_true, if_false]
  · simp [laws_markStringS_s1401.F0, laws_markStringS_s1401.B0, selb, hi]
theorem laws_markStringS_s1401_lay (a : (Vec ByteArray)) (hn : a.n ≤ sN) : ∃ u : (Vec ByteArray), u.n = a.n ∧ (∀ t, t < a.n → u.g t = laws_markStringS_s1401_val ((1 + 1 * t : Nat) : Int)) ∧ laws_markStringS_s1401.F0 fuelN ((1 : Nat) : Int) 0 a (fun x1 x2 => some (x1, x2)) = some (((1 + 1 * a.n : Nat) : Int), u) := by
  have hs : sN = 1048576 := rfl
  have hm : mN = 4611686018000000000 := rfl
  exact markS (c := 1) (val := laws_markStringS_s1401_val) (F0 := laws_markStringS_s1401.F0) (by decide) laws_markStringS_s1401_step a hn 1 (by decide) (by omega) (fun x1 x2 => some (x1, x2))
theorem laws_heldStringS_step (f k i : Nat) (v : (Vec ByteArray)) (K0 Kr : Int → Option Int) (hk1 : 1 ≤ k) (hk2 : k + 1 * (v.n - i) ≤ mN) (hn : v.n ≤ sN) (hv : i < v.n → v.g i = laws_markStringS_s1401_val (k : Int)) : laws_heldStringS.F0 (f + 1) v (k : Int) (i : Int) K0 Kr = if i < v.n then laws_heldStringS.F0 f v ((k + 1 : Nat) : Int) ((i + 1 : Nat) : Int) K0 Kr else K0 (k : Int) := by
  have hs : sN = 1048576 := rfl
  have hm : mN = 4611686018000000000 := rfl
  by_cases hi : i < v.n
  · have hle : 1 ≤ 1 * (v.n - i) := by omega
    have e0 := mT_eq (k) (by omega) (by omega)
    have w0 : wr ((k : Int) + 1) = ((k + 1 : Nat) : Int) := wr_small (by omega) (by omega)
    have z1 : wr ((k + 1 : Nat) : Int) = ((k + 1 : Nat) : Int) := wr_small (by omega) (by omega)
    have c1 : (k : Int) + 1 = ((k + 1 : Nat) : Int) := by omega
    have wi : wr ((i : Int) + 1) = ((i + 1 : Nat) : Int) := wr_small (by omega) (by omega)
    have hg := hv hi
    simp only [laws_markStringS_s1401_val] at hg
    simp only [laws_heldStringS.F0, laws_heldStringS.B0, selb, chkb, hi, wi, Vec.set_set, Vec.set_g, Vec.set_n, if_true, laws_markStringS_s1401_val, e0, w0, z1, c1, Int.toNat_natCast, Int.ofNat_lt, Int.natCast_nonneg, true_and, decide_true, Option.bind_some, Bool.not_true, Bool.false_eq_true, if_false, hg]
  · simp [laws_heldStringS.F0, laws_heldStringS.B0, selb, hi]
theorem laws_heldStringS_hold (u : (Vec ByteArray)) (hn : u.n ≤ sN) (hu : ∀ t, t < u.n → u.g t = laws_markStringS_s1401_val ((1 + 1 * t : Nat) : Int)) : laws_heldStringS.F0 fuelN u ((1 : Nat) : Int) 0 (fun x1 => some x1) (fun x1 => some x1) = some ((1 + 1 * u.n : Nat) : Int) := by
  have hs : sN = 1048576 := rfl
  have hm : mN = 4611686018000000000 := rfl
  exact heldS (c := 1) (val := laws_markStringS_s1401_val) (F0 := laws_heldStringS.F0) (by decide) laws_heldStringS_step u hn 1 (by decide) (by omega) hu (fun x1 => some x1) (fun x1 => some x1)
theorem laws_markStringS_s1401_ok : MarkOk (A := (Vec ByteArray)) laws_markStringS_s1401.F laws_heldStringS.F := by
  rintro a ⟨hn, -⟩
  obtain ⟨u, h1, h2, h3⟩ := laws_markStringS_s1401_lay a hn
  have h4 := laws_heldStringS_hold u (by omega) (by rw [h1]; exact h2)
  rw [show ((1 : Nat) : Int) = 1 from rfl] at h3 h4
  refine ⟨((1 + 1 * a.n : Nat) : Int), u, ?_, by omega, ?_⟩
  · rw [laws_markStringS_s1401.F, laws_markStringS_s1401.B]
    exact h3
  · rw [laws_heldStringS.F, laws_heldStringS.B, ← h1]
    exact h4
end Go.Al
