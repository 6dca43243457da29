import Derived.Test.YtefdhjnlnmljpaaAlH
import Derived.Test.YtefdhjnlnmljpaaGCompareEdits
import Derived.Test.YtefdhjnlnmljpaaSAnnotate
set_option linter.unusedVariables false
set_option linter.unusedSimpArgs false
set_option linter.constructorNameAsVariable false
set_option linter.unusedSectionVars false
namespace Go.Al
theorem laws_eqEdit_ok : SimOk (A := (Int × ByteArray)) fun a b => laws_eqEdit.F a.1 a.2 b.1 b.2 := by
  rintro a b ⟨h0, h1⟩ ⟨s0, s1⟩
  have e1_0 : a.1 = b.1 := s0
  have e2_1 : a.2 = b.2 := s1
  simp [laws_eqEdit.F, laws_eqEdit.B, selb, e1_0, e2_1]
theorem laws_eqEditS_ok : SimOk (A := (Vec (Int × ByteArray))) laws_eqEditS.F := simS (C := fun a b => laws_eqEdit.F a.1 a.2 b.1 b.2) laws_eqEdit_ok (F0 := laws_eqEditS.F0) (fun k v w i K0 Kr => rfl) (fun v w => by simp only [laws_eqEditS.F, laws_eqEditS.B])
noncomputable def laws_markEditS_s9726_val (k : Int) : (Int × ByteArray) := (k, mT (k + 1))
theorem laws_markEditS_s9726_step (f k i : Nat) (v : (Vec (Int × ByteArray))) (K0 : Int → (Vec (Int × ByteArray)) → Option (Int × (Vec (Int × ByteArray)))) (hk1 : 1 ≤ k) (hk2 : k + 2 * (v.n - i) ≤ mN) (hn : v.n ≤ sN) : laws_markEditS_s9726.F0 (f + 1) (k : Int) (i : Int) v K0 = if i < v.n then laws_markEditS_s9726.F0 f ((k + 2 : Nat) : Int) ((i + 1 : Nat) : Int) (v.set i (laws_markEditS_s9726_val (k : Int))) K0 else K0 (k : Int) v := by
  have hs : sN = 1048576 := rfl
  have hm : mN = 4611686018000000000 := rfl
  by_cases hi : i < v.n
  · have hle : 2 ≤ 2 * (v.n - i) := by omega
    have e1 := mT_eq (k + 1) (by omega) (by omega)
    have w0 : wr ((k : Int) + 1) = ((k + 1 : Nat) : Int) := wr_small (by omega) (by omega)
    have w1 : wr (((k + 1 : Nat) : Int) + 1) = ((k + 2 : Nat) : Int) := wr_small (by omega) (by omega)
    have z1 : wr ((k + 1 : Nat) : Int) = ((k + 1 : Nat) : Int) := wr_small (by omega) (by omega)
    have z2 : wr ((k + 2 : Nat) : Int) = ((k + 2 : Nat) : Int) := wr_small (by omega) (by omega)
    have c1 : (k : Int) + 1 = ((k + 1 : Nat) : Int) := by omega
    have c2 : (k : Int) + 2 = ((k + 2 : Nat) : Int) := by omega
    have wi : wr ((i : Int) + 1) = ((i + 1 : Nat) : Int) := wr_small (by omega) (by omega)
    simp only [laws_markEditS_s9726.F0, laws_markEditS_s9726.B0, selb, chkb, hi, wi, Vec.set_set, Vec.set_g, Vec.set_n, if_true, laws_markEditS_s9726_val, e1, w0, w1, z1, z2, c1, c2, Int.toNat_natCast, Int.ofNat_lt, Int.natCast_nonneg, true_and, decide_true, Option.bind_some, Bool.not_true, Bool.false_eq_true, if_false]
  · simp [laws_markEditS_s9726.F0, laws_markEditS_s9726.B0, selb, hi]
theorem laws_markEditS_s9726_lay (a : (Vec (Int × ByteArray))) (hn : a.n ≤ sN) : ∃ u : (Vec (Int × ByteArray)), u.n = a.n ∧ (∀ t, t < a.n → u.g t = laws_markEditS_s9726_val ((1 + 2 * t : Nat) : Int)) ∧ laws_markEditS_s9726.F0 fuelN ((1 : Nat) : Int) 0 a (fun x1 x2 => some (x1, x2)) = some (((1 + 2 * a.n : Nat) : Int), u) := by
  have hs : sN = 1048576 := rfl
  have hm : mN = 4611686018000000000 := rfl
  exact markS (c := 2) (val := laws_markEditS_s9726_val) (F0 := laws_markEditS_s9726.F0) (by decide) laws_markEditS_s9726_step a hn 1 (by decide) (by omega) (fun x1 x2 => some (x1, x2))
theorem laws_markEditS_s9726_tot (a : (Vec (Int × ByteArray))) (hn : a.n ≤ sN) (k : Nat) (h1 : 1 ≤ k) (h2 : k ≤ 17592186044416) : ∃ u : (Vec (Int × ByteArray)), laws_markEditS_s9726.F (k : Int) a = some (((k + 2 * a.n : Nat) : Int), u) := by
  have hs : sN = 1048576 := rfl
  have hm : mN = 4611686018000000000 := rfl
  obtain ⟨u, q1, q2, q3⟩ := markS (c := 2) (val := laws_markEditS_s9726_val) (F0 := laws_markEditS_s9726.F0) (by decide) laws_markEditS_s9726_step a hn k h1 (by omega) (fun x1 x2 => some (x1, x2))
  refine ⟨u, ?_⟩
  rw [laws_markEditS_s9726.F, laws_markEditS_s9726.B]
  exact q3
theorem laws_heldEditS_step (f k i : Nat) (v : (Vec (Int × ByteArray))) (K0 Kr : Int → Option Int) (hk1 : 1 ≤ k) (hk2 : k + 2 * (v.n - i) ≤ mN) (hn : v.n ≤ sN) (hv : i < v.n → v.g i = laws_markEditS_s9726_val (k : Int)) : laws_heldEditS.F0 (f + 1) v (k : Int) (i : Int) K0 Kr = if i < v.n then laws_heldEditS.F0 f v ((k + 2 : Nat) : Int) ((i + 1 : Nat) : Int) K0 Kr else K0 (k : Int) := by
  have hs : sN = 1048576 := rfl
  have hm : mN = 4611686018000000000 := rfl
  by_cases hi : i < v.n
  · have hle : 2 ≤ 2 * (v.n - i) := by omega
    have e1 := mT_eq (k + 1) (by omega) (by omega)
    have w0 : wr ((k : Int) + 1) = ((k + 1 : Nat) : Int) := wr_small (by omega) (by omega)
    have w1 : wr (((k + 1 : Nat) : Int) + 1) = ((k + 2 : Nat) : Int) := wr_small (by omega) (by omega)
    have z1 : wr ((k + 1 : Nat) : Int) = ((k + 1 : Nat) : Int) := wr_small (by omega) (by omega)
    have z2 : wr ((k + 2 : Nat) : Int) = ((k + 2 : Nat) : Int) := wr_small (by omega) (by omega)
    have c1 : (k : Int) + 1 = ((k + 1 : Nat) : Int) := by omega
    have c2 : (k : Int) + 2 = ((k + 2 : Nat) : Int) := by omega
    have wi : wr ((i : Int) + 1) = ((i + 1 : Nat) : Int) := wr_small (by omega) (by omega)
    have hg := hv hi
    simp only [laws_markEditS_s9726_val, c1] at hg
    simp only [laws_heldEditS.F0, laws_heldEditS.B0, selb, chkb, hi, wi, Vec.set_set, Vec.set_g, Vec.set_n, if_true, laws_markEditS_s9726_val, e1, w0, w1, z1, z2, c1, c2, Int.toNat_natCast, Int.ofNat_lt, Int.natCast_nonneg, true_and, decide_true, Option.bind_some, Bool.not_true, Bool.false_eq_true, if_false, hg]
  · simp [laws_heldEditS.F0, laws_heldEditS.B0, selb, hi]
theorem laws_heldEditS_hold (u : (Vec (Int × ByteArray))) (hn : u.n ≤ sN) (hu : ∀ t, t < u.n → u.g t = laws_markEditS_s9726_val ((1 + 2 * t : Nat) : Int)) : laws_heldEditS.F0 fuelN u ((1 : Nat) : Int) 0 (fun x1 => some x1) (fun x1 => some x1) = some ((1 + 2 * u.n : Nat) : Int) := by
  have hs : sN = 1048576 := rfl
  have hm : mN = 4611686018000000000 := rfl
  exact heldS (c := 2) (val := laws_markEditS_s9726_val) (F0 := laws_heldEditS.F0) (by decide) laws_heldEditS_step u hn 1 (by decide) (by omega) hu (fun x1 => some x1) (fun x1 => some x1)
theorem laws_markEditS_s9726_ok : MarkOk (A := (Vec (Int × ByteArray))) laws_markEditS_s9726.F laws_heldEditS.F := by
  rintro a ⟨hn, -⟩
  obtain ⟨u, h1, h2, h3⟩ := laws_markEditS_s9726_lay a hn
  have h4 := laws_heldEditS_hold u (by omega) (by rw [h1]; exact h2)
  rw [show ((1 : Nat) : Int) = 1 from rfl] at h3 h4
  refine ⟨((1 + 2 * a.n : Nat) : Int), u, ?_, by omega, ?_⟩
  · rw [laws_markEditS_s9726.F, laws_markEditS_s9726.B]
    exact h3
  · rw [laws_heldEditS.F, laws_heldEditS.B, ← h1]
    exact h4
end Go.Al
