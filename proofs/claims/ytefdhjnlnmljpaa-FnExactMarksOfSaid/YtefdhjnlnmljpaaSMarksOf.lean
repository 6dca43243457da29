import Derived.Test.YtefdhjnlnmljpaaAlH
import Derived.Test.YtefdhjnlnmljpaaGMarksOf
import Derived.Test.YtefdhjnlnmljpaaSWl
import Derived.Test.YtefdhjnlnmljpaaSMkW
set_option linter.unusedVariables false
set_option linter.unusedSimpArgs false
set_option linter.constructorNameAsVariable false
set_option linter.unusedSectionVars false
namespace Go.Al
theorem laws_eqNote_ok : SimOk (A := (Int × Int × ByteArray)) fun a b => laws_eqNote.F a.1 a.2.1 a.2.2 b.1 b.2.1 b.2.2 := by
  rintro a b ⟨h0, h1, h2⟩ ⟨s0, s1, s2⟩
  have e1_0 : a.1 = b.1 := s0
  have e2_1 : a.2.1 = b.2.1 := s1
  have e3_2 : a.2.2 = b.2.2 := s2
  simp [laws_eqNote.F, laws_eqNote.B, selb, e1_0, e2_1, e3_2]
theorem laws_eqMark_ok : SimOk (A := (Int × Int × Int × ByteArray)) fun a b => laws_eqMark.F a.1 a.2.1 a.2.2.1 a.2.2.2 b.1 b.2.1 b.2.2.1 b.2.2.2 := by
  rintro a b ⟨h0, h1, h2, h3⟩ ⟨s0, s1, s2, s3⟩
  have e1_0 : a.1 = b.1 := s0
  have e2 := laws_eqNote_ok (a.2.1, a.2.2.1, a.2.2.2) (b.2.1, b.2.2.1, b.2.2.2) ⟨h1, h2, h3⟩ ⟨s1, s2, s3⟩
  simp only at e2
  simp [laws_eqMark.F, laws_eqMark.B, selb, e1_0, e2]
theorem laws_eqMarkS_ok : SimOk (A := (Vec (Int × Int × Int × ByteArray))) laws_eqMarkS.F := simS (C := fun a b => laws_eqMark.F a.1 a.2.1 a.2.2.1 a.2.2.2 b.1 b.2.1 b.2.2.1 b.2.2.2) laws_eqMark_ok (F0 := laws_eqMarkS.F0) (fun k v w i K0 Kr => rfl) (fun v w => by simp only [laws_eqMarkS.F, laws_eqMarkS.B])
noncomputable def laws_markMarkS_sb069_val (k : Int) : (Int × Int × Int × ByteArray) := (k, k + 1, k + 2, mT (k + 3))
theorem laws_markMarkS_sb069_step (f k i : Nat) (v : (Vec (Int × Int × Int × ByteArray))) (K0 : Int → (Vec (Int × Int × Int × ByteArray)) → Option (Int × (Vec (Int × Int × Int × ByteArray)))) (hk1 : 1 ≤ k) (hk2 : k + 4 * (v.n - i) ≤ mN) (hn : v.n ≤ sN) : laws_markMarkS_sb069.F0 (f + 1) (k : Int) (i : Int) v K0 = if i < v.n then laws_markMarkS_sb069.F0 f ((k + 4 : Nat) : Int) ((i + 1 : Nat) : Int) (v.set i (laws_markMarkS_sb069_val (k : Int))) K0 else K0 (k : Int) v := by
  have hs : sN = 1048576 := rfl
  have hm : mN = 4611686018000000000 := rfl
  by_cases hi : i < v.n
  · have hle : 4 ≤ 4 * (v.n - i) := by omega
    have e3 := mT_eq (k + 3) (by omega) (by omega)
    have w0 : wr ((k : Int) + 1) = ((k + 1 : Nat) : Int) := wr_small (by omega) (by omega)
    have w1 : wr (((k + 1 : Nat) : Int) + 1) = ((k + 2 : Nat) : Int) := wr_small (by omega) (by omega)
    have w2 : wr (((k + 2 : Nat) : Int) + 1) = ((k + 3 : Nat) : Int) := wr_small (by omega) (by omega)
    have w3 : wr (((k + 3 : Nat) : Int) + 1) = ((k + 4 : Nat) : Int) := wr_small (by omega) (by omega)
    have z1 : wr ((k + 1 : Nat) : Int) = ((k + 1 : Nat) : Int) := wr_small (by omega) (by omega)
    have z2 : wr ((k + 2 : Nat) : Int) = ((k + 2 : Nat) : Int) := wr_small (by omega) (by omega)
    have z3 : wr ((k + 3 : Nat) : Int) = ((k + 3 : Nat) : Int) := wr_small (by omega) (by omega)
    have z4 : wr ((k + 4 : Nat) : Int) = ((k + 4 : Nat) : Int) := wr_small (by omega) (by omega)
    have c1 : (k : Int) + 1 = ((k + 1 : Nat) : Int) := by omega
    have c2 : (k : Int) + 2 = ((k + 2 : Nat) : Int) := by omega
    have c3 : (k : Int) + 3 = ((k + 3 : Nat) : Int) := by omega
    have c4 : (k : Int) + 4 = ((k + 4 : Nat) : Int) := by omega
    have wi : wr ((i : Int) + 1) = ((i + 1 : Nat) : Int) := wr_small (by omega) (by omega)
    simp only [laws_markMarkS_sb069.F0, laws_markMarkS_sb069.B0, selb, chkb, hi, wi, Vec.set_set, Vec.set_g, Vec.set_n, if_true, laws_markMarkS_sb069_val, e3, w0, w1, w2, w3, z1, z2, z3, z4, c1, c2, c3, c4, Int.toNat_natCast, Int.ofNat_lt, Int.natCast_nonneg, true_and, decide_true, Option.bind_some, Bool.not_true, Bool.false_eq_true, if_false]
  · simp [laws_markMarkS_sb069.F0, laws_markMarkS_sb069.B0, selb, hi]
theorem laws_markMarkS_sb069_lay (a : (Vec (Int × Int × Int × ByteArray))) (hn : a.n ≤ sN) : ∃ u : (Vec (Int × Int × Int × ByteArray)), u.n = a.n ∧ (∀ t, t < a.n → u.g t = laws_markMarkS_sb069_val ((1 + 4 * t : Nat) : Int)) ∧ laws_markMarkS_sb069.F0 fuelN ((1 : Nat) : Int) 0 a (fun x1 x2 => some (x1, x2)) = some (((1 + 4 * a.n : Nat) : Int), u) := by
  have hs : sN = 1048576 := rfl
  have hm : mN = 4611686018000000000 := rfl
  exact markS (c := 4) (val := laws_markMarkS_sb069_val) (F0 := laws_markMarkS_sb069.F0) (by decide) laws_markMarkS_sb069_step a hn 1 (by decide) (by omega) (fun x1 x2 => some (x1, x2))
theorem laws_markMarkS_sb069_tot (a : (Vec (Int × Int × Int × ByteArray))) (hn : a.n ≤ sN) (k : Nat) (h1 : 1 ≤ k) (h2 : k ≤ 17592186044416) : ∃ u : (Vec (Int × Int × Int × ByteArray)), laws_markMarkS_sb069.F (k : Int) a = some (((k + 4 * a.n : Nat) : Int), u) := by
  have hs : sN = 1048576 := rfl
  have hm : mN = 4611686018000000000 := rfl
  obtain ⟨u, q1, q2, q3⟩ := markS (c := 4) (val := laws_markMarkS_sb069_val) (F0 := laws_markMarkS_sb069.F0) (by decide) laws_markMarkS_sb069_step a hn k h1 (by omega) (fun x1 x2 => some (x1, x2))
  refine ⟨u, ?_⟩
  rw [laws_markMarkS_sb069.F, laws_markMarkS_sb069.B]
  exact q3
theorem laws_heldMarkS_step (f k i : Nat) (v : (Vec (Int × Int × Int × ByteArray))) (K0 Kr : Int → Option Int) (hk1 : 1 ≤ k) (hk2 : k + 4 * (v.n - i) ≤ mN) (hn : v.n ≤ sN) (hv : i < v.n → v.g i = laws_markMarkS_sb069_val (k : Int)) : laws_heldMarkS.F0 (f + 1) v (k : Int) (i : Int) K0 Kr = if i < v.n then laws_heldMarkS.F0 f v ((k + 4 : Nat) : Int) ((i + 1 : Nat) : Int) K0 Kr else K0 (k : Int) := by
  have hs : sN = 1048576 := rfl
  have hm : mN = 4611686018000000000 := rfl
  by_cases hi : i < v.n
  · have hle : 4 ≤ 4 * (v.n - i) := by omega
    have e3 := mT_eq (k + 3) (by omega) (by omega)
    have w0 : wr ((k : Int) + 1) = ((k + 1 : Nat) : Int) := wr_small (by omega) (by omega)
    have w1 : wr (((k + 1 : Nat) : Int) + 1) = ((k + 2 : Nat) : Int) := wr_small (by omega) (by omega)
    have w2 : wr (((k + 2 : Nat) : Int) + 1) = ((k + 3 : Nat) : Int) := wr_small (by omega) (by omega)
    have w3 : wr (((k + 3 : Nat) : Int) + 1) = ((k + 4 : Nat) : Int) := wr_small (by omega) (by omega)
    have z1 : wr ((k + 1 : Nat) : Int) = ((k + 1 : Nat) : Int) := wr_small (by omega) (by omega)
    have z2 : wr ((k + 2 : Nat) : Int) = ((k + 2 : Nat) : Int) := wr_small (by omega) (by omega)
    have z3 : wr ((k + 3 : Nat) : Int) = ((k + 3 : Nat) : Int) := wr_small (by omega) (by omega)
    have z4 : wr ((k + 4 : Nat) : Int) = ((k + 4 : Nat) : Int) := wr_small (by omega) (by omega)
    have c1 : (k : Int) + 1 = ((k + 1 : Nat) : Int) := by omega
    have c2 : (k : Int) + 2 = ((k + 2 : Nat) : Int) := by omega
    have c3 : (k : Int) + 3 = ((k + 3 : Nat) : Int) := by omega
    have c4 : (k : Int) + 4 = ((k + 4 : Nat) : Int) := by omega
    have wi : wr ((i : Int) + 1) = ((i + 1 : Nat) : Int) := wr_small (by omega) (by omega)
    have hg := hv hi
    simp only [laws_markMarkS_sb069_val, c1, c2, c3] at hg
    simp only [laws_heldMarkS.F0, laws_heldMarkS.B0, selb, chkb, hi, wi, Vec.set_set, Vec.set_g, Vec.set_n, if_true, laws_markMarkS_sb069_val, e3, w0, w1, w2, w3, z1, z2, z3, z4, c1, c2, c3, c4, Int.toNat_natCast, Int.ofNat_lt, Int.natCast_nonneg, true_and, decide_true, Option.bind_some, Bool.not_true, Bool.false_eq_true, if_false, hg]
  · simp [laws_heldMarkS.F0, laws_heldMarkS.B0, selb, hi]
theorem laws_heldMarkS_hold (u : (Vec (Int × Int × Int × ByteArray))) (hn : u.n ≤ sN) (hu : ∀ t, t < u.n → u.g t = laws_markMarkS_sb069_val ((1 + 4 * t : Nat) : Int)) : laws_heldMarkS.F0 fuelN u ((1 : Nat) : Int) 0 (fun x1 => some x1) (fun x1 => some x1) = some ((1 + 4 * u.n : Nat) : Int) := by
  have hs : sN = 1048576 := rfl
  have hm : mN = 4611686018000000000 := rfl
  exact heldS (c := 4) (val := laws_markMarkS_sb069_val) (F0 := laws_heldMarkS.F0) (by decide) laws_heldMarkS_step u hn 1 (by decide) (by omega) hu (fun x1 => some x1) (fun x1 => some x1)
theorem laws_markMarkS_sb069_ok : MarkOk (A := (Vec (Int × Int × Int × ByteArray))) laws_markMarkS_sb069.F laws_heldMarkS.F := by
  rintro a ⟨hn, -⟩
  obtain ⟨u, h1, h2, h3⟩ := laws_markMarkS_sb069_lay a hn
  have h4 := laws_heldMarkS_hold u (by omega) (by rw [h1]; exact h2)
  rw [show ((1 : Nat) : Int) = 1 from rfl] at h3 h4
  refine ⟨((1 + 4 * a.n : Nat) : Int), u, ?_, by omega, ?_⟩
  · rw [laws_markMarkS_sb069.F, laws_markMarkS_sb069.B]
    exact h3
  · rw [laws_heldMarkS.F, laws_heldMarkS.B, ← h1]
    exact h4
end Go.Al
