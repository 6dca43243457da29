import Derived.Test.YtefdhjnlnmljpaaAlH
import Derived.Test.YtefdhjnlnmljpaaGAnnotate
import Derived.Test.YtefdhjnlnmljpaaSWl
set_option linter.unusedVariables false
set_option linter.unusedSimpArgs false
set_option linter.constructorNameAsVariable false
set_option linter.unusedSectionVars false
namespace Go.Al
theorem laws_eqNote_ok : SimOk (A := (Int × Int × ByteArray)) fun a b => laws_eqNote.F a.1 a.2.1 a.2.2 b.1 b.2.1 b.2.2 := by
  rintro a b ⟨h0, h1, h2⟩ ⟨s0, s1, s2⟩
  have e1_0 : a.1 = b.1 := s0
  have e2_1 : a.2.1 = b.2.1 := s1
  have e3_2 : a.2.2 = b.2.2 := s2
  simp [laws_eqNote.F, laws_eqNote.B, selb, e1_0, e2_1, e3_2]
theorem laws_eqNoteS_ok : SimOk (A := (Vec (Int × Int × ByteArray))) laws_eqNoteS.F := simS (C := fun a b => laws_eqNote.F a.1 a.2.1 a.2.2 b.1 b.2.1 b.2.2) laws_eqNote_ok (F0 := laws_eqNoteS.F0) (fun k v w i K0 Kr => rfl) (fun v w => by simp only [laws_eqNoteS.F, laws_eqNoteS.B])
theorem laws_markText_ok (k : Nat) (h1 : 1 ≤ k) (h2 : k ≤ mN) : ∃ b, laws_markText.F (k : Int) = some b :=
  mark_text (F0 := laws_markText.F0) (fun k v1 v2 K0 => rfl) (F := laws_markText.F) (fun a1 => by simp only [laws_markText.F, laws_markText.B]) k h1 h2
noncomputable def mT (k : Int) : ByteArray := (laws_markText.F k).getD ByteArray.empty
theorem mT_eq (k : Nat) (h1 : 1 ≤ k) (h2 : k ≤ mN) : laws_markText.F (k : Int) = some (mT k) := by
  obtain ⟨b, h⟩ := laws_markText_ok k h1 h2
  have e : mT (k : Int) = b := by
    unfold mT
    rw [h, Option.getD_some]
  rw [e]
  exact h
noncomputable def laws_markIntS_s68b2_val (k : Int) : Int := k
theorem laws_markIntS_s68b2_step (f k i : Nat) (v : (Vec Int)) (K0 : Int → (Vec Int) → Option (Int × (Vec Int))) (hk1 : 1 ≤ k) (hk2 : k + 1 * (v.n - i) ≤ mN) (hn : v.n ≤ sN) : laws_markIntS_s68b2.F0 (f + 1) (k : Int) (i : Int) v K0 = if i < v.n then laws_markIntS_s68b2.F0 f ((k + 1 : Nat) : Int) ((i + 1 : Nat) : Int) (v.set i (laws_markIntS_s68b2_val (k : Int))) K0 else K0 (k : Int) v := by
  have hs : sN = 1048576 := rfl
  have hm : mN = 4611686018000000000 := rfl
  by_cases hi : i < v.n
  · have hle : 1 ≤ 1 * (v.n - i) := by omega
    have w0 : wr ((k : Int) + 1) = ((k + 1 : Nat) : Int) := wr_small (by omega) (by omega)
    have z1 : wr ((k + 1 : Nat) : Int) = ((k + 1 : Nat) : Int) := wr_small (by omega) (by omega)
    have c1 : (k : Int) + 1 = ((k + 1 : Nat) : Int) := by omega
    have wi : wr ((i : Int) + 1) = ((i + 1 : Nat) : Int) := wr_small (by omega) (by omega)
    simp only [laws_markIntS_s68b2.F0, laws_markIntS_s68b2.B0, selb, chkb, hi, wi, Vec.set_set, Vec.set_g, Vec.set_n, if_true, laws_markIntS_s68b2_val, w0, z1, c1, Int.toNat_natCast, Int.ofNat_lt, Int.natCast_nonneg, true_and, decide_true, Option.bind_some, Bool.not_true, Bool.false_eq_true, if_false]
  · simp [laws_markIntS_s68b2.F0, laws_markIntS_s68b2.B0, selb, hi]
theorem laws_markIntS_s68b2_lay (a : (Vec Int)) (hn : a.n ≤ sN) : ∃ u : (Vec Int), u.n = a.n ∧ (∀ t, t < a.n → u.g t = laws_markIntS_s68b2_val ((1 + 1 * t : Nat) : Int)) ∧ laws_markIntS_s68b2.F0 fuelN ((1 : Nat) : Int) 0 a (fun x1 x2 => some (x1, x2)) = some (((1 + 1 * a.n : Nat) : Int), u) := by
  have hs : sN = 1048576 := rfl
  have hm : mN = 4611686018000000000 := rfl
  exact markS (c := 1) (val := laws_markIntS_s68b2_val) (F0 := laws_markIntS_s68b2.F0) (by decide) laws_markIntS_s68b2_step a hn 1 (by decide) (by omega) (fun x1 x2 => some (x1, x2))
theorem laws_markIntS_s68b2_tot (a : (Vec Int)) (hn : a.n ≤ sN) (k : Nat) (h1 : 1 ≤ k) (h2 : k ≤ 17592186044416) : ∃ u : (Vec Int), laws_markIntS_s68b2.F (k : Int) a = some (((k + 1 * a.n : Nat) : Int), u) := by
  have hs : sN = 1048576 := rfl
  have hm : mN = 4611686018000000000 := rfl
  obtain ⟨u, q1, q2, q3⟩ := markS (c := 1) (val := laws_markIntS_s68b2_val) (F0 := laws_markIntS_s68b2.F0) (by decide) laws_markIntS_s68b2_step a hn k h1 (by omega) (fun x1 x2 => some (x1, x2))
  refine ⟨u, ?_⟩
  rw [laws_markIntS_s68b2.F, laws_markIntS_s68b2.B]
  exact q3
noncomputable def laws_markNoteS_s2747_val (k : Int) : (Int × Int × ByteArray) := (k, k + 1, mT (k + 2))
theorem laws_markNoteS_s2747_step (f k i : Nat) (v : (Vec (Int × Int × ByteArray))) (K0 : Int → (Vec (Int × Int × ByteArray)) → Option (Int × (Vec (Int × Int × ByteArray)))) (hk1 : 1 ≤ k) (hk2 : k + 3 * (v.n - i) ≤ mN) (hn : v.n ≤ sN) : laws_markNoteS_s2747.F0 (f + 1) (k : Int) (i : Int) v K0 = if i < v.n then laws_markNoteS_s2747.F0 f ((k + 3 : Nat) : Int) ((i + 1 : Nat) : Int) (v.set i (laws_markNoteS_s2747_val (k : Int))) K0 else K0 (k : Int) v := by
  have hs : sN = 1048576 := rfl
  have hm : mN = 4611686018000000000 := rfl
  by_cases hi : i < v.n
  · have hle : 3 ≤ 3 * (v.n - i) := by omega
    have e2 := mT_eq (k + 2) (by omega) (by omega)
    have w0 : wr ((k : Int) + 1) = ((k + 1 : Nat) : Int) := wr_small (by omega) (by omega)
    have w1 : wr (((k + 1 : Nat) : Int) + 1) = ((k + 2 : Nat) : Int) := wr_small (by omega) (by omega)
    have w2 : wr (((k + 2 : Nat) : Int) + 1) = ((k + 3 : Nat) : Int) := wr_small (by omega) (by omega)
    have z1 : wr ((k + 1 : Nat) : Int) = ((k + 1 : Nat) : Int) := wr_small (by omega) (by omega)
    have z2 : wr ((k + 2 : Nat) : Int) = ((k + 2 : Nat) : Int) := wr_small (by omega) (by omega)
    have z3 : wr ((k + 3 : Nat) : Int) = ((k + 3 : Nat) : Int) := wr_small (by omega) (by omega)
    have c1 : (k : Int) + 1 = ((k + 1 : Nat) : Int) := by omega
    have c2 : (k : Int) + 2 = ((k + 2 : Nat) : Int) := by omega
    have c3 : (k : Int) + 3 = ((k + 3 : Nat) : Int) := by omega
    have wi : wr ((i : Int) + 1) = ((i + 1 : Nat) : Int) := wr_small (by omega) (by omega)
    simp only [laws_markNoteS_s2747.F0, laws_markNoteS_s2747.B0, selb, chkb, hi, wi, Vec.set_set, Vec.set_g, Vec.set_n, if_true, laws_markNoteS_s2747_val, e2, w0, w1, w2, z1, z2, z3, c1, c2, c3, Int.toNat_natCast, Int.ofNat_lt, Int.natCast_nonneg, true_and, decide_true, Option.bind_some, Bool.not_true, Bool.false_eq_true, if_false]
  · simp [laws_markNoteS_s2747.F0, laws_markNoteS_s2747.B0, selb, hi]
theorem laws_markNoteS_s2747_lay (a : (Vec (Int × Int × ByteArray))) (hn : a.n ≤ sN) : ∃ u : (Vec (Int × Int × ByteArray)), u.n = a.n ∧ (∀ t, t < a.n → u.g t = laws_markNoteS_s2747_val ((1 + 3 * t : Nat) : Int)) ∧ laws_markNoteS_s2747.F0 fuelN ((1 : Nat) : Int) 0 a (fun x1 x2 => some (x1, x2)) = some (((1 + 3 * a.n : Nat) : Int), u) := by
  have hs : sN = 1048576 := rfl
  have hm : mN = 4611686018000000000 := rfl
  exact markS (c := 3) (val := laws_markNoteS_s2747_val) (F0 := laws_markNoteS_s2747.F0) (by decide) laws_markNoteS_s2747_step a hn 1 (by decide) (by omega) (fun x1 x2 => some (x1, x2))
theorem laws_markNoteS_s2747_tot (a : (Vec (Int × Int × ByteArray))) (hn : a.n ≤ sN) (k : Nat) (h1 : 1 ≤ k) (h2 : k ≤ 17592186044416) : ∃ u : (Vec (Int × Int × ByteArray)), laws_markNoteS_s2747.F (k : Int) a = some (((k + 3 * a.n : Nat) : Int), u) := by
  have hs : sN = 1048576 := rfl
  have hm : mN = 4611686018000000000 := rfl
  obtain ⟨u, q1, q2, q3⟩ := markS (c := 3) (val := laws_markNoteS_s2747_val) (F0 := laws_markNoteS_s2747.F0) (by decide) laws_markNoteS_s2747_step a hn k h1 (by omega) (fun x1 x2 => some (x1, x2))
  refine ⟨u, ?_⟩
  rw [laws_markNoteS_s2747.F, laws_markNoteS_s2747.B]
  exact q3
theorem laws_heldNoteS_step (f k i : Nat) (v : (Vec (Int × Int × ByteArray))) (K0 Kr : Int → Option Int) (hk1 : 1 ≤ k) (hk2 : k + 3 * (v.n - i) ≤ mN) (hn : v.n ≤ sN) (hv : i < v.n → v.g i = laws_markNoteS_s2747_val (k : Int)) : laws_heldNoteS.F0 (f + 1) v (k : Int) (i : Int) K0 Kr = if i < v.n then laws_heldNoteS.F0 f v ((k + 3 : Nat) : Int) ((i + 1 : Nat) : Int) K0 Kr else K0 (k : Int) := by
  have hs : sN = 1048576 := rfl
  have hm : mN = 4611686018000000000 := rfl
  by_cases hi : i < v.n
  · have hle : 3 ≤ 3 * (v.n - i) := by omega
    have e2 := mT_eq (k + 2) (by omega) (by omega)
    have w0 : wr ((k : Int) + 1) = ((k + 1 : Nat) : Int) := wr_small (by omega) (by omega)
    have w1 : wr (((k + 1 : Nat) : Int) + 1) = ((k + 2 : Nat) : Int) := wr_small (by omega) (by omega)
    have w2 : wr (((k + 2 : Nat) : Int) + 1) = ((k + 3 : Nat) : Int) := wr_small (by omega) (by omega)
    have z1 : wr ((k + 1 : Nat) : Int) = ((k + 1 : Nat) : Int) := wr_small (by omega) (by omega)
    have z2 : wr ((k + 2 : Nat) : Int) = ((k + 2 : Nat) : Int) := wr_small (by omega) (by omega)
    have z3 : wr ((k + 3 : Nat) : Int) = ((k + 3 : Nat) : Int) := wr_small (by omega) (by omega)
    have c1 : (k : Int) + 1 = ((k + 1 : Nat) : Int) := by omega
    have c2 : (k : Int) + 2 = ((k + 2 : Nat) : Int) := by omega
    have c3 : (k : Int) + 3 = ((k + 3 : Nat) : Int) := by omega
    have wi : wr ((i : Int) + 1) = ((i + 1 : Nat) : Int) := wr_small (by omega) (by omega)
    have hg := hv hi
    simp only [laws_markNoteS_s2747_val, c1, c2] at hg
    simp only [laws_heldNoteS.F0, laws_heldNoteS.B0, selb, chkb, hi, wi, Vec.set_set, Vec.set_g, Vec.set_n, if_true, laws_markNoteS_s2747_val, e2, w0, w1, w2, z1, z2, z3, c1, c2, c3, Int.toNat_natCast, Int.ofNat_lt, Int.natCast_nonneg, true_and, decide_true, Option.bind_some, Bool.not_true, Bool.false_eq_true, if_false, hg]
  · simp [laws_heldNoteS.F0, laws_heldNoteS.B0, selb, hi]
theorem laws_heldNoteS_hold (u : (Vec (Int × Int × ByteArray))) (hn : u.n ≤ sN) (hu : ∀ t, t < u.n → u.g t = laws_markNoteS_s2747_val ((1 + 3 * t : Nat) : Int)) : laws_heldNoteS.F0 fuelN u ((1 : Nat) : Int) 0 (fun x1 => some x1) (fun x1 => some x1) = some ((1 + 3 * u.n : Nat) : Int) := by
  have hs : sN = 1048576 := rfl
  have hm : mN = 4611686018000000000 := rfl
  exact heldS (c := 3) (val := laws_markNoteS_s2747_val) (F0 := laws_heldNoteS.F0) (by decide) laws_heldNoteS_step u hn 1 (by decide) (by omega) hu (fun x1 => some x1) (fun x1 => some x1)
theorem laws_markNoteS_s2747_ok : MarkOk (A := (Vec (Int × Int × ByteArray))) laws_markNoteS_s2747.F laws_heldNoteS.F := by
  rintro a ⟨hn, -⟩
  obtain ⟨u, h1, h2, h3⟩ := laws_markNoteS_s2747_lay a hn
  have h4 := laws_heldNoteS_hold u (by omega) (by rw [h1]; exact h2)
  rw [show ((1 : Nat) : Int) = 1 from rfl] at h3 h4
  refine ⟨((1 + 3 * a.n : Nat) : Int), u, ?_, by omega, ?_⟩
  · rw [laws_markNoteS_s2747.F, laws_markNoteS_s2747.B]
    exact h3
  · rw [laws_heldNoteS.F, laws_heldNoteS.B, ← h1]
    exact h4
end Go.Al
