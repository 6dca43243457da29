import Derived.Test.YtnkmpehikhmbjaaAlH
import Derived.Test.YtnkmpehikhmbjaaGPlainOf
import Derived.Test.YtnkmpehikhmbjaaSWl
import Derived.Test.YtnkmpehikhmbjaaSMkW
set_option linter.unusedVariables false
set_option linter.unusedSimpArgs false
set_option linter.constructorNameAsVariable false
set_option linter.unusedSectionVars false
namespace Go.Al
theorem laws_eqStringS_ok : SimOk (A := (Vec ByteArray)) laws_eqStringS.F := simS (C := fun a b => some (decide (a = b))) (sim_free (fun _ _ h => h) fun _ => by simp) (F0 := laws_eqStringS.F0) (fun k v w i K0 Kr => rfl) (fun v w => by simp only [laws_eqStringS.F, laws_eqStringS.B])
theorem laws_eqStringSS_ok : SimOk (A := (Vec (Vec ByteArray))) laws_eqStringSS.F := simS (C := fun a b => laws_eqStringS.F a b) laws_eqStringS_ok (F0 := laws_eqStringSS.F0) (fun k v w i K0 Kr => rfl) (fun v w => by simp only [laws_eqStringSS.F, laws_eqStringSS.B])
theorem laws_eqIdent_ok : SimOk (A := (Int × Int)) fun a b => laws_eqIdent.F a.1 a.2 b.1 b.2 := by
  rintro a b ⟨h0, h1⟩ ⟨s0, s1⟩
  have e1_0 : a.1 = b.1 := s0
  have e2_1 : a.2 = b.2 := s1
  simp [laws_eqIdent.F, laws_eqIdent.B, selb, e1_0, e2_1]
theorem laws_eqIdentS_ok : SimOk (A := (Vec (Int × Int))) laws_eqIdentS.F := simS (C := fun a b => laws_eqIdent.F a.1 a.2 b.1 b.2) laws_eqIdent_ok (F0 := laws_eqIdentS.F0) (fun k v w i K0 Kr => rfl) (fun v w => by simp only [laws_eqIdentS.F, laws_eqIdentS.B])
theorem laws_eqIdentSS_ok : SimOk (A := (Vec (Vec (Int × Int)))) laws_eqIdentSS.F := simS (C := fun a b => laws_eqIdentS.F a b) laws_eqIdentS_ok (F0 := laws_eqIdentSS.F0) (fun k v w i K0 Kr => rfl) (fun v w => by simp only [laws_eqIdentSS.F, laws_eqIdentSS.B])
theorem laws_eqPlain_ok : SimOk (A := ((Vec (Vec Int)) × (Vec (Vec ByteArray)) × (Vec (Vec (Int × Int))))) fun a b => laws_eqPlain.F a.1 a.2.1 a.2.2 b.1 b.2.1 b.2.2 := by
  rintro a b ⟨h0, h1, h2⟩ ⟨s0, s1, s2⟩
  have e1 := laws_eqIntSS_ok a.1 b.1 h0 s0
  have e2 := laws_eqStringSS_ok a.2.1 b.2.1 h1 s1
  have e3 := laws_eqIdentSS_ok a.2.2 b.2.2 h2 s2
  simp [laws_eqPlain.F, laws_eqPlain.B, selb, e1, e2, e3]
theorem laws_heldIntS_step (f k i : Nat) (v : (Vec Int)) (K0 Kr : Int → Option Int) (hk1 : 1 ≤ k) (hk2 : k + 1 * (v.n - i) ≤ mN) (hn : v.n ≤ sN) (hv : i < v.n → v.g i = laws_markIntS_s68b2_val (k : Int)) : laws_heldIntS.F0 (f + 1) v (k : Int) (i : Int) K0 Kr = if i < v.n then laws_heldIntS.F0 f v ((k + 1 : Nat) : Int) ((i + 1 : Nat) : Int) K0 Kr else K0 (k : Int) := by
  have hs : sN = 1048576 := rfl
  have hm : mN = 4611686018000000000 := rfl
  by_cases hi : i < v.n
  · have hle : 1 ≤ 1 * (v.n - i) := by omega
    have w0 : wr ((k : Int) + 1) = ((k + 1 : Nat) : Int) := wr_small (by omega) (by omega)
    have z1 : wr ((k + 1 : Nat) : Int) = ((k + 1 : Nat) : Int) := wr_small (by omega) (by omega)
    have c1 : (k : Int) + 1 = ((k + 1 : Nat) : Int) := by omega
    have wi : wr ((i : Int) + 1) = ((i + 1 : Nat) : Int) := wr_small (by omega) (by omega)
    have hg := hv hi
    simp only [laws_markIntS_s68b2_val] at hg
    simp only [laws_heldIntS.F0, laws_heldIntS.B0, selb, chkb, hi, wi, Vec.set_set, Vec.set_g, Vec.set_n, if_true, laws_markIntS_s68b2_val, w0, z1, c1, Int.toNat_natCast, Int.ofNat_lt, Int.natCast_nonneg, true_and, decide_true, Option.bind_some, Bool.not_true, Bool.false_eq_true, if_false, hg]
  · simp [laws_heldIntS.F0, laws_heldIntS.B0, selb, hi]
theorem laws_heldIntS_hold (u : (Vec Int)) (hn : u.n ≤ sN) (hu : ∀ t, t < u.n → u.g t = laws_markIntS_s68b2_val ((1 + 1 * t : Nat) : Int)) : laws_heldIntS.F0 fuelN u ((1 : Nat) : Int) 0 (fun x1 => some x1) (fun x1 => some x1) = some ((1 + 1 * u.n : Nat) : Int) := by
  have hs : sN = 1048576 := rfl
  have hm : mN = 4611686018000000000 := rfl
  exact heldS (c := 1) (val := laws_markIntS_s68b2_val) (F0 := laws_heldIntS.F0) (by decide) laws_heldIntS_step u hn 1 (by decide) (by omega) hu (fun x1 => some x1) (fun x1 => some x1)
theorem laws_markIntS_s68b2_ok : MarkOk (A := (Vec Int)) laws_markIntS_s68b2.F laws_heldIntS.F := by
  rintro a ⟨hn, -⟩
  obtain ⟨u, h1, h2, h3⟩ := laws_markIntS_s68b2_lay a hn
  have h4 := laws_heldIntS_hold u (by omega) (by rw [h1]; exact h2)
  rw [show ((1 : Nat) : Int) = 1 from rfl] at h3 h4
  refine ⟨((1 + 1 * a.n : Nat) : Int), u, ?_, by omega, ?_⟩
  · rw [laws_markIntS_s68b2.F, laws_markIntS_s68b2.B]
    exact h3
  · rw [laws_heldIntS.F, laws_heldIntS.B, ← h1]
    exact h4
noncomputable def laws_markStringS_s1401_val (k : Int) : ByteArray := mT k
theorem laws_markStringS_s1401_step (f k i : Nat) (v : (Vec ByteArray)) (K0 : Int → (Vec ByteArray) → Option (Int × (Vec ByteArray))) (hk1 : 1 ≤ k) (hk2 : k + 1 * (v.n - i) ≤ mN) (hn : v.n ≤ sN) : laws_markStringS_s1401.F0 (f + 1) (k : Int) (i : Int) v K0 = if i < v.n then laws_markStringS_s1401.F0 f ((k + 1 : Nat) : Int) ((i + 1 : Nat) : Int) (v.set i (laws_markStringS_s1401_val (k : Int))) K0 else K0 (k : Int) v := by
  have hs : sN = 1048576 := rfl
  have hm : mN = 4611686018000000000 := rfl
  by_cases hi : i < v.n
  · have hle : 1 ≤ 1 * (v.n - i) := by omega
    have e0 := mT_eq (k) (by omega) (by omega)
    have w0 : wr ((k : Int) + 1) = ((k + 1 : Nat) : Int) := wr_small (by omega) (by omega)
    have z1 : wr ((k + 1 : Nat) : Int) = ((k + 1 : Nat) : Int) := wr_small (by omega) (by omega)
    have c1 : (k : Int) + 1 = ((k + 1 : Nat) : Int) := by omega
    have wi : wr ((i : Int) + 1) = ((i + 1 : Nat) : Int) := wr_small (by omega) (by omega)
    simp only [laws_markStringS_s1401.F0, laws_markStringS_s1401.B0, selb, chkb, hi, wi, Vec.set_set, Vec.set_g, Vec.set_n, if_true, laws_markStringS_s1401_val, e0, w0, z1, c1, Int.toNat_natCast, Int.ofNat_lt, Int.natCast_nonneg, true_and, decide_true, Option.bind_some, Bool.not_true, Bool.false_eq_true, if_false]
  · simp [laws_markStringS_s1401.F0, laws_markStringS_s1401.B0, selb, hi]
theorem laws_markStringS_s1401_lay (a : (Vec ByteArray)) (hn : a.n ≤ sN) : ∃ u : (Vec ByteArray), u.n = a.n ∧ (∀ t, t < a.n → u.g t = laws_markStringS_s1401_val ((1 + 1 * t : Nat) : Int)) ∧ laws_markStringS_s1401.F0 fuelN ((1 : Nat) : Int) 0 a (fun x1 x2 => some (x1, x2)) = some (((1 + 1 * a.n : Nat) : Int), u) := by
  have hs : sN = 1048576 := rfl
  have hm : mN = 4611686018000000000 := rfl
  exact markS (c := 1) (val := laws_markStringS_s1401_val) (F0 := laws_markStringS_s1401.F0) (by decide) laws_markStringS_s1401_step a hn 1 (by decide) (by omega) (fun x1 x2 => some (x1, x2))
theorem laws_markStringS_s1401_tot (a : (Vec ByteArray)) (hn : a.n ≤ sN) (k : Nat) (h1 : 1 ≤ k) (h2 : k ≤ 17592186044416) : ∃ u : (Vec ByteArray), laws_markStringS_s1401.F (k : Int) a = some (((k + 1 * a.n : Nat) : Int), u) := by
  have hs : sN = 1048576 := rfl
  have hm : mN = 4611686018000000000 := rfl
  obtain ⟨u, q1, q2, q3⟩ := markS (c := 1) (val := laws_markStringS_s1401_val) (F0 := laws_markStringS_s1401.F0) (by decide) laws_markStringS_s1401_step a hn k h1 (by omega) (fun x1 x2 => some (x1, x2))
  refine ⟨u, ?_⟩
  rw [laws_markStringS_s1401.F, laws_markStringS_s1401.B]
  exact q3
theorem laws_heldStringS_step (f k i : Nat) (v : (Vec ByteArray)) (K0 Kr : Int → Option Int) (hk1 : 1 ≤ k) (hk2 : k + 1 * (v.n - i) ≤ mN) (hn : v.n ≤ sN) (hv : i < v.n → v.g i = laws_markStringS_s1401_val (k : Int)) : laws_heldStringS.F0 (f + 1) v (k : Int) (i : Int) K0 Kr = if i < v.n then laws_heldStringS.F0 f v ((k + 1 : Nat) : Int) ((i + 1 : Nat) : Int) K0 Kr else K0 (k : Int) := by
  have hs : sN = 1048576 := rfl
  have hm : mN = 4611686018000000000 := rfl
  by_cases hi : i < v.n
  · have hle : 1 ≤ 1 * (v.n - i) := by omega
    have e0 := mT_eq (k) (by omega) (by omega)
    have w0 : wr ((k : Int) + 1) = ((k + 1 : Nat) : Int) := wr_small (by omega) (by omega)
    have z1 : wr ((k + 1 : Nat) : Int) = ((k + 1 : Nat) : Int) := wr_small (by omega) (by omega)
    have c1 : (k : Int) + 1 = ((k + 1 : Nat) : Int) := by omega
    have wi : wr ((i : Int) + 1) = ((i + 1 : Nat) : Int) := wr_small (by omega) (by omega)
    have hg := hv hi
    simp only [laws_markStringS_s1401_val] at hg
    simp only [laws_heldStringS.F0, laws_heldStringS.B0, selb, chkb, hi, wi, Vec.set_set, Vec.set_g, Vec.set_n, if_true, laws_markStringS_s1401_val, e0, w0, z1, c1, Int.toNat_natCast, Int.ofNat_lt, Int.natCast_nonneg, true_and, decide_true, Option.bind_some, Bool.not_true, Bool.false_eq_true, if_false, hg]
  · simp [laws_heldStringS.F0, laws_heldStringS.B0, selb, hi]
theorem laws_heldStringS_hold (u : (Vec ByteArray)) (hn : u.n ≤ sN) (hu : ∀ t, t < u.n → u.g t = laws_markStringS_s1401_val ((1 + 1 * t : Nat) : Int)) : laws_heldStringS.F0 fuelN u ((1 : Nat) : Int) 0 (fun x1 => some x1) (fun x1 => some x1) = some ((1 + 1 * u.n : Nat) : Int) := by
  have hs : sN = 1048576 := rfl
  have hm : mN = 4611686018000000000 := rfl
  exact heldS (c := 1) (val := laws_markStringS_s1401_val) (F0 := laws_heldStringS.F0) (by decide) laws_heldStringS_step u hn 1 (by decide) (by omega) hu (fun x1 => some x1) (fun x1 => some x1)
theorem laws_markStringS_s1401_ok : MarkOk (A := (Vec ByteArray)) laws_markStringS_s1401.F laws_heldStringS.F := by
  rintro a ⟨hn, -⟩
  obtain ⟨u, h1, h2, h3⟩ := laws_markStringS_s1401_lay a hn
  have h4 := laws_heldStringS_hold u (by omega) (by rw [h1]; exact h2)
  rw [show ((1 : Nat) : Int) = 1 from rfl] at h3 h4
  refine ⟨((1 + 1 * a.n : Nat) : Int), u, ?_, by omega, ?_⟩
  · rw [laws_markStringS_s1401.F, laws_markStringS_s1401.B]
    exact h3
  · rw [laws_heldStringS.F, laws_heldStringS.B, ← h1]
    exact h4
noncomputable def laws_markIdentS_s7fcd_val (k : Int) : (Int × Int) := (k, k + 1)
theorem laws_markIdentS_s7fcd_step (f k i : Nat) (v : (Vec (Int × Int))) (K0 : Int → (Vec (Int × Int)) → Option (Int × (Vec (Int × Int)))) (hk1 : 1 ≤ k) (hk2 : k + 2 * (v.n - i) ≤ mN) (hn : v.n ≤ sN) : laws_markIdentS_s7fcd.F0 (f + 1) (k : Int) (i : Int) v K0 = if i < v.n then laws_markIdentS_s7fcd.F0 f ((k + 2 : Nat) : Int) ((i + 1 : Nat) : Int) (v.set i (laws_markIdentS_s7fcd_val (k : Int))) K0 else K0 (k : Int) v := by
  have hs : sN = 1048576 := rfl
  have hm : mN = 4611686018000000000 := rfl
  by_cases hi : i < v.n
  · have hle : 2 ≤ 2 * (v.n - i) := by omega
    have w0 : wr ((k : Int) + 1) = ((k + 1 : Nat) : Int) := wr_small (by omega) (by omega)
    have w1 : wr (((k + 1 : Nat) : Int) + 1) = ((k + 2 : Nat) : Int) := wr_small (by omega) (by omega)
    have z1 : wr ((k + 1 : Nat) : Int) = ((k + 1 : Nat) : Int) := wr_small (by omega) (by omega)
    have z2 : wr ((k + 2 : Nat) : Int) = ((k + 2 : Nat) : Int) := wr_small (by omega) (by omega)
    have c1 : (k : Int) + 1 = ((k + 1 : Nat) : Int) := by omega
    have c2 : (k : Int) + 2 = ((k + 2 : Nat) : Int) := by omega
    have wi : wr ((i : Int) + 1) = ((i + 1 : Nat) : Int) := wr_small (by omega) (by omega)
    simp only [laws_markIdentS_s7fcd.F0, laws_markIdentS_s7fcd.B0, selb, chkb, hi, wi, Vec.set_set, Vec.set_g, Vec.set_n, if_true, laws_markIdentS_s7fcd_val, w0, w1, z1, z2, c1, c2, Int.toNat_natCast, Int.ofNat_lt, Int.natCast_nonneg, true_and, decide_true, Option.bind_some, Bool.not_true, Bool.false_eq_true, if_false]
  · simp [laws_markIdentS_s7fcd.F0, laws_markIdentS_s7fcd.B0, selb, hi]
theorem laws_markIdentS_s7fcd_lay (a : (Vec (Int × Int))) (hn : a.n ≤ sN) : ∃ u : (Vec (Int × Int)), u.n = a.n ∧ (∀ t, t < a.n → u.g t = laws_markIdentS_s7fcd_val ((1 + 2 * t : Nat) : Int)) ∧ laws_markIdentS_s7fcd.F0 fuelN ((1 : Nat) : Int) 0 a (fun x1 x2 => some (x1, x2)) = some (((1 + 2 * a.n : Nat) : Int), u) := by
  have hs : sN = 1048576 := rfl
  have hm : mN = 4611686018000000000 := rfl
  exact markS (c := 2) (val := laws_markIdentS_s7fcd_val) (F0 := laws_markIdentS_s7fcd.F0) (by decide) laws_markIdentS_s7fcd_step a hn 1 (by decide) (by omega) (fun x1 x2 => some (x1, x2))
theorem laws_markIdentS_s7fcd_tot (a : (Vec (Int × Int))) (hn : a.n ≤ sN) (k : Nat) (h1 : 1 ≤ k) (h2 : k ≤ 17592186044416) : ∃ u : (Vec (Int × Int)), laws_markIdentS_s7fcd.F (k : Int) a = some (((k + 2 * a.n : Nat) : Int), u) := by
  have hs : sN = 1048576 := rfl
  have hm : mN = 4611686018000000000 := rfl
  obtain ⟨u, q1, q2, q3⟩ := markS (c := 2) (val := laws_markIdentS_s7fcd_val) (F0 := laws_markIdentS_s7fcd.F0) (by decide) laws_markIdentS_s7fcd_step a hn k h1 (by omega) (fun x1 x2 => some (x1, x2))
  refine ⟨u, ?_⟩
  rw [laws_markIdentS_s7fcd.F, laws_markIdentS_s7fcd.B]
  exact q3
theorem laws_heldIdentS_step (f k i : Nat) (v : (Vec (Int × Int))) (K0 Kr : Int → Option Int) (hk1 : 1 ≤ k) (hk2 : k + 2 * (v.n - i) ≤ mN) (hn : v.n ≤ sN) (hv : i < v.n → v.g i = laws_markIdentS_s7fcd_val (k : Int)) : laws_heldIdentS.F0 (f + 1) v (k : Int) (i : Int) K0 Kr = if i < v.n then laws_heldIdentS.F0 f v ((k + 2 : Nat) : Int) ((i + 1 : Nat) : Int) K0 Kr else K0 (k : Int) := by
  have hs : sN = 1048576 := rfl
  have hm : mN = 4611686018000000000 := rfl
  by_cases hi : i < v.n
  · have hle : 2 ≤ 2 * (v.n - i) := by omega
    have w0 : wr ((k : Int) + 1) = ((k + 1 : Nat) : Int) := wr_small (by omega) (by omega)
    have w1 : wr (((k + 1 : Nat) : Int) + 1) = ((k + 2 : Nat) : Int) := wr_small (by omega) (by omega)
    have z1 : wr ((k + 1 : Nat) : Int) = ((k + 1 : Nat) : Int) := wr_small (by omega) (by omega)
    have z2 : wr ((k + 2 : Nat) : Int) = ((k + 2 : Nat) : Int) := wr_small (by omega) (by omega)
    have c1 : (k : Int) + 1 = ((k + 1 : Nat) : Int) := by omega
    have c2 : (k : Int) + 2 = ((k + 2 : Nat) : Int) := by omega
    have wi : wr ((i : Int) + 1) = ((i + 1 : Nat) : Int) := wr_small (by omega) (by omega)
    have hg := hv hi
    simp only [laws_markIdentS_s7fcd_val, c1] at hg
    simp only [laws_heldIdentS.F0, laws_heldIdentS.B0, selb, chkb, hi, wi, Vec.set_set, Vec.set_g, Vec.set_n, if_true, laws_markIdentS_s7fcd_val, w0, w1, z1, z2, c1, c2, Int.toNat_natCast, Int.ofNat_lt, Int.natCast_nonneg, true_and, decide_true, Option.bind_some, Bool.not_true, Bool.false_eq_true, if_false, hg]
  · simp [laws_heldIdentS.F0, laws_heldIdentS.B0, selb, hi]
theorem laws_heldIdentS_hold (u : (Vec (Int × Int))) (hn : u.n ≤ sN) (hu : ∀ t, t < u.n → u.g t = laws_markIdentS_s7fcd_val ((1 + 2 * t : Nat) : Int)) : laws_heldIdentS.F0 fuelN u ((1 : Nat) : Int) 0 (fun x1 => some x1) (fun x1 => some x1) = some ((1 + 2 * u.n : Nat) : Int) := by
  have hs : sN = 1048576 := rfl
  have hm : mN = 4611686018000000000 := rfl
  exact heldS (c := 2) (val := laws_markIdentS_s7fcd_val) (F0 := laws_heldIdentS.F0) (by decide) laws_heldIdentS_step u hn 1 (by decide) (by omega) hu (fun x1 => some x1) (fun x1 => some x1)
theorem laws_markIdentS_s7fcd_ok : MarkOk (A := (Vec (Int × Int))) laws_markIdentS_s7fcd.F laws_heldIdentS.F := by
  rintro a ⟨hn, -⟩
  obtain ⟨u, h1, h2, h3⟩ := laws_markIdentS_s7fcd_lay a hn
  have h4 := laws_heldIdentS_hold u (by omega) (by rw [h1]; exact h2)
  rw [show ((1 : Nat) : Int) = 1 from rfl] at h3 h4
  refine ⟨((1 + 2 * a.n : Nat) : Int), u, ?_, by omega, ?_⟩
  · rw [laws_markIdentS_s7fcd.F, laws_markIdentS_s7fcd.B]
    exact h3
  · rw [laws_heldIdentS.F, laws_heldIdentS.B, ← h1]
    exact h4
theorem laws_markIntS_s68b2_mk : MkOk (A := (Vec Int)) (1 * sN) laws_markIntS_s68b2.F laws_heldIntS.F := mk_flat (by decide) (M0 := laws_markIntS_s68b2.F0) (H0 := laws_heldIntS.F0) laws_markIntS_s68b2_step laws_heldIntS_step (fun k v => by rw [laws_markIntS_s68b2.F, laws_markIntS_s68b2.B]) (fun v k => by rw [laws_heldIntS.F, laws_heldIntS.B])
theorem laws_markIntSS_s45a1_mk : MkOk (A := (Vec (Vec Int))) (sN * (1 * sN)) laws_markIntSS_s45a1.F laws_heldIntSS.F := by
  have hs : sN = 1048576 := rfl
  have hm : mN = 4611686018000000000 := rfl
  refine mkHS (b := 1 * sN) (M0 := laws_markIntSS_s45a1.F0) (H0 := laws_heldIntSS.F0) ?_ ?_ ?_ (fun k v => by rw [laws_markIntSS_s45a1.F, laws_markIntSS_s45a1.B]) (fun v k => by rw [laws_heldIntSS.F, laws_heldIntSS.B])
  · intro f k i v K0 hi hn hsm hk1 hk2
    have s0 := hsm
    obtain ⟨c0, u0, d0, e0, g0⟩ := laws_markIntS_s68b2_mk (v.g i) s0 (k) (by omega) (by omega)
    have hk : k + (c0) = k + c0 := by omega
    refine ⟨c0, u0, by omega, ?_, ?_⟩
    · simp only [laws_markIntSS_s45a1.F0, laws_markIntSS_s45a1.B0, selb, chkb, decide_eq_true_eq, Int.toNat_natCast, Int.ofNat_lt, Int.natCast_nonneg, true_and, Vec.set_set, Vec.set_g, Vec.set_n, if_true, if_pos hi, Option.bind_some, decide_true, Bool.not_true, Bool.false_eq_true, if_false, beq_self_eq_true, e0, wr_succ (i := i) (by omega)]
      try simp only [hi, decide_true, if_true, hk]
    · intro f u L0 Lr hi hn hu
      have p0 : ¬ (((k + c0 : Nat) : Int) < 0) := by omega
      simp only [laws_heldIntSS.F0, laws_heldIntSS.B0, selb, chkb, decide_eq_true_eq, Int.toNat_natCast, Int.ofNat_lt, Int.natCast_nonneg, true_and, Vec.set_set, Vec.set_g, Vec.set_n, if_true, if_pos hi, Option.bind_some, decide_true, Bool.not_true, Bool.false_eq_true, if_false, beq_self_eq_true, hu, g0, p0, wr_succ (i := i) (by omega), hk]
  · intro f k i v K0 hi
    simp only [laws_markIntSS_s45a1.F0, laws_markIntSS_s45a1.B0, selb, decide_eq_true_eq, Int.ofNat_lt, if_neg hi]
  · intro f k i v L0 Lr hi
    simp only [laws_heldIntSS.F0, laws_heldIntSS.B0, selb, decide_eq_true_eq, Int.ofNat_lt, if_neg hi]
theorem laws_markStringS_s1401_mk : MkOk (A := (Vec ByteArray)) (1 * sN) laws_markStringS_s1401.F laws_heldStringS.F := mk_flat (by decide) (M0 := laws_markStringS_s1401.F0) (H0 := laws_heldStringS.F0) laws_markStringS_s1401_step laws_heldStringS_step (fun k v => by rw [laws_markStringS_s1401.F, laws_markStringS_s1401.B]) (fun v k => by rw [laws_heldStringS.F, laws_heldStringS.B])
theorem laws_markStringSS_sc740_mk : MkOk (A := (Vec (Vec ByteArray))) (sN * (1 * sN)) laws_markStringSS_sc740.F laws_heldStringSS.F := by
  have hs : sN = 1048576 := rfl
  have hm : mN = 4611686018000000000 := rfl
  refine mkHS (b := 1 * sN) (M0 := laws_markStringSS_sc740.F0) (H0 := laws_heldStringSS.F0) ?_ ?_ ?_ (fun k v => by rw [laws_markStringSS_sc740.F, laws_markStringSS_sc740.B]) (fun v k => by rw [laws_heldStringSS.F, laws_heldStringSS.B])
  · intro f k i v K0 hi hn hsm hk1 hk2
    have s0 := hsm
    obtain ⟨c0, u0, d0, e0, g0⟩ := laws_markStringS_s1401_mk (v.g i) s0 (k) (by omega) (by omega)
    have hk : k + (c0) = k + c0 := by omega
    refine ⟨c0, u0, by omega, ?_, ?_⟩
    · simp only [laws_markStringSS_sc740.F0, laws_markStringSS_sc740.B0, selb, chkb, decide_eq_true_eq, Int.toNat_natCast, Int.ofNat_lt, Int.natCast_nonneg, true_and, Vec.set_set, Vec.set_g, Vec.set_n, if_true, if_pos hi, Option.bind_some, decide_true, Bool.not_true, Bool.false_eq_true, if_false, beq_self_eq_true, e0, wr_succ (i := i) (by omega)]
      try simp only [hi, decide_true, if_true, hk]
    · intro f u L0 Lr hi hn hu
      have p0 : ¬ (((k + c0 : Nat) : Int) < 0) := by omega
      simp only [laws_heldStringSS.F0, laws_heldStringSS.B0, selb, chkb, decide_eq_true_eq, Int.toNat_natCast, Int.ofNat_lt, Int.natCast_nonneg, true_and, Vec.set_set, Vec.set_g, Vec.set_n, if_true, if_pos hi, Option.bind_some, decide_true, Bool.not_true, Bool.false_eq_true, if_false, beq_self_eq_true, hu, g0, p0, wr_succ (i := i) (by omega), hk]
  · intro f k i v K0 hi
    simp only [laws_markStringSS_sc740.F0, laws_markStringSS_sc740.B0, selb, decide_eq_true_eq, Int.ofNat_lt, if_neg hi]
  · intro f k i v L0 Lr hi
    simp only [laws_heldStringSS.F0, laws_heldStringSS.B0, selb, decide_eq_true_eq, Int.ofNat_lt, if_neg hi]
theorem laws_markIdentS_s7fcd_mk : MkOk (A := (Vec (Int × Int))) (2 * sN) laws_markIdentS_s7fcd.F laws_heldIdentS.F := mk_flat (by decide) (M0 := laws_markIdentS_s7fcd.F0) (H0 := laws_heldIdentS.F0) laws_markIdentS_s7fcd_step laws_heldIdentS_step (fun k v => by rw [laws_markIdentS_s7fcd.F, laws_markIdentS_s7fcd.B]) (fun v k => by rw [laws_heldIdentS.F, laws_heldIdentS.B])
theorem laws_markIdentSS_s400b_mk : MkOk (A := (Vec (Vec (Int × Int)))) (sN * (2 * sN)) laws_markIdentSS_s400b.F laws_heldIdentSS.F := by
  have hs : sN = 1048576 := rfl
  have hm : mN = 4611686018000000000 := rfl
  refine mkHS (b := 2 * sN) (M0 := laws_markIdentSS_s400b.F0) (H0 := laws_heldIdentSS.F0) ?_ ?_ ?_ (fun k v => by rw [laws_markIdentSS_s400b.F, laws_markIdentSS_s400b.B]) (fun v k => by rw [laws_heldIdentSS.F, laws_heldIdentSS.B])
  · intro f k i v K0 hi hn hsm hk1 hk2
    have s0 := hsm
    obtain ⟨c0, u0, d0, e0, g0⟩ := laws_markIdentS_s7fcd_mk (v.g i) s0 (k) (by omega) (by omega)
    have hk : k + (c0) = k + c0 := by omega
    refine ⟨c0, u0, by omega, ?_, ?_⟩
    · simp only [laws_markIdentSS_s400b.F0, laws_markIdentSS_s400b.B0, selb, chkb, decide_eq_true_eq, Int.toNat_natCast, Int.ofNat_lt, Int.natCast_nonneg, true_and, Vec.set_set, Vec.set_g, Vec.set_n, if_true, if_pos hi, Option.bind_some, decide_true, Bool.not_true, Bool.false_eq_true, if_false, beq_self_eq_true, e0, wr_succ (i := i) (by omega)]
      try simp only [hi, decide_true, if_true, hk]
    · intro f u L0 Lr hi hn hu
      have p0 : ¬ (((k + c0 : Nat) : Int) < 0) := by omega
      simp only [laws_heldIdentSS.F0, laws_heldIdentSS.B0, selb, chkb, decide_eq_true_eq, Int.toNat_natCast, Int.ofNat_lt, Int.natCast_nonneg, true_and, Vec.set_set, Vec.set_g, Vec.set_n, if_true, if_pos hi, Option.bind_some, decide_true, Bool.not_true, Bool.false_eq_true, if_false, beq_self_eq_true, hu, g0, p0, wr_succ (i := i) (by omega), hk]
  · intro f k i v K0 hi
    simp only [laws_markIdentSS_s400b.F0, laws_markIdentSS_s400b.B0, selb, decide_eq_true_eq, Int.ofNat_lt, if_neg hi]
  · intro f k i v L0 Lr hi
    simp only [laws_heldIdentSS.F0, laws_heldIdentSS.B0, selb, decide_eq_true_eq, Int.ofNat_lt, if_neg hi]
theorem laws_markPlain_sa1d2_mk : MkOk (A := ((Vec (Vec Int)) × (Vec (Vec ByteArray)) × (Vec (Vec (Int × Int))))) (sN * (1 * sN) + sN * (1 * sN) + sN * (2 * sN)) (fun k a => laws_markPlain_sa1d2.F k a.1 a.2.1 a.2.2) (fun a k => laws_heldPlain.F a.1 a.2.1 a.2.2 k) := by
  rintro a ⟨s0, s1, s2⟩ k hk1 hk2
  have hs : sN = 1048576 := rfl
  have hm : mN = 4611686018000000000 := rfl
  obtain ⟨c0, u0, d0, e0, g0⟩ := laws_markIntSS_s45a1_mk a.1 s0 (k) (by omega) (by omega)
  obtain ⟨c1, u1, d1, e1, g1⟩ := laws_markStringSS_sc740_mk a.2.1 s1 (k + c0) (by omega) (by omega)
  obtain ⟨c2, u2, d2, e2, g2⟩ := laws_markIdentSS_s400b_mk a.2.2 s2 (k + c0 + c1) (by omega) (by omega)
  have hk : k + (c0 + c1 + c2) = k + c0 + c1 + c2 := by omega
  refine ⟨c0 + c1 + c2, (u0, u1, u2), by omega, ?_, ?_⟩
  · simp only [laws_markPlain_sa1d2.F, laws_markPlain_sa1d2.B, Option.bind_some, e0, e1, e2, hk]
  · have p0 : ¬ (((k + c0 : Nat) : Int) < 0) := by omega
    have p1 : ¬ (((k + c0 + c1 : Nat) : Int) < 0) := by omega
    have p2 : ¬ (((k + c0 + c1 + c2 : Nat) : Int) < 0) := by omega
    simp only [laws_heldPlain.F, laws_heldPlain.B, selb, decide_eq_true_eq, if_false, Option.bind_some, g0, g1, g2, p0, p1, p2, hk]
end Go.Al
