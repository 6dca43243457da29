import Derived.Test.YtahffnkphppgoaaGreatAlH
import Derived.Test.YtahffnkphppgoaaGreatGMergeAt
import Derived.Test.YtahffnkphppgoaaGreatSStoreOk
set_option linter.unusedVariables false
set_option linter.unusedSimpArgs false
set_option linter.constructorNameAsVariable false
set_option linter.unusedSectionVars false
namespace Go.Al
theorem laws_eqStringS_ok : SimOk (A := (Vec ByteArray)) laws_eqStringS.F := simS (C := fun a b => some (decide (a = b))) (sim_free (fun _ _ h => h) fun _ => by simp) (F0 := laws_eqStringS.F0) (fun k v w i K0 Kr => rfl) (fun v w => by simp only [laws_eqStringS.F, laws_eqStringS.B])
theorem laws_eqRegion_ok : SimOk (A := (Bool × (Vec ByteArray) × (Vec ByteArray) × (Vec ByteArray))) fun a b => laws_eqRegion.F a.1 a.2.1 a.2.2.1 a.2.2.2 b.1 b.2.1 b.2.2.1 b.2.2.2 := by
  rintro a b ⟨h0, h1, h2, h3⟩ ⟨s0, s1, s2, s3⟩
  have e1_0 : a.1 = b.1 := s0
  have e2 := laws_eqStringS_ok a.2.1 b.2.1 h1 s1
  have e3 := laws_eqStringS_ok a.2.2.1 b.2.2.1 h2 s2
  have e4 := laws_eqStringS_ok a.2.2.2 b.2.2.2 h3 s3
  simp [laws_eqRegion.F, laws_eqRegion.B, selb, e1_0, e2, e3, e4]
theorem laws_eqRegionS_ok : SimOk (A := (Vec (Bool × (Vec ByteArray) × (Vec ByteArray) × (Vec ByteArray)))) laws_eqRegionS.F := simS (C := fun a b => laws_eqRegion.F a.1 a.2.1 a.2.2.1 a.2.2.2 b.1 b.2.1 b.2.2.1 b.2.2.2) laws_eqRegion_ok (F0 := laws_eqRegionS.F0) (fun k v w i K0 Kr => rfl) (fun v w => by simp only [laws_eqRegionS.F, laws_eqRegionS.B])
theorem laws_markText_ok (k : Nat) (h1 : 1 ≤ k) (h2 : k ≤ mN) : ∃ b, laws_markText.F (k : Int) = some b :=
  mark_text (F0 := laws_markText.F0) (fun k v1 v2 K0 => rfl) (F := laws_markText.F) (fun a1 => by simp only [laws_markText.F, laws_markText.B]) k h1 h2
noncomputable def mT (k : Int) : ByteArray := (laws_markText.F k).getD ByteArray.empty
theorem mT_eq (k : Nat) (h1 : 1 ≤ k) (h2 : k ≤ mN) : laws_markText.F (k : Int) = some (mT k) := by
  obtain ⟨b, h⟩ := laws_markText_ok k h1 h2
  have e : mT (k : Int) = b := by
    unfold mT
    rw [h, Option.getD_some]
  rw [e]
  exact h
noncomputable def laws_markIntS_s68b2_val (k : Int) : Int := k
theorem laws_markIntS_s68b2_step (f k i : Nat) (v : (Vec Int)) (K0 : Int → (Vec Int) → Option (Int × (Vec Int))) (hk1 : 1 ≤ k) (hk2 : k + 1 * (v.n - i) ≤ mN) (hn : v.n ≤ sN) : laws_markIntS_s68b2.F0 (f + 1) (k : Int) (i : Int) v K0 = if i < v.n then laws_markIntS_s68b2.F0 f ((k + 1 : Nat) : Int) ((i + 1 : Nat) : Int) (v.set i (laws_markIntS_s68b2_val (k : Int))) K0 else K0 (k : Int) v := by
  have hs : sN = 1048576 := rfl
  have hm : mN = 4611686018000000000 := rfl
  by_cases hi : i < v.n
  · have hle : 1 ≤ 1 * (v.n - i) := by omega
    have w0 : wr ((k : Int) + 1) = ((k + 1 : Nat) : Int) := zQ (by omega) (by omega)
    have z1 : wr ((k + 1 : Nat) : Int) = ((k + 1 : Nat) : Int) := zQ (by omega) (by omega)
    have c1 : (k : Int) + 1 = ((k + 1 : Nat) : Int) := by omega
    have wi : wr ((i : Int) + 1) = ((i + 1 : Nat) : Int) := zQ (by omega) (by omega)
    simp only [laws_markIntS_s68b2.F0, laws_markIntS_s68b2.B0, selb, chkb, hi, wi, Vec.set_set, Vec.set_g, Vec.set_n, if_true, laws_markIntS_s68b2_val, w0, z1, c1, Int.toNat_natCast, Int.ofNat_lt, Int.natCast_nonneg, true_and, decide_true, Option.bind_some, Bool.not_true, Bool.false_eq_true, if_false]
  · simp [laws_markIntS_s68b2.F0, laws_markIntS_s68b2.B0, selb, hi]
noncomputable def laws_markNameS_s0773_val (k : Int) : (ByteArray × Int × Int) := (mT k, k + 1, k + 2)
theorem laws_markNameS_s0773_step (f k i : Nat) (v : (Vec (ByteArray × Int × Int))) (K0 : Int → (Vec (ByteArray × Int × Int)) → Option (Int × (Vec (ByteArray × Int × Int)))) (hk1 : 1 ≤ k) (hk2 : k + 3 * (v.n - i) ≤ mN) (hn : v.n ≤ sN) : laws_markNameS_s0773.F0 (f + 1) (k : Int) (i : Int) v K0 = if i < v.n then laws_markNameS_s0773.F0 f ((k + 3 : Nat) : Int) ((i + 1 : Nat) : Int) (v.set i (laws_markNameS_s0773_val (k : Int))) K0 else K0 (k : Int) v := by
  have hs : sN = 1048576 := rfl
  have hm : mN = 4611686018000000000 := rfl
  by_cases hi : i < v.n
  · have hle : 3 ≤ 3 * (v.n - i) := by omega
    have e0 := mT_eq (k) (by omega) (by omega)
    have w0 : wr ((k : Int) + 1) = ((k + 1 : Nat) : Int) := zQ (by omega) (by omega)
    have w1 : wr (((k + 1 : Nat) : Int) + 1) = ((k + 2 : Nat) : Int) := zQ (by omega) (by omega)
    have w2 : wr (((k + 2 : Nat) : Int) + 1) = ((k + 3 : Nat) : Int) := zQ (by omega) (by omega)
    have z1 : wr ((k + 1 : Nat) : Int) = ((k + 1 : Nat) : Int) := zQ (by omega) (by omega)
    have z2 : wr ((k + 2 : Nat) : Int) = ((k + 2 : Nat) : Int) := zQ (by omega) (by omega)
    have z3 : wr ((k + 3 : Nat) : Int) = ((k + 3 : Nat) : Int) := zQ (by omega) (by omega)
    have c1 : (k : Int) + 1 = ((k + 1 : Nat) : Int) := by omega
    have c2 : (k : Int) + 2 = ((k + 2 : Nat) : Int) := by omega
    have c3 : (k : Int) + 3 = ((k + 3 : Nat) : Int) := by omega
    have wi : wr ((i : Int) + 1) = ((i + 1 : Nat) : Int) := zQ (by omega) (by omega)
    simp only [laws_markNameS_s0773.F0, laws_markNameS_s0773.B0, selb, chkb, hi, wi, Vec.set_set, Vec.set_g, Vec.set_n, if_true, laws_markNameS_s0773_val, e0, w0, w1, w2, z1, z2, z3, c1, c2, c3, Int.toNat_natCast, Int.ofNat_lt, Int.natCast_nonneg, true_and, decide_true, Option.bind_some, Bool.not_true, Bool.false_eq_true, if_false]
  · simp [laws_markNameS_s0773.F0, laws_markNameS_s0773.B0, selb, hi]
noncomputable def laws_markStringS_s1401_val (k : Int) : ByteArray := mT k
theorem laws_markStringS_s1401_step (f k i : Nat) (v : (Vec ByteArray)) (K0 : Int → (Vec ByteArray) → Option (Int × (Vec ByteArray))) (hk1 : 1 ≤ k) (hk2 : k + 1 * (v.n - i) ≤ mN) (hn : v.n ≤ sN) : laws_markStringS_s1401.F0 (f + 1) (k : Int) (i : Int) v K0 = if i < v.n then laws_markStringS_s1401.F0 f ((k + 1 : Nat) : Int) ((i + 1 : Nat) : Int) (v.set i (laws_markStringS_s1401_val (k : Int))) K0 else K0 (k : Int) v := by
  have hs : sN = 1048576 := rfl
  have hm : mN = 4611686018000000000 := rfl
  by_cases hi : i < v.n
  · have hle : 1 ≤ 1 * (v.n - i) := by omega
    have e0 := mT_eq (k) (by omega) (by omega)
    have w0 : wr ((k : Int) + 1) = ((k + 1 : Nat) : Int) := zQ (by omega) (by omega)
    have z1 : wr ((k + 1 : Nat) : Int) = ((k + 1 : Nat) : Int) := zQ (by omega) (by omega)
    have c1 : (k : Int) + 1 = ((k + 1 : Nat) : Int) := by omega
    have wi : wr ((i : Int) + 1) = ((i + 1 : Nat) : Int) := zQ (by omega) (by omega)
    simp only [laws_markStringS_s1401.F0, laws_markStringS_s1401.B0, selb, chkb, hi, wi, Vec.set_set, Vec.set_g, Vec.set_n, if_true, laws_markStringS_s1401_val, e0, w0, z1, c1, Int.toNat_natCast, Int.ofNat_lt, Int.natCast_nonneg, true_and, decide_true, Option.bind_some, Bool.not_true, Bool.false_eq_true, if_false]
  · simp [laws_markStringS_s1401.F0, laws_markStringS_s1401.B0, selb, hi]
theorem laws_heldStringS_step (f k i : Nat) (v : (Vec ByteArray)) (K0 Kr : Int → Option Int) (hk1 : 1 ≤ k) (hk2 : k + 1 * (v.n - i) ≤ mN) (hn : v.n ≤ sN) (hv : i < v.n → v.g i = laws_markStringS_s1401_val (k : Int)) : laws_heldStringS.F0 (f + 1) v (k : Int) (i : Int) K0 Kr = if i < v.n then laws_heldStringS.F0 f v ((k + 1 : Nat) : Int) ((i + 1 : Nat) : Int) K0 Kr else K0 (k : Int) := by
  have hs : sN = 1048576 := rfl
  have hm : mN = 4611686018000000000 := rfl
  by_cases hi : i < v.n
  · have hle : 1 ≤ 1 * (v.n - i) := by omega
    have e0 := mT_eq (k) (by omega) (by omega)
    have w0 : wr ((k : Int) + 1) = ((k + 1 : Nat) : Int) := zQ (by omega) (by omega)
    have z1 : wr ((k + 1 : Nat) : Int) = ((k + 1 : Nat) : Int) := zQ (by omega) (by omega)
    have c1 : (k : Int) + 1 = ((k + 1 : Nat) : Int) := by omega
    have wi : wr ((i : Int) + 1) = ((i + 1 : Nat) : Int) := zQ (by omega) (by omega)
    have hg := hv hi
    simp only [laws_markStringS_s1401_val] at hg
    simp only [laws_heldStringS.F0, laws_heldStringS.B0, selb, chkb, hi, wi, Vec.set_set, Vec.set_g, Vec.set_n, if_true, laws_markStringS_s1401_val, e0, w0, z1, c1, Int.toNat_natCast, Int.ofNat_lt, Int.natCast_nonneg, true_and, decide_true, Option.bind_some, Bool.not_true, Bool.false_eq_true, if_false, hg]
  · simp [laws_heldStringS.F0, laws_heldStringS.B0, selb, hi]
theorem laws_markIntS_s68b2_mt : MkTot (A := (Vec Int)) (1 * sN) laws_markIntS_s68b2.F := mt_flat (by decide) (M0 := laws_markIntS_s68b2.F0) laws_markIntS_s68b2_step (fun k v => by rw [laws_markIntS_s68b2.F, laws_markIntS_s68b2.B])
theorem laws_markNameS_s0773_mt : MkTot (A := (Vec (ByteArray × Int × Int))) (3 * sN) laws_markNameS_s0773.F := mt_flat (by decide) (M0 := laws_markNameS_s0773.F0) laws_markNameS_s0773_step (fun k v => by rw [laws_markNameS_s0773.F, laws_markNameS_s0773.B])
theorem laws_markCommitS_sffd8_mt : MkTot (A := (Vec ((Vec Int) × ByteArray × (Vec (ByteArray × Int × Int))))) (sN * (1 * sN + 1 + 3 * sN)) laws_markCommitS_sffd8.F := by
  have hs : sN = 1048576 := rfl
  have hm : mN = 4611686018000000000 := rfl
  refine mkTS (b := 1 * sN + 1 + 3 * sN) (M0 := laws_markCommitS_sffd8.F0) ?_ ?_ (fun k v => by rw [laws_markCommitS_sffd8.F, laws_markCommitS_sffd8.B])
  · intro f k i v K0 hi hn hsm hk1 hk2
    obtain ⟨s0, s1, s2⟩ := hsm
    obtain ⟨c0, u0, d0, e0⟩ := laws_markIntS_s68b2_mt (v.g i).1 s0 (k) (by omega) (by omega)
    have w1 : wr (((k + c0 : Nat) : Int) + 1) = ((k + c0 + 1 : Nat) : Int) := zQ (by omega) (by omega)
    have e1 := mT_eq (k + c0) (by omega) (by omega)
    obtain ⟨c2, u2, d2, e2⟩ := laws_markNameS_s0773_mt (v.g i).2.2 s2 (k + c0 + 1) (by omega) (by omega)
    have hk : k + (c0 + 1 + c2) = k + c0 + 1 + c2 := by omega
    refine ⟨c0 + 1 + c2, (u0, mT ((k + c0 : Nat) : Int), u2), by omega, ?_⟩
    · simp only [laws_markCommitS_sffd8.F0, laws_markCommitS_sffd8.B0, selb, chkb, decide_eq_true_eq, Int.toNat_natCast, Int.ofNat_lt, Int.natCast_nonneg, true_and, Vec.set_set, Vec.set_g, Vec.set_n, if_true, if_pos hi, Option.bind_some, decide_true, Bool.not_true, Bool.false_eq_true, if_false, beq_self_eq_true, e0, w1, e1, e2, zK (i := i) (by omega)]
      try simp only [hi, decide_true, if_true, hk]
  · intro f k i v K0 hi
    simp only [laws_markCommitS_sffd8.F0, laws_markCommitS_sffd8.B0, selb, decide_eq_true_eq, Int.ofNat_lt, if_neg hi]
theorem laws_markIntSS_s45a1_mt : MkTot (A := (Vec (Vec Int))) (sN * (1 * sN)) laws_markIntSS_s45a1.F := by
  have hs : sN = 1048576 := rfl
  have hm : mN = 4611686018000000000 := rfl
  refine mkTS (b := 1 * sN) (M0 := laws_markIntSS_s45a1.F0) ?_ ?_ (fun k v => by rw [laws_markIntSS_s45a1.F, laws_markIntSS_s45a1.B])
  · intro f k i v K0 hi hn hsm hk1 hk2
    have s0 := hsm
    obtain ⟨c0, u0, d0, e0⟩ := laws_markIntS_s68b2_mt (v.g i) s0 (k) (by omega) (by omega)
    have hk : k + (c0) = k + c0 := by omega
    refine ⟨c0, u0, by omega, ?_⟩
    · simp only [laws_markIntSS_s45a1.F0, laws_markIntSS_s45a1.B0, selb, chkb, decide_eq_true_eq, Int.toNat_natCast, Int.ofNat_lt, Int.natCast_nonneg, true_and, Vec.set_set, Vec.set_g, Vec.set_n, if_true, if_pos hi, Option.bind_some, decide_true, Bool.not_true, Bool.false_eq_true, if_false, beq_self_eq_true, e0, zK (i := i) (by omega)]
      try simp only [hi, decide_true, if_true, hk]
  · intro f k i v K0 hi
    simp only [laws_markIntSS_s45a1.F0, laws_markIntSS_s45a1.B0, selb, decide_eq_true_eq, Int.ofNat_lt, if_neg hi]
theorem laws_markBodyS_s669a_mt : MkTot (A := (Vec (ByteArray × Int × Int × (Vec Int)))) (sN * (1 + 1 + 1 + 1 * sN)) laws_markBodyS_s669a.F := by
  have hs : sN = 1048576 := rfl
  have hm : mN = 4611686018000000000 := rfl
  refine mkTS (b := 1 + 1 + 1 + 1 * sN) (M0 := laws_markBodyS_s669a.F0) ?_ ?_ (fun k v => by rw [laws_markBodyS_s669a.F, laws_markBodyS_s669a.B])
  · intro f k i v K0 hi hn hsm hk1 hk2
    obtain ⟨s0, s1, s2, s3⟩ := hsm
    have w0 : wr ((k : Int) + 1) = ((k + 1 : Nat) : Int) := zQ (by omega) (by omega)
    have e0 := mT_eq (k) (by omega) (by omega)
    have w1 : wr (((k + 1 : Nat) : Int) + 1) = ((k + 1 + 1 : Nat) : Int) := zQ (by omega) (by omega)
    have w2 : wr (((k + 1 + 1 : Nat) : Int) + 1) = ((k + 1 + 1 + 1 : Nat) : Int) := zQ (by omega) (by omega)
    obtain ⟨c3, u3, d3, e3⟩ := laws_markIntS_s68b2_mt (v.g i).2.2.2 s3 (k + 1 + 1 + 1) (by omega) (by omega)
    have hk : k + (1 + 1 + 1 + c3) = k + 1 + 1 + 1 + c3 := by omega
    refine ⟨1 + 1 + 1 + c3, (mT (k : Int), ((k + 1 : Nat) : Int), ((k + 1 + 1 : Nat) : Int), u3), by omega, ?_⟩
    · simp only [laws_markBodyS_s669a.F0, laws_markBodyS_s669a.B0, selb, chkb, decide_eq_true_eq, Int.toNat_natCast, Int.ofNat_lt, Int.natCast_nonneg, true_and, Vec.set_set, Vec.set_g, Vec.set_n, if_true, if_pos hi, Option.bind_some, decide_true, Bool.not_true, Bool.false_eq_true, if_false, beq_self_eq_true, w0, e0, w1, w2, e3, zK (i := i) (by omega)]
      try simp only [hi, decide_true, if_true, hk]
  · intro f k i v K0 hi
    simp only [laws_markBodyS_s669a.F0, laws_markBodyS_s669a.B0, selb, decide_eq_true_eq, Int.ofNat_lt, if_neg hi]
theorem laws_markWeaveS_s5cec_mt : MkTot (A := (Vec ((Vec (Vec Int)) × (Vec (ByteArray × Int × Int × (Vec Int)))))) (sN * (sN * (1 * sN) + sN * (1 + 1 + 1 + 1 * sN))) laws_markWeaveS_s5cec.F := by
  have hs : sN = 1048576 := rfl
  have hm : mN = 4611686018000000000 := rfl
  refine mkTS (b := sN * (1 * sN) + sN * (1 + 1 + 1 + 1 * sN)) (M0 := laws_markWeaveS_s5cec.F0) ?_ ?_ (fun k v => by rw [laws_markWeaveS_s5cec.F, laws_markWeaveS_s5cec.B])
  · intro f k i v K0 hi hn hsm hk1 hk2
    obtain ⟨s0, s1⟩ := hsm
    obtain ⟨c0, u0, d0, e0⟩ := laws_markIntSS_s45a1_mt (v.g i).1 s0 (k) (by omega) (by omega)
    obtain ⟨c1, u1, d1, e1⟩ := laws_markBodyS_s669a_mt (v.g i).2 s1 (k + c0) (by omega) (by omega)
    have hk : k + (c0 + c1) = k + c0 + c1 := by omega
    refine ⟨c0 + c1, (u0, u1), by omega, ?_⟩
    · simp only [laws_markWeaveS_s5cec.F0, laws_markWeaveS_s5cec.B0, selb, chkb, decide_eq_true_eq, Int.toNat_natCast, Int.ofNat_lt, Int.natCast_nonneg, true_and, Vec.set_set, Vec.set_g, Vec.set_n, if_true, if_pos hi, Option.bind_some, decide_true, Bool.not_true, Bool.false_eq_true, if_false, beq_self_eq_true, e0, e1, zK (i := i) (by omega)]
      try simp only [hi, decide_true, if_true, hk]
  · intro f k i v K0 hi
    simp only [laws_markWeaveS_s5cec.F0, laws_markWeaveS_s5cec.B0, selb, decide_eq_true_eq, Int.ofNat_lt, if_neg hi]
theorem laws_markStore_sd1d9_mt : MkTot (A := ((Vec ((Vec Int) × ByteArray × (Vec (ByteArray × Int × Int)))) × (Vec ((Vec (Vec Int)) × (Vec (ByteArray × Int × Int × (Vec Int))))))) (sN * (1 * sN + 1 + 3 * sN) + sN * (sN * (1 * sN) + sN * (1 + 1 + 1 + 1 * sN))) (fun k a => laws_markStore_sd1d9.F k a.1 a.2) := by
  rintro a ⟨s0, s1⟩ k hk1 hk2
  have hs : sN = 1048576 := rfl
  have hm : mN = 4611686018000000000 := rfl
  obtain ⟨c0, u0, d0, e0⟩ := laws_markCommitS_sffd8_mt a.1 s0 (k) (by omega) (by omega)
  obtain ⟨c1, u1, d1, e1⟩ := laws_markWeaveS_s5cec_mt a.2 s1 (k + c0) (by omega) (by omega)
  have hk : k + (c0 + c1) = k + c0 + c1 := by omega
  refine ⟨c0 + c1, (u0, u1), by omega, ?_⟩
  · simp only [laws_markStore_sd1d9.F, laws_markStore_sd1d9.B, Option.bind_some, e0, e1, hk]
theorem laws_markStringS_s1401_mk : MkOk (A := (Vec ByteArray)) (1 * sN) laws_markStringS_s1401.F laws_heldStringS.F := mk_flat (by decide) (M0 := laws_markStringS_s1401.F0) (H0 := laws_heldStringS.F0) laws_markStringS_s1401_step laws_heldStringS_step (fun k v => by rw [laws_markStringS_s1401.F, laws_markStringS_s1401.B]) (fun v k => by rw [laws_heldStringS.F, laws_heldStringS.B])
theorem laws_markRegionS_s11cf_mk : MkOk (A := (Vec (Bool × (Vec ByteArray) × (Vec ByteArray) × (Vec ByteArray)))) (sN * (1 + 1 * sN + 1 * sN + 1 * sN)) laws_markRegionS_s11cf.F laws_heldRegionS.F := by
  have hs : sN = 1048576 := rfl
  have hm : mN = 4611686018000000000 := rfl
  refine mkHS (b := 1 + 1 * sN + 1 * sN + 1 * sN) (M0 := laws_markRegionS_s11cf.F0) (H0 := laws_heldRegionS.F0) ?_ ?_ ?_ (fun k v => by rw [laws_markRegionS_s11cf.F, laws_markRegionS_s11cf.B]) (fun v k => by rw [laws_heldRegionS.F, laws_heldRegionS.B])
  · intro f k i v K0 hi hn hsm hk1 hk2
    obtain ⟨s0, s1, s2, s3⟩ := hsm
    have w0 : wr ((k : Int) + 1) = ((k + 1 : Nat) : Int) := zQ (by omega) (by omega)
    obtain ⟨c1, u1, d1, e1, g1⟩ := laws_markStringS_s1401_mk (v.g i).2.1 s1 (k + 1) (by omega) (by omega)
    obtain ⟨c2, u2, d2, e2, g2⟩ := laws_markStringS_s1401_mk (v.g i).2.2.1 s2 (k + 1 + c1) (by omega) (by omega)
    obtain ⟨c3, u3, d3, e3, g3⟩ := laws_markStringS_s1401_mk (v.g i).2.2.2 s3 (k + 1 + c1 + c2) (by omega) (by omega)
    have hk : k + (1 + c1 + c2 + c3) = k + 1 + c1 + c2 + c3 := by omega
    refine ⟨1 + c1 + c2 + c3, (decide (Int.tmod (k : Int) (3 : Int) = (0 : Int)), u1, u2, u3), by omega, ?_, ?_⟩
    · simp only [laws_markRegionS_s11cf.F0, laws_markRegionS_s11cf.B0, selb, chkb, decide_eq_true_eq, Int.toNat_natCast, Int.ofNat_lt, Int.natCast_nonneg, true_and, Vec.set_set, Vec.set_g, Vec.set_n, if_true, if_pos hi, Option.bind_some, decide_true, Bool.not_true, Bool.false_eq_true, if_false, beq_self_eq_true, w0, e1, e2, e3, zK (i := i) (by omega)]
      try simp only [hi, decide_true, if_true, hk]
    · intro f u L0 Lr hi hn hu
      have p1 : ¬ (((k + 1 + c1 : Nat) : Int) < 0) := by omega
      have p2 : ¬ (((k + 1 + c1 + c2 : Nat) : Int) < 0) := by omega
      have p3 : ¬ (((k + 1 + c1 + c2 + c3 : Nat) : Int) < 0) := by omega
      simp only [laws_heldRegionS.F0, laws_heldRegionS.B0, selb, chkb, decide_eq_true_eq, Int.toNat_natCast, Int.ofNat_lt, Int.natCast_nonneg, true_and, Vec.set_set, Vec.set_g, Vec.set_n, if_true, if_pos hi, Option.bind_some, decide_true, Bool.not_true, Bool.false_eq_true, if_false, beq_self_eq_true, hu, w0, g1, g2, g3, p1, p2, p3, zK (i := i) (by omega), hk]
  · intro f k i v K0 hi
    simp only [laws_markRegionS_s11cf.F0, laws_markRegionS_s11cf.B0, selb, decide_eq_true_eq, Int.ofNat_lt, if_neg hi]
  · intro f k i v L0 Lr hi
    simp only [laws_heldRegionS.F0, laws_heldRegionS.B0, selb, decide_eq_true_eq, Int.ofNat_lt, if_neg hi]
end Go.Al
