import Derived.Test.YtfghfdjecfkibaaAlH
import Derived.Test.YtfghfdjecfkibaaGPutRaw
set_option linter.unusedVariables false
set_option linter.unusedSimpArgs false
set_option linter.constructorNameAsVariable false
set_option linter.unusedSectionVars false
namespace Go.Al
theorem laws_szFile_ok : SzOk (A := (ByteArray × ByteArray)) fun a s => laws_szFile.F a.1 a.2 s := by
  rintro a s ⟨h0, h1⟩ hs0 hs1
  simp only [laws_szFile.F, laws_szFile.B]
  obtain ⟨e1, q1⟩ := sz_str a.1 (s) h0 (by omega) (by omega)
  simp only [e1]
  rw [selb]
  split
  · exact ⟨_, rfl, by omega⟩
  rename_i n1
  rw [decide_eq_true_eq] at n1
  obtain ⟨l1, s1⟩ := q1 (by omega)
  obtain ⟨e2, q2⟩ := sz_str a.2 (s - (a.1.size : Int)) h1 (by omega) (by omega)
  simp only [e2]
  rw [selb]
  split
  · exact ⟨_, rfl, by omega⟩
  rename_i n2
  rw [decide_eq_true_eq] at n2
  obtain ⟨l2, s2⟩ := q2 (by omega)
  exact ⟨_, rfl, fun _ => ⟨by omega, ⟨s1, s2⟩⟩⟩
theorem laws_szFileS_ok : SzOk (A := (Vec (ByteArray × ByteArray))) laws_szFileS.F := szS laws_szFile_ok (F0 := laws_szFileS.F0) (fun k v s i K0 Kr => rfl) (fun v s => by simp only [laws_szFileS.F, laws_szFileS.B])
theorem laws_szDisk_ok : SzOk (A := (Vec (ByteArray × ByteArray))) fun a s => laws_szDisk.F a s := by
  rintro a s h0 hs0 hs1
  simp only [laws_szDisk.F, laws_szDisk.B]
  obtain ⟨r1, e1, q1⟩ := laws_szFileS_ok a (s) h0 (by omega) (by omega)
  simp only [e1, Option.bind_some]
  rw [selb]
  split
  · exact ⟨_, rfl, by omega⟩
  rename_i n1
  rw [decide_eq_true_eq] at n1
  obtain ⟨l1, s1⟩ := q1 (by omega)
  exact ⟨_, rfl, fun _ => ⟨by omega, s1⟩⟩
theorem laws_szRaw_ok : SzOk (A := (Int × ByteArray × ByteArray × ByteArray)) fun a s => laws_szRaw.F a.1 a.2.1 a.2.2.1 a.2.2.2 s := by
  rintro a s ⟨h0, h1, h2, h3⟩ hs0 hs1
  simp only [laws_szRaw.F, laws_szRaw.B]
  obtain ⟨e2, q2⟩ := sz_str a.2.1 (s) h1 (by omega) (by omega)
  simp only [e2]
  rw [selb]
  split
  · exact ⟨_, rfl, by omega⟩
  rename_i n2
  rw [decide_eq_true_eq] at n2
  obtain ⟨l2, s2⟩ := q2 (by omega)
  obtain ⟨e3, q3⟩ := sz_str a.2.2.1 (s - (a.2.1.size : Int)) h2 (by omega) (by omega)
  simp only [e3]
  rw [selb]
  split
  · exact ⟨_, rfl, by omega⟩
  rename_i n3
  rw [decide_eq_true_eq] at n3
  obtain ⟨l3, s3⟩ := q3 (by omega)
  obtain ⟨e4, q4⟩ := sz_str a.2.2.2 (s - (a.2.1.size : Int) - (a.2.2.1.size : Int)) h3 (by omega) (by omega)
  simp only [e4]
  rw [selb]
  split
  · exact ⟨_, rfl, by omega⟩
  rename_i n4
  rw [decide_eq_true_eq] at n4
  obtain ⟨l4, s4⟩ := q4 (by omega)
  exact ⟨_, rfl, fun _ => ⟨by omega, ⟨(Free.free _ h0), s2, s3, s4⟩⟩⟩
theorem laws_toFile_ok : ToOk (A := (ByteArray × ByteArray)) fun a => laws_toFile.F a.1 a.2 := by
  rintro a ⟨h0, h1⟩
  simp only [laws_toFile.F, laws_toFile.B]
  exact ⟨_, rfl, ⟨h0, h1⟩⟩
theorem laws_toFileS_ok : ToOk (A := (Vec (ByteArray × ByteArray))) laws_toFileS.F := toS (B := fun n => mkOk n 32) (mk_small (by decide)) (z := (ByteArray.empty, ByteArray.empty)) (C := fun a => laws_toFile.F a.1 a.2) laws_toFile_ok (F0 := laws_toFileS.F0) (fun k v i u K0 => rfl) (fun v => by simp only [laws_toFileS.F, laws_toFileS.B, Int.toNat_natCast])
theorem laws_toDisk_ok : ToOk (A := (Vec (ByteArray × ByteArray))) fun a => laws_toDisk.F a := by
  rintro a h0
  simp only [laws_toDisk.F, laws_toDisk.B]
  obtain ⟨r1, e1, s1⟩ := laws_toFileS_ok a h0
  simp only [e1, Option.bind_some]
  exact ⟨_, rfl, s1⟩
theorem laws_toRaw_ok : ToOk (A := (Int × ByteArray × ByteArray × ByteArray)) fun a => laws_toRaw.F a.1 a.2.1 a.2.2.1 a.2.2.2 := by
  rintro a ⟨h0, h1, h2, h3⟩
  simp only [laws_toRaw.F, laws_toRaw.B]
  exact ⟨_, rfl, ⟨h0, h1, h2, h3⟩⟩
theorem laws_eqFile_ok : SimOk (A := (ByteArray × ByteArray)) fun a b => laws_eqFile.F a.1 a.2 b.1 b.2 := by
  rintro a b ⟨h0, h1⟩ ⟨s0, s1⟩
  have e1_0 : a.1 = b.1 := s0
  have e2_1 : a.2 = b.2 := s1
  simp [laws_eqFile.F, laws_eqFile.B, selb, e1_0, e2_1]
theorem laws_eqFileS_ok : SimOk (A := (Vec (ByteArray × ByteArray))) laws_eqFileS.F := simS (C := fun a b => laws_eqFile.F a.1 a.2 b.1 b.2) laws_eqFile_ok (F0 := laws_eqFileS.F0) (fun k v w i K0 Kr => rfl) (fun v w => by simp only [laws_eqFileS.F, laws_eqFileS.B])
theorem laws_eqDisk_ok : SimOk (A := (Vec (ByteArray × ByteArray))) fun a b => laws_eqDisk.F a b := by
  rintro a b h0 s0
  have e1 := laws_eqFileS_ok a b h0 s0
  simp [laws_eqDisk.F, laws_eqDisk.B, selb, e1]
theorem laws_markText_ok (k : Nat) (h1 : 1 ≤ k) (h2 : k ≤ mN) : ∃ b, laws_markText.F (k : Int) = some b :=
  mark_text (F0 := laws_markText.F0) (fun k v1 v2 K0 => rfl) (F := laws_markText.F) (fun a1 => by simp only [laws_markText.F, laws_markText.B]) k h1 h2
noncomputable def mT (k : Int) : ByteArray := (laws_markText.F k).getD ByteArray.empty
theorem mT_eq (k : Nat) (h1 : 1 ≤ k) (h2 : k ≤ mN) : laws_markText.F (k : Int) = some (mT k) := by
  obtain ⟨b, h⟩ := laws_markText_ok k h1 h2
  have e : mT (k : Int) = b := by
    unfold mT
    rw [h, Option.getD_some]
  rw [e]
  exact h
noncomputable def laws_markFileS_s3394_val (k : Int) : (ByteArray × ByteArray) := (mT k, mT (k + 1))
theorem laws_markFileS_s3394_step (f k i : Nat) (v : (Vec (ByteArray × ByteArray))) (K0 : Int → (Vec (ByteArray × ByteArray)) → Option (Int × (Vec (ByteArray × ByteArray)))) (hk1 : 1 ≤ k) (hk2 : k + 2 * (v.n - i) ≤ mN) (hn : v.n ≤ sN) : laws_markFileS_s3394.F0 (f + 1) (k : Int) (i : Int) v K0 = if i < v.n then laws_markFileS_s3394.F0 f ((k + 2 : Nat) : Int) ((i + 1 : Nat) : Int) (v.set i (laws_markFileS_s3394_val (k : Int))) K0 else K0 (k : Int) v := by
  have hs : sN = 1048576 := rfl
  have hm : mN = 1099511627776 := rfl
  by_cases hi : i < v.n
  · have hle : 2 ≤ 2 * (v.n - i) := by omega
    have e0 := mT_eq (k) (by omega) (by omega)
    have e1 := mT_eq (k + 1) (by omega) (by omega)
    have w0 : wr ((k : Int) + 1) = ((k + 1 : Nat) : Int) := wr_small (by omega) (by omega)
    have w1 : wr (((k + 1 : Nat) : Int) + 1) = ((k + 2 : Nat) : Int) := wr_small (by omega) (by omega)
    have z1 : wr ((k + 1 : Nat) : Int) = ((k + 1 : Nat) : Int) := wr_small (by omega) (by omega)
    have z2 : wr ((k + 2 : Nat) : Int) = ((k + 2 : Nat) : Int) := wr_small (by omega) (by omega)
    have c1 : (k : Int) + 1 = ((k + 1 : Nat) : Int) := by omega
    have c2 : (k : Int) + 2 = ((k + 2 : Nat) : Int) := by omega
    have wi : wr ((i : Int) + 1) = ((i + 1 : Nat) : Int) := wr_small (by omega) (by omega)
    simp only [laws_markFileS_s3394.F0, laws_markFileS_s3394.B0, selb, chkb, hi, wi, Vec.set_set, Vec.set_g, Vec.set_n, if_true, laws_markFileS_s3394_val, e0, e1, w0, w1, z1, z2, c1, c2, Int.toNat_natCast, Int.ofNat_lt, Int.natCast_nonneg, true_and, decide_true, Option.bind_some, Bool.not_true, Bool.false_eq_true, if_false]
  · simp [laws_markFileS_s3394.F0, laws_markFileS_s3394.B0, selb, hi]
theorem laws_markFileS_s3394_lay (a : (Vec (ByteArray × ByteArray))) (hn : a.n ≤ sN) : ∃ u : (Vec (ByteArray × ByteArray)), u.n = a.n ∧ (∀ t, t < a.n → u.g t = laws_markFileS_s3394_val ((1 + 2 * t : Nat) : Int)) ∧ laws_markFileS_s3394.F0 fuelN ((1 : Nat) : Int) 0 a (fun x1 x2 => some (x1, x2)) = some (((1 + 2 * a.n : Nat) : Int), u) := by
  have hs : sN = 1048576 := rfl
  have hm : mN = 1099511627776 := rfl
  exact markS (c := 2) (val := laws_markFileS_s3394_val) (F0 := laws_markFileS_s3394.F0) (by decide) laws_markFileS_s3394_step a hn 1 (by decide) (by omega) (fun x1 x2 => some (x1, x2))
theorem laws_markFileS_s3394_tot (a : (Vec (ByteArray × ByteArray))) (hn : a.n ≤ sN) (k : Nat) (h1 : 1 ≤ k) (h2 : k ≤ 274877906944) : ∃ u : (Vec (ByteArray × ByteArray)), laws_markFileS_s3394.F (k : Int) a = some (((k + 2 * a.n : Nat) : Int), u) := by
  have hs : sN = 1048576 := rfl
  have hm : mN = 1099511627776 := rfl
  obtain ⟨u, q1, q2, q3⟩ := markS (c := 2) (val := laws_markFileS_s3394_val) (F0 := laws_markFileS_s3394.F0) (by decide) laws_markFileS_s3394_step a hn k h1 (by omega) (fun x1 x2 => some (x1, x2))
  refine ⟨u, ?_⟩
  rw [laws_markFileS_s3394.F, laws_markFileS_s3394.B]
  exact q3
theorem laws_heldFileS_step (f k i : Nat) (v : (Vec (ByteArray × ByteArray))) (K0 Kr : Int → Option Int) (hk1 : 1 ≤ k) (hk2 : k + 2 * (v.n - i) ≤ mN) (hn : v.n ≤ sN) (hv : i < v.n → v.g i = laws_markFileS_s3394_val (k : Int)) : laws_heldFileS.F0 (f + 1) v (k : Int) (i : Int) K0 Kr = if i < v.n then laws_heldFileS.F0 f v ((k + 2 : Nat) : Int) ((i + 1 : Nat) : Int) K0 Kr else K0 (k : Int) := by
  have hs : sN = 1048576 := rfl
  have hm : mN = 1099511627776 := rfl
  by_cases hi : i < v.n
  · have hle : 2 ≤ 2 * (v.n - i) := by omega
    have e0 := mT_eq (k) (by omega) (by omega)
    have e1 := mT_eq (k + 1) (by omega) (by omega)
    have w0 : wr ((k : Int) + 1) = ((k + 1 : Nat) : Int) := wr_small (by omega) (by omega)
    have w1 : wr (((k + 1 : Nat) : Int) + 1) = ((k + 2 : Nat) : Int) := wr_small (by omega) (by omega)
    have z1 : wr ((k + 1 : Nat) : Int) = ((k + 1 : Nat) : Int) := wr_small (by omega) (by omega)
    have z2 : wr ((k + 2 : Nat) : Int) = ((k + 2 : Nat) : Int) := wr_small (by omega) (by omega)
    have c1 : (k : Int) + 1 = ((k + 1 : Nat) : Int) := by omega
    have c2 : (k : Int) + 2 = ((k + 2 : Nat) : Int) := by omega
    have wi : wr ((i : Int) + 1) = ((i + 1 : Nat) : Int) := wr_small (by omega) (by omega)
    have hg := hv hi
    simp only [laws_markFileS_s3394_val, c1] at hg
    simp only [laws_heldFileS.F0, laws_heldFileS.B0, selb, chkb, hi, wi, Vec.set_set, Vec.set_g, Vec.set_n, if_true, laws_markFileS_s3394_val, e0, e1, w0, w1, z1, z2, c1, c2, Int.toNat_natCast, Int.ofNat_lt, Int.natCast_nonneg, true_and, decide_true, Option.bind_some, Bool.not_true, Bool.false_eq_true, if_false, hg]
  · simp [laws_heldFileS.F0, laws_heldFileS.B0, selb, hi]
theorem laws_heldFileS_hold (u : (Vec (ByteArray × ByteArray))) (hn : u.n ≤ sN) (hu : ∀ t, t < u.n → u.g t = laws_markFileS_s3394_val ((1 + 2 * t : Nat) : Int)) : laws_heldFileS.F0 fuelN u ((1 : Nat) : Int) 0 (fun x1 => some x1) (fun x1 => some x1) = some ((1 + 2 * u.n : Nat) : Int) := by
  have hs : sN = 1048576 := rfl
  have hm : mN = 1099511627776 := rfl
  exact heldS (c := 2) (val := laws_markFileS_s3394_val) (F0 := laws_heldFileS.F0) (by decide) laws_heldFileS_step u hn 1 (by decide) (by omega) hu (fun x1 => some x1) (fun x1 => some x1)
theorem laws_markFileS_s3394_ok : MarkOk (A := (Vec (ByteArray × ByteArray))) laws_markFileS_s3394.F laws_heldFileS.F := by
  rintro a ⟨hn, -⟩
  obtain ⟨u, h1, h2, h3⟩ := laws_markFileS_s3394_lay a hn
  have h4 := laws_heldFileS_hold u (by omega) (by rw [h1]; exact h2)
  rw [show ((1 : Nat) : Int) = 1 from rfl] at h3 h4
  refine ⟨((1 + 2 * a.n : Nat) : Int), u, ?_, by omega, ?_⟩
  · rw [laws_markFileS_s3394.F, laws_markFileS_s3394.B]
    exact h3
  · rw [laws_heldFileS.F, laws_heldFileS.B, ← h1]
    exact h4
end Go.Al
