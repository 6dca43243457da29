import Derived.Test.YtahffnkphppgoaaGreatAlH
import Derived.Test.YtahffnkphppgoaaGreatGCommitsOk
set_option linter.unusedVariables false
set_option linter.unusedSimpArgs false
set_option linter.constructorNameAsVariable false
set_option linter.unusedSectionVars false
namespace Go.Al
theorem laws_szIntS_ok : SzOk (A := (Vec Int)) laws_szIntS.F := szS_free fun v s => by simp only [laws_szIntS.F, laws_szIntS.B]
theorem laws_szName_ok : SzOk (A := (ByteArray × Int × Int)) fun a s => laws_szName.F a.1 a.2.1 a.2.2 s := by
  rintro a s ⟨h0, h1, h2⟩ hs0 hs1
  simp only [laws_szName.F, laws_szName.B]
  obtain ⟨e1, q1⟩ := sz_str a.1 (s) h0 (by omega) (by omega)
  simp only [e1]
  rw [selb]
  split
  · exact ⟨_, rfl, by omega⟩
  rename_i n1
  rw [decide_eq_true_eq] at n1
  obtain ⟨l1, s1⟩ := q1 (by omega)
  exact ⟨_, rfl, fun _ => ⟨by omega, ⟨s1, (Free.free _ h1), (Free.free _ h2)⟩⟩⟩
theorem laws_szNameS_ok : SzOk (A := (Vec (ByteArray × Int × Int))) laws_szNameS.F := szS laws_szName_ok (F0 := laws_szNameS.F0) (fun k v s i K0 Kr => rfl) (fun v s => by simp only [laws_szNameS.F, laws_szNameS.B])
theorem laws_szCommit_ok : SzOk (A := ((Vec Int) × ByteArray × (Vec (ByteArray × Int × Int)))) fun a s => laws_szCommit.F a.1 a.2.1 a.2.2 s := by
  rintro a s ⟨h0, h1, h2⟩ hs0 hs1
  simp only [laws_szCommit.F, laws_szCommit.B]
  obtain ⟨r1, e1, q1⟩ := laws_szIntS_ok a.1 (s) h0 (by omega) (by omega)
  simp only [e1, Option.bind_some]
  rw [selb]
  split
  · exact ⟨_, rfl, by omega⟩
  rename_i n1
  rw [decide_eq_true_eq] at n1
  obtain ⟨l1, s1⟩ := q1 (by omega)
  obtain ⟨e2, q2⟩ := sz_str a.2.1 (r1) h1 (by omega) (by omega)
  simp only [e2]
  rw [selb]
  split
  · exact ⟨_, rfl, by omega⟩
  rename_i n2
  rw [decide_eq_true_eq] at n2
  obtain ⟨l2, s2⟩ := q2 (by omega)
  obtain ⟨r3, e3, q3⟩ := laws_szNameS_ok a.2.2 (r1 - (a.2.1.size : Int)) h2 (by omega) (by omega)
  simp only [e3, Option.bind_some]
  rw [selb]
  split
  · exact ⟨_, rfl, by omega⟩
  rename_i n3
  rw [decide_eq_true_eq] at n3
  obtain ⟨l3, s3⟩ := q3 (by omega)
  exact ⟨_, rfl, fun _ => ⟨by omega, ⟨s1, s2, s3⟩⟩⟩
theorem laws_szCommitS_ok : SzOk (A := (Vec ((Vec Int) × ByteArray × (Vec (ByteArray × Int × Int))))) laws_szCommitS.F := szS laws_szCommit_ok (F0 := laws_szCommitS.F0) (fun k v s i K0 Kr => rfl) (fun v s => by simp only [laws_szCommitS.F, laws_szCommitS.B])
theorem laws_toIntS_ok : ToOk (A := (Vec Int)) laws_toIntS.F := toS (B := fun n => mkOk n 8) (mk_small (by decide)) (z := (0 : Int)) (C := some) (to_id fun _ => rfl) (F0 := laws_toIntS.F0) (fun k v i u K0 => rfl) (fun v => by simp only [laws_toIntS.F, laws_toIntS.B, Int.toNat_natCast])
theorem laws_toName_ok : ToOk (A := (ByteArray × Int × Int)) fun a => laws_toName.F a.1 a.2.1 a.2.2 := by
  rintro a ⟨h0, h1, h2⟩
  simp only [laws_toName.F, laws_toName.B]
  exact ⟨_, rfl, ⟨h0, h1, h2⟩⟩
theorem laws_toNameS_ok : ToOk (A := (Vec (ByteArray × Int × Int))) laws_toNameS.F := toS (B := fun n => mkOk n 32) (mk_small (by decide)) (z := (ByteArray.empty, (0 : Int), (0 : Int))) (C := fun a => laws_toName.F a.1 a.2.1 a.2.2) laws_toName_ok (F0 := laws_toNameS.F0) (fun k v i u K0 => rfl) (fun v => by simp only [laws_toNameS.F, laws_toNameS.B, Int.toNat_natCast])
theorem laws_toCommit_ok : ToOkP (A := ((Vec Int) × ByteArray × (Vec (ByteArray × Int × Int)))) (fun r => (r.2.1, r.1, r.2.2)) fun a => laws_toCommit.F a.1 a.2.1 a.2.2 := by
  rintro a ⟨h0, h1, h2⟩
  simp only [laws_toCommit.F, laws_toCommit.B]
  obtain ⟨r1, e1, s1⟩ := laws_toIntS_ok a.1 h0
  simp only [e1, Option.bind_some]
  obtain ⟨r3, e3, s3⟩ := laws_toNameS_ok a.2.2 h2
  simp only [e3, Option.bind_some]
  exact ⟨_, rfl, ⟨s1, h1, s3⟩⟩
theorem laws_toCommitS_ok : ToOk (A := (Vec ((Vec Int) × ByteArray × (Vec (ByteArray × Int × Int))))) laws_toCommitS.F := toSP (f := (fun r => (r.2.1, r.1, r.2.2))) (B := fun n => mkOk n 64) (mk_small (by decide)) (z := (Vec.nil, ByteArray.empty, Vec.nil)) (C := fun a => laws_toCommit.F a.1 a.2.1 a.2.2) laws_toCommit_ok (F0 := laws_toCommitS.F0) (fun k v i u K0 => rfl) (fun v => by simp only [laws_toCommitS.F, laws_toCommitS.B, Int.toNat_natCast])
theorem laws_eqName_ok : SimOk (A := (ByteArray × Int × Int)) fun a b => laws_eqName.F a.1 a.2.1 a.2.2 b.1 b.2.1 b.2.2 := by
  rintro a b ⟨h0, h1, h2⟩ ⟨s0, s1, s2⟩
  have e1_0 : a.1 = b.1 := s0
  have e2_1 : a.2.1 = b.2.1 := s1
  have e3_2 : a.2.2 = b.2.2 := s2
  simp [laws_eqName.F, laws_eqName.B, selb, e1_0, e2_1, e3_2]
theorem laws_eqNameS_ok : SimOk (A := (Vec (ByteArray × Int × Int))) laws_eqNameS.F := simS (C := fun a b => laws_eqName.F a.1 a.2.1 a.2.2 b.1 b.2.1 b.2.2) laws_eqName_ok (F0 := laws_eqNameS.F0) (fun k v w i K0 Kr => rfl) (fun v w => by simp only [laws_eqNameS.F, laws_eqNameS.B])
theorem laws_eqIntS_ok : SimOk (A := (Vec Int)) laws_eqIntS.F := simS (C := fun a b => some (decide (a = b))) (sim_free (fun _ _ h => h) fun _ => by simp) (F0 := laws_eqIntS.F0) (fun k v w i K0 Kr => rfl) (fun v w => by simp only [laws_eqIntS.F, laws_eqIntS.B])
theorem laws_eqCommit_ok : SimOk (A := ((Vec Int) × ByteArray × (Vec (ByteArray × Int × Int)))) fun a b => laws_eqCommit.F a.1 a.2.1 a.2.2 b.1 b.2.1 b.2.2 := by
  rintro a b ⟨h0, h1, h2⟩ ⟨s0, s1, s2⟩
  have e1 := laws_eqIntS_ok a.1 b.1 h0 s0
  have e2_1 : a.2.1 = b.2.1 := s1
  have e3 := laws_eqNameS_ok a.2.2 b.2.2 h2 s2
  simp [laws_eqCommit.F, laws_eqCommit.B, selb, e1, e2_1, e3]
theorem laws_eqCommitS_ok : SimOk (A := (Vec ((Vec Int) × ByteArray × (Vec (ByteArray × Int × Int))))) laws_eqCommitS.F := simS (C := fun a b => laws_eqCommit.F a.1 a.2.1 a.2.2 b.1 b.2.1 b.2.2) laws_eqCommit_ok (F0 := laws_eqCommitS.F0) (fun k v w i K0 Kr => rfl) (fun v w => by simp only [laws_eqCommitS.F, laws_eqCommitS.B])
end Go.Al
