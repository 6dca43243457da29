import Derived.Test.YtahffnkphppgoaaGreatAlH
import Derived.Test.YtahffnkphppgoaaGreatGWl
import Derived.Test.YtahffnkphppgoaaGreatSCommitsOk
set_option linter.unusedVariables false
set_option linter.unusedSimpArgs false
set_option linter.constructorNameAsVariable false
set_option linter.unusedSectionVars false
namespace Go.Al
theorem laws_szIntSS_ok : SzOk (A := (Vec (Vec Int))) laws_szIntSS.F := szS laws_szIntS_ok (F0 := laws_szIntSS.F0) (fun k v s i K0 Kr => rfl) (fun v s => by simp only [laws_szIntSS.F, laws_szIntSS.B])
theorem laws_szBody_ok : SzOk (A := (ByteArray × Int × Int × (Vec Int))) fun a s => laws_szBody.F a.1 a.2.1 a.2.2.1 a.2.2.2 s := by
  rintro a s ⟨h0, h1, h2, h3⟩ hs0 hs1
  simp only [laws_szBody.F, laws_szBody.B]
  obtain ⟨e1, q1⟩ := sz_str a.1 (s) h0 (by omega) (by omega)
  simp only [e1]
  rw [selb]
  split
  · exact ⟨_, rfl, by omega⟩
  rename_i n1
  rw [decide_eq_true_eq] at n1
  obtain ⟨l1, s1⟩ := q1 (by omega)
  obtain ⟨r4, e4, q4⟩ := laws_szIntS_ok a.2.2.2 (s - (a.1.size : Int)) h3 (by omega) (by omega)
  simp only [e4, Option.bind_some]
  rw [selb]
  split
  · exact ⟨_, rfl, by omega⟩
  rename_i n4
  rw [decide_eq_true_eq] at n4
  obtain ⟨l4, s4⟩ := q4 (by omega)
  exact ⟨_, rfl, fun _ => ⟨by omega, ⟨s1, (Free.free _ h1), (Free.free _ h2), s4⟩⟩⟩
theorem laws_szBodyS_ok : SzOk (A := (Vec (ByteArray × Int × Int × (Vec Int)))) laws_szBodyS.F := szS laws_szBody_ok (F0 := laws_szBodyS.F0) (fun k v s i K0 Kr => rfl) (fun v s => by simp only [laws_szBodyS.F, laws_szBodyS.B])
theorem laws_szWeave_ok : SzOk (A := ((Vec (Vec Int)) × (Vec (ByteArray × Int × Int × (Vec Int))))) fun a s => laws_szWeave.F a.1 a.2 s := by
  rintro a s ⟨h0, h1⟩ hs0 hs1
  simp only [laws_szWeave.F, laws_szWeave.B]
  obtain ⟨r1, e1, q1⟩ := laws_szIntSS_ok a.1 (s) h0 (by omega) (by omega)
  simp only [e1, Option.bind_some]
  rw [selb]
  split
  · exact ⟨_, rfl, by omega⟩
  rename_i n1
  rw [decide_eq_true_eq] at n1
  obtain ⟨l1, s1⟩ := q1 (by omega)
  obtain ⟨r2, e2, q2⟩ := laws_szBodyS_ok a.2 (r1) h1 (by omega) (by omega)
  simp only [e2, Option.bind_some]
  rw [selb]
  split
  · exact ⟨_, rfl, by omega⟩
  rename_i n2
  rw [decide_eq_true_eq] at n2
  obtain ⟨l2, s2⟩ := q2 (by omega)
  exact ⟨_, rfl, fun _ => ⟨by omega, ⟨s1, s2⟩⟩⟩
theorem laws_toIntSS_ok : ToOk (A := (Vec (Vec Int))) laws_toIntSS.F := toS (B := fun n => mkOk n 24) (mk_small (by decide)) (z := Vec.nil) (C := fun a => laws_toIntS.F a) laws_toIntS_ok (F0 := laws_toIntSS.F0) (fun k v i u K0 => rfl) (fun v => by simp only [laws_toIntSS.F, laws_toIntSS.B, Int.toNat_natCast])
theorem laws_toBody_ok : ToOk (A := (ByteArray × Int × Int × (Vec Int))) fun a => laws_toBody.F a.1 a.2.1 a.2.2.1 a.2.2.2 := by
  rintro a ⟨h0, h1, h2, h3⟩
  simp only [laws_toBody.F, laws_toBody.B]
  obtain ⟨r4, e4, s4⟩ := laws_toIntS_ok a.2.2.2 h3
  simp only [e4, Option.bind_some]
  exact ⟨_, rfl, ⟨h0, h1, h2, s4⟩⟩
theorem laws_toBodyS_ok : ToOk (A := (Vec (ByteArray × Int × Int × (Vec Int)))) laws_toBodyS.F := toS (B := fun n => mkOk n 56) (mk_small (by decide)) (z := (ByteArray.empty, (0 : Int), (0 : Int), Vec.nil)) (C := fun a => laws_toBody.F a.1 a.2.1 a.2.2.1 a.2.2.2) laws_toBody_ok (F0 := laws_toBodyS.F0) (fun k v i u K0 => rfl) (fun v => by simp only [laws_toBodyS.F, laws_toBodyS.B, Int.toNat_natCast])
theorem laws_toWeave_ok : ToOk (A := ((Vec (Vec Int)) × (Vec (ByteArray × Int × Int × (Vec Int))))) fun a => laws_toWeave.F a.1 a.2 := by
  rintro a ⟨h0, h1⟩
  simp only [laws_toWeave.F, laws_toWeave.B]
  obtain ⟨r1, e1, s1⟩ := laws_toIntSS_ok a.1 h0
  simp only [e1, Option.bind_some]
  obtain ⟨r2, e2, s2⟩ := laws_toBodyS_ok a.2 h1
  simp only [e2, Option.bind_some]
  exact ⟨_, rfl, ⟨s1, s2⟩⟩
theorem laws_eqIntSS_ok : SimOk (A := (Vec (Vec Int))) laws_eqIntSS.F := simS (C := fun a b => laws_eqIntS.F a b) laws_eqIntS_ok (F0 := laws_eqIntSS.F0) (fun k v w i K0 Kr => rfl) (fun v w => by simp only [laws_eqIntSS.F, laws_eqIntSS.B])
theorem laws_eqBody_ok : SimOk (A := (ByteArray × Int × Int × (Vec Int))) fun a b => laws_eqBody.F a.1 a.2.1 a.2.2.1 a.2.2.2 b.1 b.2.1 b.2.2.1 b.2.2.2 := by
  rintro a b ⟨h0, h1, h2, h3⟩ ⟨s0, s1, s2, s3⟩
  have e1_0 : a.1 = b.1 := s0
  have e2_1 : a.2.1 = b.2.1 := s1
  have e3_2 : a.2.2.1 = b.2.2.1 := s2
  have e4 := laws_eqIntS_ok a.2.2.2 b.2.2.2 h3 s3
  simp [laws_eqBody.F, laws_eqBody.B, selb, e1_0, e2_1, e3_2, e4]
theorem laws_eqBodyS_ok : SimOk (A := (Vec (ByteArray × Int × Int × (Vec Int)))) laws_eqBodyS.F := simS (C := fun a b => laws_eqBody.F a.1 a.2.1 a.2.2.1 a.2.2.2 b.1 b.2.1 b.2.2.1 b.2.2.2) laws_eqBody_ok (F0 := laws_eqBodyS.F0) (fun k v w i K0 Kr => rfl) (fun v w => by simp only [laws_eqBodyS.F, laws_eqBodyS.B])
theorem laws_eqWeave_ok : SimOk (A := ((Vec (Vec Int)) × (Vec (ByteArray × Int × Int × (Vec Int))))) fun a b => laws_eqWeave.F a.1 a.2 b.1 b.2 := by
  rintro a b ⟨h0, h1⟩ ⟨s0, s1⟩
  have e1 := laws_eqIntSS_ok a.1 b.1 h0 s0
  have e2 := laws_eqBodyS_ok a.2 b.2 h1 s1
  simp [laws_eqWeave.F, laws_eqWeave.B, selb, e1, e2]
end Go.Al
