import Derived.Test.YtbpicgilplnmoaaAl40
import Derived.Test.YtbpicgilplnmoaaGNamesOk
set_option linter.unusedVariables false
set_option linter.unusedSimpArgs false
namespace Go.Al
theorem laws_szName_ok : SzOk (A := (ByteArray × Int × Int)) fun a s => laws_szName.F a.1 a.2.1 a.2.2 s := by
  rintro a s ⟨h0, h1, h2⟩ hs0 hs1
  simp only [laws_szName.F, laws_szName.B]
  obtain ⟨e1, q1⟩ := sz_str a.1 (s) h0 (by omega) (by omega)
  simp only [e1]
  rw [selb]
  split
  · exact ⟨_, rfl, by omega⟩
  rename_i n1
  rw [decide_eq_true_eq] at n1
  obtain ⟨l1, s1⟩ := q1 (by omega)
  exact ⟨_, rfl, fun _ => ⟨by omega, ⟨s1, (Free.free _ h1), (Free.free _ h2)⟩⟩⟩
theorem laws_szNameS_ok : SzOk (A := (Vec (ByteArray × Int × Int))) laws_szNameS.F := szS laws_szName_ok (F0 := laws_szNameS.F0) (fun k v s i K0 Kr => rfl) (fun v s => by simp only [laws_szNameS.F, laws_szNameS.B])
theorem laws_toName_ok : ToOk (A := (ByteArray × Int × Int)) fun a => laws_toName.F a.1 a.2.1 a.2.2 := by
  rintro a ⟨h0, h1, h2⟩
  simp only [laws_toName.F, laws_toName.B]
  exact ⟨_, rfl, ⟨h0, h1, h2⟩⟩
theorem laws_toNameS_ok : ToOk (A := (Vec (ByteArray × Int × Int))) laws_toNameS.F := toS (B := fun n => mkOk n 32) (mk_small (by decide)) (z := (ByteArray.empty, (0 : Int), (0 : Int))) (C := fun a => laws_toName.F a.1 a.2.1 a.2.2) laws_toName_ok (F0 := laws_toNameS.F0) (fun k v i u K0 => rfl) (fun v => by simp only [laws_toNameS.F, laws_toNameS.B, Int.toNat_natCast])
theorem laws_eqName_ok : EqOk (A := (ByteArray × Int × Int)) fun a b => laws_eqName.F a.1 a.2.1 a.2.2 b.1 b.2.1 b.2.2 := by
  rintro a ⟨h0, h1, h2⟩
  simp [laws_eqName.F, laws_eqName.B, selb]
theorem laws_eqNameS_ok : EqOk (A := (Vec (ByteArray × Int × Int))) laws_eqNameS.F := eqS (C := fun a b => laws_eqName.F a.1 a.2.1 a.2.2 b.1 b.2.1 b.2.2) laws_eqName_ok (F0 := laws_eqNameS.F0) (fun k v w i K0 Kr => rfl) (fun v w => by simp only [laws_eqNameS.F, laws_eqNameS.B])
end Go.Al
