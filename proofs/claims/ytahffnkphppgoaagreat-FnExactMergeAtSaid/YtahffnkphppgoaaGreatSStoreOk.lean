import Derived.Test.YtahffnkphppgoaaGreatAlH
import Derived.Test.YtahffnkphppgoaaGreatGStoreOk
import Derived.Test.YtahffnkphppgoaaGreatSCommitsOk
import Derived.Test.YtahffnkphppgoaaGreatSWl
set_option linter.unusedVariables false
set_option linter.unusedSimpArgs false
set_option linter.constructorNameAsVariable false
set_option linter.unusedSectionVars false
namespace Go.Al
theorem laws_szWeaveS_ok : SzOk (A := (Vec ((Vec (Vec Int)) × (Vec (ByteArray × Int × Int × (Vec Int)))))) laws_szWeaveS.F := szS laws_szWeave_ok (F0 := laws_szWeaveS.F0) (fun k v s i K0 Kr => rfl) (fun v s => by simp only [laws_szWeaveS.F, laws_szWeaveS.B])
theorem laws_szStore_ok : SzOk (A := ((Vec ((Vec Int) × ByteArray × (Vec (ByteArray × Int × Int)))) × (Vec ((Vec (Vec Int)) × (Vec (ByteArray × Int × Int × (Vec Int))))))) fun a s => laws_szStore.F a.1 a.2 s := by
  rintro a s ⟨h0, h1⟩ hs0 hs1
  simp only [laws_szStore.F, laws_szStore.B]
  obtain ⟨r1, e1, q1⟩ := laws_szCommitS_ok a.1 (s) h0 (by omega) (by omega)
  simp only [e1, Option.bind_some]
  rw [selb]
  split
  · exact ⟨_, rfl, by omega⟩
  rename_i n1
  rw [decide_eq_true_eq] at n1
  obtain ⟨l1, s1⟩ := q1 (by omega)
  obtain ⟨r2, e2, q2⟩ := laws_szWeaveS_ok a.2 (r1) h1 (by omega) (by omega)
  simp only [e2, Option.bind_some]
  rw [selb]
  split
  · exact ⟨_, rfl, by omega⟩
  rename_i n2
  rw [decide_eq_true_eq] at n2
  obtain ⟨l2, s2⟩ := q2 (by omega)
  exact ⟨_, rfl, fun _ => ⟨by omega, ⟨s1, s2⟩⟩⟩
theorem laws_toWeaveS_ok : ToOk (A := (Vec ((Vec (Vec Int)) × (Vec (ByteArray × Int × Int × (Vec Int)))))) laws_toWeaveS.F := toS (B := fun n => mkOk n 48) (mk_small (by decide)) (z := (Vec.nil, Vec.nil)) (C := fun a => laws_toWeave.F a.1 a.2) laws_toWeave_ok (F0 := laws_toWeaveS.F0) (fun k v i u K0 => rfl) (fun v => by simp only [laws_toWeaveS.F, laws_toWeaveS.B, Int.toNat_natCast])
theorem laws_toStore_ok : ToOk (A := ((Vec ((Vec Int) × ByteArray × (Vec (ByteArray × Int × Int)))) × (Vec ((Vec (Vec Int)) × (Vec (ByteArray × Int × Int × (Vec Int))))))) fun a => laws_toStore.F a.1 a.2 := by
  rintro a ⟨h0, h1⟩
  simp only [laws_toStore.F, laws_toStore.B]
  obtain ⟨r1, e1, s1⟩ := laws_toCommitS_ok a.1 h0
  simp only [e1, Option.bind_some]
  obtain ⟨r2, e2, s2⟩ := laws_toWeaveS_ok a.2 h1
  simp only [e2, Option.bind_some]
  exact ⟨_, rfl, ⟨s1, s2⟩⟩
theorem laws_eqWeaveS_ok : SimOk (A := (Vec ((Vec (Vec Int)) × (Vec (ByteArray × Int × Int × (Vec Int)))))) laws_eqWeaveS.F := simS (C := fun a b => laws_eqWeave.F a.1 a.2 b.1 b.2) laws_eqWeave_ok (F0 := laws_eqWeaveS.F0) (fun k v w i K0 Kr => rfl) (fun v w => by simp only [laws_eqWeaveS.F, laws_eqWeaveS.B])
theorem laws_eqStore_ok : SimOk (A := ((Vec ((Vec Int) × ByteArray × (Vec (ByteArray × Int × Int)))) × (Vec ((Vec (Vec Int)) × (Vec (ByteArray × Int × Int × (Vec Int))))))) fun a b => laws_eqStore.F a.1 a.2 b.1 b.2 := by
  rintro a b ⟨h0, h1⟩ ⟨s0, s1⟩
  have e1 := laws_eqCommitS_ok a.1 b.1 h0 s0
  have e2 := laws_eqWeaveS_ok a.2 b.2 h1 s1
  simp [laws_eqStore.F, laws_eqStore.B, selb, e1, e2]
end Go.Al
