import Derived.Test.YtdiclekkkaaahaaPSto
import Derived.Test.YtdiclekkkaaahaaSStoreOk
set_option linter.unusedVariables false
set_option linter.unusedSimpArgs false
set_option linter.constructorNameAsVariable false
set_option linter.unusedSectionVars false
namespace Go.Al
theorem st_cm_of {L : Vec Cm} (h : Sml.sml L) : cmSml L := ⟨h.1, fun i hi => ⟨(h.2 i hi).2.1, (h.2 i hi).2.2⟩⟩
theorem st_d_of {B : Vec Bd} (h : Sml.sml B) : dSml B := ⟨h.1, fun i hi => ⟨(h.2 i hi).2.2.2.1, (h.2 i hi).1⟩⟩
theorem wvs_of {F : Vec Wv} (h : Sml.sml F) : wvsSml F := ⟨h.1, fun i hi => ⟨(h.2 i hi).1.1, st_d_of (h.2 i hi).2⟩⟩
theorem laws_FnExactStoreOk_true (C : Vec Cm) (F : Vec Wv) (hb : Bnd.bnd ((C, F) : Vec Cm × Vec Wv)) : laws_FnExactStoreOk.F C F = some true := by
  rw [laws_FnExactStoreOk.F, laws_FnExactStoreOk.B]
  obtain ⟨r, hr, hr2⟩ := laws_szStore_ok (C, F) 1048576 hb (by omega) (by omega)
  simp only at hr
  rw [hr, Option.bind_some, selb]
  split
  · rfl
  rename_i hr0
  rw [decide_eq_true_eq] at hr0
  obtain ⟨hr1, hvs⟩ := hr2 (by omega)
  obtain ⟨⟨p, q⟩, hu, hsm⟩ := laws_toStore_ok (C, F) hvs
  simp only at hu
  have q2 := laws_eqStore_ok (p, q) (p, q) hsm (Sim.refl _)
  simp only at q2
  obtain ⟨b, e1, h1⟩ := spec_StoreOk_ok p (st_cm_of hsm.1) q (wvs_of hsm.2)
  obtain ⟨b', e2, h2⟩ := impl_StoreOk_ok p (st_cm_of hsm.1) q (wvs_of hsm.2)
  obtain rfl : b' = b := by rw [Bool.eq_iff_iff, h1, h2]
  have p3 : (b' == b') = true := beq_self_eq_true b'
  rw [hu]
  repeat (first | rw [Option.bind_some] | rw [e1] | rw [e2] | rw [q2])
  rw [p3]
  repeat (first | rw [Option.bind_some] | rw [q2])
  rfl
end Go.Al
