import Derived.Test.YtdiclekkkaaahaaPCom
import Derived.Test.YtdiclekkkaaahaaSCommitsOk
set_option linter.unusedVariables false
set_option linter.unusedSimpArgs false
set_option linter.constructorNameAsVariable false
set_option linter.unusedSectionVars false
namespace Go.Al
theorem ints_sml {v : Vec Int} (h : Bnd.bnd v) (hn : v.n ≤ 1048576) : Sml.sml v := ⟨hn, fun i hi => h.2 i hi⟩
theorem cm_of {L : Vec Cm} (h : Sml.sml L) : cmSml L := ⟨h.1, fun i hi => ⟨(h.2 i hi).2.1, (h.2 i hi).2.2⟩⟩
theorem laws_FnExactCommitsOk_true (L : Vec Cm) (ver : Vec Int) (hb0 : Bnd.bnd L) (hb1 : Bnd.bnd ver) : laws_FnExactCommitsOk.F L ver = some true := by
  rw [laws_FnExactCommitsOk.F, laws_FnExactCommitsOk.B, selb]
  split
  · rfl
  rename_i hl
  rw [decide_eq_true_eq] at hl
  obtain ⟨r, hr, hr2⟩ := laws_szCommitS_ok L 1048576 hb0 (by omega) (by omega)
  rw [hr, Option.bind_some, selb]
  split
  · rfl
  rename_i hr0
  rw [decide_eq_true_eq] at hr0
  obtain ⟨hr1, hvs⟩ := hr2 (by omega)
  obtain ⟨p, hu, hsm⟩ := laws_toCommitS_ok L hvs
  obtain ⟨w, hu2, hsm2⟩ := laws_toIntS_ok ver (ints_sml hb1 (by omega))
  have q2 := laws_eqCommitS_ok p p hsm (Sim.refl _)
  have q3 := laws_eqIntS_ok w w hsm2 (Sim.refl _)
  obtain ⟨b, e1, h1⟩ := spec_CommitsOk_ok p (cm_of hsm) w
  obtain ⟨b', e2, h2⟩ := impl_CommitsOk_ok p (cm_of hsm) w
  obtain rfl : b' = b := by rw [Bool.eq_iff_iff, h1, h2]
  have p3 : (b' == b') = true := beq_self_eq_true b'
  rw [hu]
  repeat (first | rw [Option.bind_some] | rw [hu2] | rw [e1] | rw [e2] | rw [q2] | rw [q3])
  rw [p3]
  repeat (first | rw [Option.bind_some] | rw [q2] | rw [q3])
  rfl
end Go.Al
