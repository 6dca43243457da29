import Derived.Test.YtnkmpehikhmbjaaPTch
import Derived.Test.YtnkmpehikhmbjaaSTouchedIn
set_option linter.unusedVariables false
set_option linter.unusedSimpArgs false
set_option linter.constructorNameAsVariable false
set_option linter.unusedSectionVars false
namespace Go.Al
theorem ints_sml {v : Vec Int} (h : Bnd.bnd v) (hn : v.n ≤ 1048576) : Sml.sml v := ⟨hn, fun i hi => h.2 i hi⟩
theorem cm_of {L : Vec Cm} (h : Sml.sml L) : cmSml L := ⟨h.1, fun i hi => ⟨(h.2 i hi).2.1, (h.2 i hi).2.2⟩⟩
theorem laws_FnExactTouchedIn_true (L : Vec Cm) (ver : Vec Int) (c : Int) (hb0 : Bnd.bnd L) (hb1 : Bnd.bnd ver) (hb2 : Bnd.bnd c) : laws_FnExactTouchedIn.F L ver c = some true := by
  have hs : sN = 1048576 := rfl
  have hm : mN = 4611686018000000000 := rfl
  rw [laws_FnExactTouchedIn.F, laws_FnExactTouchedIn.B, selb]
  split
  · rfl
  rename_i hl
  rw [decide_eq_true_eq] at hl
  obtain ⟨r, hr, hr2⟩ := laws_szCommitS_ok L 1048576 hb0 (by omega) (by omega)
  rw [hr, Option.bind_some, selb]
  split
  · rfl
  rename_i hr0
  rw [decide_eq_true_eq] at hr0
  obtain ⟨hr1, hvs⟩ := hr2 (by omega)
  obtain ⟨p, hu, hsm⟩ := laws_toCommitS_ok L hvs
  obtain ⟨w, hu2, hsm2⟩ := laws_toIntS_ok ver (ints_sml hb1 (by omega))
  have q2 := laws_eqCommitS_ok p p hsm (Sim.refl _)
  have q3 := laws_eqIntS_ok w w hsm2 (Sim.refl _)
  obtain ⟨o, e1, e2, hy⟩ := TouchedIn_two p (cm_of hsm) w c
  have q1 := laws_eqIntS_ok o o hy (Sim.refl _)
  obtain ⟨c1, u1, d1, n1⟩ := laws_markCommitS_sffd8_mt p hsm 1 (by omega) (by rw [hs, hm]; omega)
  rw [hs] at d1
  obtain ⟨c2, u2, d2, n2⟩ := laws_markIntS_s68b2_mk.tot w hsm2 (1 + c1) (by omega) (by rw [hs, hm]; omega)
  rw [show ((1 : Nat) : Int) = 1 from rfl] at n1
  obtain ⟨k', m', n1', n2', n3'⟩ := laws_markIntS_s68b2_mk.mark (by rw [hs, hm]; omega) o hy
  have p1 : decide (((1 + c1 + c2 : Nat) : Int) < 0) = false := decide_eq_false (by omega)
  have p2 : decide (k' < 0) = false := decide_eq_false (by omega)
  have p4 : decide (k' = k') = true := decide_eq_true rfl
  rw [hu]
  repeat (first | rw [Option.bind_some] | rw [hu2] | rw [e1] | rw [e2] | rw [q1] | rw [q2] | rw [q3] | rw [n1] | rw [n2] | rw [n1'] | rw [n3'])
  rw [p1, p2, p4]
  repeat (first | rw [Option.bind_some] | rw [e2] | rw [q1] | rw [n1'] | rw [n3'] | rw [p1] | rw [p2] | rw [p4])
  rfl
end Go.Al
