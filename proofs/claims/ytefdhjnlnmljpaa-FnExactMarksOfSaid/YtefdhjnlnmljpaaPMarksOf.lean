import Derived.Test.YtefdhjnlnmljpaaPMo
import Derived.Test.YtefdhjnlnmljpaaPMkW
import Derived.Test.YtefdhjnlnmljpaaSWl
import Derived.Test.YtefdhjnlnmljpaaSMarksOf
set_option linter.unusedVariables false
set_option linter.unusedSimpArgs false
set_option linter.constructorNameAsVariable false
set_option linter.unusedSectionVars false
namespace Go.Al
theorem laws_FnExactMarksOf_true (P : Gr) (B : Vec Bd) (i : Int) (j : Int) (hb : Bnd.bnd ((P, B) : Gr × Vec Bd)) (hi : Bnd.bnd i) (hj : Bnd.bnd j) : laws_FnExactMarksOf.F P B i j = some true := by
  rw [laws_FnExactMarksOf.F, laws_FnExactMarksOf.B]
  obtain ⟨r, hr, hr2⟩ := laws_szWeave_ok (P, B) 1048576 hb (by omega) (by omega)
  simp only at hr
  rw [hr, Option.bind_some, selb]
  split
  · rfl
  rename_i hr0
  rw [decide_eq_true_eq] at hr0
  obtain ⟨hr1, hvs⟩ := hr2 (by omega)
  obtain ⟨⟨p, b⟩, hu, hsm⟩ := laws_toWeave_ok (P, B) hvs
  simp only at hu
  have q2 := laws_eqWeave_ok (p, b) (p, b) hsm (Sim.refl _)
  simp only at q2
  obtain ⟨c, o, y, e1, e2, hyo, hy⟩ := MarksOf_two p b hsm.1 hsm.2 i j
  have q1 := laws_eqMarkS_ok y o hy (Sim.same hyo)
  obtain ⟨k1, m1, m2, n1, n2, n3⟩ := markWv_tot p b hsm.1 (dSml_of hsm.2)
  obtain ⟨k', m', n1', n2', n3'⟩ := laws_markMarkS_sb069_ok y hy
  have p1 : decide (k1 < 0) = false := decide_eq_false (by omega)
  have p2 : decide (k' < 0) = false := decide_eq_false (by omega)
  have p3 : decide (c = c) = true := decide_eq_true rfl
  have p4 : decide (k' = k') = true := decide_eq_true rfl
  rw [hu]
  repeat (first | rw [Option.bind_some] | rw [e1] | rw [e2] | rw [q1] | rw [q2] | rw [n1] | rw [n1'] | rw [n3'])
  rw [p1, p2, p3, p4]
  repeat (first | rw [Option.bind_some] | rw [e2] | rw [q1] | rw [n1] | rw [n1'] | rw [n3'] | rw [p1] | rw [p2] | rw [p3] | rw [p4])
  rfl
end Go.Al
