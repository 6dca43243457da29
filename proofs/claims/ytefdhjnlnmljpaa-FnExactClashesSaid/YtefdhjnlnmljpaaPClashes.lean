import Derived.Test.YtefdhjnlnmljpaaPCount
import Derived.Test.YtefdhjnlnmljpaaGClashes
import Derived.Test.YtefdhjnlnmljpaaSWl
set_option linter.unusedVariables false
set_option linter.unusedSimpArgs false
set_option linter.constructorNameAsVariable false
set_option linter.unusedSectionVars false
namespace Go.Al
theorem Clashes_two (P : Gr) (B : Vec Bd) (hP : Sml.sml P) (hB : Sml.sml B) (a b : Int) : ∃ c, spec_Clashes.F P B a b = some c ∧ impl_Clashes.F P B a b = some c := by
  rw [spec_Clashes.F, spec_Clashes.B, impl_Clashes.F, impl_Clashes.B]
  rcases Regions_cases P hP.1 B (dSml_of hB) a b with ⟨code, h, -, e1, e2⟩ | ⟨hw, i, j, r, q, rfl, rfl, hi, hj, e1, e2, hr, hq, hn⟩
  · rw [e1, e2, Option.bind_some, Option.bind_some, selb, selb, if_pos (by simpa using h), if_pos (by simpa using h)]
    exact ⟨_, rfl, rfl⟩
  · have hqn : q.n ≤ 1000 := by
      have := congrArg List.length hq
      rw [List.length_map, List.length_map, Vec.toL_length, Vec.toL_length] at this
      omega
    rw [e1, e2, Option.bind_some, Option.bind_some, selb, selb, if_neg (by simp), if_neg (by simp), spec_clash_loop r (by omega), impl_clashesIn_ok q hqn, Option.bind_some, hq]
    exact ⟨_, rfl, rfl⟩
theorem laws_FnExactClashes_true (P : Gr) (B : Vec Bd) (i : Int) (j : Int) (hb : Bnd.bnd ((P, B) : Gr × Vec Bd)) (hi : Bnd.bnd i) (hj : Bnd.bnd j) : laws_FnExactClashes.F P B i j = some true := by
  rw [laws_FnExactClashes.F, laws_FnExactClashes.B]
  obtain ⟨r, hr, hr2⟩ := laws_szWeave_ok (P, B) 1048576 hb (by omega) (by omega)
  simp only at hr
  rw [hr, Option.bind_some, selb]
  split
  · rfl
  rename_i hr0
  rw [decide_eq_true_eq] at hr0
  obtain ⟨hr1, hvs⟩ := hr2 (by omega)
  obtain ⟨⟨p, b⟩, hu, hsm⟩ := laws_toWeave_ok (P, B) hvs
  simp only at hu
  have q2 := laws_eqWeave_ok (p, b) (p, b) hsm (Sim.refl _)
  simp only at q2
  obtain ⟨c, e1, e2⟩ := Clashes_two p b hsm.1 hsm.2 i j
  have p3 : decide (c = c) = true := decide_eq_true rfl
  rw [hu]
  repeat (first | rw [Option.bind_some] | rw [e1] | rw [e2] | rw [q2])
  rw [p3]
  repeat (first | rw [Option.bind_some] | rw [e2] | rw [q2])
  rfl
end Go.Al
