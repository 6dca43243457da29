import Derived.Test.YtefdhjnlnmljpaaPMk
import Derived.Test.YtefdhjnlnmljpaaSCompare
set_option linter.unusedVariables false
set_option linter.unusedSimpArgs false
set_option linter.constructorNameAsVariable false
set_option linter.unusedSectionVars false
namespace Go.Al
theorem pr_sml {P : Gr} {B : Vec Bd} (hB : Sml.sml B) {S T : Nat → Prop} {x : Pr} (h : x ∈ cmpN B S T B.n) : Sml.sml x := by
  obtain ⟨i, hi, ⟨h1, h2⟩, e⟩ := cmpN_one h
  obtain ⟨x1, x2⟩ := x
  simp only at e h1 h2
  subst e
  have := hB.2 i hi
  exact ⟨int_small _ (by omega) (by omega), this.2.1, this.2.2.1, this.1⟩
theorem nil_smlT {A : Type} [Enc A] [Sml A] : Sml.sml (Vec.nil : Vec A) := ⟨Nat.zero_le _, fun i hi => absurd hi (Nat.not_lt_zero i)⟩
theorem Compare_two (P : Gr) (B : Vec Bd) (hP : Sml.sml P) (hB : Sml.sml B) (a b : Int) : ∃ code r q, spec_Compare.F P B a b = some (code, r) ∧ impl_Compare.F P B a b = some (code, q) ∧ Vec.Same q r ∧ Sml.sml q := by
  rcases Compare_cases P hP.1 B (dSml_of hB) a b with ⟨-, e1, e2⟩ | ⟨-, -, e1, e2⟩ | ⟨hw, i, j, r, q, rfl, rfl, hi, hj, e1, e2, -, hr, hq⟩
  · exact ⟨_, _, _, e1, e2, ⟨rfl, fun _ _ => rfl⟩, nil_smlT⟩
  · exact ⟨_, _, _, e1, e2, ⟨rfl, fun _ _ => rfl⟩, nil_smlT⟩
  · exact ⟨_, _, _, e1, e2, same_iff.2 (by rw [hq, hr]), sml_same hq (Nat.le_trans (cmpN_len _ _ _ _) hw.2.1) fun x hx => pr_sml (P := P) hB hx⟩
theorem laws_FnExactCompare_true (P : Gr) (B : Vec Bd) (i : Int) (j : Int) (hb : Bnd.bnd ((P, B) : Gr × Vec Bd)) (hi : Bnd.bnd i) (hj : Bnd.bnd j) : laws_FnExactCompare.F P B i j = some true := by
  rw [laws_FnExactCompare.F, laws_FnExactCompare.B]
  obtain ⟨r, hr, hr2⟩ := laws_szWeave_ok (P, B) 1048576 hb (by omega) (by omega)
  simp only at hr
  rw [hr, Option.bind_some, selb]
  split
  · rfl
  rename_i hr0
  rw [decide_eq_true_eq] at hr0
  obtain ⟨hr1, hvs⟩ := hr2 (by omega)
  obtain ⟨⟨p, b⟩, hu, hsm⟩ := laws_toWeave_ok (P, B) hvs
  simp only at hu
  have q2 := laws_eqWeave_ok (p, b) (p, b) hsm (Sim.refl _)
  simp only at q2
  obtain ⟨c, o, y, e1, e2, hyo, hy⟩ := Compare_two p b hsm.1 hsm.2 i j
  have q1 := laws_eqPairS_ok y o hy (Sim.same hyo)
  obtain ⟨k1, m1, m2, n1, n2, n3⟩ := markWv_tot p b hsm.1 (dSml_of hsm.2)
  obtain ⟨k', m', n1', n2', n3'⟩ := laws_markPairS_sb069_ok y hy
  have p1 : decide (k1 < 0) = false := decide_eq_false (by omega)
  have p2 : decide (k' < 0) = false := decide_eq_false (by omega)
  have p3 : decide (c = c) = true := decide_eq_true rfl
  have p4 : decide (k' = k') = true := decide_eq_true rfl
  rw [hu]
  repeat (first | rw [Option.bind_some] | rw [e1] | rw [e2] | rw [q1] | rw [q2] | rw [n1] | rw [n1'] | rw [n3'])
  rw [p1, p2, p3, p4]
  repeat (first | rw [Option.bind_some] | rw [e2] | rw [q1] | rw [n1] | rw [n1'] | rw [n3'] | rw [p1] | rw [p2] | rw [p3] | rw [p4])
  rfl

end Go.Al
