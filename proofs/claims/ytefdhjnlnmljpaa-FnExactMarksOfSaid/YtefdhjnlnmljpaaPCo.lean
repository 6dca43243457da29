import Derived.Test.YtefdhjnlnmljpaaPMap
set_option linter.unusedVariables false
set_option linter.unusedSimpArgs false
set_option linter.constructorNameAsVariable false
set_option linter.unusedSectionVars false
namespace Go.Al
theorem pr_sml {P : Gr} {B : Vec Bd} (hB : Sml.sml B) {S T : Nat → Prop} {x : Pr} (h : x ∈ cmpN B S T B.n) : Sml.sml x := by
  obtain ⟨i, hi, ⟨h1, h2⟩, e⟩ := cmpN_one h
  obtain ⟨x1, x2⟩ := x
  simp only at e h1 h2
  subst e
  have := hB.2 i hi
  exact ⟨int_small _ (by omega) (by omega), this.2.1, this.2.2.1, this.1⟩
theorem nil_smlT {A : Type} [Enc A] [Sml A] : Sml.sml (Vec.nil : Vec A) := ⟨Nat.zero_le _, fun i hi => absurd hi (Nat.not_lt_zero i)⟩
theorem Compare_two (P : Gr) (B : Vec Bd) (hP : Sml.sml P) (hB : Sml.sml B) (a b : Int) : ∃ code r q, spec_Compare.F P B a b = some (code, r) ∧ impl_Compare.F P B a b = some (code, q) ∧ Vec.Same q r ∧ Sml.sml q := by
  rcases Compare_cases P hP.1 B (dSml_of hB) a b with ⟨-, e1, e2⟩ | ⟨-, -, e1, e2⟩ | ⟨hw, i, j, r, q, rfl, rfl, hi, hj, e1, e2, -, hr, hq⟩
  · exact ⟨_, _, _, e1, e2, ⟨rfl, fun _ _ => rfl⟩, nil_smlT⟩
  · exact ⟨_, _, _, e1, e2, ⟨rfl, fun _ _ => rfl⟩, nil_smlT⟩
  · exact ⟨_, _, _, e1, e2, same_iff.2 (by rw [hq, hr]), sml_same hq (Nat.le_trans (cmpN_len _ _ _ _) hw.2.1) fun x hx => pr_sml (P := P) hB hx⟩
end Go.Al
