import Derived.Test.YtnkmpehikhmbjaaPMap
set_option linter.unusedVariables false
set_option linter.unusedSimpArgs false
set_option linter.constructorNameAsVariable false
set_option linter.unusedSectionVars false
namespace Go.Al
theorem pr_sml {P : Gr} {B : Vec Bd} (hB : Sml.sml B) {S T : Nat → Prop} {x : Pr} (h : x ∈ cmpN B S T B.n) : Sml.sml x := by
  obtain ⟨i, hi, ⟨h1, h2⟩, e⟩ := cmpN_one h
  obtain ⟨x1, x2⟩ := x
  simp only at e h1 h2
  subst e
  have := hB.2 i hi
  exact ⟨int_small _ (by omega) (by omega), this.2.1, this.2.2.1, this.1⟩
theorem nil_smlT {A : Type} [Enc A] [Sml A] : Sml.sml (Vec.nil : Vec A) := ⟨Nat.zero_le _, fun i hi => absurd hi (Nat.not_lt_zero i)⟩
end Go.Al
