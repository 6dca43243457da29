import Derived.Test.YtdiclekkkaaahaaGreatPTx2
import Derived.Test.YtdiclekkkaaahaaGreatPAt
import Derived.Test.YtdiclekkkaaahaaGreatSStoreOk
import Derived.Test.YtdiclekkkaaahaaGreatSNamesAt
set_option linter.unusedVariables false
set_option linter.unusedSimpArgs false
set_option linter.constructorNameAsVariable false
set_option linter.unusedSectionVars false
namespace Go.Al
theorem st_mark {A B : Type} [Sml A] [Sml B] {b : Nat} {M : Int → A → B → Option (Int × A × B)} (h : MkTot (A := A × B) b (fun k a => M k a.1 a.2)) (hb : b + 1 ≤ mN) (x : A) (y : B) (hx : Sml.sml ((x, y) : A × B)) : ∃ (k : Int) (u : A) (v : B), M 1 x y = some (k, u, v) ∧ 1 ≤ k := by
  obtain ⟨c, ⟨u, v⟩, h1, h2⟩ := h (x, y) hx 1 (Nat.le_refl _) (by omega)
  exact ⟨((1 + c : Nat) : Int), u, v, h2, by omega⟩
end Go.Al
