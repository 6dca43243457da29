import Derived.Test.YtdiclekkkaaahaaGreatPTx2
import Derived.Test.YtdiclekkkaaahaaGreatPAt
import Derived.Test.YtdiclekkkaaahaaGreatSStoreOk
import Derived.Test.YtdiclekkkaaahaaGreatSNamesAt
set_option linter.unusedVariables false
set_option linter.unusedSimpArgs false
set_option linter.constructorNameAsVariable false
set_option linter.unusedSectionVars false
namespace Go.Al
theorem st_mark {A B : Type} [Sml A] [Sml B] {b : Nat} {M : Int → A → B → Option (Int × A × B)} (h : MkTot (A := A × B) b (fun k a => M k a.1 a.2)) (hb : b + 1 ≤ mN) (x : A) (y : B) (hx : Sml.sml ((x, y) : A × B)) : ∃ (k : Int) (u : A) (v : B), M 1 x y = some (k, u, v) ∧ 1 ≤ k := by
  obtain ⟨c, ⟨u, v⟩, h1, h2⟩ := h (x, y) hx 1 (Nat.le_refl _) (by omega)
  exact ⟨((1 + c : Nat) : Int), u, v, h2, by omega⟩
theorem laws_FnExactNamesAt_true (C : Vec Cm) (F : Vec Wv) (i : Int) (hb : Bnd.bnd ((C, F) : Vec Cm × Vec Wv)) (hi : Bnd.bnd i) : laws_FnExactNamesAt.F C F i = some true := by
  rw [laws_FnExactNamesAt.F, laws_FnExactNamesAt.B]
  obtain ⟨r, hr, hr2⟩ := laws_szStore_ok (C, F) 1048576 hb (by omega) (by omega)
  simp only at hr
  rw [hr, Option.bind_some, selb]
  split
  · rfl
  rename_i hr0
  rw [decide_eq_true_eq] at hr0
  obtain ⟨hr1, hvs⟩ := hr2 (by omega)
  obtain ⟨⟨p, q⟩, hu, hsm⟩ := laws_toStore_ok (C, F) hvs
  simp only at hu
  have q2 := laws_eqStore_ok (p, q) (p, q) hsm (Sim.refl _)
  simp only at q2
  obtain ⟨c, y, e1, e2, hcy⟩ := NamesAt_two p hsm.1 q hsm.2 i
  have hy : Sml.sml y := by
    rcases hcy with ⟨-, rfl⟩ | ⟨-, -, hc, rfl, -⟩
    · exact nil_smlT
    · have hlt : i.toNat < p.n := by have h1 := hc.1; have h2 := hc.2; omega
      exact (hsm.1.2 i.toNat hlt).2.2
  have q1 := laws_eqNameS_ok y y hy (Sim.refl _)
  obtain ⟨k1, m1, m2, n1, n2⟩ := st_mark laws_markStore_sd1d9_mt (by decide) p q hsm
  obtain ⟨k', m', n1', n2', n3'⟩ := laws_markNameS_s0773_ok y hy
  have p1 : decide (k1 < 0) = false := decide_eq_false (by omega)
  have p2 : decide (k' < 0) = false := decide_eq_false (by omega)
  have p3 : decide (c = c) = true := decide_eq_true rfl
  have p4 : decide (k' = k') = true := decide_eq_true rfl
  rw [hu]
  repeat (first | rw [Option.bind_some] | rw [e1] | rw [e2] | rw [q1] | rw [q2] | rw [n1] | rw [n1'] | rw [n3'])
  rw [p1, p2, p3, p4]
  repeat (first | rw [Option.bind_some] | rw [e2] | rw [q1] | rw [n1] | rw [n1'] | rw [n3'] | rw [p1] | rw [p2] | rw [p3] | rw [p4])
  rfl
end Go.Al
