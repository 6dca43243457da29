import Derived.Test.YtnkmpehikhmbjaaPPlain0
import Derived.Test.YtnkmpehikhmbjaaPMkW
import Derived.Test.YtnkmpehikhmbjaaSPlainOf
set_option linter.unusedVariables false
set_option linter.unusedSimpArgs false
set_option linter.constructorNameAsVariable false
set_option linter.unusedSectionVars false
namespace Go.Al
theorem PlainOf_two (P : Gr) (B : Vec Bd) (hP : Sml.sml P) (hB : Sml.sml B) : ∃ c, ∃ r q : Pln, spec_PlainOf.F P B = some (c, r) ∧ impl_PlainOf.F P B = some (c, q) ∧ Sim.sim q r ∧ Sml.sml q := by
  have hs : sN = 1048576 := rfl
  rw [spec_PlainOf.F, spec_PlainOf.B, impl_PlainOf.F, impl_PlainOf.B]
  obtain ⟨c, e1, h1⟩ := spec_WeaveOk_ok P B (dSml_of hB)
  obtain ⟨d, e2, h2⟩ := impl_WeaveOk_ok P hP.1 B (dSml_of hB)
  rw [e1, e2, Option.bind_some, Option.bind_some]
  by_cases hw : wvGood P B
  · obtain rfl : c = true := h1.2 hw
    obtain rfl : d = true := h2.2 hw
    have hPn : ∀ v, v < P.n → (P.g v).n ≤ 1048576 := fun v hv => (hP.2 v hv).1
    obtain ⟨p, e3, hp⟩ := spec_plain_loop P hPn B (dSml_of hB) hw (fun e01 e02 e03 => some (true, e01, e02, e03))
    obtain ⟨q, e4, hq⟩ := impl_plainOf_ok P hPn B (dSml_of hB) hw
    rw [selb, selb, if_neg (by decide), if_neg (by decide), e3, e4, Option.bind_some]
    exact ⟨true, p, q, rfl, rfl, plG_sim hq hp, plG_sml hP hB hw hq⟩
  · obtain rfl : c = false := by cases c with | false => rfl | true => exact absurd (h1.1 rfl) hw
    obtain rfl : d = false := by cases d with | false => rfl | true => exact absurd (h2.1 rfl) hw
    rw [selb, selb, if_pos (by decide), if_pos (by decide)]
    exact ⟨false, (Vec.nil, Vec.nil, Vec.nil), (Vec.nil, Vec.nil, Vec.nil), rfl, rfl, Sim.refl _, nil_smlT, nil_smlT, nil_smlT⟩
theorem laws_FnExactPlainOf_true (P : Gr) (B : Vec Bd) (hb : Bnd.bnd ((P, B) : Gr × Vec Bd)) : laws_FnExactPlainOf.F P B = some true := by
  rw [laws_FnExactPlainOf.F, laws_FnExactPlainOf.B]
  obtain ⟨r, hr, hr2⟩ := laws_szWeave_ok (P, B) 1048576 hb (by omega) (by omega)
  simp only at hr
  rw [hr, Option.bind_some, selb]
  split
  · rfl
  rename_i hr0
  rw [decide_eq_true_eq] at hr0
  obtain ⟨hr1, hvs⟩ := hr2 (by omega)
  obtain ⟨⟨p, b⟩, hu, hsm⟩ := laws_toWeave_ok (P, B) hvs
  simp only at hu
  have q2 := laws_eqWeave_ok (p, b) (p, b) hsm (Sim.refl _)
  simp only at q2
  obtain ⟨c, ⟨o1, o2, o3⟩, ⟨y1, y2, y3⟩, e1, e2, hyo, hy⟩ := PlainOf_two p b hsm.1 hsm.2
  have q1 := laws_eqPlain_ok (y1, y2, y3) (o1, o2, o3) hy hyo
  simp only at q1
  obtain ⟨k1, m1, m2, n1, n2, n3⟩ := markWv_tot p b hsm.1 (dSml_of hsm.2)
  obtain ⟨k', ⟨m', m'', m3⟩, n1', n2', n3'⟩ := laws_markPlain_sa1d2_mk.mark (by unfold sN mN; omega) (y1, y2, y3) hy
  simp only at n1' n3'
  have p1 : decide (k1 < 0) = false := decide_eq_false (by omega)
  have p2 : decide (k' < 0) = false := decide_eq_false (by omega)
  have p3 : (c == c) = true := beq_self_eq_true c
  have p4 : decide (k' = k') = true := decide_eq_true rfl
  rw [hu]
  repeat (first | rw [Option.bind_some] | rw [e1] | rw [e2] | rw [q1] | rw [q2] | rw [n1] | rw [n1'] | rw [n3'])
  rw [p1, p2, p3, p4]
  repeat (first | rw [Option.bind_some] | rw [e2] | rw [q1] | rw [n1] | rw [n1'] | rw [n3'] | rw [p1] | rw [p2] | rw [p3] | rw [p4])
  rfl
end Go.Al
