import Derived.Test.YtefdhjnlnmljpaaPCompare
import Derived.Test.YtefdhjnlnmljpaaSCompareEdits
set_option linter.unusedVariables false
set_option linter.unusedSimpArgs false
set_option linter.constructorNameAsVariable false
set_option linter.unusedSectionVars false
namespace Go.Al
abbrev Ed : Type := Int × ByteArray
theorem edits_loop {ρ : Type} (code : Int) (r : Vec Pr) (hr : r.n ≤ 1000) (K0 : Int → Vec Ed → Option ρ) : ∃ o, spec_CompareEdits.F0 fuelN code 0 r Vec.nil K0 = K0 code o ∧ o.toL = r.toL.map fun x => (x.1, x.2.2.2) := by
  have hM : maxN = 140737488355328 := rfl
  refine map_loop r (by omega) (fun x : Pr => ((x.1, x.2.2.2) : Ed)) (fun k i out => spec_CompareEdits.F0 k code i r out K0) (fun o => K0 code o) (fun k i out hn hi => ?_) (fun k i out hi => ?_)
  · have hlit : ∀ x : Ed, (Vec.lit [x] : Vec Ed).n = 1 := fun _ => rfl
    simp only [spec_CompareEdits.F0, spec_CompareEdits.B0, selb, chkb, decide_eq_true_eq, Int.toNat_natCast, Int.ofNat_lt, Int.natCast_nonneg, true_and, if_pos hi, hlit, if_pos (show (out.n + 1) * 25 ≤ maxN by omega), wr_succ (i := i) (by omega)]
  · simp only [spec_CompareEdits.F0, spec_CompareEdits.B0, selb, decide_eq_true_eq, Int.ofNat_lt, if_neg hi]
theorem edits_loop2 {ρ : Type} (r : Vec Pr) (hr : r.n ≤ 1000) (h3 : ∀ x ∈ r.toL, 1 ≤ x.1 ∧ x.1 ≤ 3) (K0 : Vec Ed → Option ρ) : ∃ o, impl_CompareEdits.F0 fuelN (r.n : Int) 0 Vec.nil r K0 = K0 o ∧ o.toL = r.toL.map fun x => (x.1, x.2.2.2) := by
  have hM : maxN = 140737488355328 := rfl
  refine map_loop r (by omega) (fun x : Pr => ((x.1, x.2.2.2) : Ed)) (fun k i out => impl_CompareEdits.F0 k (r.n : Int) i out r K0) (fun o => K0 o) (fun k i out hn hi => ?_) (fun k i out hi => ?_)
  · have hlit : ∀ x : Ed, (Vec.lit [x] : Vec Ed).n = 1 := fun _ => rfl
    simp only [impl_CompareEdits.F0, impl_CompareEdits.B0, selb, chkb, decide_eq_true_eq, Int.toNat_natCast, Int.ofNat_lt, Int.natCast_nonneg, true_and, if_pos hi, hlit, if_pos (show (out.n + 1) * 25 ≤ maxN by omega), wr_succ (i := i) (by omega)]
    have hx := h3 (r.g i) (List.mem_of_getElem? (Vec.toL_get r i hi))
    by_cases h1 : (r.g i).1 = 2
    · rw [if_pos h1, h1]
    · rw [if_neg h1]
      by_cases h2 : (r.g i).1 = 3
      · rw [if_pos h2, h2]
      · rw [if_neg h2, show (r.g i).1 = 1 by omega]
  · simp only [impl_CompareEdits.F0, impl_CompareEdits.B0, selb, decide_eq_true_eq, Int.ofNat_lt, if_neg hi]
theorem CompareEdits_two (P : Gr) (B : Vec Bd) (hP : Sml.sml P) (hB : Sml.sml B) (a b : Int) : ∃ code r q, spec_CompareEdits.F P B a b = some (code, r) ∧ impl_CompareEdits.F P B a b = some (code, q) ∧ Vec.Same q r ∧ Sml.sml q := by
  rw [spec_CompareEdits.F, spec_CompareEdits.B, impl_CompareEdits.F, impl_CompareEdits.B]
  have nil : ∀ code : Int, decide (code = 0) = false → ∀ x y : Option (Int × Vec Ed), (∃ o, x = some (code, o) ∧ o.toL = []) → y = some (code, Vec.nil) → ∃ c r q, x = some (c, r) ∧ y = some (c, q) ∧ Vec.Same q r ∧ Sml.sml q :=
    fun code _ x y ⟨o, e1, e2⟩ e3 => ⟨code, o, Vec.nil, e1, e3, same_iff.2 (by rw [e2]; rfl), nil_smlT⟩
  rcases Compare_cases P hP.1 B (dSml_of hB) a b with ⟨-, e1, e2⟩ | ⟨-, -, e1, e2⟩ | ⟨hw, i, j, r, q, rfl, rfl, hi, hj, e1, e2, -, hr, hq⟩
  · obtain ⟨o, f1, f2⟩ := edits_loop 1 Vec.nil (Nat.zero_le _) (fun e01 e02 => some (e01, e02))
    rw [e1, e2, Option.bind_some, Option.bind_some]
    exact nil 1 rfl _ _ ⟨o, f1, f2⟩ rfl
  · obtain ⟨o, f1, f2⟩ := edits_loop 2 Vec.nil (Nat.zero_le _) (fun e01 e02 => some (e01, e02))
    rw [e1, e2, Option.bind_some, Option.bind_some]
    exact nil 2 rfl _ _ ⟨o, f1, f2⟩ rfl
  · have hl := Nat.le_trans (cmpN_len B (Cl P i) (Cl P j) B.n) hw.2.1
    have hrn : r.n ≤ 300 := by rw [← Vec.toL_length, hr]; exact hl
    have hqn : q.n ≤ 300 := by rw [← Vec.toL_length, hq]; exact hl
    obtain ⟨o, f1, f2⟩ := edits_loop 0 r (by omega) (fun e01 e02 => some (e01, e02))
    obtain ⟨o2, g1, g2⟩ := edits_loop2 q (by omega) (fun x hx => by rw [hq] at hx; obtain ⟨_, _, h, _⟩ := cmpN_one hx; exact h) (fun e01 => some ((0 : Int), e01))
    rw [e1, e2, Option.bind_some, Option.bind_some]
    refine ⟨0, o, o2, f1, ?_, same_iff.2 (by rw [f2, g2, hr, hq]), sml_same g2 (by rw [List.length_map, hq]; exact hl) fun x hx => ?_⟩
    · rw [g1]; rfl
    · obtain ⟨y, hy, rfl⟩ := List.mem_map.1 hx
      rw [hq] at hy
      have := pr_sml (P := P) hB hy
      exact ⟨this.1, this.2.2.2⟩
theorem laws_FnExactCompareEdits_true (P : Gr) (B : Vec Bd) (i : Int) (j : Int) (hb : Bnd.bnd ((P, B) : Gr × Vec Bd)) (hi : Bnd.bnd i) (hj : Bnd.bnd j) : laws_FnExactCompareEdits.F P B i j = some true := by
  rw [laws_FnExactCompareEdits.F, laws_FnExactCompareEdits.B]
  obtain ⟨r, hr, hr2⟩ := laws_szWeave_ok (P, B) 1048576 hb (by omega) (by omega)
  simp only at hr
  rw [hr, Option.bind_some, selb]
  split
  · rfl
  rename_i hr0
  rw [decide_eq_true_eq] at hr0
  obtain ⟨hr1, hvs⟩ := hr2 (by omega)
  obtain ⟨⟨p, b⟩, hu, hsm⟩ := laws_toWeave_ok (P, B) hvs
  simp only at hu
  have q2 := laws_eqWeave_ok (p, b) (p, b) hsm (Sim.refl _)
  simp only at q2
  obtain ⟨c, o, y, e1, e2, hyo, hy⟩ := CompareEdits_two p b hsm.1 hsm.2 i j
  have q1 := laws_eqEditS_ok y o hy (Sim.same hyo)
  obtain ⟨k1, m1, m2, n1, n2, n3⟩ := markWv_tot p b hsm.1 (dSml_of hsm.2)
  obtain ⟨k', m', n1', n2', n3'⟩ := laws_markEditS_s9726_ok y hy
  have p1 : decide (k1 < 0) = false := decide_eq_false (by omega)
  have p2 : decide (k' < 0) = false := decide_eq_false (by omega)
  have p3 : decide (c = c) = true := decide_eq_true rfl
  have p4 : decide (k' = k') = true := decide_eq_true rfl
  rw [hu]
  repeat (first | rw [Option.bind_some] | rw [e1] | rw [e2] | rw [q1] | rw [q2] | rw [n1] | rw [n1'] | rw [n3'])
  rw [p1, p2, p3, p4]
  repeat (first | rw [Option.bind_some] | rw [e2] | rw [q1] | rw [n1] | rw [n1'] | rw [n3'] | rw [p1] | rw [p2] | rw [p3] | rw [p4])
  rfl

end Go.Al
