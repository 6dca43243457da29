import Derived.Test.YtnkmpehikhmbjaaPRgs
import Derived.Test.YtnkmpehikhmbjaaPMkW
import Derived.Test.YtnkmpehikhmbjaaPCount
import Derived.Test.YtnkmpehikhmbjaaSMerged
set_option linter.unusedVariables false
set_option linter.unusedSimpArgs false
set_option linter.constructorNameAsVariable false
set_option linter.unusedSectionVars false
namespace Go.Al
theorem lines_loop {τ : Type} (r : Vec Rg) (hn : r.n ≤ 700) (hl : ∀ i, i < r.n → (r.g i).2.1.n ≤ 400) (G : Nat → Int → Vec ByteArray → τ) (K : Vec ByteArray → τ)
    (h : ∀ k (i : Nat) out, i < r.n → out.n ≤ 400 * i → G (k + 1) (i : Int) out = G k ((i + 1 : Nat) : Int) (Vec.app out (r.g i).2.1))
    (h2 : ∀ k (i : Nat) out, ¬ i < r.n → G (k + 1) (i : Int) out = K out) : ∃ o, G fuelN 0 Vec.nil = K o ∧ o.toL = (r.toL.map rgL).flatMap (·.2.1) ∧ o.n ≤ 280000 := by
  refine loop_inv (σ := Nat × Vec ByteArray) (fun t => r.n - t.1) (fun t => t.1 ≤ r.n ∧ t.2.n ≤ 400 * t.1 ∧ t.2.toL = ((r.toL.take t.1).map rgL).flatMap (·.2.1)) (fun _ x => ∃ o, x = K o ∧ o.toL = (r.toL.map rgL).flatMap (·.2.1) ∧ o.n ≤ 280000)
    (fun k t => G k (t.1 : Int) t.2) ?_ fuelN (0, Vec.nil) (by simp only [fuelN]; omega) ⟨Nat.zero_le _, Nat.le_refl _, rfl⟩
  rintro k ⟨i, out⟩ ⟨hi, ho, hv⟩ ih
  simp only at hi ho hv ⊢
  by_cases hlt : i < r.n
  · rw [h k i out hlt ho]
    refine ih (i + 1, Vec.app out (r.g i).2.1) ⟨hlt, ?_, ?_⟩ (by simp only; omega)
    · show out.n + (r.g i).2.1.n ≤ 400 * (i + 1)
      have := hl i hlt
      omega
    · simp only
      rw [toL_app, hv, toL_take_succ r i hlt, List.map_append, List.flatMap_append]
      simp [rgL]
  · rw [h2 k i out hlt]
    refine ⟨out, rfl, ?_, by omega⟩
    rw [hv, List.take_of_length_le (by rw [Vec.toL_length]; omega)]
theorem no_clash {r : Vec Rg} (h : cntL (r.toL.map rgL) = 0) (i : Nat) (hi : i < r.n) : (r.g i).1 = false := by
  unfold cntL at h
  rw [List.countP_eq_zero] at h
  have := h (rgL (r.g i)) (List.mem_map_of_mem (List.mem_of_getElem? (Vec.toL_get r i hi)))
  simpa [rgL] using this
theorem rgs_len {r : Vec Rg} {L : List RgL} (h : r.toL.map rgL = L) {p : ByteArray → Prop} (hg : ∀ R ∈ L, rgGood 400 p R) (i : Nat) (hi : i < r.n) : (r.g i).2.1.n ≤ 400 ∧ (r.g i).2.2.1.n ≤ 400 ∧ (r.g i).2.2.2.n ≤ 400 := by
  have := hg (rgL (r.g i)) (by rw [← h]; exact List.mem_map_of_mem (List.mem_of_getElem? (Vec.toL_get r i hi)))
  unfold rgGood rgL at this
  simp only [Vec.toL_length] at this
  exact ⟨this.1.1, this.2.1.1, this.2.2.1⟩
theorem Merged_two (P : Gr) (B : Vec Bd) (hP : Sml.sml P) (hB : Sml.sml B) (a b : Int) : ∃ c r q, spec_Merged.F P B a b = some (c, r) ∧ impl_Merged.F P B a b = some (c, q) ∧ Vec.Same q r ∧ Sml.sml q := by
  have hM : maxN = 140737488355328 := rfl
  rw [spec_Merged.F, spec_Merged.B, impl_Merged.F, impl_Merged.B, spec_MergedBy.F, spec_MergedBy.B, spec_Clashes.F, spec_Clashes.B]
  rcases Regions_cases P hP.1 B (dSml_of hB) a b with ⟨code, h, -, e1, e2⟩ | ⟨hw, i, j, r, q, rfl, rfl, hi, hj, e1, e2, hr, hq, hn⟩
  · rw [e1, e2, Option.bind_some, selb, if_pos (by simpa using h), Option.bind_some, selb, if_pos (by decide), Option.bind_some, Option.bind_some, selb, if_pos (by simpa using h)]
    exact ⟨_, _, _, rfl, rfl, ⟨rfl, fun _ _ => rfl⟩, nil_smlT⟩
  · have hqn : q.n ≤ 700 := by
      have := congrArg List.length hq
      rw [List.length_map, List.length_map, Vec.toL_length, Vec.toL_length] at this
      omega
    rw [e1, e2]
    have hcq := impl_clashesIn_ok q (by omega)
    rw [hq] at hcq
    generalize hc : cntL (r.toL.map rgL) = c at hcq
    simp only [Option.bind_some, spec_clash_loop r (by omega), hcq, hc, selb, decide_true, Bool.not_true, Bool.false_eq_true, if_false, decide_eq_true_eq, Bool.not_eq_true', decide_eq_false_iff_not, not_true_eq_false]
    rw [if_neg (show ¬ ((c : Nat) : Int) < 0 by omega)]
    by_cases h0 : c = 0
    · subst h0
      rw [if_neg (by simp [Vec.nil]), if_neg (by simp)]
      have hgood : ∀ R ∈ rgs ((cmpN B (Cl P i) (Cl P j) B.n).map (markOf (Cl P i) (Cl P j))) [], rgGood 400 (fun s => Sml.sml s) R := by
        refine rgs_good (N := 400) (p := fun s => Sml.sml s) (by omega) _ [] (fun m hm => ?_) (fun m hm => (by cases hm)) ?_
        · exact (mk_sml (P := P) hB hm).2.2.2
        · rw [List.length_map]
          have := cmpN_len B (Cl P i) (Cl P j) B.n
          have := hw.2.1
          simp
          omega
      obtain ⟨o, e3, ho, hon⟩ := lines_loop r (by omega) (fun t ht => (rgs_len hr hgood t ht).1) (fun k i out => spec_MergedBy.F0 k (Vec.nil : Vec Int) r 0 i out (fun e01 => some (true, e01)) (fun x01 => some (x01, (Vec.nil : Vec ByteArray)))) (fun o => some (true, o))
        (fun k i out hi ho => by
          have h1 := (rgs_len hr hgood i hi).1
          simp only [spec_MergedBy.F0, spec_MergedBy.B0, selb, chkb, decide_eq_true_eq, Int.toNat_natCast, Int.ofNat_lt, Int.natCast_nonneg, true_and, if_pos hi, wr_succ (i := i) (by omega), no_clash hc i hi, Bool.not_false, if_true, if_pos (show (out.n + (r.g i).2.1.n) * 17 ≤ maxN by omega)])
        (fun k i out hi => by simp only [spec_MergedBy.F0, spec_MergedBy.B0, selb, decide_eq_true_eq, Int.ofNat_lt, if_neg hi])
      obtain ⟨o2, e4, ho2, hon2⟩ := lines_loop q hqn (fun t ht => (rgs_len (hq.trans hr) hgood t ht).1) (fun k i out => impl_linesOf_s3d25.F0 k 0 q (q.n : Int) i out (fun e01 => some e01)) (fun o => some o)
        (fun k i out hi ho => by
          have h1 := (rgs_len (hq.trans hr) hgood i hi).1
          simp only [impl_linesOf_s3d25.F0, impl_linesOf_s3d25.B0, selb, chkb, decide_eq_true_eq, Int.toNat_natCast, Int.ofNat_lt, Int.natCast_nonneg, true_and, if_pos hi, wr_succ (i := i) (by omega), no_clash (by rw [hq]; exact hc) i hi, Bool.not_false, if_true, if_pos (show (out.n + (q.g i).2.1.n) * 17 ≤ maxN by omega)])
        (fun k i out hi => by simp only [impl_linesOf_s3d25.F0, impl_linesOf_s3d25.B0, selb, decide_eq_true_eq, Int.ofNat_lt, if_neg hi])
      rw [e3, impl_linesOf_s3d25.F, impl_linesOf_s3d25.B, e4, Option.bind_some]
      refine ⟨true, o, o2, rfl, rfl, same_iff.2 (by rw [ho, ho2, hq]), sml_of ho2 (by rw [← ho2, Vec.toL_length]; unfold sN; omega) fun s hs => ?_⟩
      rw [hq, hr] at hs
      obtain ⟨R, hR, hs⟩ := List.mem_flatMap.1 hs
      exact (hgood R hR).1.2 s hs
    · rw [if_pos (by simp [Vec.nil]; omega), if_pos (by omega), Option.bind_some]
      exact ⟨_, _, _, rfl, rfl, ⟨rfl, fun _ _ => rfl⟩, nil_smlT⟩
theorem laws_FnExactMerged_true (P : Gr) (B : Vec Bd) (i : Int) (j : Int) (hb : Bnd.bnd ((P, B) : Gr × Vec Bd)) (hi : Bnd.bnd i) (hj : Bnd.bnd j) : laws_FnExactMerged.F P B i j = some true := by
  rw [laws_FnExactMerged.F, laws_FnExactMerged.B]
  obtain ⟨r, hr, hr2⟩ := laws_szWeave_ok (P, B) 1048576 hb (by omega) (by omega)
  simp only at hr
  rw [hr, Option.bind_some, selb]
  split
  · rfl
  rename_i hr0
  rw [decide_eq_true_eq] at hr0
  obtain ⟨hr1, hvs⟩ := hr2 (by omega)
  obtain ⟨⟨p, b⟩, hu, hsm⟩ := laws_toWeave_ok (P, B) hvs
  simp only at hu
  have q2 := laws_eqWeave_ok (p, b) (p, b) hsm (Sim.refl _)
  simp only at q2
  obtain ⟨c, o, y, e1, e2, hyo, hy⟩ := Merged_two p b hsm.1 hsm.2 i j
  have q1 := laws_eqStringS_ok y o hy (Sim.same hyo)
  obtain ⟨k1, m1, m2, n1, n2, n3⟩ := markWv_tot p b hsm.1 (dSml_of hsm.2)
  obtain ⟨k', m', n1', n2', n3'⟩ := laws_markStringS_s1401_mk.mark (by unfold sN mN; omega) y hy
  have p1 : decide (k1 < 0) = false := decide_eq_false (by omega)
  have p2 : decide (k' < 0) = false := decide_eq_false (by omega)
  have p3 : (c == c) = true := beq_self_eq_true c
  have p4 : decide (k' = k') = true := decide_eq_true rfl
  rw [hu]
  repeat (first | rw [Option.bind_some] | rw [e1] | rw [e2] | rw [q1] | rw [q2] | rw [n1] | rw [n1'] | rw [n3'])
  rw [p1, p2, p3, p4]
  repeat (first | rw [Option.bind_some] | rw [e2] | rw [q1] | rw [n1] | rw [n1'] | rw [n3'] | rw [p1] | rw [p2] | rw [p3] | rw [p4])
  rfl
end Go.Al
