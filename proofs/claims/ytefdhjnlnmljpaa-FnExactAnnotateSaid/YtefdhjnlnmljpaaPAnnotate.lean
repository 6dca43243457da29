import Derived.Test.YtefdhjnlnmljpaaPCompare
set_option linter.unusedVariables false
set_option linter.unusedSimpArgs false
set_option linter.constructorNameAsVariable false
set_option linter.unusedSectionVars false
namespace Go.Al
abbrev Nt : Type := Int × Int × ByteArray
def noteAt (B : Vec Bd) (x : Int) : Nt := ((B.g x.toNat).2.1, (B.g x.toNat).2.2.1, (B.g x.toNat).1)
theorem nt_sml {B : Vec Bd} (hB : Sml.sml B) {S : Nat → Prop} {x : Int} (h : x ∈ places B S) : Sml.sml (noteAt B x) := by
  have := places_mem h
  have h2 := hB.2 x.toNat (by omega)
  exact ⟨h2.2.1, h2.2.2.1, h2.1⟩
theorem spec_notes_loop {ρ : Type} (P : Gr) (B : Vec Bd) (l : Vec Int) (hl : l.n ≤ 1000) (hin : ∀ x ∈ l.toL, 0 ≤ x ∧ x < (B.n : Int)) (K0 : Vec Nt → Option ρ) : ∃ o, spec_Annotate.F0 fuelN 0 P B Vec.nil l K0 = K0 o ∧ o.toL = l.toL.map (noteAt B) := by
  have hM : maxN = 140737488355328 := rfl
  refine map_loop l (by omega) (noteAt B) (fun k i out => spec_Annotate.F0 k i P B out l K0) K0 (fun k i out hn hi => ?_) (fun k i out hi => ?_)
  · have hlit : ∀ x : Nt, (Vec.lit [x] : Vec Nt).n = 1 := fun _ => rfl
    have hx := hin (l.g i) (List.mem_of_getElem? (Vec.toL_get l i hi))
    have en : spec_l09Note.F (B.g (l.g i).toNat).1 (B.g (l.g i).toNat).2.1 (B.g (l.g i).toNat).2.2.1 (B.g (l.g i).toNat).2.2.2 = some (noteAt B (l.g i)) := rfl
    simp only [spec_Annotate.F0, spec_Annotate.B0, selb, chkb, decide_eq_true_eq, Int.toNat_natCast, Int.ofNat_lt, Int.natCast_nonneg, true_and, if_pos hi, if_pos hx, en, Option.bind_some, hlit, if_pos (show (out.n + 1) * 33 ≤ maxN by omega), wr_succ (i := i) (by omega)]
  · simp only [spec_Annotate.F0, spec_Annotate.B0, selb, decide_eq_true_eq, Int.ofNat_lt, if_neg hi]
theorem impl_notes_loop {ρ : Type} (P : Gr) (B : Vec Bd) (l : Vec Int) (hl : l.n ≤ 1000) (hin : ∀ x ∈ l.toL, 0 ≤ x ∧ x < (B.n : Int)) (K0 : Vec Nt → Option ρ) : ∃ o, impl_Weave_annotate.F0 fuelN P B (l.n : Int) 0 Vec.nil l K0 = K0 o ∧ o.toL = l.toL.map (noteAt B) := by
  have hM : maxN = 140737488355328 := rfl
  refine map_loop l (by omega) (noteAt B) (fun k i out => impl_Weave_annotate.F0 k P B (l.n : Int) i out l K0) K0 (fun k i out hn hi => ?_) (fun k i out hi => ?_)
  · have hlit : ∀ x : Nt, (Vec.lit [x] : Vec Nt).n = 1 := fun _ => rfl
    have hx := hin (l.g i) (List.mem_of_getElem? (Vec.toL_get l i hi))
    have en : impl_Body_note.F (B.g (l.g i).toNat).1 (B.g (l.g i).toNat).2.1 (B.g (l.g i).toNat).2.2.1 (B.g (l.g i).toNat).2.2.2 = some (noteAt B (l.g i)) := rfl
    simp only [impl_Weave_annotate.F0, impl_Weave_annotate.B0, selb, chkb, decide_eq_true_eq, Int.toNat_natCast, Int.ofNat_lt, Int.natCast_nonneg, true_and, if_pos hi, if_pos hx, en, Option.bind_some, hlit, if_pos (show (out.n + 1) * 33 ≤ maxN by omega), wr_succ (i := i) (by omega)]
  · simp only [impl_Weave_annotate.F0, impl_Weave_annotate.B0, selb, decide_eq_true_eq, Int.ofNat_lt, if_neg hi]
theorem inV_one (P : Gr) (a : Int) : inV P (Vec.lit [a]) ↔ (0 ≤ a ∧ a < (P.n : Int)) := by
  constructor
  · intro h
    exact h 0 (by show 0 < 1; omega)
  · intro h1 i hi
    have h3 : i < 1 := hi
    obtain rfl : i = 0 := by omega
    exact h1
theorem places_len {P : Gr} {B : Vec Bd} (hw : wvGood P B) {v : Nat} (hv : v < P.n) : (places B (Cl P v)).length ≤ 80 := (hw.2.2.2 v hv).2
theorem impl_annotate_ok (P : Gr) (B : Vec Bd) (hB : dSml B) (hw : wvGood P B) (v : Nat) (hv : v < P.n) : ∃ q, impl_Weave_annotate.F P B (v : Int) = some q ∧ q.toL = (places B (Cl P v)).map (noteAt B) := by
  have hg := hw.1
  obtain ⟨C, e0, hC⟩ := impl_closures_T P hg
  have hCn := hC.1
  obtain ⟨l, e1, hl⟩ := impl_liveIn_ok P B hB (C.g v).v (Cl P v) (hC.2 v hv)
  have hln : l.n ≤ 80 := by rw [← Vec.toL_length, hl]; exact places_len hw hv
  obtain ⟨o, e2, ho⟩ := impl_notes_loop P B l (by omega) (fun x hx => by rw [hl] at hx; exact places_mem hx) (fun e01 => some e01)
  rw [impl_Weave_annotate.F, impl_Weave_annotate.B, e0, Option.bind_some, Int.toNat_natCast, e1, Option.bind_some, e2, chk_true (decide_eq_true ⟨by omega, by omega⟩), chk_true (decide_eq_true (by omega))]
  exact ⟨o, rfl, by rw [ho, hl]⟩
theorem Annotate_two (P : Gr) (B : Vec Bd) (hP : Sml.sml P) (hB : Sml.sml B) (a : Int) : ∃ code r q, spec_Annotate.F P B a = some (code, r) ∧ impl_Annotate.F P B a = some (code, q) ∧ Vec.Same q r ∧ Sml.sml q := by
  have hPn := hP.1
  obtain ⟨c, e, hc⟩ := spec_WeaveOk_ok P B (dSml_of hB)
  rw [spec_Annotate.F, spec_Annotate.B, impl_Annotate.F, impl_Annotate.B, e, Option.bind_some, spec_has_ok P hPn, Option.bind_some]
  rcases vcode_ok P hPn B (dSml_of hB) (Vec.lit [a]) (by show 1 ≤ _; unfold bN; omega) with ⟨h, e2⟩ | ⟨h, h2, e2⟩ | ⟨h, h2, e2⟩
  · obtain rfl : c = false := by cases c with | false => rfl | true => exact absurd (hc.1 rfl) h
    rw [e2]
    exact ⟨_, _, _, rfl, rfl, ⟨rfl, fun _ _ => rfl⟩, nil_smlT⟩
  · obtain rfl : c = true := hc.2 h
    rw [inV_one] at h2
    rw [e2, decide_eq_false h2]
    exact ⟨_, _, _, rfl, rfl, ⟨rfl, fun _ _ => rfl⟩, nil_smlT⟩
  · obtain rfl : c = true := hc.2 h
    rw [inV_one] at h2
    obtain ⟨v, rfl⟩ : ∃ n : Nat, a = n := ⟨a.toNat, by omega⟩
    have hv : v < P.n := by omega
    have hg := h.1
    obtain ⟨s, e3, hs⟩ := spec_l06Closure_ok P hg B v hv
    obtain ⟨l, e4, hl⟩ := spec_places_ok P B (dSml_of hB) s P.n hg.1 (Cl P v) hs (fun u hu => Cl_lt hg hu hv)
    have hln : l.n ≤ 80 := by rw [← Vec.toL_length, hl]; exact places_len h hv
    obtain ⟨o, e5, ho⟩ := spec_notes_loop P B l (by omega) (fun x hx => by rw [hl] at hx; exact places_mem hx) (fun e01 => some ((0 : Int), e01))
    obtain ⟨q, e6, hq⟩ := impl_annotate_ok P B (dSml_of hB) h v hv
    rw [e2, decide_eq_true h2, e3, Option.bind_some, e4, Option.bind_some, e5, e6]
    refine ⟨0, o, q, rfl, rfl, same_iff.2 (by rw [hq, ho, hl]), sml_same hq (by rw [List.length_map]; exact Nat.le_trans (places_len h hv) (by omega)) fun x hx => ?_⟩
    obtain ⟨y, hy, rfl⟩ := List.mem_map.1 hx
    exact nt_sml hB hy
theorem laws_FnExactAnnotate_true (P : Gr) (B : Vec Bd) (i : Int) (hb : Bnd.bnd ((P, B) : Gr × Vec Bd)) (hi : Bnd.bnd i) : laws_FnExactAnnotate.F P B i = some true := by
  rw [laws_FnExactAnnotate.F, laws_FnExactAnnotate.B]
  obtain ⟨r, hr, hr2⟩ := laws_szWeave_ok (P, B) 1048576 hb (by omega) (by omega)
  simp only at hr
  rw [hr, Option.bind_some, selb]
  split
  · rfl
  rename_i hr0
  rw [decide_eq_true_eq] at hr0
  obtain ⟨hr1, hvs⟩ := hr2 (by omega)
  obtain ⟨⟨p, b⟩, hu, hsm⟩ := laws_toWeave_ok (P, B) hvs
  simp only at hu
  have q2 := laws_eqWeave_ok (p, b) (p, b) hsm (Sim.refl _)
  simp only at q2
  obtain ⟨c, o, y, e1, e2, hyo, hy⟩ := Annotate_two p b hsm.1 hsm.2 i
  have q1 := laws_eqNoteS_ok y o hy (Sim.same hyo)
  obtain ⟨k1, m1, m2, n1, n2, n3⟩ := markWv_tot p b hsm.1 (dSml_of hsm.2)
  obtain ⟨k', m', n1', n2', n3'⟩ := laws_markNoteS_s2747_ok y hy
  have p1 : decide (k1 < 0) = false := decide_eq_false (by omega)
  have p2 : decide (k' < 0) = false := decide_eq_false (by omega)
  have p3 : decide (c = c) = true := decide_eq_true rfl
  have p4 : decide (k' = k') = true := decide_eq_true rfl
  rw [hu]
  repeat (first | rw [Option.bind_some] | rw [e1] | rw [e2] | rw [q1] | rw [q2] | rw [n1] | rw [n1'] | rw [n3'])
  rw [p1, p2, p3, p4]
  repeat (first | rw [Option.bind_some] | rw [e2] | rw [q1] | rw [n1] | rw [n1'] | rw [n3'] | rw [p1] | rw [p2] | rw [p3] | rw [p4])
  rfl

end Go.Al
