import Derived.Test.YtahffnkphppgoaaGreatPMap0
import Derived.Test.YtahffnkphppgoaaGreatGNotesAt
set_option linter.unusedVariables false
set_option linter.unusedSimpArgs false
set_option linter.constructorNameAsVariable false
set_option linter.unusedSectionVars false
namespace Go.Al
theorem nil_smlT {A : Type} [Enc A] [Sml A] : Sml.sml (Vec.nil : Vec A) := ⟨Nat.zero_le _, fun i hi => absurd hi (Nat.not_lt_zero i)⟩
theorem spec_has_ok (P : Gr) (hP : P.n ≤ 1048576) (B : Vec Bd) (a : Int) : spec_l06Has.F P B a = some (decide (0 ≤ a ∧ a < (P.n : Int))) := by
  rw [spec_l06Has.F, spec_l06Has.B, spec_l01In_eq, wr_small (by omega) (by omega), Option.bind_some]
  exact congrArg some (decide_eq_decide.2 ⟨fun h => ⟨h.1, by omega⟩, fun h => ⟨h.1, by omega⟩⟩)
abbrev Nt : Type := Int × Int × ByteArray
def noteAt (B : Vec Bd) (x : Int) : Nt := ((B.g x.toNat).2.1, (B.g x.toNat).2.2.1, (B.g x.toNat).1)
theorem nt_sml {B : Vec Bd} (hB : Sml.sml B) {S : Nat → Prop} {x : Int} (h : x ∈ places B S) : Sml.sml (noteAt B x) := by
  have := places_mem h
  have h2 := hB.2 x.toNat (by omega)
  exact ⟨h2.2.1, h2.2.2.1, h2.1⟩
theorem spec_notes_loop {ρ : Type} (P : Gr) (B : Vec Bd) (l : Vec Int) (hl : l.n ≤ 1000) (hin : ∀ x ∈ l.toL, 0 ≤ x ∧ x < (B.n : Int)) (K0 : Vec Nt → Option ρ) : ∃ o, spec_Annotate.F0 fuelN 0 P B Vec.nil l K0 = K0 o ∧ o.toL = l.toL.map (noteAt B) := by
  have hM : maxN = 140737488355328 := rfl
  refine map_loop l (by omega) (noteAt B) (fun k i out => spec_Annotate.F0 k i P B out l K0) K0 (fun k i out hn hi => ?_) (fun k i out hi => ?_)
  · have hlit : ∀ x : Nt, (Vec.lit [x] : Vec Nt).n = 1 := fun _ => rfl
    have hx := hin (l.g i) (List.mem_of_getElem? (Vec.toL_get l i hi))
    have en : spec_l09Note.F (B.g (l.g i).toNat).1 (B.g (l.g i).toNat).2.1 (B.g (l.g i).toNat).2.2.1 (B.g (l.g i).toNat).2.2.2 = some (noteAt B (l.g i)) := rfl
    simp only [spec_Annotate.F0, spec_Annotate.B0, selb, chkb, decide_eq_true_eq, Int.toNat_natCast, Int.ofNat_lt, Int.natCast_nonneg, true_and, if_pos hi, if_pos hx, en, Option.bind_some, hlit, if_pos (show (out.n + 1) * 33 ≤ maxN by omega), wr_succ (i := i) (by omega)]
  · simp only [spec_Annotate.F0, spec_Annotate.B0, selb, decide_eq_true_eq, Int.ofNat_lt, if_neg hi]
theorem impl_notes_loop {ρ : Type} (P : Gr) (B : Vec Bd) (l : Vec Int) (hl : l.n ≤ 1000) (hin : ∀ x ∈ l.toL, 0 ≤ x ∧ x < (B.n : Int)) (K0 : Vec Nt → Option ρ) : ∃ o, impl_Weave_annotate.F0 fuelN P B (l.n : Int) 0 Vec.nil l K0 = K0 o ∧ o.toL = l.toL.map (noteAt B) := by
  have hM : maxN = 140737488355328 := rfl
  refine map_loop l (by omega) (noteAt B) (fun k i out => impl_Weave_annotate.F0 k P B (l.n : Int) i out l K0) K0 (fun k i out hn hi => ?_) (fun k i out hi => ?_)
  · have hlit : ∀ x : Nt, (Vec.lit [x] : Vec Nt).n = 1 := fun _ => rfl
    have hx := hin (l.g i) (List.mem_of_getElem? (Vec.toL_get l i hi))
    have en : impl_Body_note.F (B.g (l.g i).toNat).1 (B.g (l.g i).toNat).2.1 (B.g (l.g i).toNat).2.2.1 (B.g (l.g i).toNat).2.2.2 = some (noteAt B (l.g i)) := rfl
    simp only [impl_Weave_annotate.F0, impl_Weave_annotate.B0, selb, chkb, decide_eq_true_eq, Int.toNat_natCast, Int.ofNat_lt, Int.natCast_nonneg, true_and, if_pos hi, if_pos hx, en, Option.bind_some, hlit, if_pos (show (out.n + 1) * 33 ≤ maxN by omega), wr_succ (i := i) (by omega)]
  · simp only [impl_Weave_annotate.F0, impl_Weave_annotate.B0, selb, decide_eq_true_eq, Int.ofNat_lt, if_neg hi]
theorem places_len {P : Gr} {B : Vec Bd} (hw : wvGood P B) {v : Nat} (hv : v < P.n) : (places B (Cl P v)).length ≤ 80 := (hw.2.2.2 v hv).2
theorem impl_annotate_ok (P : Gr) (B : Vec Bd) (hB : dSml B) (hw : wvGood P B) (v : Nat) (hv : v < P.n) : ∃ q, impl_Weave_annotate.F P B (v : Int) = some q ∧ q.toL = (places B (Cl P v)).map (noteAt B) := by
  have hg := hw.1
  obtain ⟨C, e0, hC⟩ := impl_closures_T P hg
  have hCn := hC.1
  obtain ⟨l, e1, hl⟩ := impl_liveIn_ok P B hB (C.g v).v (Cl P v) (hC.2 v hv)
  have hln : l.n ≤ 80 := by rw [← Vec.toL_length, hl]; exact places_len hw hv
  obtain ⟨o, e2, ho⟩ := impl_notes_loop P B l (by omega) (fun x hx => by rw [hl] at hx; exact places_mem hx) (fun e01 => some e01)
  rw [impl_Weave_annotate.F, impl_Weave_annotate.B, e0, Option.bind_some, Int.toNat_natCast, e1, Option.bind_some, e2, chk_true (decide_eq_true ⟨by omega, by omega⟩), chk_true (decide_eq_true (by omega))]
  exact ⟨o, rfl, by rw [ho, hl]⟩
theorem spec_annotate_ok (P : Gr) (B : Vec Bd) (hP : Sml.sml P) (hB : dSml B) (hw : wvGood P B) (v : Nat) (hv : v < P.n) : ∃ o, spec_Annotate.F P B (v : Int) = some ((0 : Int), o) ∧ o.toL = (places B (Cl P v)).map (noteAt B) := by
  obtain ⟨c, e, hc⟩ := spec_WeaveOk_ok P B hB
  obtain rfl : c = true := hc.2 hw
  have h2 : 0 ≤ (v : Int) ∧ (v : Int) < (P.n : Int) := by omega
  have hg := hw.1
  obtain ⟨s, e3, hs⟩ := spec_l06Closure_ok P hg B v hv
  obtain ⟨l, e4, hl⟩ := spec_places_ok P B hB s P.n hg.1 (Cl P v) hs (fun u hu => Cl_lt hg hu hv)
  have hln : l.n ≤ 80 := by rw [← Vec.toL_length, hl]; exact places_len hw hv
  obtain ⟨o, e5, ho⟩ := spec_notes_loop P B l (by omega) (fun x hx => by rw [hl] at hx; exact places_mem hx) (fun e01 => some ((0 : Int), e01))
  rw [spec_Annotate.F, spec_Annotate.B, e, Option.bind_some, spec_has_ok P hP.1, Option.bind_some, decide_eq_true h2, e3, Option.bind_some, e4, Option.bind_some, e5]
  exact ⟨o, rfl, by rw [ho, hl]⟩
end Go.Al
