import Derived.Test.YtdiclekkkaaahaaGreatPMap0
import Derived.Test.YtdiclekkkaaahaaGreatGTx
set_option linter.unusedVariables false
set_option linter.unusedSimpArgs false
namespace Go.Al
theorem nil_smlT {A : Type} [Enc A] [Sml A] : Sml.sml (Vec.nil : Vec A) := ⟨Nat.zero_le _, fun i hi => absurd hi (Nat.not_lt_zero i)⟩
def lineAt (B : Vec Bd) (x : Int) : ByteArray := (B.g x.toNat).1
noncomputable def textOf (B : Vec Bd) (S : Nat → Prop) : List ByteArray := (places B S).map (lineAt B)
theorem spec_lines_ok (P : Gr) (B : Vec Bd) (l : Vec Int) (hl : l.n ≤ 1000) (hin : ∀ x ∈ l.toL, 0 ≤ x ∧ x < (B.n : Int)) : ∃ o, spec_l06Lines.F P B l = some o ∧ o.toL = l.toL.map (lineAt B) := by
  have hM : maxN = 140737488355328 := rfl
  rw [spec_l06Lines.F, spec_l06Lines.B]
  refine map_loop l (by omega) (lineAt B) (fun k i out => spec_l06Lines.F0 k l i P B out (fun e01 => some e01)) some (fun k i out hn hi => ?_) (fun k i out hi => ?_)
  · have hlit : ∀ x : ByteArray, (Vec.lit [x] : Vec ByteArray).n = 1 := fun _ => rfl
    have hx := hin (l.g i) (List.mem_of_getElem? (Vec.toL_get l i hi))
    simp only [spec_l06Lines.F0, spec_l06Lines.B0, selb, chkb, decide_eq_true_eq, Int.toNat_natCast, Int.ofNat_lt, Int.natCast_nonneg, true_and, if_pos hi, if_pos hx, hlit, if_pos (show (out.n + 1) * 17 ≤ maxN by omega), wr_succ (i := i) (by omega), lineAt]
  · simp only [spec_l06Lines.F0, spec_l06Lines.B0, selb, decide_eq_true_eq, Int.ofNat_lt, if_neg hi]
theorem impl_linesAt_ok (P : Gr) (B : Vec Bd) (l : Vec Int) (hl : l.n ≤ 1000) (hin : ∀ x ∈ l.toL, 0 ≤ x ∧ x < (B.n : Int)) : ∃ o, impl_Weave_linesAt.F P B l = some o ∧ o.toL = l.toL.map (lineAt B) := by
  have hM : maxN = 140737488355328 := rfl
  rw [impl_Weave_linesAt.F, impl_Weave_linesAt.B]
  refine map_loop l (by omega) (lineAt B) (fun k i out => impl_Weave_linesAt.F0 k P B l (l.n : Int) i out (fun e01 => some e01)) some (fun k i out hn hi => ?_) (fun k i out hi => ?_)
  · have hlit : ∀ x : ByteArray, (Vec.lit [x] : Vec ByteArray).n = 1 := fun _ => rfl
    have hx := hin (l.g i) (List.mem_of_getElem? (Vec.toL_get l i hi))
    simp only [impl_Weave_linesAt.F0, impl_Weave_linesAt.B0, selb, chkb, decide_eq_true_eq, Int.toNat_natCast, Int.ofNat_lt, Int.natCast_nonneg, true_and, if_pos hi, if_pos hx, hlit, if_pos (show (out.n + 1) * 17 ≤ maxN by omega), wr_succ (i := i) (by omega), lineAt]
  · simp only [impl_Weave_linesAt.F0, impl_Weave_linesAt.B0, selb, decide_eq_true_eq, Int.ofNat_lt, if_neg hi]
theorem places_le {P : Gr} {B : Vec Bd} (hw : wvGood P B) {v : Nat} (hv : v < P.n) : (places B (Cl P v)).length ≤ 80 := (hw.2.2.2 v hv).2
theorem impl_text_ok (P : Gr) (B : Vec Bd) (hB : dSml B) (hw : wvGood P B) (v : Nat) (hv : v < P.n) : ∃ o, impl_Weave_extract.F P B (v : Int) = some o ∧ o.toL = textOf B (Cl P v) := by
  have hg := hw.1
  rw [impl_Weave_extract.F, impl_Weave_extract.B]
  obtain ⟨C, e1, hC⟩ := impl_closures_T P hg
  have hvC : v < C.n := by rw [hC.1]; exact hv
  obtain ⟨l, e2, hl⟩ := impl_liveIn_ok P B hB (C.g v).v (Cl P v) (hC.2 v hv)
  obtain ⟨o, e3, ho⟩ := impl_linesAt_ok P B l (by rw [← Vec.toL_length, hl]; exact Nat.le_trans (places_le hw hv) (by omega)) (fun x hx => by rw [hl] at hx; exact places_mem hx)
  rw [e1, Option.bind_some, chkb, if_pos (by simp only [decide_eq_true_eq]; omega), chkb, if_pos (by simp only [decide_eq_true_eq, Int.toNat_natCast]; omega), Int.toNat_natCast, e2, Option.bind_some, e3, Option.bind_some]
  exact ⟨o, rfl, by rw [ho, hl]; rfl⟩
noncomputable abbrev TX (P : Gr) (B : Vec Bd) (v : Nat) : List ByteArray := textOf B (Cl P v)
end Go.Al
