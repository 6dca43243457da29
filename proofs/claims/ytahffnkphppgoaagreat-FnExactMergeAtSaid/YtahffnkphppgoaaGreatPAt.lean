import Derived.Test.YtahffnkphppgoaaGreatPSto
import Derived.Test.YtahffnkphppgoaaGreatGAt
set_option linter.unusedVariables false
set_option linter.unusedSimpArgs false
set_option linter.constructorNameAsVariable false
set_option linter.unusedSectionVars false
namespace Go.Al
theorem spec_l13Path_ok (v : Vec (ByteArray × Int × Int)) (hv : Sml.sml v) (d : ByteArray) : ∃ r, spec_l13Path.F v d = some r ∧ IsFirst (fun i => (v.g i).1 = d) v.n r := by
  have hs : sN = 1048576 := rfl
  have hb : bN = 140737488351232 := rfl
  have hn := hv.1
  unfold spec_l13Path.F spec_l13Path.B
  rcases ZH (p := fun i => (v.g i).1 = d) (n := v.n) (by omega) (fun k i => spec_l13Path.F0 k v d i (fun _ => some (-1 : Int)) (fun x => some x)) (some (-1)) (fun i => some i) (fun k i => by
    simp only [spec_l13Path.F0, spec_l13Path.B0, selb, chkb, decide_eq_true_eq, Int.toNat_natCast, Int.ofNat_lt, Int.natCast_nonneg, true_and]
    refine ⟨fun h1 h2 => by simp [h1, h2], fun h1 h2 => ?_, fun h1 => by simp [h1]⟩
    rw [zK (by omega)]
    simp [h1, h2]) with ⟨h, e⟩ | ⟨i, h1, h2, h3, e⟩
  · exact ⟨-1, e, .inl ⟨rfl, h⟩⟩
  · exact ⟨i, e, .inr ⟨i, rfl, h1, h2, h3⟩⟩
theorem impl_pathAt_ok (v : Vec (ByteArray × Int × Int)) (hv : Sml.sml v) (d : ByteArray) : ∃ r, impl_pathAt.F v d = some r ∧ IsFirst (fun i => (v.g i).1 = d) v.n r := by
  have hs : sN = 1048576 := rfl
  have hb : bN = 140737488351232 := rfl
  have hn := hv.1
  unfold impl_pathAt.F impl_pathAt.B slices_IndexFunc_impl_Name_sb609.F slices_IndexFunc_impl_Name_sb609.B
  rcases ZH (p := fun i => (v.g i).1 = d) (n := v.n) (by omega) (fun k i => slices_IndexFunc_impl_Name_sb609.F0 k v v.n i d (fun e01 => some ((-1 : Int), e01)) (fun x01 x02 => some (x01, x02))) (some (-1, d)) (fun i => some (i, d)) (fun k i => by
    simp only [slices_IndexFunc_impl_Name_sb609.F0, slices_IndexFunc_impl_Name_sb609.B0, impl_pathAt_1_sbb22.F, impl_pathAt_1_sbb22.B, Option.bind_some, selb, chkb, decide_eq_true_eq, Int.toNat_natCast, Int.ofNat_lt, Int.natCast_nonneg, true_and]
    refine ⟨fun h1 h2 => by simp [h1, h2], fun h1 h2 => ?_, fun h1 => by simp [h1]⟩
    rw [zK (by omega)]
    simp [h1, h2]) with ⟨h, e⟩ | ⟨i, h1, h2, h3, e⟩
  · exact ⟨-1, by rw [e]; rfl, .inl ⟨rfl, h⟩⟩
  · exact ⟨i, by rw [e]; rfl, .inr ⟨i, rfl, h1, h2, h3⟩⟩
theorem st_cm_of {L : Vec Cm} (h : Sml.sml L) : cmSml L := ⟨h.1, fun i hi => ⟨(h.2 i hi).2.1, (h.2 i hi).2.2⟩⟩
theorem st_d_of {B : Vec Bd} (h : Sml.sml B) : dSml B := ⟨h.1, fun i hi => ⟨(h.2 i hi).2.2.2.1, (h.2 i hi).1⟩⟩
theorem wvs_of {F : Vec Wv} (h : Sml.sml F) : wvsSml F := ⟨h.1, fun i hi => ⟨(h.2 i hi).1.1, st_d_of (h.2 i hi).2⟩⟩
theorem spec_has15_ok (C : Vec Cm) (hC : C.n ≤ 1048576) (F : Vec Wv) (c : Int) : spec_l15Has.F C F c = some (decide (0 ≤ c ∧ c < (C.n : Int))) := by
  rw [spec_l15Has.F, spec_l15Has.B, spec_l01In_eq, zQ (by omega) (by omega), Option.bind_some]
  exact congrArg some (decide_eq_decide.2 ⟨fun h => ⟨h.1, by omega⟩, fun h => ⟨h.1, by omega⟩⟩)
def nmIn (F : Vec Wv) (x : Nm) : Prop := (0 ≤ x.2.1 ∧ x.2.1 < (F.n : Int)) ∧ 0 ≤ x.2.2 ∧ x.2.2 < ((F.g x.2.1.toNat).1.n : Int)
theorem ver_nn {v : Vec Nm} (h : zZ v) {k : Nat} (hk : k < v.n) : 0 ≤ (v.g k).2.2 := ((h.2 k hk).2.2.2.1).1
theorem st_name {C : Vec Cm} {F : Vec Wv} (h : stGood C F) {c : Nat} (hc : c < C.n) {k : Nat} (hk : k < (C.g c).2.2.n) : nmIn F ((C.g c).2.2.g k) := by
  obtain ⟨-, hn, h3⟩ := h.2.2.2.2.2.2 c hc
  have h4 := id_nn hn hk
  have h5 := ver_nn hn hk
  have h6 := h3 k hk
  unfold inVer at h6
  have h7 : (verOf F).n = F.n := rfl
  have h8 : (verOf F).g ((C.g c).2.2.g k).2.1.toNat = ((F.g ((C.g c).2.2.g k).2.1.toNat).1.n : Int) := rfl
  rw [h7, h8] at h6
  exact ⟨⟨h4, by omega⟩, h5, by omega⟩
theorem NamesAt_two (C : Vec Cm) (hC : Sml.sml C) (F : Vec Wv) (hF : Sml.sml F) (c : Int) : ∃ code v, spec_NamesAt.F C F c = some (code, v) ∧ impl_NamesAt.F C F c = some (code, v) ∧
    ((code ≠ 0 ∧ v = Vec.nil) ∨ (code = 0 ∧ stGood C F ∧ (0 ≤ c ∧ c < (C.n : Int)) ∧ v = (C.g c.toNat).2.2 ∧ v.n ≤ 12)) := by
  have hM : maxN = 140737488355328 := rfl
  have hCn := hC.1
  have hs : sN = 1048576 := rfl
  obtain ⟨b, e1, h1⟩ := spec_StoreOk_ok C (st_cm_of hC) F (wvs_of hF)
  obtain ⟨b', e2, h2⟩ := impl_StoreOk_ok C (st_cm_of hC) F (wvs_of hF)
  obtain rfl : b' = b := by rw [Bool.eq_iff_iff, h1, h2]
  rw [spec_NamesAt.F, spec_NamesAt.B, impl_NamesAt.F, impl_NamesAt.B, e1, e2, Option.bind_some, Option.bind_some, spec_has15_ok C (by omega), impl_isPlace_ok _ _ (by omega) (by omega), Option.bind_some, Option.bind_some]
  cases b' with
  | false => exact ⟨_, _, rfl, rfl, .inl ⟨by decide, rfl⟩⟩
  | true =>
    by_cases hc : 0 ≤ c ∧ c < (C.n : Int)
    · have hg := h1.1 rfl
      have h12 : (C.g c.toNat).2.2.n ≤ 12 := (hg.2.2.2.2.2.2 c.toNat (by omega)).2.1.1
      have h9 : (C.g c.toNat).2.2.n * 33 ≤ maxN := by omega
      rw [decide_eq_true hc]
      refine ⟨0, (C.g c.toNat).2.2, ?_, ?_, .inr ⟨rfl, hg, hc, rfl, h12⟩⟩
      · simp only [selb, Bool.not_true, Bool.false_eq_true, if_false, chkb, if_true, decide_eq_true h9]
      · simp only [selb, Bool.not_true, Bool.false_eq_true, if_false, chkb, if_true, slices_Clone_impl_Name.F, decide_eq_true h9, Option.bind_some]
    · rw [decide_eq_false hc]
      exact ⟨_, _, rfl, rfl, .inl ⟨by decide, rfl⟩⟩
theorem first_at {p : Nat → Prop} {n : Nat} {r : Int} (h : IsFirst p n r) (h0 : ¬ r < 0) : ∃ i : Nat, r = i ∧ i < n := by
  rcases h with ⟨rfl, -⟩ | ⟨i, rfl, h1, -⟩
  · exact absurd (by decide) h0
  · exact ⟨i, rfl, h1⟩
theorem Find_two (C : Vec Cm) (hC : Sml.sml C) (F : Vec Wv) (hF : Sml.sml F) (c : Int) (d : ByteArray) : ∃ r : ByteArray × Int × Int × Int, spec_l15Find.F C F c d = some r ∧ impl_nameAt.F C F c d = some r ∧
    (r.2.2.2 ≠ 0 ∨ (r.2.2.2 = 0 ∧ stGood C F ∧ (0 ≤ c ∧ c < (C.n : Int)) ∧ nmIn F (r.1, r.2.1, r.2.2.1))) := by
  obtain ⟨code, v, e1, e2, h⟩ := NamesAt_two C hC F hF c
  rw [spec_l15Find.F, spec_l15Find.B, impl_nameAt.F, impl_nameAt.B, e1, e2, Option.bind_some, Option.bind_some]
  rcases h with ⟨h, -⟩ | ⟨rfl, hg, hc, rfl, hn⟩
  · simp only [selb, decide_eq_false h, Bool.not_false, if_true]
    exact ⟨_, rfl, rfl, .inl h⟩
  · have hv : Sml.sml (C.g c.toNat).2.2 := (hC.2 c.toNat (by omega)).2.2
    obtain ⟨r, e3, h3⟩ := spec_l13Path_ok _ hv d
    obtain ⟨q, e4, h4⟩ := impl_pathAt_ok _ hv d
    obtain rfl := h3.one h4
    simp only [selb, decide_true, Bool.not_true, Bool.false_eq_true, if_false, e3, e4, Option.bind_some, decide_eq_true_eq]
    by_cases h0 : r < 0
    · rw [if_pos h0]
      exact ⟨_, rfl, rfl, .inl (by decide)⟩
    · obtain ⟨i, rfl, hi⟩ := first_at h3 h0
      rw [if_neg h0, chk_true (decide_eq_true ⟨by omega, by omega⟩), chk_true (decide_eq_true (by omega))]
      exact ⟨_, rfl, rfl, .inr ⟨rfl, hg, hc, st_name hg (by omega) hi⟩⟩
theorem st_weave {C : Vec Cm} {F : Vec Wv} (h : stGood C F) {x : Nm} (hx : nmIn F x) : wvGood (F.g x.2.1.toNat).1 (F.g x.2.1.toNat).2 := (h.2.1 _ (by have := hx.1; omega)).2
end Go.Al
