import Derived.Test.YtbpicgilplnmoaaPNamesOk
import Derived.Test.YtbpicgilplnmoaaGByPath
set_option linter.unusedVariables false
set_option linter.unusedSimpArgs false
namespace Go.Al

theorem spec_l13Path_ok (v : Vec (ByteArray × Int × Int)) (hv : Sml.sml v) (d : ByteArray) : ∃ r, spec_l13Path.F v d = some r ∧ IsFirst (fun i => (v.g i).1 = d) v.n r := by
  have hs : sN = 1048576 := rfl
  have hb : bN = 140737488351232 := rfl
  have hn := hv.1
  unfold spec_l13Path.F spec_l13Path.B
  rcases first_loop (p := fun i => (v.g i).1 = d) (n := v.n) (by omega) (fun k i => spec_l13Path.F0 k v d i (fun _ => some (-1 : Int)) (fun x => some x)) (some (-1)) (fun i => some i) (fun k i => by
    simp only [spec_l13Path.F0, spec_l13Path.B0, selb, chkb, decide_eq_true_eq, Int.toNat_natCast, Int.ofNat_lt, Int.natCast_nonneg, true_and]
    refine ⟨fun h1 h2 => by simp [h1, h2], fun h1 h2 => ?_, fun h1 => by simp [h1]⟩
    rw [wr_succ (by omega)]
    simp [h1, h2]) with ⟨h, e⟩ | ⟨i, h1, h2, h3, e⟩
  · exact ⟨-1, e, .inl ⟨rfl, h⟩⟩
  · exact ⟨i, e, .inr ⟨i, rfl, h1, h2, h3⟩⟩
theorem impl_pathAt_ok (v : Vec (ByteArray × Int × Int)) (hv : Sml.sml v) (d : ByteArray) : ∃ r, impl_pathAt.F v d = some r ∧ IsFirst (fun i => (v.g i).1 = d) v.n r := by
  have hs : sN = 1048576 := rfl
  have hb : bN = 140737488351232 := rfl
  have hn := hv.1
  unfold impl_pathAt.F impl_pathAt.B slices_IndexFunc_impl_Name_sb609.F slices_IndexFunc_impl_Name_sb609.B
  rcases first_loop (p := fun i => (v.g i).1 = d) (n := v.n) (by omega) (fun k i => slices_IndexFunc_impl_Name_sb609.F0 k v v.n i d (fun e01 => some ((-1 : Int), e01)) (fun x01 x02 => some (x01, x02))) (some (-1, d)) (fun i => some (i, d)) (fun k i => by
    simp only [slices_IndexFunc_impl_Name_sb609.F0, slices_IndexFunc_impl_Name_sb609.B0, impl_pathAt_1_sbb22.F, impl_pathAt_1_sbb22.B, Option.bind_some, selb, chkb, decide_eq_true_eq, Int.toNat_natCast, Int.ofNat_lt, Int.natCast_nonneg, true_and]
    refine ⟨fun h1 h2 => by simp [h1, h2], fun h1 h2 => ?_, fun h1 => by simp [h1]⟩
    rw [wr_succ (by omega)]
    simp [h1, h2]) with ⟨h, e⟩ | ⟨i, h1, h2, h3, e⟩
  · exact ⟨-1, by rw [e]; rfl, .inl ⟨rfl, h⟩⟩
  · exact ⟨i, by rw [e]; rfl, .inr ⟨i, rfl, h1, h2, h3⟩⟩
theorem ByPath_same (v : Vec (ByteArray × Int × Int)) (hv : Sml.sml v) (d : ByteArray) : ∃ r, spec_ByPath.F v d = some r ∧ impl_ByPath.F v d = some r := by
  obtain ⟨b, e1, h1⟩ := spec_NamesOk_ok v hv
  obtain ⟨b', e2, h2⟩ := impl_NamesOk_ok v hv
  have : b' = b := by rw [Bool.eq_iff_iff, h1, h2]
  subst this
  obtain ⟨r, e3, h3⟩ := spec_l13Path_ok v hv d
  obtain ⟨q, e4, h4⟩ := impl_pathAt_ok v hv d
  obtain rfl := h3.one h4
  unfold spec_ByPath.F spec_ByPath.B impl_ByPath.F impl_ByPath.B
  rw [e1, e2, e3, e4]
  simp only [Option.bind_some, selb]
  split
  · exact ⟨_, rfl, rfl⟩
  · exact ⟨_, rfl, rfl⟩
theorem laws_FnExactByPath_true (v : Vec (ByteArray × Int × Int)) (d : ByteArray) (hv : Bnd.bnd v) (hd : Bnd.bnd d) : laws_FnExactByPath.F v d = some true := by
  unfold laws_FnExactByPath.F laws_FnExactByPath.B
  obtain ⟨r, hr, hr2⟩ := laws_szNameS_ok v 1048576 hv (by omega) (by omega)
  rw [hr]
  simp only [Option.bind_some, selb, decide_eq_true_eq]
  split
  · rfl
  split
  · rfl
  · obtain ⟨u, hu, hsm⟩ := laws_toNameS_ok v (hr2 (by omega)).2
    obtain ⟨q, e1, e2⟩ := ByPath_same u hsm d
    simp [hu, e1, e2, laws_eqNameS_ok u hsm]
end Go.Al
