import Derived.Test.YtbpicgilplnmoaaPNamesOk
import Derived.Test.YtbpicgilplnmoaaGById
set_option linter.unusedVariables false
set_option linter.unusedSimpArgs false
namespace Go.Al

theorem spec_l13Id_ok (v : Vec (ByteArray × Int × Int)) (hv : Sml.sml v) (d : Int) : ∃ r, spec_l13Id.F v d = some r ∧ IsFirst (fun i => (v.g i).2.1 = d) v.n r := by
  have hs : sN = 1048576 := rfl
  have hb : bN = 140737488351232 := rfl
  have hn := hv.1
  unfold spec_l13Id.F spec_l13Id.B
  rcases first_loop (p := fun i => (v.g i).2.1 = d) (n := v.n) (by omega) (fun k i => spec_l13Id.F0 k v d i (fun _ => some (-1 : Int)) (fun x => some x)) (some (-1)) (fun i => some i) (fun k i => by
    simp only [spec_l13Id.F0, spec_l13Id.B0, selb, chkb, decide_eq_true_eq, Int.toNat_natCast, Int.ofNat_lt, Int.natCast_nonneg, true_and]
    refine ⟨fun h1 h2 => by simp [h1, h2], fun h1 h2 => ?_, fun h1 => by simp [h1]⟩
    rw [wr_succ (by omega)]
    simp [h1, h2]) with ⟨h, e⟩ | ⟨i, h1, h2, h3, e⟩
  · exact ⟨-1, e, .inl ⟨rfl, h⟩⟩
  · exact ⟨i, e, .inr ⟨i, rfl, h1, h2, h3⟩⟩
theorem ById_same (v : Vec (ByteArray × Int × Int)) (hv : Sml.sml v) (d : Int) : ∃ r, spec_ById.F v d = some r ∧ impl_ById.F v d = some r := by
  have hs : sN = 1048576 := rfl
  have hb : bN = 140737488351232 := rfl
  have hn := hv.1
  obtain ⟨b, e1, h1⟩ := spec_NamesOk_ok v hv
  obtain ⟨b', e2, h2⟩ := impl_NamesOk_ok v hv
  have : b' = b := by rw [Bool.eq_iff_iff, h1, h2]
  subst this
  obtain ⟨r, e3, h3⟩ := spec_l13Id_ok v hv d
  obtain ⟨q, e4, h4⟩ := impl_idAt_ok v (by omega) d
  have h4' : IsFirst (fun i => (v.g i).2.1 = d) v.n q := h4
  obtain rfl := h3.one h4'
  unfold spec_ById.F spec_ById.B impl_ById.F impl_ById.B
  rw [e1, e2, e3, e4]
  simp only [Option.bind_some, selb]
  split
  · exact ⟨_, rfl, rfl⟩
  · exact ⟨_, rfl, rfl⟩
theorem laws_FnExactById_true (v : Vec (ByteArray × Int × Int)) (d : Int) (hv : Bnd.bnd v) (hd : Bnd.bnd d) : laws_FnExactById.F v d = some true := by
  unfold laws_FnExactById.F laws_FnExactById.B
  obtain ⟨r, hr, hr2⟩ := laws_szNameS_ok v 1048576 hv (by omega) (by omega)
  rw [hr]
  simp only [Option.bind_some, selb, decide_eq_true_eq]
  split
  · rfl
  · obtain ⟨u, hu, hsm⟩ := laws_toNameS_ok v (hr2 (by omega)).2
    obtain ⟨q, e1, e2⟩ := ById_same u hsm d
    simp [hu, e1, e2, laws_eqNameS_ok u hsm]
end Go.Al
