import Derived.Test.YtahffnkphppgoaaGreatPNam
import Derived.Test.YtahffnkphppgoaaGreatGMergeAt
set_option linter.unusedVariables false
set_option linter.unusedSimpArgs false
set_option linter.constructorNameAsVariable false
set_option linter.unusedSectionVars false
namespace Go.Al
theorem spec_l13Id_ok (v : Vec (ByteArray × Int × Int)) (hv : Sml.sml v) (d : Int) : ∃ r, spec_l13Id.F v d = some r ∧ IsFirst (fun i => (v.g i).2.1 = d) v.n r := by
  have hs : sN = 1048576 := rfl
  have hb : bN = 140737488351232 := rfl
  have hn := hv.1
  unfold spec_l13Id.F spec_l13Id.B
  rcases ZH (p := fun i => (v.g i).2.1 = d) (n := v.n) (by omega) (fun k i => spec_l13Id.F0 k v d i (fun _ => some (-1 : Int)) (fun x => some x)) (some (-1)) (fun i => some i) (fun k i => by
    simp only [spec_l13Id.F0, spec_l13Id.B0, selb, chkb, decide_eq_true_eq, Int.toNat_natCast, Int.ofNat_lt, Int.natCast_nonneg, true_and]
    refine ⟨fun h1 h2 => by simp [h1, h2], fun h1 h2 => ?_, fun h1 => by simp [h1]⟩
    rw [zK (by omega)]
    simp [h1, h2]) with ⟨h, e⟩ | ⟨i, h1, h2, h3, e⟩
  · exact ⟨-1, e, .inl ⟨rfl, h⟩⟩
  · exact ⟨i, e, .inr ⟨i, rfl, h1, h2, h3⟩⟩
end Go.Al
