import Derived.Test.YtbhcecfdgkgjmaaPDk2
import Derived.Test.YtbhcecfdgkgjmaaPDraw
import Derived.Test.YtbhcecfdgkgjmaaGFnRaws
set_option linter.unusedVariables false
set_option linter.unusedSimpArgs false
set_option linter.constructorNameAsVariable false
set_option linter.unusedSectionVars false
namespace Go.Al
theorem PickI_ok {v : Bs} {i : Int} (hc : curOk v i) (h : Int) (l : Vec Int) (hl : 0 < l.n) : ∃ x i' h', spec_l01PickInt_sa4ec.F v i h l = some (x, v, i', h', l) ∧ curOk v i' := by
  obtain ⟨x, i', h', e, h0, h1, -, c⟩ := spec_l01Below_ok (l.n : Int) hc h
  have h1 := h1 (by omega)
  rw [spec_l01PickInt_sa4ec.F, spec_l01PickInt_sa4ec.B, e, Option.bind_some]
  simp only
  rw [chk_true (decide_eq_true ⟨by omega, by omega⟩), chk_true (decide_eq_true (by omega))]
  exact ⟨_, _, _, rfl, c⟩
/-! ### What is drawn -/
theorem spec_l16Name_ok {v : Bs} {i : Int} (hc : curOk v i) (h : Int) : ∃ s i' h', spec_l16Name_s0451.F v i h = some (s, v, i', h') ∧ curOk v i' := by
  rw [spec_l16Name_s0451.F, spec_l16Name_s0451.B]
  obtain ⟨k, i', h', -, e, c⟩ := spec_l01Pick_ok hc h (Vec.lit [(ByteArray.mk #[99, 111, 109, 109, 105, 116, 115]), (ByteArray.mk #[119, 48]), (ByteArray.mk #[119, 49]), (ByteArray.mk #[119, 48, 43]), (ByteArray.mk #[105, 110, 116, 101, 110, 116]), (ByteArray.mk #[120]), (ByteArray.mk #[99, 111, 109, 109, 105, 116, 115, 43]), (ByteArray.mk #[119, 49, 49])] : Vec ByteArray) (by decide)
  rw [e]
  exact ⟨_, _, _, rfl, c⟩
theorem put_n (v : Vec FL) (hn : v.n ≤ 1000) (a b : ByteArray) : ∃ o, spec_l16Put.F v a b = some o ∧ o.n ≤ v.n + 1 := by
  obtain ⟨o, e, ho⟩ := spec_l16Put_ok v (by omega) (a, b)
  refine ⟨o, e, ?_⟩
  have := put_length (l := v.toL) (a, b)
  rwa [← ho, Vec.toL_length, Vec.toL_length] at this
theorem l16Disk_L0 {ρ : Type} {v : Bs} {i : Int} (hc : curOk v i) (h : Int) (K0 : Bs → Int → Int → Vec FL → Option ρ) : ∃ i' h' o, spec_l16Disk_s0451.F0 fuelN 0 v i h Vec.nil K0 = K0 v i' h' o ∧ o.n ≤ 6 ∧ curOk v i' := by
  refine loop_inv (σ := Nat × Int × Int × Vec FL) (fun t => 6 - t.1) (fun t => t.1 ≤ 6 ∧ t.2.2.2.n ≤ t.1 ∧ curOk v t.2.1) (fun _ x => ∃ i' h' o, x = K0 v i' h' o ∧ o.n ≤ 6 ∧ curOk v i') (fun k t => spec_l16Disk_s0451.F0 k (t.1 : Int) v t.2.1 t.2.2.1 t.2.2.2 K0) ?_ fuelN (0, i, h, Vec.nil) (by simp only [fuelN]; omega) ⟨Nat.zero_le _, Nat.zero_le _, hc⟩
  rintro k ⟨j, i, h, o⟩ ⟨hj, ho, hc⟩ ih
  simp only at hj ho hc ⊢
  obtain ⟨x, i1, h1, e1, hx0, hx, -, c1⟩ := spec_l01Below_ok 6 hc h
  have hx := hx (by omega)
  simp only [spec_l16Disk_s0451.F0, spec_l16Disk_s0451.B0, e1, Option.bind_some]
  rw [selb]
  split
  · rename_i h2
    rw [decide_eq_true_eq] at h2
    obtain ⟨s, i2, h2', e2, c2⟩ := spec_l16Name_ok c1 h1
    obtain ⟨y, i3, h3, e3, -, -, -, c3⟩ := spec_l01Below_ok 12 c2 h2'
    obtain ⟨t, i4, h4, e4, -, c4⟩ := spec_l01Text_ok y c3 h3
    obtain ⟨u, e5, hu⟩ := put_n o (by omega) s t
    rw [e2, Option.bind_some, e3, Option.bind_some, e4, Option.bind_some, e5, Option.bind_some, wr_succ (by omega)]
    exact ih (j + 1, i4, h4, u) ⟨by simp only; omega, by simp only; omega, c4⟩ (by simp only; omega)
  · exact ⟨_, _, _, rfl, by omega, c1⟩
theorem l16Disk_L1 {ρ : Type} {v : Bs} {i : Int} (hc : curOk v i) (h : Int) (K0 : Bs → Int → Int → Vec FL → Option ρ) : ∃ i' h' o, spec_l16Disk_s0451.F1 fuelN 0 v i h Vec.nil K0 = K0 v i' h' o ∧ o.n ≤ 50 ∧ curOk v i' := by
  have hM : maxN = 140737488355328 := rfl
  refine loop_inv (σ := Nat × Int × Int × Vec FL) (fun t => 50 - t.1) (fun t => t.1 ≤ 50 ∧ t.2.2.2.n ≤ t.1 ∧ curOk v t.2.1) (fun _ x => ∃ i' h' o, x = K0 v i' h' o ∧ o.n ≤ 50 ∧ curOk v i') (fun k t => spec_l16Disk_s0451.F1 k (t.1 : Int) v t.2.1 t.2.2.1 t.2.2.2 K0) ?_ fuelN (0, i, h, Vec.nil) (by simp only [fuelN]; omega) ⟨Nat.zero_le _, Nat.zero_le _, hc⟩
  rintro k ⟨j, i, h, o⟩ ⟨hj, ho, hc⟩ ih
  simp only at hj ho hc ⊢
  obtain ⟨x, i1, h1, e1, hx0, hx, -, c1⟩ := spec_l01Below_ok 2 hc h
  have hx := hx (by omega)
  simp only [spec_l16Disk_s0451.F1, spec_l16Disk_s0451.B1, e1, Option.bind_some]
  rw [wr_id (by omega) (by omega), selb]
  split
  · rename_i h2
    rw [decide_eq_true_eq] at h2
    obtain ⟨s, e2, hs⟩ := spec_Decimal_ok j (by omega)
    obtain ⟨u, e5, hu⟩ := put_n o (by omega) ((ByteArray.mk #[102]) ++ s) ByteArray.empty
    have h1s : (ByteArray.mk #[102]).size = 1 := rfl
    rw [e2, Option.bind_some, chk_true (decide_eq_true (by omega)), e5, Option.bind_some, wr_succ (by omega)]
    exact ih (j + 1, i1, h1, u) ⟨by simp only; omega, by simp only; omega, c1⟩ (by simp only; omega)
  · exact ⟨_, _, _, rfl, by omega, c1⟩
theorem spec_l16Disk_ok {v : Bs} {i : Int} (hc : curOk v i) (h : Int) : ∃ i' h' o, spec_l16Disk_s0451.F v i h = some (v, i', h', o) ∧ o.n ≤ 50 ∧ curOk v i' := by
  have hM : maxN = 140737488355328 := rfl
  rw [spec_l16Disk_s0451.F, spec_l16Disk_s0451.B]
  generalize hK : (fun (e01 : Bs) (e02 e03 : Int) (e04 : Vec FL) => (spec_l01Below_sb3e9.F 40 e01 e02 e03).bind fun r1 => _) = K0
  obtain ⟨i1, h1, o, e0, ho, c1⟩ := l16Disk_L0 hc h K0
  obtain ⟨x, i2, h2, e1, -, -, -, c2⟩ := spec_l01Below_ok 40 c1 h1
  rw [e0, ← hK]
  simp only
  rw [e1, Option.bind_some, selb]
  split
  · obtain ⟨s, e2, -⟩ := spec_l01Long_ok 24 (by omega) 122
    obtain ⟨t, e3, -⟩ := spec_l01Long_ok 25 (by omega) 122
    have e2 : spec_l01Long.F 24 122 = some s := e2
    have e3 : spec_l01Long.F 25 122 = some t := e3
    obtain ⟨k, i3, h3, -, e4, c3⟩ := spec_l01Pick_ok c2 h2 (Vec.lit [ByteArray.empty, (ByteArray.mk #[97]), s, t] : Vec ByteArray) (show 0 < 4 by decide)
    have hlit : ∀ x : FL, (Vec.lit [x]).n = 1 := fun _ => rfl
    rw [e2, Option.bind_some, e3, Option.bind_some, e4, Option.bind_some, chk_true (decide_eq_true (by rw [hlit]; omega))]
    exact ⟨_, _, _, rfl, by rw [Vec.app_n, hlit]; omega, c3⟩
  rw [selb]
  split
  · obtain ⟨y, i3, h3, e2, hy0, hy, -, c3⟩ := spec_l01Below_ok 2 c2 h2
    have hy := hy (by omega)
    obtain ⟨n, hn⟩ : ∃ n : Nat, 60004 + y = n := ⟨(60004 + y).toNat, by omega⟩
    obtain ⟨s, e3, -⟩ := spec_l01Long_ok n (by omega) 0
    obtain ⟨u, e5, hu⟩ := put_n o (by omega) (ByteArray.mk #[98, 105, 103]) s
    rw [e2, Option.bind_some, wr_id (by omega) (by omega)]
    simp only
    rw [hn, e3, Option.bind_some, e5, Option.bind_some]
    exact ⟨_, _, _, rfl, by omega, c3⟩
  rw [selb]
  split
  · obtain ⟨i3, h3, u, e2, hu, c3⟩ := l16Disk_L1 c2 h2 (fun e11 e12 e13 e14 => some (e11, e12, e13, e14))
    exact ⟨i3, h3, u, e2, hu, c3⟩
  · exact ⟨_, _, _, rfl, by omega, c2⟩
end Go.Al
