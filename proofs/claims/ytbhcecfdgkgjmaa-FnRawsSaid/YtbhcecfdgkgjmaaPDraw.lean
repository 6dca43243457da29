import Derived.Test.YtbhcecfdgkgjmaaAlH
import Derived.Test.YtbhcecfdgkgjmaaGDr
set_option linter.unusedVariables false
set_option linter.unusedSimpArgs false
set_option linter.constructorNameAsVariable false
set_option linter.unusedSectionVars false
namespace Go.Al
/-! ### Draws: the cursor, and what is drawn off it -/
abbrev Bs : Type := Vec (IK .u8)
def bytesOk (v : Bs) : Prop := v.n ≤ 1048576 ∧ ∀ i, i < v.n → 0 ≤ (v.g i).v ∧ (v.g i).v ≤ 255
def curOk (v : Bs) (i : Int) : Prop := bytesOk v ∧ 0 ≤ i ∧ i ≤ (v.n : Int)
theorem bytes_of {v : Bs} (h : Bnd.bnd v) (hn : v.n ≤ 1048576) : bytesOk v := ⟨hn, fun i hi => h.2 i hi⟩
theorem bAnd_low (a : Int) (m : Nat) (hm : m < 4611686018427387904) : 0 ≤ bAnd .i64 a (m : Int) ∧ bAnd .i64 a (m : Int) ≤ (m : Int) := by
  have h1 : (BitVec.ofInt 64 (m : Int)).toNat = m := by
    rw [BitVec.toNat_ofInt]
    omega
  have h2 : (BitVec.ofInt 64 a &&& BitVec.ofInt 64 (m : Int)).toNat ≤ m := by
    rw [BitVec.toNat_and, h1]
    exact Nat.and_le_right
  unfold bAnd
  show 0 ≤ wr ((BitVec.ofInt 64 a &&& BitVec.ofInt 64 (m : Int)).toNat : Int) ∧ wr ((BitVec.ofInt 64 a &&& BitVec.ofInt 64 (m : Int)).toNat : Int) ≤ (m : Int)
  rw [wr_id (by omega) (by omega)]
  omega
theorem low255 (a : Int) : 0 ≤ bAnd .i64 a (255 : Int) ∧ bAnd .i64 a (255 : Int) ≤ 255 := bAnd_low a 255 (by decide)
theorem l01New_loop {ρ : Type} (v : Bs) (hn : v.n ≤ 1048576) (K0 : Bs → Int → Option ρ) (h0 : Int) : ∃ h, spec_l01New.F0 fuelN v h0 0 K0 = K0 v h := by
  refine loop_inv (σ := Nat × Int) (fun t => v.n - t.1) (fun t => t.1 ≤ v.n) (fun _ x => ∃ h, x = K0 v h) (fun k t => spec_l01New.F0 k v t.2 (t.1 : Int) K0) ?_ fuelN (0, h0) (by simp only [fuelN]; omega) (Nat.zero_le _)
  rintro k ⟨i, h⟩ hi ih
  simp only at hi ⊢
  simp only [spec_l01New.F0, spec_l01New.B0, selb, chkb, decide_eq_true_eq]
  by_cases h1 : (i : Int) < (v.n : Int)
  · rw [if_pos h1]
    split
    · rw [if_pos ⟨by omega, h1⟩, wr_succ (by omega)]
      exact ih (i + 1, _) (by simp only; omega) (by simp only; omega)
    · exact ⟨_, rfl⟩
  · rw [if_neg h1]
    exact ⟨_, rfl⟩
theorem spec_l01New_ok (v : Bs) (hv : bytesOk v) : ∃ h, spec_l01New.F v = some (v, 0, h) := by
  rw [spec_l01New.F, spec_l01New.B]
  obtain ⟨h, e⟩ := l01New_loop v hv.1 (fun e01 e02 => some (e01, (0 : Int), e02)) (wr (73073 + (v.n : Int)))
  exact ⟨h, e⟩
theorem spec_l01Byte_ok {v : Bs} {i : Int} (hc : curOk v i) (h : Int) : ∃ x i' h', spec_l01Byte_s0451.F v i h = some (x, v, i', h') ∧ (0 ≤ x ∧ x ≤ 255) ∧ curOk v i' := by
  obtain ⟨hv, h0, h1⟩ := hc
  have hn := hv.1
  rw [spec_l01Byte_s0451.F, spec_l01Byte_s0451.B, selb]
  split
  · rename_i h2
    rw [decide_eq_true_eq] at h2
    rw [chk_true (decide_eq_true ⟨h0, h2⟩), wr_id (x := i + 1) (by omega) (by omega)]
    exact ⟨_, _, _, rfl, low255 _, hv, by omega, by omega⟩
  · exact ⟨_, _, _, rfl, low255 _, hv, h0, h1⟩
theorem tmod_in {x n : Int} (h0 : 0 ≤ x) (hn : 0 < n) : 0 ≤ Int.tmod x n ∧ Int.tmod x n < n := ⟨Int.tmod_nonneg _ h0, Int.tmod_lt_of_pos _ hn⟩
theorem spec_l01Below_ok (n : Int) {v : Bs} {i : Int} (hc : curOk v i) (h : Int) : ∃ x i' h', spec_l01Below_sb3e9.F n v i h = some (x, v, i', h') ∧ 0 ≤ x ∧ (0 < n → x < n) ∧ (n ≤ 0 → x = 0) ∧ curOk v i' := by
  rw [spec_l01Below_sb3e9.F, spec_l01Below_sb3e9.B, selb]
  split
  · rename_i h2
    rw [decide_eq_true_eq] at h2
    exact ⟨_, _, _, rfl, Int.le_refl _, fun h => by omega, fun _ => rfl, hc⟩
  · rename_i h2
    rw [decide_eq_true_eq] at h2
    obtain ⟨x, i1, h1, e1, hx, c1⟩ := spec_l01Byte_ok hc h
    rw [selb]
    split
    · rw [e1, Option.bind_some, chk_true (decide_eq_true (by omega))]
      exact ⟨_, _, _, rfl, (tmod_in hx.1 (by omega)).1, fun h => (tmod_in hx.1 h).2, fun h => by omega, c1⟩
    · obtain ⟨y, i2, h2', e2, hy, c2⟩ := spec_l01Byte_ok c1 h1
      obtain ⟨z, i3, h3, e3, hz, c3⟩ := spec_l01Byte_ok c2 h2'
      obtain ⟨w, i4, h4, e4, hw, c4⟩ := spec_l01Byte_ok c3 h3
      rw [e1, Option.bind_some, e2, Option.bind_some, e3, Option.bind_some, e4, Option.bind_some, chk_true (decide_eq_true (by omega))]
      simp only
      rw [wr_id (x := x * 16777216) (by omega) (by omega), wr_id (x := y * 65536) (by omega) (by omega), wr_id (x := z * 256) (by omega) (by omega), wr_id (x := x * 16777216 + y * 65536) (by omega) (by omega),
        wr_id (x := x * 16777216 + y * 65536 + z * 256) (by omega) (by omega), wr_id (x := x * 16777216 + y * 65536 + z * 256 + w) (by omega) (by omega)]
      exact ⟨_, _, _, rfl, (tmod_in (by omega) (by omega)).1, fun h => (tmod_in (by omega) h).2, fun h => by omega, c4⟩
theorem spec_l01Pick_ok {v : Bs} {i : Int} (hc : curOk v i) (h : Int) (l : Vec ByteArray) (hl : 0 < l.n) : ∃ k i' h', k < l.n ∧ spec_l01Pick_s189a.F v i h l = some (l.g k, v, i', h', l) ∧ curOk v i' := by
  obtain ⟨x, i', h', e, h0, h1, -, c⟩ := spec_l01Below_ok (l.n : Int) hc h
  have h1 := h1 (by omega)
  obtain ⟨k, rfl⟩ : ∃ k : Nat, x = k := ⟨x.toNat, by omega⟩
  rw [spec_l01Pick_s189a.F, spec_l01Pick_s189a.B, e, Option.bind_some]
  simp only [Int.toNat_natCast]
  rw [chk_true (decide_eq_true ⟨by omega, by omega⟩), chk_true (decide_eq_true (by omega))]
  exact ⟨k, _, _, by omega, rfl, c⟩
theorem toBytes_size (v : Bs) : (toBytes v).size = v.n := by simp [toBytes, ByteArray.size]
theorem l01Text_loop {ρ : Type} (n : Int) (hn : n ≤ 5000) {v : Bs} {i : Int} (hc : curOk v i) (h : Int) (K0 : Bs → Int → Int → Bs → Option ρ) :
    ∃ i' h' o, spec_l01Text_sb3e9.F0 fuelN n 0 v i h Vec.nil K0 = K0 v i' h' o ∧ o.n ≤ 5000 ∧ curOk v i' := by
  have hM : maxN = 140737488355328 := rfl
  refine loop_inv (σ := Nat × Int × Int × Bs) (fun t => 5000 - t.1) (fun t => t.1 ≤ 5000 ∧ t.2.2.2.n = t.1 ∧ curOk v t.2.1) (fun _ x => ∃ i' h' o, x = K0 v i' h' o ∧ o.n ≤ 5000 ∧ curOk v i') (fun k t => spec_l01Text_sb3e9.F0 k n (t.1 : Int) v t.2.1 t.2.2.1 t.2.2.2 K0) ?_ fuelN (0, i, h, Vec.nil) (by simp only [fuelN]; omega) ⟨Nat.zero_le _, rfl, hc⟩
  rintro k ⟨j, i, h, o⟩ ⟨hj, ho, hc⟩ ih
  simp only at hj ho hc ⊢
  simp only [spec_l01Text_sb3e9.F0, spec_l01Text_sb3e9.B0]
  rw [selb]
  split
  · rename_i h2
    rw [decide_eq_true_eq] at h2
    obtain ⟨x, i1, h1, e, hx, c1⟩ := spec_l01Byte_ok hc h
    have hlit : (Vec.lit [(⟨IntKind.wrap .u8 x⟩ : IK .u8)]).n = 1 := rfl
    rw [e, Option.bind_some]
    simp only
    rw [chk_true (decide_eq_true (by rw [hlit]; omega)), wr_succ (by omega)]
    exact ih (j + 1, i1, h1, _) ⟨by simp only; omega, (show o.n + 1 = j + 1 by omega), c1⟩ (by simp only; omega)
  · exact ⟨_, _, _, rfl, by omega, hc⟩
theorem spec_l01Text_ok (n : Int) {v : Bs} {i : Int} (hc : curOk v i) (h : Int) : ∃ s i' h', spec_l01Text_sb3e9.F n v i h = some (s, v, i', h') ∧ s.size ≤ 5000 ∧ curOk v i' := by
  rw [spec_l01Text_sb3e9.F, spec_l01Text_sb3e9.B, selb]
  split
  · obtain ⟨i', h', o, e, ho, c⟩ := l01Text_loop 5000 (Int.le_refl _) hc h (fun e01 e02 e03 e04 => chk (okBytes e04) (some (toBytes e04, e01, e02, e03)))
    rw [e, chk_true (okBytes_true o)]
    exact ⟨_, _, _, rfl, by rw [toBytes_size]; exact ho, c⟩
  · rename_i h2
    rw [decide_eq_true_eq] at h2
    obtain ⟨i', h', o, e, ho, c⟩ := l01Text_loop n (by omega) hc h (fun e01 e02 e03 e04 => chk (okBytes e04) (some (toBytes e04, e01, e02, e03)))
    rw [e, chk_true (okBytes_true o)]
    exact ⟨_, _, _, rfl, by rw [toBytes_size]; exact ho, c⟩
theorem spec_l01Long_ok (n : Nat) (hn : n ≤ 1000000) (x : Int) : ∃ s, spec_l01Long.F (n : Int) x = some s ∧ s.size = n := by
  have hM : maxN = 140737488355328 := rfl
  rw [spec_l01Long.F, spec_l01Long.B, chk_true (decide_eq_true ⟨rfl, by omega⟩), chk_true (show mkOk (n : Int) 1 = true from decide_eq_true (by omega)), Int.toNat_natCast]
  refine loop_inv (σ := Nat × Bs) (fun t => n - t.1) (fun t => t.1 ≤ n ∧ t.2.n = n) (fun _ x => ∃ s, x = some s ∧ s.size = n) (fun k t => spec_l01Long.F0 k (n : Int) x (t.1 : Int) t.2 (fun e01 => chk (okBytes e01) (some (toBytes e01)))) ?_ fuelN (0, Vec.rep n ⟨0⟩) (by simp only [fuelN]; omega) ⟨Nat.zero_le _, rfl⟩
  rintro k ⟨j, o⟩ ⟨hj, ho⟩ ih
  simp only at hj ho ⊢
  simp only [spec_l01Long.F0, spec_l01Long.B0]
  rw [selb]
  split
  · rename_i h2
    rw [decide_eq_true_eq] at h2
    rw [chk_true (decide_eq_true ⟨by omega, by omega⟩), Int.toNat_natCast, chk_true (decide_eq_true (by omega)), wr_succ (by omega)]
    exact ih (j + 1, _) ⟨by simp only; omega, ho⟩ (by simp only; omega)
  · rw [chk_true (okBytes_true o)]
    exact ⟨_, rfl, by rw [toBytes_size, ho]⟩
theorem figure_ok (n : Int) : ∃ x, spec_l01Figure.F n = some x := by
  rw [spec_l01Figure.F, spec_l01Figure.B, selb]
  split <;> exact ⟨_, rfl⟩
theorem spec_Decimal_ok (n : Nat) (hn : n ≤ 1000000000) : ∃ s, spec_Decimal.F (n : Int) = some s ∧ s.size ≤ n + 1 := by
  have hM : maxN = 140737488355328 := rfl
  rw [spec_Decimal.F, spec_Decimal.B, selb]
  split
  · exact ⟨_, rfl, by show 1 ≤ n + 1; omega⟩
  · rw [decide_eq_false (show ¬ (n : Int) < 0 by omega)]
    refine loop_inv (σ := Nat × ByteArray) (fun t => t.1) (fun t => t.1 + t.2.size ≤ n) (fun _ x => ∃ s, x = some s ∧ s.size ≤ n + 1)
      (fun k t => spec_Decimal.F0 k (t.1 : Int) false t.2 (fun e01 e02 => sel (e01) (chk (decide ((ByteArray.mk #[45]).size + e02.size ≤ maxN)) (some ((ByteArray.mk #[45]) ++ e02))) (some e02))) ?_ fuelN (n, ByteArray.empty) (by simp only [fuelN]; omega) (by show n + 0 ≤ n; omega)
    rintro k ⟨j, o⟩ hj ih
    simp only at hj ⊢
    simp only [spec_Decimal.F0, spec_Decimal.B0]
    by_cases h0 : (j : Int) = 0
    · rw [decide_eq_true h0]
      exact ⟨o, rfl, by omega⟩
    · have ht : Int.tmod (j : Int) 10 = ((j % 10 : Nat) : Int) := by rw [Int.tmod_eq_emod_of_nonneg (by omega)]; omega
      have hd : Int.tdiv (j : Int) 10 = ((j / 10 : Nat) : Int) := by rw [Int.tdiv_eq_ediv_of_nonneg (by omega)]; omega
      obtain ⟨x, e⟩ := figure_ok ((j % 10 : Nat) : Int)
      have hl : (toBytes (Vec.lit [⟨x⟩] : Bs)).size = 1 := by rw [toBytes_size]; rfl
      rw [decide_eq_false h0, ht, decide_eq_false (show ¬ ((j % 10 : Nat) : Int) < 0 by omega), e]
      simp only [sel, Bool.not_false, Option.bind_some]
      rw [chk_true (okBytes_true _), chk_true (decide_eq_true (by rw [hl]; omega)), hd, wr_id (by omega) (by omega)]
      refine ih (j / 10, _) ?_ ?_
      · simp only
        rw [ByteArray.size_append, hl]
        omega
      · simp only
        omega
end Go.Al
