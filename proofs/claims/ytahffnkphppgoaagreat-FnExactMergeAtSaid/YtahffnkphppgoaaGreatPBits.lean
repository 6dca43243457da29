import Derived.Test.YtahffnkphppgoaaGreatAlH
set_option linter.unusedVariables false
set_option linter.unusedSimpArgs false
set_option linter.constructorNameAsVariable false
set_option linter.unusedSectionVars false
namespace Go.Al
def r64 (x : Int) : Prop := 0 ≤ x ∧ x < 18446744073709551616
def bt (x : Int) (u : Nat) : Bool := x.toNat.testBit u
theorem u64w (x : Int) : IntKind.u64.wrap x = x % 18446744073709551616 := by simp [IntKind.wrap, IntKind.bits, IntKind.signed]
theorem u64id {x : Int} (h : r64 x) : IntKind.u64.wrap x = x := by rw [u64w]; exact Int.emod_eq_of_lt h.1 h.2
theorem bits64 : IntKind.u64.bits = 64 := rfl
theorem ofInt_toNat {x : Int} (h : r64 x) : (BitVec.ofInt 64 x).toNat = x.toNat := by
  rw [BitVec.toNat_ofInt]
  have : x % ((2 ^ 64 : Nat) : Int) = x := Int.emod_eq_of_lt h.1 (by have := h.2; simpa using this)
  rw [this]
theorem bv64 (z : BitVec 64) : r64 (z.toNat : Int) := ⟨Int.natCast_nonneg _, by have := z.isLt; omega⟩
theorem bOr_eq {a b : Int} (ha : r64 a) (hb : r64 b) : r64 (bOr .u64 a b) ∧ (bOr .u64 a b).toNat = a.toNat ||| b.toNat := by
  unfold bOr
  rw [bits64]
  have h := bv64 (BitVec.ofInt 64 a ||| BitVec.ofInt 64 b)
  rw [u64id h]
  refine ⟨h, ?_⟩
  rw [Int.toNat_natCast, BitVec.toNat_or, ofInt_toNat ha, ofInt_toNat hb]
theorem bAnd_eq {a b : Int} (ha : r64 a) (hb : r64 b) : r64 (bAnd .u64 a b) ∧ (bAnd .u64 a b).toNat = a.toNat &&& b.toNat := by
  unfold bAnd
  rw [bits64]
  have h := bv64 (BitVec.ofInt 64 a &&& BitVec.ofInt 64 b)
  rw [u64id h]
  refine ⟨h, ?_⟩
  rw [Int.toNat_natCast, BitVec.toNat_and, ofInt_toNat ha, ofInt_toNat hb]
theorem bOr_bit {a b : Int} (ha : r64 a) (hb : r64 b) (u : Nat) : bt (bOr .u64 a b) u = (bt a u || bt b u) := by
  unfold bt; rw [(bOr_eq ha hb).2, Nat.testBit_or]
theorem bAnd_bit {a b : Int} (ha : r64 a) (hb : r64 b) (u : Nat) : bt (bAnd .u64 a b) u = (bt a u && bt b u) := by
  unfold bt; rw [(bAnd_eq ha hb).2, Nat.testBit_and]
theorem shl_one {v : Nat} (hv : v < 64) : r64 (bShl .u64 1 (IntKind.wrap .u64 (v : Int))) ∧ ∀ u, bt (bShl .u64 1 (IntKind.wrap .u64 (v : Int))) u = decide (u = v) := by
  have hr : r64 (v : Int) := ⟨by omega, by omega⟩
  have hp : (2 : Nat) ^ v < 2 ^ 64 := Nat.pow_lt_pow_right (by decide) hv
  have e : bShl .u64 1 (IntKind.wrap .u64 (v : Int)) = ((2 ^ v : Nat) : Int) := by
    unfold bShl
    rw [u64id hr, bits64, Int.toNat_natCast, Nat.min_eq_left (by omega), Int.one_mul, u64id]
    · norm_cast
    · have h9 : (2 : Int) ^ v = ((2 ^ v : Nat) : Int) := by norm_cast
      rw [h9]
      generalize 2 ^ v = q at hp
      exact ⟨by omega, by omega⟩
  rw [e]
  refine ⟨by generalize 2 ^ v = q at hp; exact ⟨by omega, by omega⟩, fun u => ?_⟩
  unfold bt
  rw [Int.toNat_natCast, Nat.testBit_two_pow]
  by_cases h : u = v
  · subst h; simp
  · simp [h]; omega
theorem has_bit {a : Int} (ha : r64 a) {v : Nat} (hv : v < 64) : decide (bAnd .u64 (bShr .u64 a (IntKind.wrap .u64 (v : Int))) 1 = 1) = bt a v := by
  have hr : r64 (v : Int) := ⟨by omega, by omega⟩
  obtain ⟨n, rfl⟩ : ∃ n : Nat, a = n := ⟨a.toNat, by have := ha.1; omega⟩
  have e : bShr .u64 (n : Int) (IntKind.wrap .u64 (v : Int)) = ((n / 2 ^ v : Nat) : Int) := by
    unfold bShr
    rw [u64id hr, bits64, Int.toNat_natCast, Nat.min_eq_left (by omega), Int.fdiv_eq_ediv_of_nonneg]
    · norm_cast
    · exact Int.le_of_lt (Int.pow_pos (by decide))
  have hle : n / 2 ^ v ≤ n := Nat.div_le_self _ _
  have h1 : r64 ((n / 2 ^ v : Nat) : Int) := by
    have := ha.2
    generalize n / 2 ^ v = q at hle
    exact ⟨by omega, by omega⟩
  have h2 : r64 (1 : Int) := ⟨by decide, by decide⟩
  obtain ⟨h3, h4⟩ := bAnd_eq h1 h2
  rw [e]
  rw [Bool.eq_iff_iff, decide_eq_true_eq]
  unfold bt
  rw [Int.toNat_natCast, Nat.testBit_eq_decide_div_mod_eq, decide_eq_true_eq]
  rw [Int.toNat_natCast, show (1 : Int).toNat = 1 from rfl, Nat.and_one_is_mod] at h4
  have := h3.1
  generalize n / 2 ^ v = q at *
  omega
theorem and_zero {a b : Int} (ha : r64 a) (hb : r64 b) : bAnd .u64 a b = 0 ↔ ∀ u, ¬ (bt a u = true ∧ bt b u = true) := by
  obtain ⟨h3, h4⟩ := bAnd_eq ha hb
  constructor
  · intro h u hu
    have := bAnd_bit ha hb u
    rw [h, hu.1, hu.2] at this
    simp [bt] at this
  · intro h
    have : (bAnd .u64 a b).toNat = 0 := Nat.eq_of_testBit_eq fun u => by
      have h5 := bAnd_bit ha hb u
      have h6 := h u
      unfold bt at h5 h6
      rw [h5, Nat.zero_testBit]
      cases h7 : a.toNat.testBit u <;> cases h8 : b.toNat.testBit u <;> simp_all
    have := h3.1
    omega
theorem bt_zero (u : Nat) : bt 0 u = false := by simp [bt]
theorem r64_zero : r64 0 := ⟨by decide, by decide⟩
theorem bt_lt {a : Int} (ha : r64 a) {u : Nat} (h : bt a u = true) : u < 64 := by
  apply Classical.byContradiction
  intro hu
  have h1 : a.toNat < 2 ^ u := Nat.lt_of_lt_of_le (show a.toNat < 2 ^ 64 by have := ha.2; have := ha.1; omega) (Nat.pow_le_pow_right (by decide) (by omega))
  unfold bt at h
  rw [Nat.testBit_lt_two_pow h1] at h
  cases h
end Go.Al
