import Derived.Test.YtfghfdjecfkibaaAlH
import Derived.Test.YtfghfdjecfkibaaGPutRaws
import Derived.Test.YtfghfdjecfkibaaSPutRaw
set_option linter.unusedVariables false
set_option linter.unusedSimpArgs false
set_option linter.constructorNameAsVariable false
set_option linter.unusedSectionVars false
namespace Go.Al
theorem laws_szRawS_ok : SzOk (A := (Vec (Int × ByteArray × ByteArray × ByteArray))) laws_szRawS.F := szS laws_szRaw_ok (F0 := laws_szRawS.F0) (fun k v s i K0 Kr => rfl) (fun v s => by simp only [laws_szRawS.F, laws_szRawS.B])
theorem laws_toRawS_ok : ToOk (A := (Vec (Int × ByteArray × ByteArray × ByteArray))) laws_toRawS.F := toS (B := fun n => mkOk n 56) (mk_small (by decide)) (z := ((0 : Int), ByteArray.empty, ByteArray.empty, ByteArray.empty)) (C := fun a => laws_toRaw.F a.1 a.2.1 a.2.2.1 a.2.2.2) laws_toRaw_ok (F0 := laws_toRawS.F0) (fun k v i u K0 => rfl) (fun v => by simp only [laws_toRawS.F, laws_toRawS.B, Int.toNat_natCast])
theorem laws_eqRaw_ok : SimOk (A := (Int × ByteArray × ByteArray × ByteArray)) fun a b => laws_eqRaw.F a.1 a.2.1 a.2.2.1 a.2.2.2 b.1 b.2.1 b.2.2.1 b.2.2.2 := by
  rintro a b ⟨h0, h1, h2, h3⟩ ⟨s0, s1, s2, s3⟩
  have e1_0 : a.1 = b.1 := s0
  have e2_1 : a.2.1 = b.2.1 := s1
  have e3_2 : a.2.2.1 = b.2.2.1 := s2
  have e4_3 : a.2.2.2 = b.2.2.2 := s3
  simp [laws_eqRaw.F, laws_eqRaw.B, selb, e1_0, e2_1, e3_2, e4_3]
theorem laws_eqRawS_ok : SimOk (A := (Vec (Int × ByteArray × ByteArray × ByteArray))) laws_eqRawS.F := simS (C := fun a b => laws_eqRaw.F a.1 a.2.1 a.2.2.1 a.2.2.2 b.1 b.2.1 b.2.2.1 b.2.2.2) laws_eqRaw_ok (F0 := laws_eqRawS.F0) (fun k v w i K0 Kr => rfl) (fun v w => by simp only [laws_eqRawS.F, laws_eqRawS.B])
noncomputable def laws_markRawS_s0bc7_val (k : Int) : (Int × ByteArray × ByteArray × ByteArray) := (k, mT (k + 1), mT (k + 2), mT (k + 3))
theorem laws_markRawS_s0bc7_step (f k i : Nat) (v : (Vec (Int × ByteArray × ByteArray × ByteArray))) (K0 : Int → (Vec (Int × ByteArray × ByteArray × ByteArray)) → Option (Int × (Vec (Int × ByteArray × ByteArray × ByteArray)))) (hk1 : 1 ≤ k) (hk2 : k + 4 * (v.n - i) ≤ mN) (hn : v.n ≤ sN) : laws_markRawS_s0bc7.F0 (f + 1) (k : Int) (i : Int) v K0 = if i < v.n then laws_markRawS_s0bc7.F0 f ((k + 4 : Nat) : Int) ((i + 1 : Nat) : Int) (v.set i (laws_markRawS_s0bc7_val (k : Int))) K0 else K0 (k : Int) v := by
  have hs : sN = 1048576 := rfl
  have hm : mN = 1099511627776 := rfl
  by_cases hi : i < v.n
  · have hle : 4 ≤ 4 * (v.n - i) := by omega
    have e1 := mT_eq (k + 1) (by omega) (by omega)
    have e2 := mT_eq (k + 2) (by omega) (by omega)
    have e3 := mT_eq (k + 3) (by omega) (by omega)
    have w0 : wr ((k : Int) + 1) = ((k + 1 : Nat) : Int) := wr_small (by omega) (by omega)
    have w1 : wr (((k + 1 : Nat) : Int) + 1) = ((k + 2 : Nat) : Int) := wr_small (by omega) (by omega)
    have w2 : wr (((k + 2 : Nat) : Int) + 1) = ((k + 3 : Nat) : Int) := wr_small (by omega) (by omega)
    have w3 : wr (((k + 3 : Nat) : Int) + 1) = ((k + 4 : Nat) : Int) := wr_small (by omega) (by omega)
    have z1 : wr ((k + 1 : Nat) : Int) = ((k + 1 : Nat) : Int) := wr_small (by omega) (by omega)
    have z2 : wr ((k + 2 : Nat) : Int) = ((k + 2 : Nat) : Int) := wr_small (by omega) (by omega)
    have z3 : wr ((k + 3 : Nat) : Int) = ((k + 3 : Nat) : Int) := wr_small (by omega) (by omega)
    have z4 : wr ((k + 4 : Nat) : Int) = ((k + 4 : Nat) : Int) := wr_small (by omega) (by omega)
    have c1 : (k : Int) + 1 = ((k + 1 : Nat) : Int) := by omega
    have c2 : (k : Int) + 2 = ((k + 2 : Nat) : Int) := by omega
    have c3 : (k : Int) + 3 = ((k + 3 : Nat) : Int) := by omega
    have c4 : (k : Int) + 4 = ((k + 4 : Nat) : Int) := by omega
    have wi : wr ((i : Int) + 1) = ((i + 1 : Nat) : Int) := wr_small (by omega) (by omega)
    simp only [laws_markRawS_s0bc7.F0, laws_markRawS_s0bc7.B0, selb, chkb, hi, wi, Vec.set_set, Vec.set_g, Vec.set_n, if_true, laws_markRawS_s0bc7_val, e1, e2, e3, w0, w1, w2, w3, z1, z2, z3, z4, c1, c2, c3, c4, Int.toNat_natCast, Int.ofNat_lt, Int.natCast_nonneg, true_and, decide_true, Option.bind_some, Bool.not_true, Bool.false_eq_true, if_false]
  · simp [laws_markRawS_s0bc7.F0, laws_markRawS_s0bc7.B0, selb, hi]
theorem laws_markRawS_s0bc7_lay (a : (Vec (Int × ByteArray × ByteArray × ByteArray))) (hn : a.n ≤ sN) : ∃ u : (Vec (Int × ByteArray × ByteArray × ByteArray)), u.n = a.n ∧ (∀ t, t < a.n → u.g t = laws_markRawS_s0bc7_val ((1 + 4 * t : Nat) : Int)) ∧ laws_markRawS_s0bc7.F0 fuelN ((1 : Nat) : Int) 0 a (fun x1 x2 => some (x1, x2)) = some (((1 + 4 * a.n : Nat) : Int), u) := by
  have hs : sN = 1048576 := rfl
  have hm : mN = 1099511627776 := rfl
  exact markS (c := 4) (val := laws_markRawS_s0bc7_val) (F0 := laws_markRawS_s0bc7.F0) (by decide) laws_markRawS_s0bc7_step a hn 1 (by decide) (by omega) (fun x1 x2 => some (x1, x2))
theorem laws_markRawS_s0bc7_tot (a : (Vec (Int × ByteArray × ByteArray × ByteArray))) (hn : a.n ≤ sN) (k : Nat) (h1 : 1 ≤ k) (h2 : k ≤ 274877906944) : ∃ u : (Vec (Int × ByteArray × ByteArray × ByteArray)), laws_markRawS_s0bc7.F (k : Int) a = some (((k + 4 * a.n : Nat) : Int), u) := by
  have hs : sN = 1048576 := rfl
  have hm : mN = 1099511627776 := rfl
  obtain ⟨u, q1, q2, q3⟩ := markS (c := 4) (val := laws_markRawS_s0bc7_val) (F0 := laws_markRawS_s0bc7.F0) (by decide) laws_markRawS_s0bc7_step a hn k h1 (by omega) (fun x1 x2 => some (x1, x2))
  refine ⟨u, ?_⟩
  rw [laws_markRawS_s0bc7.F, laws_markRawS_s0bc7.B]
  exact q3
end Go.Al
