import Derived.Test.YtbhcecfdgkgjmaaAlH
import Derived.Test.YtbhcecfdgkgjmaaGMoveName
set_option linter.unusedVariables false
set_option linter.unusedSimpArgs false
set_option linter.constructorNameAsVariable false
set_option linter.unusedSectionVars false
namespace Go.Al
theorem laws_szName_ok : SzOk (A := (ByteArray × Int × Int)) fun a s => laws_szName.F a.1 a.2.1 a.2.2 s := by
  rintro a s ⟨h0, h1, h2⟩ hs0 hs1
  simp only [laws_szName.F, laws_szName.B]
  obtain ⟨e1, q1⟩ := sz_str a.1 (s) h0 (by omega) (by omega)
  simp only [e1]
  rw [selb]
  split
  · exact ⟨_, rfl, by omega⟩
  rename_i n1
  rw [decide_eq_true_eq] at n1
  obtain ⟨l1, s1⟩ := q1 (by omega)
  exact ⟨_, rfl, fun _ => ⟨by omega, ⟨s1, (Free.free _ h1), (Free.free _ h2)⟩⟩⟩
theorem laws_szNameS_ok : SzOk (A := (Vec (ByteArray × Int × Int))) laws_szNameS.F := szS laws_szName_ok (F0 := laws_szNameS.F0) (fun k v s i K0 Kr => rfl) (fun v s => by simp only [laws_szNameS.F, laws_szNameS.B])
theorem laws_toName_ok : ToOk (A := (ByteArray × Int × Int)) fun a => laws_toName.F a.1 a.2.1 a.2.2 := by
  rintro a ⟨h0, h1, h2⟩
  simp only [laws_toName.F, laws_toName.B]
  exact ⟨_, rfl, ⟨h0, h1, h2⟩⟩
theorem laws_toNameS_ok : ToOk (A := (Vec (ByteArray × Int × Int))) laws_toNameS.F := toS (B := fun n => mkOk n 32) (mk_small (by decide)) (z := (ByteArray.empty, (0 : Int), (0 : Int))) (C := fun a => laws_toName.F a.1 a.2.1 a.2.2) laws_toName_ok (F0 := laws_toNameS.F0) (fun k v i u K0 => rfl) (fun v => by simp only [laws_toNameS.F, laws_toNameS.B, Int.toNat_natCast])
theorem laws_eqName_ok : SimOk (A := (ByteArray × Int × Int)) fun a b => laws_eqName.F a.1 a.2.1 a.2.2 b.1 b.2.1 b.2.2 := by
  rintro a b ⟨h0, h1, h2⟩ ⟨s0, s1, s2⟩
  have e1_0 : a.1 = b.1 := s0
  have e2_1 : a.2.1 = b.2.1 := s1
  have e3_2 : a.2.2 = b.2.2 := s2
  simp [laws_eqName.F, laws_eqName.B, selb, e1_0, e2_1, e3_2]
theorem laws_eqNameS_ok : SimOk (A := (Vec (ByteArray × Int × Int))) laws_eqNameS.F := simS (C := fun a b => laws_eqName.F a.1 a.2.1 a.2.2 b.1 b.2.1 b.2.2) laws_eqName_ok (F0 := laws_eqNameS.F0) (fun k v w i K0 Kr => rfl) (fun v w => by simp only [laws_eqNameS.F, laws_eqNameS.B])
theorem laws_markText_ok (k : Nat) (h1 : 1 ≤ k) (h2 : k ≤ mN) : ∃ b, laws_markText.F (k : Int) = some b :=
  mark_text (F0 := laws_markText.F0) (fun k v1 v2 K0 => rfl) (F := laws_markText.F) (fun a1 => by simp only [laws_markText.F, laws_markText.B]) k h1 h2
noncomputable def mT (k : Int) : ByteArray := (laws_markText.F k).getD ByteArray.empty
theorem mT_eq (k : Nat) (h1 : 1 ≤ k) (h2 : k ≤ mN) : laws_markText.F (k : Int) = some (mT k) := by
  obtain ⟨b, h⟩ := laws_markText_ok k h1 h2
  have e : mT (k : Int) = b := by
    unfold mT
    rw [h, Option.getD_some]
  rw [e]
  exact h
noncomputable def laws_markNameS_s0773_val (k : Int) : (ByteArray × Int × Int) := (mT k, k + 1, k + 2)
theorem laws_markNameS_s0773_step (f k i : Nat) (v : (Vec (ByteArray × Int × Int))) (K0 : Int → (Vec (ByteArray × Int × Int)) → Option (Int × (Vec (ByteArray × Int × Int)))) (hk1 : 1 ≤ k) (hk2 : k + 3 * (v.n - i) ≤ mN) (hn : v.n ≤ sN) : laws_markNameS_s0773.F0 (f + 1) (k : Int) (i : Int) v K0 = if i < v.n then laws_markNameS_s0773.F0 f ((k + 3 : Nat) : Int) ((i + 1 : Nat) : Int) (v.set i (laws_markNameS_s0773_val (k : Int))) K0 else K0 (k : Int) v := by
  have hs : sN = 1048576 := rfl
  have hm : mN = 4611686018000000000 := rfl
  by_cases hi : i < v.n
  · have hle : 3 ≤ 3 * (v.n - i) := by omega
    have e0 := mT_eq (k) (by omega) (by omega)
    have w0 : wr ((k : Int) + 1) = ((k + 1 : Nat) : Int) := wr_small (by omega) (by omega)
    have w1 : wr (((k + 1 : Nat) : Int) + 1) = ((k + 2 : Nat) : Int) := wr_small (by omega) (by omega)
    have w2 : wr (((k + 2 : Nat) : Int) + 1) = ((k + 3 : Nat) : Int) := wr_small (by omega) (by omega)
    have z1 : wr ((k + 1 : Nat) : Int) = ((k + 1 : Nat) : Int) := wr_small (by omega) (by omega)
    have z2 : wr ((k + 2 : Nat) : Int) = ((k + 2 : Nat) : Int) := wr_small (by omega) (by omega)
    have z3 : wr ((k + 3 : Nat) : Int) = ((k + 3 : Nat) : Int) := wr_small (by omega) (by omega)
    have c1 : (k : Int) + 1 = ((k + 1 : Nat) : Int) := by omega
    have c2 : (k : Int) + 2 = ((k + 2 : Nat) : Int) := by omega
    have c3 : (k : Int) + 3 = ((k + 3 : Nat) : Int) := by omega
    have wi : wr ((i : Int) + 1) = ((i + 1 : Nat) : Int) := wr_small (by omega) (by omega)
    simp only [laws_markNameS_s0773.F0, laws_markNameS_s0773.B0, selb, chkb, hi, wi, Vec.set_set, Vec.set_g, Vec.set_n, if_true, laws_markNameS_s0773_val, e0, w0, w1, w2, z1, z2, z3, c1, c2, c3, Int.toNat_natCast, Int.ofNat_lt, Int.natCast_nonneg, true_and, decide_true, Option.bind_some, Bool.not_true, Bool.false_eq_true, if_false]
  · simp [laws_markNameS_s0773.F0, laws_markNameS_s0773.B0, selb, hi]
theorem laws_markNameS_s0773_lay (a : (Vec (ByteArray × Int × Int))) (hn : a.n ≤ sN) : ∃ u : (Vec (ByteArray × Int × Int)), u.n = a.n ∧ (∀ t, t < a.n → u.g t = laws_markNameS_s0773_val ((1 + 3 * t : Nat) : Int)) ∧ laws_markNameS_s0773.F0 fuelN ((1 : Nat) : Int) 0 a (fun x1 x2 => some (x1, x2)) = some (((1 + 3 * a.n : Nat) : Int), u) := by
  have hs : sN = 1048576 := rfl
  have hm : mN = 4611686018000000000 := rfl
  exact markS (c := 3) (val := laws_markNameS_s0773_val) (F0 := laws_markNameS_s0773.F0) (by decide) laws_markNameS_s0773_step a hn 1 (by decide) (by omega) (fun x1 x2 => some (x1, x2))
theorem laws_markNameS_s0773_tot (a : (Vec (ByteArray × Int × Int))) (hn : a.n ≤ sN) (k : Nat) (h1 : 1 ≤ k) (h2 : k ≤ 17592186044416) : ∃ u : (Vec (ByteArray × Int × Int)), laws_markNameS_s0773.F (k : Int) a = some (((k + 3 * a.n : Nat) : Int), u) := by
  have hs : sN = 1048576 := rfl
  have hm : mN = 4611686018000000000 := rfl
  obtain ⟨u, q1, q2, q3⟩ := markS (c := 3) (val := laws_markNameS_s0773_val) (F0 := laws_markNameS_s0773.F0) (by decide) laws_markNameS_s0773_step a hn k h1 (by omega) (fun x1 x2 => some (x1, x2))
  refine ⟨u, ?_⟩
  rw [laws_markNameS_s0773.F, laws_markNameS_s0773.B]
  exact q3
theorem laws_heldNameS_step (f k i : Nat) (v : (Vec (ByteArray × Int × Int))) (K0 Kr : Int → Option Int) (hk1 : 1 ≤ k) (hk2 : k + 3 * (v.n - i) ≤ mN) (hn : v.n ≤ sN) (hv : i < v.n → v.g i = laws_markNameS_s0773_val (k : Int)) : laws_heldNameS.F0 (f + 1) v (k : Int) (i : Int) K0 Kr = if i < v.n then laws_heldNameS.F0 f v ((k + 3 : Nat) : Int) ((i + 1 : Nat) : Int) K0 Kr else K0 (k : Int) := by
  have hs : sN = 1048576 := rfl
  have hm : mN = 4611686018000000000 := rfl
  by_cases hi : i < v.n
  · have hle : 3 ≤ 3 * (v.n - i) := by omega
    have e0 := mT_eq (k) (by omega) (by omega)
    have w0 : wr ((k : Int) + 1) = ((k + 1 : Nat) : Int) := wr_small (by omega) (by omega)
    have w1 : wr (((k + 1 : Nat) : Int) + 1) = ((k + 2 : Nat) : Int) := wr_small (by omega) (by omega)
    have w2 : wr (((k + 2 : Nat) : Int) + 1) = ((k + 3 : Nat) : Int) := wr_small (by omega) (by omega)
    have z1 : wr ((k + 1 : Nat) : Int) = ((k + 1 : Nat) : Int) := wr_small (by omega) (by omega)
    have z2 : wr ((k + 2 : Nat) : Int) = ((k + 2 : Nat) : Int) := wr_small (by omega) (by omega)
    have z3 : wr ((k + 3 : Nat) : Int) = ((k + 3 : Nat) : Int) := wr_small (by omega) (by omega)
    have c1 : (k : Int) + 1 = ((k + 1 : Nat) : Int) := by omega
    have c2 : (k : Int) + 2 = ((k + 2 : Nat) : Int) := by omega
    have c3 : (k : Int) + 3 = ((k + 3 : Nat) : Int) := by omega
    have wi : wr ((i : Int) + 1) = ((i + 1 : Nat) : Int) := wr_small (by omega) (by omega)
    have hg := hv hi
    simp only [laws_markNameS_s0773_val, c1, c2] at hg
    simp only [laws_heldNameS.F0, laws_heldNameS.B0, selb, chkb, hi, wi, Vec.set_set, Vec.set_g, Vec.set_n, if_true, laws_markNameS_s0773_val, e0, w0, w1, w2, z1, z2, z3, c1, c2, c3, Int.toNat_natCast, Int.ofNat_lt, Int.natCast_nonneg, true_and, decide_true, Option.bind_some, Bool.not_true, Bool.false_eq_true, if_false, hg]
  · simp [laws_heldNameS.F0, laws_heldNameS.B0, selb, hi]
theorem laws_heldNameS_hold (u : (Vec (ByteArray × Int × Int))) (hn : u.n ≤ sN) (hu : ∀ t, t < u.n → u.g t = laws_markNameS_s0773_val ((1 + 3 * t : Nat) : Int)) : laws_heldNameS.F0 fuelN u ((1 : Nat) : Int) 0 (fun x1 => some x1) (fun x1 => some x1) = some ((1 + 3 * u.n : Nat) : Int) := by
  have hs : sN = 1048576 := rfl
  have hm : mN = 4611686018000000000 := rfl
  exact heldS (c := 3) (val := laws_markNameS_s0773_val) (F0 := laws_heldNameS.F0) (by decide) laws_heldNameS_step u hn 1 (by decide) (by omega) hu (fun x1 => some x1) (fun x1 => some x1)
theorem laws_markNameS_s0773_ok : MarkOk (A := (Vec (ByteArray × Int × Int))) laws_markNameS_s0773.F laws_heldNameS.F := by
  rintro a ⟨hn, -⟩
  obtain ⟨u, h1, h2, h3⟩ := laws_markNameS_s0773_lay a hn
  have h4 := laws_heldNameS_hold u (by omega) (by rw [h1]; exact h2)
  rw [show ((1 : Nat) : Int) = 1 from rfl] at h3 h4
  refine ⟨((1 + 3 * a.n : Nat) : Int), u, ?_, by omega, ?_⟩
  · rw [laws_markNameS_s0773.F, laws_markNameS_s0773.B]
    exact h3
  · rw [laws_heldNameS.F, laws_heldNameS.B, ← h1]
    exact h4
theorem laws_markNameS_s0773_mk : MkOk (A := (Vec (ByteArray × Int × Int))) (3 * sN) laws_markNameS_s0773.F laws_heldNameS.F := mk_flat (by decide) (M0 := laws_markNameS_s0773.F0) (H0 := laws_heldNameS.F0) laws_markNameS_s0773_step laws_heldNameS_step (fun k v => by rw [laws_markNameS_s0773.F, laws_markNameS_s0773.B]) (fun v k => by rw [laws_heldNameS.F, laws_heldNameS.B])
end Go.Al
