import Derived.Test.YtahffnkphppgoaaGreatPCom
import Derived.Test.YtahffnkphppgoaaGreatPWv
import Derived.Test.YtahffnkphppgoaaGreatGStoreOk
set_option linter.unusedVariables false
set_option linter.unusedSimpArgs false
set_option linter.constructorNameAsVariable false
set_option linter.unusedSectionVars false
namespace Go.Al
abbrev Wv := Gr × Vec Bd
def wvsSml (F : Vec Wv) : Prop := F.n ≤ 1048576 ∧ ∀ i, i < F.n → (F.g i).1.n ≤ 1048576 ∧ dSml (F.g i).2
def fileOk (F : Vec Wv) (i : Nat) : Prop := (F.g i).1.n ≠ 0 ∧ wvGood (F.g i).1 (F.g i).2
def verOf (F : Vec Wv) : Vec Int := ⟨F.n, fun i => ((F.g i).1.n : Int)⟩
def stGood (C : Vec Cm) (F : Vec Wv) : Prop := F.n ≤ 12 ∧ (∀ i, i < F.n → fileOk F i) ∧ cmGood C (verOf F)
theorem made_loop {β τ : Type} [Enc β] (n : Nat) (hn : n ≤ 1048576) (f : Nat → β) (G : Nat → Int → Vec β → τ) (K : Vec β → τ)
    (h : ∀ k (i : Nat) out, out.n = i → i < n → G (k + 1) (i : Int) out = G k ((i + 1 : Nat) : Int) (Vec.app out (Vec.lit [f i]))) (h2 : ∀ k (i : Nat) out, ¬ i < n → G (k + 1) (i : Int) out = K out) : ∃ x, G fuelN 0 Vec.nil = K x ∧ x.n = n ∧ ∀ i, i < n → x.g i = f i := by
  refine zP (σ := Nat × Vec β) (fun t => n - t.1) (fun t => t.1 ≤ n ∧ t.2.n = t.1 ∧ ∀ i, i < t.1 → t.2.g i = f i) (fun _ x => ∃ y, x = K y ∧ y.n = n ∧ ∀ i, i < n → y.g i = f i) (fun k t => G k (t.1 : Int) t.2) ?_ fuelN (0, Vec.nil) (by simp only [fuelN]; omega) ⟨Nat.zero_le _, rfl, fun v hv => absurd hv (Nat.not_lt_zero v)⟩
  rintro k ⟨i, out⟩ ⟨hi, ho, hv⟩ ih
  simp only at hi ho hv ⊢
  by_cases hlt : i < n
  · rw [h k i out ho hlt]
    refine ih (i + 1, Vec.app out (Vec.lit [f i])) ⟨hlt, by show out.n + 1 = i + 1; omega, fun j hj => ?_⟩ (by simp only; omega)
    simp only at hj ⊢
    rw [Vec.app_g, ho]
    by_cases h3 : j < i
    · rw [if_pos h3]; exact hv j h3
    · obtain rfl : j = i := by omega
      rw [if_neg h3, Nat.sub_self]
      rfl
  · rw [h2 k i out hlt]
    obtain rfl : i = n := by omega
    exact ⟨out, rfl, ho, hv⟩
def IsVer (F : Vec Wv) (x : Vec Int) : Prop := x.n = F.n ∧ ∀ i, i < F.n → x.g i = ((F.g i).1.n : Int)
theorem cmGood_ver {C : Vec Cm} {v w : Vec Int} (hn : v.n = w.n) (hg : ∀ i, i < v.n → v.g i = w.g i) (h : cmGood C v) : cmGood C w := by
  obtain ⟨h1, h2, h3, h4, h5⟩ := h
  refine ⟨h1, by omega, h3, fun i hi => ?_, fun i hi => ?_⟩
  · have := h4 i (by omega)
    unfold verAt at *
    rwa [← hg i (by omega)]
  · obtain ⟨q1, q2, q3⟩ := h5 i hi
    refine ⟨q1, q2, fun k hk => ?_⟩
    have := q3 k hk
    unfold inVer at *
    have h0 := id_nn q2 hk
    have h6 : ((C.g i).2.2.g k).2.1.toNat < v.n := by
      have := this.1
      omega
    rw [← hn, ← hg _ h6]
    exact this
theorem cmGood_is {C : Vec Cm} {F : Vec Wv} {x : Vec Int} (h : IsVer F x) : cmGood C x ↔ cmGood C (verOf F) :=
  ⟨cmGood_ver h.1 fun i hi => h.2 i (by rw [← h.1]; exact hi), cmGood_ver h.1.symm fun i hi => (h.2 i hi).symm⟩
theorem spec_versions_ok (C : Vec Cm) (F : Vec Wv) (hn : F.n ≤ 1048576) : ∃ x, spec_l15Versions.F C F = some x ∧ IsVer F x := by
  have hM : maxN = 140737488355328 := rfl
  have hlit : ∀ x : Int, (Vec.lit [x] : Vec Int).n = 1 := fun _ => rfl
  rw [spec_l15Versions.F, spec_l15Versions.B]
  refine made_loop F.n hn (fun i => ((F.g i).1.n : Int)) (fun k i out => spec_l15Versions.F0 k i C F out (fun e01 => some e01)) some (fun k i out ho hi => ?_) (fun k i out hi => ?_)
  · simp only [spec_l15Versions.F0, spec_l15Versions.B0, selb, chkb, decide_eq_true_eq, Int.toNat_natCast, Int.ofNat_lt, Int.natCast_nonneg, true_and, if_pos hi, hlit, if_pos (show (out.n + 1) * 9 ≤ maxN by omega), zK (i := i) (by omega)]
  · simp only [spec_l15Versions.F0, spec_l15Versions.B0, selb, decide_eq_true_eq, Int.ofNat_lt, if_neg hi]
theorem impl_graphs_ok (C : Vec Cm) (F : Vec Wv) (hn : F.n ≤ 1048576) : ∃ x, impl_Store_graphs_saa75.F C F = some (C, F, x) ∧ x.n = F.n ∧ ∀ i, i < F.n → (x.g i) = ⟨(F.g i).1⟩ := by
  have hM : maxN = 140737488355328 := rfl
  have hlit : ∀ x : IVec (Vec Int), (Vec.lit [x] : Vec (IVec (Vec Int))).n = 1 := fun _ => rfl
  rw [impl_Store_graphs_saa75.F, impl_Store_graphs_saa75.B]
  refine made_loop F.n hn (fun i => (⟨(F.g i).1⟩ : IVec (Vec Int))) (fun k i out => impl_Store_graphs_saa75.F0 k F (F.n : Int) i C F out (fun e01 e02 e03 => some (e01, e02, e03))) (fun x => some (C, F, x)) (fun k i out ho hi => ?_) (fun k i out hi => ?_)
  · simp only [impl_Store_graphs_saa75.F0, impl_Store_graphs_saa75.B0, selb, chkb, decide_eq_true_eq, Int.toNat_natCast, Int.ofNat_lt, Int.natCast_nonneg, true_and, if_pos hi, hlit, if_pos (show (out.n + 1) * 25 ≤ maxN by omega), zK (i := i) (by omega)]
  · simp only [impl_Store_graphs_saa75.F0, impl_Store_graphs_saa75.B0, selb, decide_eq_true_eq, Int.ofNat_lt, if_neg hi]
theorem impl_sizes_ok (F : Vec Wv) (hn : F.n ≤ 1048576) (g : Vec (IVec (Vec Int))) (hg : g.n = F.n) (hx : ∀ i, i < F.n → (g.g i) = ⟨(F.g i).1⟩) : ∃ x, impl_sizesOf_s198c.F g = some x ∧ IsVer F x := by
  have hM : maxN = 140737488355328 := rfl
  have hlit : ∀ x : Int, (Vec.lit [x] : Vec Int).n = 1 := fun _ => rfl
  rw [impl_sizesOf_s198c.F, impl_sizesOf_s198c.B]
  refine made_loop F.n hn (fun i => ((F.g i).1.n : Int)) (fun k i out => impl_sizesOf_s198c.F0 k g (g.n : Int) i out (fun e01 => some e01)) some (fun k i out ho hi => ?_) (fun k i out hi => ?_)
  · simp only [impl_sizesOf_s198c.F0, impl_sizesOf_s198c.B0, selb, chkb, decide_eq_true_eq, Int.toNat_natCast, Int.ofNat_lt, Int.natCast_nonneg, true_and, hg, if_pos hi, hlit, if_pos (show (out.n + 1) * 9 ≤ maxN by omega), zK (i := i) (by omega), hx i hi]
  · simp only [impl_sizesOf_s198c.F0, impl_sizesOf_s198c.B0, selb, decide_eq_true_eq, Int.ofNat_lt, hg, if_neg hi]
theorem spec_files_loop {ρ : Type} (C : Vec Cm) (F : Vec Wv) (hF : wvsSml F) (K0 : Vec Cm → Vec Wv → Option ρ) (Kr : Bool → Option ρ) :
    ((∀ i, i < F.n → fileOk F i) ∧ spec_StoreOk.F0 fuelN 0 C F K0 Kr = K0 C F) ∨ (¬ (∀ i, i < F.n → fileOk F i) ∧ spec_StoreOk.F0 fuelN 0 C F K0 Kr = Kr false) := by
  have hb : bN = 140737488351232 := rfl
  have hn := hF.1
  refine zT (p := fun i => fileOk F i) (n := F.n) (by omega) (fun k i => spec_StoreOk.F0 k i C F K0 Kr) (K0 C F) (Kr false) (fun k i hi => ?_) (fun k i hi => ?_)
  · obtain ⟨c, e, hc⟩ := spec_WeaveOk_ok (F.g i).1 (F.g i).2 (hF.2 i hi).2
    simp only [spec_StoreOk.F0, spec_StoreOk.B0, selb, chkb, decide_eq_true_eq, Int.toNat_natCast, Int.ofNat_lt, Int.natCast_nonneg, true_and, if_pos hi, e, Option.bind_some, zK (i := i) (by omega)]
    cases c with
    | false => exact ⟨fun _ => rfl, fun h => (by have := hc.2 h.2; cases this)⟩
    | true =>
      simp only [Bool.not_true, Bool.false_eq_true, if_false]
      by_cases h0 : (F.g i).1.n = 0
      · rw [if_pos (by omega)]
        exact ⟨fun _ => rfl, fun h => absurd h0 h.1⟩
      · rw [if_neg (by omega)]
        exact ⟨fun h => absurd ⟨h0, hc.1 rfl⟩ h, fun _ => rfl⟩
  · simp only [spec_StoreOk.F0, spec_StoreOk.B0, selb, decide_eq_true_eq, Int.ofNat_lt, if_neg hi]
theorem impl_files_loop {ρ : Type} (C : Vec Cm) (F : Vec Wv) (hF : wvsSml F) (K0 : Vec Cm → Vec Wv → Option ρ) (Kr : Bool → Option ρ) :
    ((∀ i, i < F.n → fileOk F i) ∧ impl_StoreOk.F0 fuelN F (F.n : Int) 0 C F K0 Kr = K0 C F) ∨ (¬ (∀ i, i < F.n → fileOk F i) ∧ impl_StoreOk.F0 fuelN F (F.n : Int) 0 C F K0 Kr = Kr false) := by
  have hb : bN = 140737488351232 := rfl
  have hn := hF.1
  refine zT (p := fun i => fileOk F i) (n := F.n) (by omega) (fun k i => impl_StoreOk.F0 k F (F.n : Int) i C F K0 Kr) (K0 C F) (Kr false) (fun k i hi => ?_) (fun k i hi => ?_)
  · obtain ⟨c, e, hc⟩ := impl_WeaveOk_ok (F.g i).1 (hF.2 i hi).1 (F.g i).2 (hF.2 i hi).2
    simp only [impl_StoreOk.F0, impl_StoreOk.B0, selb, chkb, decide_eq_true_eq, Int.toNat_natCast, Int.ofNat_lt, Int.natCast_nonneg, true_and, if_pos hi, e, Option.bind_some, zK (i := i) (by omega)]
    by_cases h0 : (F.g i).1.n = 0
    · rw [if_pos (by omega)]
      exact ⟨fun _ => rfl, fun h => absurd h0 h.1⟩
    · rw [if_neg (by omega)]
      cases c with
      | false => exact ⟨fun _ => rfl, fun h => (by have := hc.2 h.2; cases this)⟩
      | true => exact ⟨fun h => absurd ⟨h0, hc.1 rfl⟩ h, fun _ => rfl⟩
  · simp only [impl_StoreOk.F0, impl_StoreOk.B0, selb, decide_eq_true_eq, Int.ofNat_lt, if_neg hi]
theorem spec_StoreOk_ok (C : Vec Cm) (hC : cmSml C) (F : Vec Wv) (hF : wvsSml F) : ∃ c, spec_StoreOk.F C F = some c ∧ (c = true ↔ stGood C F) := by
  rw [spec_StoreOk.F, spec_StoreOk.B, selb]
  split
  · rename_i h
    rw [decide_eq_true_eq] at h
    exact ⟨false, rfl, by simp [stGood]; intro _; omega⟩
  · rename_i h
    rw [decide_eq_true_eq] at h
    rcases spec_files_loop C F hF (fun e01 e02 => (spec_l15Versions.F e01 e02).bind fun r1 => (spec_CommitsOk.F e01 r1).bind fun r2 => some r2) (fun x => some x) with ⟨h1, e⟩ | ⟨h1, e⟩
    · obtain ⟨x, e2, hx⟩ := spec_versions_ok C F hF.1
      obtain ⟨c, e3, hc⟩ := spec_CommitsOk_ok C hC x
      refine ⟨c, ?_, ?_⟩
      · rw [e, e2, Option.bind_some, e3]; rfl
      · rw [hc, cmGood_is hx]
        exact ⟨fun h2 => ⟨by omega, h1, h2⟩, fun h2 => h2.2.2⟩
    · exact ⟨false, e, by simp [stGood]; intro _ h2; exact absurd h2 h1⟩
theorem impl_StoreOk_ok (C : Vec Cm) (hC : cmSml C) (F : Vec Wv) (hF : wvsSml F) : ∃ c, impl_StoreOk.F C F = some c ∧ (c = true ↔ stGood C F) := by
  rw [impl_StoreOk.F, impl_StoreOk.B]
  generalize hK : (fun (e01 : Vec Cm) (e02 : Vec Wv) => sel (decide ((e02.n : Int) ≤ (12 : Int))) _ _) = K0
  rcases impl_files_loop C F hF K0 (fun x => some x) with ⟨h1, e⟩ | ⟨h1, e⟩
  · obtain ⟨g, e1, hg, hx⟩ := impl_graphs_ok C F hF.1
    obtain ⟨x, e2, hv⟩ := impl_sizes_ok F hF.1 g hg hx
    obtain ⟨c, e3, hc⟩ := impl_CommitsOk_ok C hC x
    by_cases h12 : F.n ≤ 12
    · refine ⟨c, ?_, ?_⟩
      · refine e.trans ?_
        rw [← hK]
        simp only [selb, e1, Option.bind_some, e2, e3, both_self]
        rw [if_pos (by rw [decide_eq_true_eq]; omega)]
      · rw [hc, cmGood_is hv]
        exact ⟨fun h2 => ⟨h12, h1, h2⟩, fun h2 => h2.2.2⟩
    · refine ⟨false, ?_, by simp [stGood]; intro h; omega⟩
      refine e.trans ?_
      rw [← hK]
      simp only [selb]
      rw [if_neg (by rw [decide_eq_true_eq]; omega)]
  · exact ⟨false, e, by simp [stGood]; intro _ h2; exact absurd h2 h1⟩
end Go.Al
