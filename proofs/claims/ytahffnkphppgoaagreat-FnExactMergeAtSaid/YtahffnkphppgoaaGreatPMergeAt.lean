import Derived.Test.YtahffnkphppgoaaGreatPMg1
import Derived.Test.YtahffnkphppgoaaGreatPAt
import Derived.Test.YtahffnkphppgoaaGreatPNid2
import Derived.Test.YtahffnkphppgoaaGreatGMergeAt
import Derived.Test.YtahffnkphppgoaaGreatSStoreOk
import Derived.Test.YtahffnkphppgoaaGreatSMergeAt
set_option linter.unusedVariables false
set_option linter.unusedSimpArgs false
set_option linter.constructorNameAsVariable false
set_option linter.unusedSectionVars false
namespace Go.Al
theorem st_mark {A B : Type} [Sml A] [Sml B] {b : Nat} {M : Int → A → B → Option (Int × A × B)} (h : MkTot (A := A × B) b (fun k a => M k a.1 a.2)) (hb : b + 1 ≤ mN) (x : A) (y : B) (hx : Sml.sml ((x, y) : A × B)) : ∃ (k : Int) (u : A) (v : B), M 1 x y = some (k, u, v) ∧ 1 ≤ k := by
  obtain ⟨c, ⟨u, v⟩, h1, h2⟩ := h (x, y) hx 1 (Nat.le_refl _) (by omega)
  exact ⟨((1 + c : Nat) : Int), u, v, h2, by omega⟩
theorem MergeAt_two (C : Vec Cm) (hC : Sml.sml C) (F : Vec Wv) (hF : Sml.sml F) (a b : Int) (d : ByteArray) : ∃ code o q, spec_MergeAt.F C F a b d = some (code, o) ∧ impl_MergeAt.F C F a b d = some (code, q) ∧ Sim.sim q o ∧ Sml.sml q := by
  have hCn := hC.1
  have hs : sN = 1048576 := rfl
  have hb0 : bN = 140737488351232 := rfl
  obtain ⟨c, e1, h1⟩ := spec_StoreOk_ok C (st_cm_of hC) F (wvs_of hF)
  obtain ⟨c', e2, h2⟩ := impl_StoreOk_ok C (st_cm_of hC) F (wvs_of hF)
  obtain rfl : c' = c := by rw [Bool.eq_iff_iff, h1, h2]
  obtain ⟨r, e3, e4, h⟩ := Find_two C hC F hF a d
  rw [spec_MergeAt.F, spec_MergeAt.B, impl_MergeAt.F, impl_MergeAt.B, e1, e2, e3, e4]
  simp only [Option.bind_some, spec_has15_ok C (show C.n ≤ 1048576 by omega), impl_isPlace_ok _ (C.n : Int) (by omega) (by omega)]
  cases c' with
  | false => exact ⟨_, _, _, rfl, rfl, Sim.refl _, nil_smlT⟩
  | true =>
    by_cases ha : 0 ≤ a ∧ a < (C.n : Int)
    · by_cases hb : 0 ≤ b ∧ b < (C.n : Int)
      · rw [decide_eq_true ha, decide_eq_true hb]
        obtain ⟨r1, r2, r3, r4⟩ := r
        simp only at h ⊢
        rcases h with h | ⟨rfl, hg, hc, hx⟩
        · rw [decide_eq_false h]
          exact ⟨_, _, _, rfl, rfl, Sim.refl _, nil_smlT⟩
        · have hw := st_weave hg hx
          obtain ⟨⟨h3, h4⟩, h5, h6⟩ := hx
          simp only at h3 h4 h5 h6 hw
          obtain ⟨id, rfl⟩ : ∃ n : Nat, r2 = n := ⟨r2.toNat, by omega⟩
          obtain ⟨v, rfl⟩ : ∃ n : Nat, r3 = n := ⟨r3.toNat, by omega⟩
          obtain ⟨b, rfl⟩ : ∃ n : Nat, b = n := ⟨b.toNat, by omega⟩
          rw [Int.toNat_natCast] at h6 hw
          have hv : Sml.sml (C.g b).2.2 := (hC.2 b (by omega)).2.2
          obtain ⟨k, e5, h7⟩ := spec_l13Id_ok _ hv (id : Int)
          obtain ⟨k', e6, h8⟩ := impl_idAt_ok (C.g b).2.2 (by have := hv.1; omega) (id : Int)
          obtain rfl := h7.one h8
          have hB : Sml.sml (F.g id).2 := (hF.2 id (by omega)).2
          have hP : Sml.sml (F.g id).1 := (hF.2 id (by omega)).1
          have hbb : decide (0 ≤ (b : Int) ∧ (b : Int) < (C.n : Int)) = true := decide_eq_true hb
          have hi : decide (0 ≤ (id : Int) ∧ (id : Int) < (F.n : Int)) = true := decide_eq_true ⟨h3, h4⟩
          by_cases h0 : k < 0
          · simp only [decide_true, Bool.not_true, sel, hi, hbb, chk, Int.toNat_natCast, e5, e6, Option.bind_some, decide_eq_true h0]
            exact ⟨_, _, _, rfl, rfl, Sim.refl _, nil_smlT⟩
          · have h9 : ∃ i : Nat, k = i ∧ i < (C.g b).2.2.n ∧ ((C.g b).2.2.g i).2.1 = (id : Int) := by
              rcases h7 with ⟨rfl, -⟩ | ⟨i, rfl, h1, h2, -⟩
              · exact absurd (by decide) h0
              · exact ⟨i, rfl, h1, h2⟩
            obtain ⟨i, rfl, hi2, hid⟩ := h9
            have hx2 := st_name hg (by omega : b < C.n) hi2
            obtain ⟨-, h10, h11⟩ := hx2
            rw [hid, Int.toNat_natCast] at h11
            obtain ⟨u, hu⟩ : ∃ n : Nat, ((C.g b).2.2.g i).2.2 = n := ⟨((C.g b).2.2.g i).2.2.toNat, by omega⟩
            rw [hu] at h11
            have hii : decide (0 ≤ (i : Int) ∧ (i : Int) < ((C.g b).2.2.n : Int)) = true := decide_eq_true ⟨by omega, by omega⟩
            obtain ⟨o, e7, ho⟩ := spec_regionsOf_ok _ hP.1 _ (st_d_of hB) hw v u (by omega) (by omega)
            obtain ⟨q, e8, hq, hqn⟩ := impl_regionsOf_ok _ _ (st_d_of hB) hw v u (by omega) (by omega)
            simp only [decide_true, Bool.not_true, sel, hi, hbb, hii, chk, Int.toNat_natCast, e5, e6, Option.bind_some, decide_eq_false h0, hu, e7, e8]
            exact ⟨_, _, _, rfl, rfl, rgs_sim (hq.trans ho.symm), rgs_sml hB hw hq hqn⟩
      · rw [decide_eq_true ha, decide_eq_false hb]
        exact ⟨_, _, _, rfl, rfl, Sim.refl _, nil_smlT⟩
    · rw [decide_eq_false ha]
      exact ⟨_, _, _, rfl, rfl, Sim.refl _, nil_smlT⟩
theorem laws_FnExactMergeAt_true (C : Vec Cm) (F : Vec Wv) (i : Int) (j : Int) (d : ByteArray) (hb : Bnd.bnd ((C, F) : Vec Cm × Vec Wv)) (hi : Bnd.bnd i) (hj : Bnd.bnd j) (hd : Bnd.bnd d) : laws_FnExactMergeAt.F C F i j d = some true := by
  rw [laws_FnExactMergeAt.F, laws_FnExactMergeAt.B, selb]
  split
  · rfl
  obtain ⟨r, hr, hr2⟩ := laws_szStore_ok (C, F) 1048576 hb (by omega) (by omega)
  simp only at hr
  rw [hr, Option.bind_some, selb]
  split
  · rfl
  rename_i hr0
  rw [decide_eq_true_eq] at hr0
  obtain ⟨hr1, hvs⟩ := hr2 (by omega)
  obtain ⟨⟨p, q⟩, hu, hsm⟩ := laws_toStore_ok (C, F) hvs
  simp only at hu
  have q2 := laws_eqStore_ok (p, q) (p, q) hsm (Sim.refl _)
  simp only at q2
  obtain ⟨c, o, y, e1, e2, hyo, hy⟩ := MergeAt_two p hsm.1 q hsm.2 i j d
  have q1 := laws_eqRegionS_ok y o hy hyo
  obtain ⟨k1, m1, m2, n1, n2⟩ := st_mark laws_markStore_sd1d9_mt (by decide) p q hsm
  obtain ⟨k', m', n1', n2', n3'⟩ := laws_markRegionS_s11cf_mk.mark (by unfold sN mN; omega) y hy
  have p1 : decide (k1 < 0) = false := decide_eq_false (by omega)
  have p2 : decide (k' < 0) = false := decide_eq_false (by omega)
  have p3 : decide (c = c) = true := decide_eq_true rfl
  have p4 : decide (k' = k') = true := decide_eq_true rfl
  rw [hu]
  repeat (first | rw [Option.bind_some] | rw [e1] | rw [e2] | rw [q1] | rw [q2] | rw [n1] | rw [n1'] | rw [n3'])
  rw [p1, p2, p3, p4]
  repeat (first | rw [Option.bind_some] | rw [e2] | rw [q1] | rw [n1] | rw [n1'] | rw [n3'] | rw [p1] | rw [p2] | rw [p3] | rw [p4])
  rfl
end Go.Al
