import Derived.Test.YtbhcecfdgkgjmaaPRun
import Derived.Test.YtbhcecfdgkgjmaaPDrD
import Derived.Test.YtbhcecfdgkgjmaaGFnRaws
set_option linter.unusedVariables false
set_option linter.unusedSimpArgs false
set_option linter.constructorNameAsVariable false
set_option linter.unusedSectionVars false
namespace Go.Al
theorem run_same : ∀ (l : List RW) (o u : Vec FL), diskGood o → Vec.Same u o → (run u l).1 = (run o l).1 ∧ Vec.Same (run u l).2 (run o l).2
  | [], o, u, hg, h => ⟨rfl, h⟩
  | r :: rs, o, u, hg, h => by
    have hgu : diskGood u := (diskGood_same h).2 hg
    obtain ⟨-, ⟨x, e1, h1⟩, g1, -⟩ := step_two o u h hg r
    obtain ⟨-, ⟨y, e2, h2⟩, g2, -⟩ := step_two u u ⟨rfl, fun _ _ => rfl⟩ hgu r
    rw [e1] at e2
    simp only [Option.some.injEq, Prod.mk.injEq] at e2
    obtain ⟨hb, rfl⟩ := e2
    rw [run, run]
    by_cases hc : (stepR o r).1 = true
    · have hc2 : (stepR u r).1 = true := hb ▸ hc
      rw [if_pos hc, if_pos hc2]
      have hs : Vec.Same (stepR u r).2 (stepR o r).2 := (h2 hc2).symm.trans (h1 hc)
      obtain ⟨q1, q2⟩ := run_same rs _ _ (g1 hc) hs
      exact ⟨by simp only [q1], q2⟩
    · have hc2 : ¬ (stepR u r).1 = true := hb ▸ hc
      rw [if_neg hc, if_neg hc2]
      exact ⟨rfl, h⟩
theorem run_part {o : Vec FL} {a b : List RW} (h : a.length ≤ (run o (a ++ b)).1) : (run o a).1 = a.length ∧ run o (a ++ b) = (a.length + (run (run o a).2 b).1, (run (run o a).2 b).2) := by
  have e := run_app a b o
  by_cases h2 : (run o a).1 = a.length
  · rw [if_pos h2] at e
    exact ⟨h2, e⟩
  · rw [if_neg h2] at e
    have := run_le a o
    rw [e] at h
    omega
theorem sameDisk_ok (v w : Vec FL) (h : Vec.Same v w) (hn : v.n ≤ 1000) : laws_sameDisk.F v w = some true := by
  obtain ⟨h1, h2⟩ := h
  rw [laws_sameDisk.F, laws_sameDisk.B, show decide ((v.n : Int) = (w.n : Int)) = true from decide_eq_true (by omega)]
  simp only [Bool.not_true, sel]
  refine loop_inv (σ := Nat) (fun i => v.n - i) (fun i => i ≤ v.n) (fun _ x => x = some true) (fun k i => laws_sameDisk.F0 k (i : Int) v w (fun _ => some true) (fun x => some x)) ?_ fuelN 0 (by unfold fuelN; omega) (Nat.zero_le _)
  intro k i hi ih
  by_cases hi2 : i < v.n
  · have q1 : decide ((i : Int) < (v.n : Int)) = true := decide_eq_true (by omega)
    have q2 : decide (0 ≤ (i : Int) ∧ (i : Int) < (v.n : Int)) = true := decide_eq_true ⟨by omega, by omega⟩
    have q3 : decide (0 ≤ (i : Int) ∧ (i : Int) < (w.n : Int)) = true := decide_eq_true ⟨by omega, by omega⟩
    have w1 := ih (i + 1) hi2 (by omega)
    rw [← wr_succ (by omega)] at w1
    simp only [laws_sameDisk.F0, laws_sameDisk.B0, q1, q2, q3, sel, chk, Int.toNat_natCast, h2 i hi2, decide_true, Bool.and_self, Bool.not_true]
    exact w1
  · simp only [laws_sameDisk.F0, laws_sameDisk.B0, show decide ((i : Int) < (v.n : Int)) = false from decide_eq_false (by omega), sel]
theorem most_nn (l : Vec RW) (a : Nat) : ∃ m : Int, impl_partMost.F l (a : Int) = some m ∧ 0 ≤ m := by
  rw [impl_partMost.F, impl_partMost.B, selb]
  split
  · rename_i h
    rw [decide_eq_true_eq] at h
    rw [chk_true (decide_eq_true ⟨by omega, h⟩), selb]
    split
    · rw [chk_true (decide_eq_true ⟨by omega, h⟩)]
      exact ⟨_, rfl, by omega⟩
    · exact ⟨_, rfl, by omega⟩
  · exact ⟨_, rfl, by omega⟩
theorem CutRaws_at (v : Vec FL) (hg : diskGood v) (l : Vec RW) (hl : l.n ≤ 120) (a : Nat) (ha : a ≤ l.n) (hr : (run v (l.toL.take a)).1 = a) : ∃ u, impl_CutRaws.F v l (a : Int) 0 = some (true, u) ∧ Vec.Same u (run v (l.toL.take a)).2 := by
  have hn := hg.1
  obtain ⟨m, e1, hm⟩ := most_nn l a
  have hsub : (Vec.sub l ((0 : Int).toNat) ((a : Int).toNat)).toL = l.toL.take a := by
    rw [show ((0 : Int).toNat) = 0 from rfl, Int.toNat_natCast, toL_sub l 0 a ha, List.drop_zero]
  have hsn : (Vec.sub l ((0 : Int).toNat) ((a : Int).toNat)).n = a := by rw [← Vec.toL_length, hsub, List.length_take, Vec.toL_length]; omega
  rcases impl_PutRaws_ok v (good_sml hg) (Vec.sub l ((0 : Int).toNat) ((a : Int).toNat)) with ⟨-, -, u, e2, hu⟩ | ⟨h, -⟩
  · rw [hsub] at e2 hu
    rw [hr] at e2
    obtain ⟨c, e3, h3⟩ := impl_DiskOk_ok v (by unfold bN; omega)
    obtain rfl : c = true := h3.2 hg
    refine ⟨u, ?_, hu⟩
    rw [impl_CutRaws.F, impl_CutRaws.B, show decide ((120 : Int) < (l.n : Int)) = false from decide_eq_false (by omega)]
    have p1 : decide ((0 : Int) ≤ (a : Int) ∧ (a : Int) ≤ (l.n : Int)) = true := decide_eq_true ⟨by omega, by omega⟩
    have p2 : decide ((0 : Int) ≤ 0 ∧ (0 : Int) ≤ m) = true := decide_eq_true ⟨by omega, hm⟩
    have p3 : decide ((0 : Int) ≤ (0 : Int) ∧ (0 : Int) ≤ (a : Int) ∧ (a : Int) ≤ (l.n : Int)) = true := decide_eq_true ⟨by omega, by omega, by omega⟩
    have p4 : decide ((0 : Int) = 0) = true := rfl
    have p5 : decide ((a : Int) = (a : Int)) = true := decide_eq_true rfl
    simp only [impl_inRange_eq, e1, e2, e3, Option.bind_some, p1, p2, p3, p4, p5, sel, chk, Bool.not_true, decide_true]
  · exact absurd ⟨hg, by rw [hsn]; omega⟩ h
theorem Raw_ok {v : Bs} {i : Int} (hc : curOk v i) (h : Int) : ∃ a b c d i' h', spec_l16Raw_s0451.F v i h = some (a, b, c, d, v, i', h') ∧ curOk v i' := by
  obtain ⟨x1, i1, h1, e1, -, -, -, c1⟩ := spec_l01Below_ok 4 hc h
  obtain ⟨s2, i2, h2, e2, c2⟩ := spec_l16Name_ok c1 h1
  obtain ⟨s3, i3, h3, e3, c3⟩ := spec_l16Name_ok c2 h2
  obtain ⟨x4, i4, h4, e4, -, -, -, c4⟩ := spec_l01Below_ok 9 c3 h3
  obtain ⟨s5, i5, h5, e5, -, c5⟩ := spec_l01Text_ok x4 c4 h4
  obtain ⟨x6, i6, h6, e6, -, -, -, c6⟩ := spec_l01Below_ok 40 c5 h5
  rw [spec_l16Raw_s0451.F, spec_l16Raw_s0451.B, e1, Option.bind_some, e2, Option.bind_some, e3, Option.bind_some, e4, Option.bind_some, e5, Option.bind_some, e6, Option.bind_some, selb]
  split
  · obtain ⟨x7, i7, h7, e7, c7⟩ := PickI_ok c6 h6 (Vec.lit [(0 : Int), (5 : Int)]) (show 0 < 2 by decide)
    rw [e7]
    exact ⟨_, _, _, _, _, _, rfl, c7⟩
  rw [selb]
  split
  · obtain ⟨s, e8, -⟩ := spec_l01Long_ok 25 (by omega) 97
    have e8 : spec_l01Long.F 25 97 = some s := e8
    obtain ⟨q, i9, h9, -, e9, c9⟩ := spec_l01Pick_ok c6 h6 (Vec.lit [ByteArray.empty, s]) (show 0 < 2 by decide)
    rw [e8, Option.bind_some, e9]
    exact ⟨_, _, _, _, _, _, rfl, c9⟩
  rw [selb]
  split
  · exact ⟨_, _, _, _, _, _, rfl, c6⟩
  · exact ⟨_, _, _, _, _, _, rfl, c6⟩
theorem Raws_L0 {ρ : Type} {v : Bs} {i : Int} (hc : curOk v i) (h : Int) (K0 : Bs → Int → Int → Vec RW → Option ρ) : ∃ i' h' o, spec_l16Raws_s0451.F0 fuelN 0 v i h Vec.nil K0 = K0 v i' h' o ∧ o.n ≤ 7 ∧ curOk v i' := by
  have hM : maxN = 140737488355328 := rfl
  refine loop_inv (σ := Nat × Int × Int × Vec RW) (fun t => 7 - t.1) (fun t => t.1 ≤ 7 ∧ t.2.2.2.n ≤ t.1 ∧ curOk v t.2.1) (fun _ x => ∃ i' h' o, x = K0 v i' h' o ∧ o.n ≤ 7 ∧ curOk v i') (fun k t => spec_l16Raws_s0451.F0 k (t.1 : Int) v t.2.1 t.2.2.1 t.2.2.2 K0) ?_ fuelN (0, i, h, Vec.nil) (by simp only [fuelN]; omega) ⟨Nat.zero_le _, Nat.zero_le _, hc⟩
  rintro k ⟨j, i, h, o⟩ ⟨hj, ho, hc⟩ ih
  simp only at hj ho hc ⊢
  obtain ⟨x, i1, h1, e1, hx0, hx, -, c1⟩ := spec_l01Below_ok 7 hc h
  have hx := hx (by omega)
  simp only [spec_l16Raws_s0451.F0, spec_l16Raws_s0451.B0, e1, Option.bind_some]
  rw [selb]
  split
  · rename_i h2
    rw [decide_eq_true_eq] at h2
    obtain ⟨a, b, c, d, i2, h2', e2, c2⟩ := Raw_ok c1 h1
    have hlit : ∀ x : RW, (Vec.lit [x]).n = 1 := fun _ => rfl
    rw [e2, Option.bind_some]
    simp only
    rw [chk_true (decide_eq_true (by rw [hlit]; omega)), wr_succ (by omega)]
    exact ih (j + 1, i2, h2', _) ⟨by simp only; omega, (show o.n + 1 ≤ j + 1 by omega), c2⟩ (by simp only; omega)
  · exact ⟨_, _, _, rfl, by omega, c1⟩
theorem Raws_L1 {ρ : Type} {v : Bs} {i : Int} (hc : curOk v i) (h : Int) (o : Vec RW) (ho : o.n ≤ 7) (K2 : Bs → Int → Int → Vec RW → Option ρ) : ∃ i' h' u, spec_l16Raws_s0451.F1 fuelN v i h o K2 = K2 v i' h' u ∧ u.n ≤ 130 ∧ curOk v i' := by
  have hM : maxN = 140737488355328 := rfl
  refine loop_inv (σ := Int × Int × Vec RW) (fun t => 130 - t.2.2.n) (fun t => t.2.2.n ≤ 130 ∧ curOk v t.1) (fun _ x => ∃ i' h' u, x = K2 v i' h' u ∧ u.n ≤ 130 ∧ curOk v i') (fun k t => spec_l16Raws_s0451.F1 k v t.1 t.2.1 t.2.2 K2) ?_ fuelN (i, h, o) (by simp only [fuelN]; omega) ⟨by simp only; omega, hc⟩
  rintro k ⟨i, h, o⟩ ⟨ho, hc⟩ ih
  simp only at ho hc ⊢
  obtain ⟨x, i1, h1, e1, hx0, hx, -, c1⟩ := spec_l01Below_ok 2 hc h
  have hx := hx (by omega)
  simp only [spec_l16Raws_s0451.F1, spec_l16Raws_s0451.B1, e1, Option.bind_some]
  rw [wr_id (by omega) (by omega), selb]
  split
  · rename_i h2
    rw [decide_eq_true_eq] at h2
    have hlit : ∀ x : RW, (Vec.lit [x]).n = 1 := fun _ => rfl
    rw [chk_true (decide_eq_true (by rw [hlit]; omega))]
    exact ih (i1, h1, _) ⟨(show o.n + 1 ≤ 130 by omega), c1⟩ (show 130 - (o.n + 1) < 130 - o.n by omega)
  · exact ⟨_, _, _, rfl, ho, c1⟩
theorem DrawRaws_ok {v : Bs} (hv : bytesOk v) : ∃ d l, spec_DrawPutRaws.F v = some (d, l) ∧ d.n ≤ 50 ∧ l.n ≤ 130 := by
  obtain ⟨h, e⟩ := spec_l01New_ok v hv
  obtain ⟨i1, h1, d, e1, hd, c1⟩ := spec_l16Disk_ok (v := v) (i := 0) ⟨hv, by omega, by omega⟩ h
  rw [spec_DrawPutRaws.F, spec_DrawPutRaws.B, e, Option.bind_some]
  simp only
  rw [e1, Option.bind_some, spec_l16Raws_s0451.F, spec_l16Raws_s0451.B]
  simp only
  generalize hK : (fun (e01 : Bs) (e02 e03 : Int) (e04 : Vec RW) => (spec_l01Once_sb3e9.F 50 e01 e02 e03).bind fun r1 => _) = K0
  obtain ⟨i2, h2, l, e2, hl, c2⟩ := Raws_L0 c1 h1 K0
  obtain ⟨x, i3, h3, e3, -, -, -, c3⟩ := spec_l01Below_ok 50 c2 h2
  rw [e2, ← hK]
  simp only
  rw [spec_l01Once_sb3e9.F, spec_l01Once_sb3e9.B, e3, Option.bind_some, Option.bind_some]
  simp only
  rw [selb]
  split
  · obtain ⟨i4, h4, u, e4, hu, c4⟩ := Raws_L1 c3 h3 l hl (fun e11 e12 e13 e14 => some (e11, e12, e13, e14))
    rw [e4, Option.bind_some]
    exact ⟨_, _, rfl, hd, hu⟩
  · rw [Option.bind_some]
    exact ⟨_, _, rfl, hd, by show l.n ≤ 130; omega⟩
theorem Places_ok {v : Bs} (hv : bytesOk v) : ∃ p : Vec Int, spec_DrawPlaces.F v = some p ∧ 0 < p.n ∧ 0 ≤ p.g 0 := by
  have hM : maxN = 140737488355328 := rfl
  obtain ⟨h, e⟩ := spec_l01New_ok v hv
  obtain ⟨x0, i0, h0, e0, -, c0⟩ := spec_l01Byte_ok (v := v) (i := 0) ⟨hv, by omega, by omega⟩ h
  rw [spec_DrawPlaces.F, spec_DrawPlaces.B, e, Option.bind_some]
  simp only
  rw [e0, Option.bind_some]
  simp only
  refine loop_inv (σ := Nat × Int × Int × Vec Int) (fun t => 12 - t.1) (fun t => t.1 ≤ 12 ∧ t.2.2.2.n = t.1 ∧ (∀ j, j < t.1 → 0 ≤ t.2.2.2.g j) ∧ curOk v t.2.1) (fun _ x => ∃ p : Vec Int, x = some p ∧ 0 < p.n ∧ 0 ≤ p.g 0) (fun k t => spec_DrawPlaces.F0 k (t.1 : Int) v t.2.1 t.2.2.1 t.2.2.2 (fun e01 => some e01)) ?_ fuelN (0, i0, h0, Vec.nil) (by simp only [fuelN]; omega) ⟨Nat.zero_le _, rfl, fun j hj => by omega, c0⟩
  rintro k ⟨j, i, h, o⟩ ⟨hj, ho, hp, hc⟩ ih
  simp only at hj ho hp hc ⊢
  simp only [spec_DrawPlaces.F0, spec_DrawPlaces.B0]
  rw [selb]
  split
  · rename_i h2
    rw [decide_eq_true_eq] at h2
    obtain ⟨x, i1, h1, e1, hx0, hx, -, c1⟩ := spec_l01Below_ok 10000 hc h
    have hlit : (Vec.lit [x]).n = 1 := rfl
    rw [e1, Option.bind_some]
    simp only
    rw [chk_true (decide_eq_true (by rw [hlit]; omega)), wr_succ (by omega)]
    refine ih (j + 1, i1, h1, _) ⟨by simp only; omega, (show o.n + 1 = j + 1 by omega), fun q hq => ?_, c1⟩ (by simp only; omega)
    show 0 ≤ (Vec.app o (Vec.lit [x])).g q
    rw [Vec.app_g]
    split
    · exact hp q (by omega)
    · have hq : q < j + 1 := hq
      have : q - o.n = 0 := by omega
      rw [this]
      exact hx0
  · rename_i h2
    rw [decide_eq_true_eq] at h2
    exact ⟨o, rfl, by omega, hp 0 (by omega)⟩
theorem laws_FnRaws_true (v : Bs) (hv : Bnd.bnd v) : laws_FnRaws.F v = some true := by
  have hbig : laws_big.F v = some (decide ((1048576 : Int) < (v.n : Int))) := rfl
  rw [laws_FnRaws.F, laws_FnRaws.B, hbig, Option.bind_some, selb]
  split
  · rfl
  rename_i hn
  rw [decide_eq_true_eq] at hn
  have hvb := bytes_of hv (by omega)
  obtain ⟨d, l, e1, hd, hl⟩ := DrawRaws_ok hvb
  obtain ⟨c, e2, h2⟩ := spec_DiskOk_ok d (by unfold bN; omega)
  rw [e1, Option.bind_some]
  simp only
  rw [e2, Option.bind_some]
  cases c with
  | false => rfl
  | true =>
  have hg := h2.1 rfl
  rw [show (!true) = false from rfl, selb, if_neg (by decide), selb]
  split
  · rfl
  rename_i h120
  rw [decide_eq_true_eq] at h120
  have h120 : l.n ≤ 120 := by omega
  rcases spec_PutRaws_ok d (good_sml hg) l with ⟨-, -, es⟩ | ⟨h, -⟩
  rotate_left
  · exact absurd ⟨hg, h120⟩ h
  rcases impl_PutRaws_ok d (good_sml hg) l with ⟨-, -, A, ei, hA⟩ | ⟨h, -⟩
  rotate_left
  · exact absurd ⟨hg, h120⟩ h
  obtain ⟨p, e3, hp0, hp1⟩ := Places_ok hvb
  have hnl := run_le l.toL d
  rw [Vec.toL_length] at hnl
  generalize hN : (run d l.toL).1 = n at *
  obtain ⟨k, hk, hkn⟩ : ∃ k : Nat, Int.tmod (p.g 0) ((n : Int) + 1) = (k : Int) ∧ k ≤ n := by
    have := tmod_in hp1 (show (0 : Int) < (n : Int) + 1 by omega)
    exact ⟨(Int.tmod (p.g 0) ((n : Int) + 1)).toNat, by omega, by omega⟩
  have hw : wr ((n : Int) + 1) = (n : Int) + 1 := wr_id (by omega) (by omega)
  have hsub : (Vec.sub l ((0 : Int).toNat) ((n : Int).toNat)).toL = l.toL.take n := by
    rw [show ((0 : Int).toNat) = 0 from rfl, Int.toNat_natCast, toL_sub l 0 n hnl, List.drop_zero]
  generalize hl1 : Vec.sub l ((0 : Int).toNat) ((n : Int).toNat) = l1 at *
  have hl1n : l1.n = n := by rw [← Vec.toL_length, hsub, List.length_take, Vec.toL_length]; omega
  have hlk : (Vec.sub l1 ((0 : Int).toNat) ((k : Int).toNat)).toL = l.toL.take k := by
    rw [show ((0 : Int).toNat) = 0 from rfl, Int.toNat_natCast, toL_sub l1 0 k (by omega), List.drop_zero, hsub, List.take_take, Nat.min_eq_left hkn]
  have hlr : (Vec.sub l1 ((k : Int).toNat) ((l1.n : Int).toNat)).toL = (l.toL.take n).drop k := by
    rw [Int.toNat_natCast, Int.toNat_natCast, toL_sub l1 k l1.n (Nat.le_refl _), List.take_of_length_le (by rw [Vec.toL_length]; exact Nat.le_refl _), hsub]
  -- the runs
  have hLn : (l.toL.take n).length = n := by rw [List.length_take, Vec.toL_length]; omega
  have hLk : (l.toL.take k).length = k := by rw [List.length_take, Vec.toL_length]; omega
  have hcut : ∀ j, j ≤ n → (run d (l.toL.take j)).1 = j := by
    intro j hj
    have hlen : (l.toL.take j).length = j := by rw [List.length_take, Vec.toL_length]; omega
    have := (run_part (o := d) (a := l.toL.take j) (b := l.toL.drop j) (by rw [List.take_append_drop, hN, hlen]; exact hj)).1
    rw [hlen] at this
    exact this
  have hall : run d (l.toL.take n) = (n, (run d l.toL).2) := by
    have h1 := run_part (o := d) (a := l.toL.take n) (b := l.toL.drop n) (by rw [List.take_append_drop, hN, hLn]; exact Nat.le_refl _)
    have h2 := h1.2
    rw [List.take_append_drop, hLn] at h2
    have h3 : (run (run d (l.toL.take n)).2 (l.toL.drop n)).1 = 0 := by
      have := congrArg Prod.fst h2
      rw [hN] at this
      simp only at this
      omega
    have h4 : ∀ (q : List RW) (o : Vec FL), (run o q).1 = 0 → (run o q).2 = o := by
      intro q o hq
      cases q with
      | nil => rfl
      | cons r rs =>
        rw [run] at hq ⊢
        split at hq
        · simp only at hq; omega
        · rename_i hc; rw [if_neg hc]
    have h5 := congrArg Prod.snd h2
    simp only at h5
    rw [h4 _ _ h3] at h5
    refine Prod.ext ?_ ?_
    · exact hcut n (Nat.le_refl _)
    · exact h5.symm
  have hsplit := run_part (o := d) (a := l.toL.take k) (b := (l.toL.take n).drop k) (by
    rw [show l.toL.take k ++ (l.toL.take n).drop k = l.toL.take n from by
      rw [show l.toL.take k = (l.toL.take n).take k from by rw [List.take_take, Nat.min_eq_left hkn], List.take_append_drop], hall, hLk]
    exact hkn)
  rw [show l.toL.take k ++ (l.toL.take n).drop k = l.toL.take n from by
      rw [show l.toL.take k = (l.toL.take n).take k from by rw [List.take_take, Nat.min_eq_left hkn], List.take_append_drop], hall, hLk] at hsplit
  obtain ⟨hk1, hk2⟩ := hsplit
  have hk3 := congrArg Prod.fst hk2
  have hk4 := congrArg Prod.snd hk2
  simp only at hk3 hk4
  -- the calls
  have hSg := run_good (l.toL.take k) d hg
  have hAg := run_good l.toL d hg
  rcases impl_PutRaws_ok d (good_sml hg) (Vec.sub l1 ((0 : Int).toNat) ((k : Int).toNat)) with ⟨-, -, S, eS, hS⟩ | ⟨h, -⟩
  rotate_left
  · exact absurd ⟨hg, by rw [← Vec.toL_length, hlk, hLk]; omega⟩ h
  rw [hlk, hk1] at eS
  rw [hlk] at hS
  have hSg2 : diskGood S := (diskGood_same hS).2 hSg
  rcases impl_PutRaws_ok S (good_sml hSg2) (Vec.sub l1 ((k : Int).toNat) ((l1.n : Int).toNat)) with ⟨-, -, R, eR, hR⟩ | ⟨h, -⟩
  rotate_left
  · exact absurd ⟨hSg2, by rw [← Vec.toL_length, hlr, List.length_drop, hLn]; omega⟩ h
  rw [hlr] at eR hR
  obtain ⟨r1, r2⟩ := run_same ((l.toL.take n).drop k) _ S hSg hS
  rw [r1] at eR
  have hRA : Vec.Same R A := hR.trans (r2.trans (by rw [← hk4]; exact hA.symm))
  obtain ⟨C, eC, hC⟩ := CutRaws_at d hg l1 (by omega) k (by omega) (by rw [hsub, List.take_take, Nat.min_eq_left hkn]; exact hk1)
  rw [hsub, List.take_take, Nat.min_eq_left hkn] at hC
  obtain ⟨D, eD, hD⟩ := CutRaws_at d hg l1 (by omega) n (by omega) (by rw [hsub, List.take_take, Nat.min_self]; exact hcut n (Nat.le_refl _))
  rw [hsub, List.take_take, Nat.min_self, hall] at hD
  have hAg2 : diskGood A := (diskGood_same hA).2 hAg
  obtain ⟨c2, e9, h9⟩ := impl_DiskOk_ok A (by have := hAg2.1; unfold bN; omega)
  obtain rfl : c2 = true := h9.2 hAg2
  have s1 := sameDisk_ok R A hRA (by rw [hRA.1]; have := hAg2.1; omega)
  have s2 := sameDisk_ok C S (hC.trans hS.symm) (by rw [(hC.trans hS.symm).1]; have := hSg2.1; omega)
  have s3 := sameDisk_ok D A (hD.trans hA.symm) (by rw [(hD.trans hA.symm).1]; have := hAg2.1; omega)
  have p1 : decide ((n : Int) = (n : Int)) = true := decide_eq_true rfl
  have p2 : decide (0 ≤ (0 : Int) ∧ (0 : Int) ≤ (n : Int) ∧ (n : Int) ≤ (l.n : Int)) = true := decide_eq_true ⟨by omega, by omega, by omega⟩
  have p3 : decide (0 ≤ (0 : Int) ∧ (0 : Int) < (p.n : Int)) = true := decide_eq_true ⟨by omega, by omega⟩
  have p4 : decide ((0 : Int).toNat < p.n) = true := decide_eq_true hp0
  have p5 : decide (((n : Int) + 1) ≠ 0) = true := decide_eq_true (by omega)
  have p6 : decide (0 ≤ (0 : Int) ∧ (0 : Int) ≤ (k : Int) ∧ (k : Int) ≤ (l1.n : Int)) = true := decide_eq_true ⟨by omega, by omega, by omega⟩
  have p7 : decide (0 ≤ (k : Int) ∧ (k : Int) ≤ (l1.n : Int) ∧ (l1.n : Int) ≤ (l1.n : Int)) = true := decide_eq_true ⟨by omega, by omega, by omega⟩
  have p8 : decide ((k : Int) = (k : Int)) = true := decide_eq_true rfl
  have p9 : decide (((run (run d (l.toL.take k)).2 ((l.toL.take n).drop k)).1 : Int) = wr ((n : Int) - (k : Int))) = true := decide_eq_true (by rw [wr_id (by omega) (by omega)]; omega)
  rw [ei, Option.bind_some, es, Option.bind_some]
  simp only [p1, Bool.not_true, hl1, hw]
  rw [selb, if_neg (by decide), chk_true p2, e3, Option.bind_some, chk_true p3, chk_true p4, chk_true p5]
  simp only [show ((0 : Int).toNat) = 0 from rfl] at *
  rw [hk, chk_true p6, eS, Option.bind_some, chk_true p7, eR, Option.bind_some, eC, Option.bind_some, eD, Option.bind_some]
  simp only [p8, p9, s1, s2, s3, e9, sel, Option.bind_some]
end Go.Al
