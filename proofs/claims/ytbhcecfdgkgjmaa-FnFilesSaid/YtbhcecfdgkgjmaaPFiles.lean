import Derived.Test.YtbhcecfdgkgjmaaPDk2
import Derived.Test.YtbhcecfdgkgjmaaPDraw
import Derived.Test.YtbhcecfdgkgjmaaGFnFiles
set_option linter.unusedVariables false
set_option linter.unusedSimpArgs false
set_option linter.constructorNameAsVariable false
set_option linter.unusedSectionVars false
namespace Go.Al
theorem mem_put_iff {l : List FL} {f x : FL} : x ∈ putL f l ↔ x = f ∨ (x ∈ l ∧ x.1 ≠ f.1) := by
  unfold putL
  rw [List.mem_append, List.mem_cons, List.mem_filter, List.mem_filter, ltF_iff, gtF_iff]
  constructor
  · rintro (⟨h, h2⟩ | h | ⟨h, h2⟩)
    · exact .inr ⟨h, fun e => bLt_irrefl (e ▸ h2)⟩
    · exact .inl h
    · exact .inr ⟨h, fun e => bLt_irrefl (e ▸ h2)⟩
  · rintro (h | ⟨h, h2⟩)
    · exact .inr (.inl h)
    · by_cases h3 : bLt x.1 f.1
      · exact .inl ⟨h, h3⟩
      · by_cases h4 : bLt f.1 x.1
        · exact .inr (.inr ⟨h, h4⟩)
        · exact absurd (bLt_tri h3 h4) h2
theorem mem_neF {l : List FL} {n : ByteArray} {x : FL} : x ∈ l.filter (neF n) ↔ x ∈ l ∧ x.1 ≠ n := by
  rw [List.mem_filter, neF]
  simp
theorem FileAt_mem {v : Vec FL} (hg : diskGood v) {x : FL} (h : x ∈ v.toL) : impl_FileAt.F v x.1 = some (x.2, true) := by
  have hn := hg.1
  obtain ⟨i, hi, e⟩ := mem_toL h
  obtain ⟨y, e1, h1⟩ := impl_FileAt_ok v (by unfold bN; omega) x.1
  rw [e1, fileAt_one h1 (.inl ⟨hg, i, hi, by rw [e], rfl⟩), e]
theorem FileAt_no {v : Vec FL} (hg : diskGood v) {s : ByteArray} (h : ∀ x ∈ v.toL, x.1 ≠ s) : impl_FileAt.F v s = some (ByteArray.empty, false) := by
  have hn := hg.1
  obtain ⟨y, e1, h1⟩ := impl_FileAt_ok v (by unfold bN; omega) s
  rw [e1, fileAt_one h1 (.inr ⟨fun ⟨_, i, hi, e⟩ => h _ (List.mem_of_getElem? (Vec.toL_get v i hi)) e, rfl⟩)]
theorem PutRaw_done {v : Vec FL} (hg : diskGood v) {k : Int} {n t x : ByteArray} {u : Vec FL} (h : impl_PutRaw.F v k n t x = some (true, u)) : diskGood u := by
  obtain ⟨b, o, u', e1, e2, h1, h2, h3⟩ := PutRaw_two v (good_sml hg) k n t x
  rw [h] at e2
  simp only [Option.some.injEq, Prod.mk.injEq] at e2
  obtain ⟨rfl, rfl⟩ := e2
  exact (diskGood_same h1).2 (h3 rfl).2
theorem PutRaw_enter {v : Vec FL} (hg : diskGood v) (k : Int) (n t x : ByteArray) {u : Vec FL} (h : impl_Disk_do_s08b6.F k n t x v = some (true, u)) : impl_PutRaw.F v k n t x = some (true, u) := by
  have hn := hg.1
  obtain ⟨c, d3, d4⟩ := impl_DiskOk_ok v (by unfold bN; omega)
  obtain rfl : c = true := d4.2 hg
  rw [impl_PutRaw.F, impl_PutRaw.B, clone_file v (by omega), Option.bind_some, d3, Option.bind_some, h]
  rfl
theorem PutRaw_put {v : Vec FL} (hg : diskGood v) (h40 : v.n < 40) {n x : ByteArray} (hf : fOk (n, x)) (t : ByteArray) : ∃ u, impl_PutRaw.F v 1 n t x = some (true, u) ∧ u.toL = putL (n, x) v.toL := by
  have hs := (good_list.1 hg).2.1
  obtain ⟨u, e1, h1⟩ := impl_put_ok v hs (by omega) (n, x)
  obtain ⟨c, e2, h2⟩ := fileOk_iff n x
  obtain rfl : c = true := h2.2 hf
  have hlen := put_length (l := v.toL) (n, x)
  rw [← h1, Vec.toL_length, Vec.toL_length] at hlen
  have h9 : decide ((u.n : Int) ≤ 40) = true := decide_eq_true (by omega)
  simp only at e1
  refine ⟨u, PutRaw_enter hg _ _ _ _ ?_, h1⟩
  rw [impl_Disk_do_s08b6.F, impl_Disk_do_s08b6.B]
  simp only [decide_true, show decide ((1 : Int) = 4) = false from rfl, show decide ((1 : Int) = 1) = true from rfl, sel, e1, e2, Option.bind_some, h9]
theorem place_at {v : Vec FL} (hg : diskGood v) {i : Nat} (hi : i < v.n) : impl_Disk_place.F v (v.g i).1 = some ((i : Int), true) := by
  have hn := hg.1
  obtain ⟨j, h1, h2, h3, h⟩ := impl_Disk_place_ok v (by unfold bN; omega) (v.g i).1
  have hij : j = i := by
    rcases Nat.lt_trichotomy j i with h4 | h4 | h4
    · exact absurd (disk_sorted hg i hi j h4) (h3 (by omega))
    · exact h4
    · exact absurd (h2 i h4) bLt_irrefl
  subst hij
  rcases h with ⟨-, -, e⟩ | ⟨h4, -⟩
  · exact e
  · exact absurd ⟨hi, rfl⟩ h4
theorem PutRaw_drop {v : Vec FL} (hg : diskGood v) {i : Nat} (hi : i < v.n) (t x : ByteArray) : ∃ u, impl_PutRaw.F v 3 (v.g i).1 t x = some (true, u) ∧ u.toL = v.toL.filter (neF (v.g i).1) := by
  have hs := (good_list.1 hg).2.1
  have hn := hg.1
  refine ⟨v.del i (i + 1), PutRaw_enter hg _ _ _ _ ?_, by rw [toL_del1 v i hi, erase_filter hs hi]⟩
  rw [impl_Disk_do_s08b6.F, impl_Disk_do_s08b6.B, place_at hg hi]
  have h1 : decide (0 ≤ (i : Int) ∧ (i : Int) < (v.n : Int)) = true := decide_eq_true ⟨by omega, by omega⟩
  have h2 : decide (i < v.n) = true := decide_eq_true hi
  simp only [decide_true, show decide ((3 : Int) = 4) = false from rfl, show decide ((3 : Int) = 1) = false from rfl, show decide ((3 : Int) = 3) = true from rfl, sel, Option.bind_some, Bool.not_true, h1, chk, Int.toNat_natCast, h2, impl_del_ok v (by omega) i hi]
theorem PutRaw_move {v : Vec FL} (hg : diskGood v) {i : Nat} (hi : i < v.n) {t : ByteArray} (hf : fOk (t, (v.g i).2)) (x : ByteArray) : ∃ u, impl_PutRaw.F v 2 (v.g i).1 t x = some (true, u) ∧ u.toL = putL (t, (v.g i).2) (v.toL.filter (neF (v.g i).1)) := by
  have hs := (good_list.1 hg).2.1
  have hn := hg.1
  have hdel : (v.del (i : Int) ((i : Int) + 1)).toL = v.toL.filter (neF (v.g i).1) := by rw [toL_del1 v i hi, erase_filter hs hi]
  obtain ⟨u, e1, h1⟩ := impl_put_ok (v.del i (i + 1)) (by rw [hdel]; exact hs.filter _) (by show v.n - _ ≤ _; omega) (t, (v.g i).2)
  obtain ⟨c, e2, h2⟩ := fileOk_iff t (v.g i).2
  obtain rfl : c = true := h2.2 hf
  refine ⟨u, PutRaw_enter hg _ _ _ _ ?_, by rw [h1, hdel]⟩
  rw [impl_Disk_do_s08b6.F, impl_Disk_do_s08b6.B, place_at hg hi]
  have h3 : decide (0 ≤ (i : Int) ∧ (i : Int) < (v.n : Int)) = true := decide_eq_true ⟨by omega, by omega⟩
  have h4 : decide (i < v.n) = true := decide_eq_true hi
  simp only at e1
  simp only [decide_true, show decide ((2 : Int) = 4) = false from rfl, show decide ((2 : Int) = 1) = false from rfl, show decide ((2 : Int) = 3) = false from rfl, show decide ((2 : Int) = 2) = true from rfl, sel, Option.bind_some, Bool.not_true, h3, chk, Int.toNat_natCast, h4, impl_del_ok v (by omega) i hi, e1, e2]
abbrev NEWb : ByteArray := ByteArray.mk #[110, 101, 119]
abbrev OTHb : ByteArray := ByteArray.mk #[111, 116, 104, 101, 114]
abbrev TXTb : ByteArray := ByteArray.mk #[116, 101, 120, 116]
theorem new_ne : OTHb ≠ NEWb := by decide
theorem files_core (d : Vec FL) (hg : diskGood d) (hn : d.n ≤ 30) : ∃ a b c, impl_PutRaw.F d 1 NEWb ByteArray.empty TXTb = some (true, a) ∧ impl_PutRaw.F a 2 NEWb OTHb ByteArray.empty = some (true, b) ∧ impl_PutRaw.F b 3 OTHb ByteArray.empty ByteArray.empty = some (true, c) ∧
    impl_FileAt.F a NEWb = some (TXTb, true) ∧ impl_FileAt.F b OTHb = some (TXTb, true) ∧ impl_FileAt.F b NEWb = some (ByteArray.empty, false) ∧ impl_FileAt.F c OTHb = some (ByteArray.empty, false) ∧
    (∀ s, ∃ y, impl_FileAt.F c s = some y) ∧ ∀ x ∈ d.toL, x.1 ≠ NEWb → x.1 ≠ OTHb → impl_FileAt.F c x.1 = some (x.2, true) := by
  have hf1 : fOk (NEWb, TXTb) := ⟨⟨by decide, by decide⟩, by decide⟩
  have hf2 : fOk (OTHb, TXTb) := ⟨⟨by decide, by decide⟩, by decide⟩
  obtain ⟨a, ea, ha⟩ := PutRaw_put hg (by omega) hf1 ByteArray.empty
  have ga := PutRaw_done hg ea
  have ma : (NEWb, TXTb) ∈ a.toL := by rw [ha]; exact mem_put_iff.2 (.inl rfl)
  obtain ⟨i, hi, gi⟩ := mem_toL ma
  obtain ⟨b, eb, hb⟩ := PutRaw_move ga hi (t := OTHb) (by rw [gi]; exact hf2) ByteArray.empty
  rw [gi] at eb hb
  have gb := PutRaw_done ga eb
  have mb : (OTHb, TXTb) ∈ b.toL := by rw [hb]; exact mem_put_iff.2 (.inl rfl)
  obtain ⟨j, hj, gj⟩ := mem_toL mb
  obtain ⟨c, ec, hc⟩ := PutRaw_drop gb hj ByteArray.empty ByteArray.empty
  rw [gj] at ec hc
  have gc := PutRaw_done gb ec
  have hnc := gc.1
  refine ⟨a, b, c, ea, eb, ec, FileAt_mem ga ma, FileAt_mem gb mb, FileAt_no gb fun x hx => ?_, FileAt_no gc fun x hx => ?_, fun s => ?_, fun x hx h1 h2 => FileAt_mem gc ?_⟩
  · rw [hb] at hx
    rcases mem_put_iff.1 hx with rfl | ⟨hx, -⟩
    · exact new_ne
    · exact (mem_neF.1 hx).2
  · rw [hc] at hx
    exact (mem_neF.1 hx).2
  · obtain ⟨y, e, -⟩ := impl_FileAt_ok c (by unfold bN; omega) s
    exact ⟨y, e⟩
  · rw [hc, mem_neF]
    refine ⟨?_, h2⟩
    rw [hb, mem_put_iff]
    refine .inr ⟨mem_neF.2 ⟨?_, h1⟩, h2⟩
    rw [ha, mem_put_iff]
    exact .inr ⟨hx, h1⟩
theorem files_loop (d c : Vec FL) (hn : d.n ≤ 30) (hc : ∀ s, ∃ y, impl_FileAt.F c s = some y) (h : ∀ x ∈ d.toL, x.1 ≠ NEWb → x.1 ≠ OTHb → impl_FileAt.F c x.1 = some (x.2, true)) :
    laws_FnFiles.F0 fuelN 0 d c (fun _ => some true) (fun x01 => some x01) = some true := by
  refine loop_inv (σ := Nat) (fun i => d.n - i) (fun i => i ≤ d.n) (fun _ x => x = some true) (fun k i => laws_FnFiles.F0 k (i : Int) d c (fun _ => some true) (fun x01 => some x01)) ?_ fuelN 0 (by unfold fuelN; omega) (Nat.zero_le _)
  intro k i hi ih
  by_cases hi2 : i < d.n
  · have hx := List.mem_of_getElem? (Vec.toL_get d i hi2)
    obtain ⟨y, e⟩ := hc (d.g i).1
    have q1 : decide ((i : Int) < (d.n : Int)) = true := decide_eq_true (by omega)
    have q2 : decide (0 ≤ (i : Int) ∧ (i : Int) < (d.n : Int)) = true := decide_eq_true ⟨by omega, by omega⟩
    have q3 : decide (i < d.n) = true := decide_eq_true hi2
    have w := ih (i + 1) hi2 (by omega)
    rw [← wr_succ (by omega)] at w
    simp only [laws_FnFiles.F0, laws_FnFiles.B0, Int.toNat_natCast, q1, q2, q3, sel, chk, e, Option.bind_some]
    by_cases h1 : (d.g i).1 = NEWb
    · rw [decide_eq_true h1]
      exact w
    · rw [decide_eq_false h1]
      by_cases h2 : (d.g i).1 = OTHb
      · rw [decide_eq_true h2]
        exact w
      · rw [decide_eq_false h2]
        have e2 := h _ hx h1 h2
        rw [e] at e2
        obtain rfl := Option.some.inj e2
        simp only [Bool.not_false, Bool.not_true, sel, show decide ((d.g i).2 = (d.g i).2) = true from decide_eq_true rfl]
        exact w
  · simp only [laws_FnFiles.F0, laws_FnFiles.B0, show decide ((i : Int) < (d.n : Int)) = false from decide_eq_false (by omega), sel]
abbrev dLit : Vec FL := Vec.lit [((ByteArray.mk #[119, 48]), (ByteArray.mk #[120]))]
theorem dLit_good : diskGood dLit := good_list.2 ⟨by decide, List.pairwise_singleton _ _, fun x hx => by
  obtain rfl : x = ((ByteArray.mk #[119, 48]), (ByteArray.mk #[120])) := by simpa [dLit, toL_lit] using hx
  exact ⟨⟨by decide, by decide⟩, by decide⟩⟩
/-! ### What is drawn -/
theorem spec_l16Name_ok {v : Bs} {i : Int} (hc : curOk v i) (h : Int) : ∃ s i' h', spec_l16Name_s0451.F v i h = some (s, v, i', h') ∧ curOk v i' := by
  rw [spec_l16Name_s0451.F, spec_l16Name_s0451.B]
  obtain ⟨k, i', h', -, e, c⟩ := spec_l01Pick_ok hc h (Vec.lit [(ByteArray.mk #[99, 111, 109, 109, 105, 116, 115]), (ByteArray.mk #[119, 48]), (ByteArray.mk #[119, 49]), (ByteArray.mk #[119, 48, 43]), (ByteArray.mk #[105, 110, 116, 101, 110, 116]), (ByteArray.mk #[120]), (ByteArray.mk #[99, 111, 109, 109, 105, 116, 115, 43]), (ByteArray.mk #[119, 49, 49])] : Vec ByteArray) (by decide)
  rw [e]
  exact ⟨_, _, _, rfl, c⟩
theorem put_n (v : Vec FL) (hn : v.n ≤ 1000) (a b : ByteArray) : ∃ o, spec_l16Put.F v a b = some o ∧ o.n ≤ v.n + 1 := by
  obtain ⟨o, e, ho⟩ := spec_l16Put_ok v (by omega) (a, b)
  refine ⟨o, e, ?_⟩
  have := put_length (l := v.toL) (a, b)
  rwa [← ho, Vec.toL_length, Vec.toL_length] at this
theorem l16Disk_L0 {ρ : Type} {v : Bs} {i : Int} (hc : curOk v i) (h : Int) (K0 : Bs → Int → Int → Vec FL → Option ρ) : ∃ i' h' o, spec_l16Disk_s0451.F0 fuelN 0 v i h Vec.nil K0 = K0 v i' h' o ∧ o.n ≤ 6 ∧ curOk v i' := by
  refine loop_inv (σ := Nat × Int × Int × Vec FL) (fun t => 6 - t.1) (fun t => t.1 ≤ 6 ∧ t.2.2.2.n ≤ t.1 ∧ curOk v t.2.1) (fun _ x => ∃ i' h' o, x = K0 v i' h' o ∧ o.n ≤ 6 ∧ curOk v i') (fun k t => spec_l16Disk_s0451.F0 k (t.1 : Int) v t.2.1 t.2.2.1 t.2.2.2 K0) ?_ fuelN (0, i, h, Vec.nil) (by simp only [fuelN]; omega) ⟨Nat.zero_le _, Nat.zero_le _, hc⟩
  rintro k ⟨j, i, h, o⟩ ⟨hj, ho, hc⟩ ih
  simp only at hj ho hc ⊢
  obtain ⟨x, i1, h1, e1, hx0, hx, -, c1⟩ := spec_l01Below_ok 6 hc h
  have hx := hx (by omega)
  simp only [spec_l16Disk_s0451.F0, spec_l16Disk_s0451.B0, e1, Option.bind_some]
  rw [selb]
  split
  · rename_i h2
    rw [decide_eq_true_eq] at h2
    obtain ⟨s, i2, h2', e2, c2⟩ := spec_l16Name_ok c1 h1
    obtain ⟨y, i3, h3, e3, -, -, -, c3⟩ := spec_l01Below_ok 12 c2 h2'
    obtain ⟨t, i4, h4, e4, -, c4⟩ := spec_l01Text_ok y c3 h3
    obtain ⟨u, e5, hu⟩ := put_n o (by omega) s t
    rw [e2, Option.bind_some, e3, Option.bind_some, e4, Option.bind_some, e5, Option.bind_some, wr_succ (by omega)]
    exact ih (j + 1, i4, h4, u) ⟨by simp only; omega, by simp only; omega, c4⟩ (by simp only; omega)
  · exact ⟨_, _, _, rfl, by omega, c1⟩
theorem l16Disk_L1 {ρ : Type} {v : Bs} {i : Int} (hc : curOk v i) (h : Int) (K0 : Bs → Int → Int → Vec FL → Option ρ) : ∃ i' h' o, spec_l16Disk_s0451.F1 fuelN 0 v i h Vec.nil K0 = K0 v i' h' o ∧ o.n ≤ 50 ∧ curOk v i' := by
  have hM : maxN = 140737488355328 := rfl
  refine loop_inv (σ := Nat × Int × Int × Vec FL) (fun t => 50 - t.1) (fun t => t.1 ≤ 50 ∧ t.2.2.2.n ≤ t.1 ∧ curOk v t.2.1) (fun _ x => ∃ i' h' o, x = K0 v i' h' o ∧ o.n ≤ 50 ∧ curOk v i') (fun k t => spec_l16Disk_s0451.F1 k (t.1 : Int) v t.2.1 t.2.2.1 t.2.2.2 K0) ?_ fuelN (0, i, h, Vec.nil) (by simp only [fuelN]; omega) ⟨Nat.zero_le _, Nat.zero_le _, hc⟩
  rintro k ⟨j, i, h, o⟩ ⟨hj, ho, hc⟩ ih
  simp only at hj ho hc ⊢
  obtain ⟨x, i1, h1, e1, hx0, hx, -, c1⟩ := spec_l01Below_ok 2 hc h
  have hx := hx (by omega)
  simp only [spec_l16Disk_s0451.F1, spec_l16Disk_s0451.B1, e1, Option.bind_some]
  rw [wr_id (by omega) (by omega), selb]
  split
  · rename_i h2
    rw [decide_eq_true_eq] at h2
    obtain ⟨s, e2, hs⟩ := spec_Decimal_ok j (by omega)
    obtain ⟨u, e5, hu⟩ := put_n o (by omega) ((ByteArray.mk #[102]) ++ s) ByteArray.empty
    have h1s : (ByteArray.mk #[102]).size = 1 := rfl
    rw [e2, Option.bind_some, chk_true (decide_eq_true (by omega)), e5, Option.bind_some, wr_succ (by omega)]
    exact ih (j + 1, i1, h1, u) ⟨by simp only; omega, by simp only; omega, c1⟩ (by simp only; omega)
  · exact ⟨_, _, _, rfl, by omega, c1⟩
theorem spec_l16Disk_ok {v : Bs} {i : Int} (hc : curOk v i) (h : Int) : ∃ i' h' o, spec_l16Disk_s0451.F v i h = some (v, i', h', o) ∧ o.n ≤ 50 ∧ curOk v i' := by
  have hM : maxN = 140737488355328 := rfl
  rw [spec_l16Disk_s0451.F, spec_l16Disk_s0451.B]
  generalize hK : (fun (e01 : Bs) (e02 e03 : Int) (e04 : Vec FL) => (spec_l01Below_sb3e9.F 40 e01 e02 e03).bind fun r1 => _) = K0
  obtain ⟨i1, h1, o, e0, ho, c1⟩ := l16Disk_L0 hc h K0
  obtain ⟨x, i2, h2, e1, -, -, -, c2⟩ := spec_l01Below_ok 40 c1 h1
  rw [e0, ← hK]
  simp only
  rw [e1, Option.bind_some, selb]
  split
  · obtain ⟨s, e2, -⟩ := spec_l01Long_ok 24 (by omega) 122
    obtain ⟨t, e3, -⟩ := spec_l01Long_ok 25 (by omega) 122
    have e2 : spec_l01Long.F 24 122 = some s := e2
    have e3 : spec_l01Long.F 25 122 = some t := e3
    obtain ⟨k, i3, h3, -, e4, c3⟩ := spec_l01Pick_ok c2 h2 (Vec.lit [ByteArray.empty, (ByteArray.mk #[97]), s, t] : Vec ByteArray) (show 0 < 4 by decide)
    have hlit : ∀ x : FL, (Vec.lit [x]).n = 1 := fun _ => rfl
    rw [e2, Option.bind_some, e3, Option.bind_some, e4, Option.bind_some, chk_true (decide_eq_true (by rw [hlit]; omega))]
    exact ⟨_, _, _, rfl, by rw [Vec.app_n, hlit]; omega, c3⟩
  rw [selb]
  split
  · obtain ⟨y, i3, h3, e2, hy0, hy, -, c3⟩ := spec_l01Below_ok 2 c2 h2
    have hy := hy (by omega)
    obtain ⟨n, hn⟩ : ∃ n : Nat, 60004 + y = n := ⟨(60004 + y).toNat, by omega⟩
    obtain ⟨s, e3, -⟩ := spec_l01Long_ok n (by omega) 0
    obtain ⟨u, e5, hu⟩ := put_n o (by omega) (ByteArray.mk #[98, 105, 103]) s
    rw [e2, Option.bind_some, wr_id (by omega) (by omega)]
    simp only
    rw [hn, e3, Option.bind_some, e5, Option.bind_some]
    exact ⟨_, _, _, rfl, by omega, c3⟩
  rw [selb]
  split
  · obtain ⟨i3, h3, u, e2, hu, c3⟩ := l16Disk_L1 c2 h2 (fun e11 e12 e13 e14 => some (e11, e12, e13, e14))
    exact ⟨i3, h3, u, e2, hu, c3⟩
  · exact ⟨_, _, _, rfl, by omega, c2⟩
theorem spec_DrawDiskOk_ok {v : Bs} (hv : bytesOk v) : ∃ o, spec_DrawDiskOk.F v = some o ∧ o.n ≤ 50 := by
  obtain ⟨h, e⟩ := spec_l01New_ok v hv
  obtain ⟨i', h', o, e2, ho, -⟩ := spec_l16Disk_ok (v := v) (i := 0) ⟨hv, by omega, by omega⟩ h
  rw [spec_DrawDiskOk.F, spec_DrawDiskOk.B, e, Option.bind_some]
  simp only
  rw [e2]
  exact ⟨o, rfl, ho⟩
theorem big_eq (v : Bs) : laws_big.F v = some (decide ((1048576 : Int) < (v.n : Int))) := rfl
theorem selT {α : Type} (x y : α) : sel true x y = x := id rfl
theorem selF {α : Type} (x y : α) : sel false x y = y := id rfl
theorem laws_FnFiles_true (v : Bs) (hv : Bnd.bnd v) : laws_FnFiles.F v = some true := by
  rw [laws_FnFiles.F, laws_FnFiles.B, big_eq, Option.bind_some, selb]
  split
  · rfl
  rename_i hn
  rw [decide_eq_true_eq] at hn
  obtain ⟨o, e1, ho⟩ := spec_DrawDiskOk_ok (bytes_of hv (by omega))
  obtain ⟨c, e2, h2⟩ := spec_DiskOk_ok o (by unfold bN; omega)
  rw [e1, Option.bind_some, e2, Option.bind_some]
  have tt : decide (TXTb = TXTb) = true := decide_eq_true rfl
  cases c with
  | false =>
    obtain ⟨a, b, c, f1, f2, f3, f4, f5, f6, f7, f8, f9⟩ := files_core dLit dLit_good (by decide)
    simp only [Bool.not_false, selT, selF, f1, f2, f3, f4, f5, f6, f7, Option.bind_some, Bool.not_true, tt, decide_true]
    rw [files_loop dLit c (by decide) f8 f9]
  | true =>
    simp only [Bool.not_true, selF]
    by_cases h30 : (30 : Int) < (o.n : Int)
    · rw [decide_eq_true h30]
      obtain ⟨a, b, c, f1, f2, f3, f4, f5, f6, f7, f8, f9⟩ := files_core dLit dLit_good (by decide)
      simp only [selT, selF, f1, f2, f3, f4, f5, f6, f7, Option.bind_some, Bool.not_true, tt, decide_true]
      rw [files_loop dLit c (by decide) f8 f9]
    · rw [decide_eq_false h30]
      obtain ⟨a, b, c, f1, f2, f3, f4, f5, f6, f7, f8, f9⟩ := files_core o (h2.1 rfl) (by omega)
      simp only [selT, selF, f1, f2, f3, f4, f5, f6, f7, Option.bind_some, Bool.not_true, tt, decide_true]
      rw [files_loop o c (by omega) f8 f9]
end Go.Al
