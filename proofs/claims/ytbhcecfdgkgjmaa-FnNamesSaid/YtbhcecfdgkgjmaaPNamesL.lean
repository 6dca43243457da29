import Derived.Test.YtbhcecfdgkgjmaaPNames
set_option linter.unusedVariables false
set_option linter.unusedSimpArgs false
set_option linter.constructorNameAsVariable false
set_option linter.unusedSectionVars false
namespace Go.Al
abbrev ZZ : ByteArray := ByteArray.mk #[122, 122, 47, 110, 101, 119]
abbrev Z0 : ByteArray := ByteArray.mk #[48]
instance pathChD : DecidablePred pathCh := fun c => by unfold pathCh; infer_instance
theorem ZZ_good : pathGood ZZ := by
  refine ⟨⟨by decide, by decide⟩, by decide, by decide, fun i hi => ?_, fun i hi h0 => ?_⟩
  · have hi : i < 6 := hi
    have key : ∀ i : Fin 6, pathCh (byteAt ZZ i) := by decide +kernel
    exact key ⟨i, hi⟩
  · have hi : i < 6 := hi
    have key : ∀ i : Fin 6, ¬ (byteAt ZZ i = 47 ∧ byteAt ZZ (i - 1 : Nat) = 47) := by decide +kernel
    exact key ⟨i, hi⟩
theorem Z0_good : pathGood Z0 := by
  refine ⟨⟨by decide, by decide⟩, by decide, by decide, fun i hi => ?_, fun i hi h0 => ?_⟩
  · have hi : i < 1 := hi
    have key : ∀ i : Fin 1, pathCh (byteAt Z0 i) := by decide +kernel
    exact key ⟨i, hi⟩
  · have hi : i < 1 := hi
    omega
/-- Paths as they are drawn. -/
def drP (s : ByteArray) : Prop := s.size = 0 ∨ byteAt s 0 = 47 ∨ byteAt s 0 = 65 ∨ (97 ≤ byteAt s 0 ∧ s ≠ ZZ)
instance drPD : DecidablePred drP := fun s => by unfold drP; infer_instance
theorem drP_good {s : ByteArray} (h : drP s) (hg : pathGood s) : 97 ≤ byteAt s 0 ∧ s ≠ ZZ := by
  rcases h with h | h | h | h
  · have := hg.1.1; omega
  · exact absurd h hg.2.1
  · have := hg.2.2.2.1 0 (by have := hg.1.1; omega)
    rw [h] at this
    unfold pathCh at this
    omega
  · exact h
theorem not_lt0 {s : ByteArray} (hs : 1 ≤ s.size) (h : 97 ≤ byteAt s 0) : ¬ bLt s Z0 := by
  unfold bLt
  rw [ByteArray.toList_eq, ByteArray.toList_eq]
  unfold byteAt at h
  have hsz : s.data.toList.length = s.size := by rw [Array.length_toList]; rfl
  generalize s.data.toList = l at h hsz
  cases l with
  | nil => simp at hsz; omega
  | cons c l =>
    simp only [List.getD_cons_zero] at h
    show ¬ (c :: l < [48])
    rw [List.cons_lt_cons_iff]
    rintro (h1 | ⟨h1, h2⟩)
    · have : c.toNat < 48 := UInt8.lt_iff_toNat_lt.1 h1
      omega
    · rw [h1] at h
      have : (48 : UInt8).toNat = 48 := rfl
      omega
theorem lit_mem {A : Type} [Enc A] {l : List A} {k : Nat} (hk : k < (Vec.lit l).n) : (Vec.lit l).g k ∈ l := by
  have := List.mem_of_getElem? (Vec.toL_get (Vec.lit l) k hk)
  rwa [toL_lit] at this
abbrev drL (v : Vec NM) : Prop := ∀ x ∈ v.toL, drP x.1 ∧ Sml.sml x
theorem nm_small {s : ByteArray} {a b : Int} (h : s.size ≤ 100) (h1 : -100 ≤ a ∧ a ≤ 100) (h2 : -100 ≤ b ∧ b ≤ 100) : Sml.sml ((s, a, b) : NM) := by
  have hs : s.size ≤ sN := by unfold sN; omega
  have ha : -9223372036854775808 ≤ a ∧ a ≤ 9223372036854775807 := ⟨by omega, by omega⟩
  have hb : -9223372036854775808 ≤ b ∧ b ≤ 9223372036854775807 := ⟨by omega, by omega⟩
  exact ⟨hs, ha, hb⟩
theorem Path2_ok {v : Bs} {i : Int} (hc : curOk v i) (h : Int) : ∃ s i' h', spec_l13Path2_s0451.F v i h = some (s, v, i', h') ∧ (drP s ∧ s.size ≤ 100) ∧ curOk v i' := by
  obtain ⟨x, i1, h1, e1, -, -, -, c1⟩ := spec_l01Below_ok 25 hc h
  rw [spec_l13Path2_s0451.F, spec_l13Path2_s0451.B, spec_l01Once_sb3e9.F, spec_l01Once_sb3e9.B, e1, Option.bind_some, Option.bind_some]
  simp only
  rw [selb]
  split
  · obtain ⟨k, i2, h2, hk, e2, c2⟩ := spec_l01Pick_ok c1 h1 (Vec.lit [ByteArray.empty, (ByteArray.mk #[47, 97]), (ByteArray.mk #[97, 47]), (ByteArray.mk #[97, 47, 47, 98]), (ByteArray.mk #[65]), (ByteArray.mk #[97, 97, 97, 97, 97, 97, 97, 97, 97, 97, 97, 97, 97, 97, 97, 97, 97, 97, 97, 97, 97, 97, 97, 97]), (ByteArray.mk #[97, 97, 97, 97, 97, 97, 97, 97, 97, 97, 97, 97, 97, 97, 97, 97, 97, 97, 97, 97, 97, 97, 97, 97, 97]), (ByteArray.mk #[97, 32, 98]), (ByteArray.mk #[233])] : Vec ByteArray) (show 0 < 9 by decide)
    rw [e2]
    have key : ∀ x ∈ [ByteArray.empty, (ByteArray.mk #[47, 97]), (ByteArray.mk #[97, 47]), (ByteArray.mk #[97, 47, 47, 98]), (ByteArray.mk #[65]), (ByteArray.mk #[97, 97, 97, 97, 97, 97, 97, 97, 97, 97, 97, 97, 97, 97, 97, 97, 97, 97, 97, 97, 97, 97, 97, 97]), (ByteArray.mk #[97, 97, 97, 97, 97, 97, 97, 97, 97, 97, 97, 97, 97, 97, 97, 97, 97, 97, 97, 97, 97, 97, 97, 97, 97]), (ByteArray.mk #[97, 32, 98]), (ByteArray.mk #[233])], drP x ∧ x.size ≤ 100 := by decide +kernel
    exact ⟨_, _, _, rfl, key _ (lit_mem hk), c2⟩
  · obtain ⟨k, i2, h2, hk, e2, c2⟩ := spec_l01Pick_ok c1 h1 (Vec.lit [(ByteArray.mk #[97]), (ByteArray.mk #[98]), (ByteArray.mk #[115, 114, 99, 47, 109, 97, 105, 110]), (ByteArray.mk #[100, 111, 99, 46, 116, 120, 116]), (ByteArray.mk #[120, 45, 49])] : Vec ByteArray) (show 0 < 5 by decide)
    rw [e2]
    have key : ∀ x ∈ [(ByteArray.mk #[97]), (ByteArray.mk #[98]), (ByteArray.mk #[115, 114, 99, 47, 109, 97, 105, 110]), (ByteArray.mk #[100, 111, 99, 46, 116, 120, 116]), (ByteArray.mk #[120, 45, 49])], drP x ∧ x.size ≤ 100 := by decide +kernel
    exact ⟨_, _, _, rfl, key _ (lit_mem hk), c2⟩
theorem PickInt_ok {v : Bs} {i : Int} (hc : curOk v i) (h : Int) (l : Vec Int) (hl : 0 < l.n) : ∃ k i' h', k < l.n ∧ spec_l01PickInt_sa4ec.F v i h l = some (l.g k, v, i', h', l) ∧ curOk v i' := by
  obtain ⟨x, i', h', e, h0, h1, -, c⟩ := spec_l01Below_ok (l.n : Int) hc h
  have h1 := h1 (by omega)
  obtain ⟨k, rfl⟩ : ∃ k : Nat, x = k := ⟨x.toNat, by omega⟩
  rw [spec_l01PickInt_sa4ec.F, spec_l01PickInt_sa4ec.B, e, Option.bind_some]
  simp only [Int.toNat_natCast]
  rw [chk_true (decide_eq_true ⟨by omega, by omega⟩), chk_true (decide_eq_true (by omega))]
  exact ⟨k, _, _, by omega, rfl, c⟩
theorem Names_L0 {ρ : Type} {v : Bs} {i : Int} (hc : curOk v i) (h : Int) (K0 : Bs → Int → Int → Vec NM → Option ρ) : ∃ i' h' o, spec_l13Names_s0451.F0 fuelN 0 v i h Vec.nil K0 = K0 v i' h' o ∧ o.n ≤ 6 ∧ drL o ∧ curOk v i' := by
  refine loop_inv (σ := Nat × Int × Int × Vec NM) (fun t => 6 - t.1) (fun t => t.1 ≤ 6 ∧ t.2.2.2.n ≤ t.1 ∧ drL t.2.2.2 ∧ curOk v t.2.1) (fun _ x => ∃ i' h' o, x = K0 v i' h' o ∧ o.n ≤ 6 ∧ drL o ∧ curOk v i') (fun k t => spec_l13Names_s0451.F0 k (t.1 : Int) v t.2.1 t.2.2.1 t.2.2.2 K0) ?_ fuelN (0, i, h, Vec.nil) (by simp only [fuelN]; omega) ⟨Nat.zero_le _, Nat.zero_le _, fun x hx => (by cases hx), hc⟩
  rintro k ⟨j, i, h, o⟩ ⟨hj, ho, hd, hc⟩ ih
  simp only at hj ho hd hc ⊢
  obtain ⟨x, i1, h1, e1, hx0, hx, -, c1⟩ := spec_l01Below_ok 6 hc h
  have hx := hx (by omega)
  simp only [spec_l13Names_s0451.F0, spec_l13Names_s0451.B0, e1, Option.bind_some]
  rw [selb]
  split
  · rename_i h2
    rw [decide_eq_true_eq] at h2
    obtain ⟨q, i2, h2', hq, e2, c2⟩ := spec_l01Pick_ok c1 h1 (Vec.lit [(ByteArray.mk #[97]), (ByteArray.mk #[98]), (ByteArray.mk #[99, 47, 100]), (ByteArray.mk #[115, 114, 99, 47, 109, 97, 105, 110]), (ByteArray.mk #[120, 45, 49]), (ByteArray.mk #[122])] : Vec ByteArray) (show 0 < 6 by decide)
    obtain ⟨y, i3, h3, e3, hy0, hy, -, c3⟩ := spec_l01Below_ok 6 c2 h2'
    obtain ⟨z, i4, h4, e4, hz0, hz, -, c4⟩ := spec_l01Below_ok 4 c3 h3
    have hy := hy (by omega)
    have hz := hz (by omega)
    obtain ⟨u, e5, hu⟩ := spec_l13Put_ok o (by omega) ((Vec.lit [(ByteArray.mk #[97]), (ByteArray.mk #[98]), (ByteArray.mk #[99, 47, 100]), (ByteArray.mk #[115, 114, 99, 47, 109, 97, 105, 110]), (ByteArray.mk #[120, 45, 49]), (ByteArray.mk #[122])] : Vec ByteArray).g q, y, z)
    have key : ∀ x ∈ [(ByteArray.mk #[97]), (ByteArray.mk #[98]), (ByteArray.mk #[99, 47, 100]), (ByteArray.mk #[115, 114, 99, 47, 109, 97, 105, 110]), (ByteArray.mk #[120, 45, 49]), (ByteArray.mk #[122])], drP x ∧ x.size ≤ 100 := by decide +kernel
    have hun : u.n ≤ o.n + 1 := by
      rw [← Vec.toL_length, hu, insL_length, ← Vec.toL_length (v := o)]
      exact Nat.add_le_add_right (List.length_filter_le _ _) 1
    simp only at e5
    rw [e2, Option.bind_some, e3, Option.bind_some, e4, Option.bind_some, e5, Option.bind_some, wr_succ (by omega)]
    refine ih (j + 1, i4, h4, u) ⟨by simp only; omega, by simp only; omega, fun x hx => ?_, c4⟩ (by simp only; omega)
    simp only at hx
    rw [hu] at hx
    rcases mem_insL.1 hx with rfl | hx
    · exact ⟨(key _ (lit_mem hq)).1, nm_small (key _ (lit_mem hq)).2 ⟨by omega, by omega⟩ ⟨by omega, by omega⟩⟩
    · exact hd x (List.mem_filter.1 hx).1
  · exact ⟨_, _, _, rfl, by omega, hd, c1⟩
abbrev LET : ByteArray := ByteArray.mk #[97, 98, 99, 100, 101, 102, 103, 104, 105, 106, 107, 108, 109]
theorem Names_L1 {ρ : Type} {v : Bs} {i : Int} (hc : curOk v i) (h : Int) (K0 : Bs → Int → Int → Vec NM → Option ρ) : ∃ i' h' o, spec_l13Names_s0451.F1 fuelN LET 0 v i h Vec.nil K0 = K0 v i' h' o ∧ o.n ≤ 20 ∧ drL o ∧ curOk v i' := by
  have hM : maxN = 140737488355328 := rfl
  refine loop_inv (σ := Nat × Int × Int × Vec NM) (fun t => 20 - t.1) (fun t => t.1 ≤ 13 ∧ t.2.2.2.n ≤ t.1 ∧ drL t.2.2.2 ∧ curOk v t.2.1) (fun _ x => ∃ i' h' o, x = K0 v i' h' o ∧ o.n ≤ 20 ∧ drL o ∧ curOk v i') (fun k t => spec_l13Names_s0451.F1 k LET (t.1 : Int) v t.2.1 t.2.2.1 t.2.2.2 K0) ?_ fuelN (0, i, h, Vec.nil) (by simp only [fuelN]; omega) ⟨Nat.zero_le _, Nat.zero_le _, fun x hx => (by cases hx), hc⟩
  rintro k ⟨j, i, h, o⟩ ⟨hj, ho, hd, hc⟩ ih
  simp only at hj ho hd hc ⊢
  obtain ⟨x, i1, h1, e1, hx0, hx, -, c1⟩ := spec_l01Below_ok 2 hc h
  have hx := hx (by omega)
  simp only [spec_l13Names_s0451.F1, spec_l13Names_s0451.B1, e1, Option.bind_some]
  rw [wr_id (by omega) (by omega), selb]
  split
  · rename_i h2
    rw [decide_eq_true_eq] at h2
    have hlit : ∀ x : NM, (Vec.lit [x]).n = 1 := fun _ => rfl
    have hsz : LET.size = 13 := rfl
    rw [wr_succ (by omega), chk_true (decide_eq_true ⟨by omega, by omega, by rw [hsz]; omega⟩), chk_true (decide_eq_true (by rw [hlit]; omega))]
    refine ih (j + 1, i1, h1, _) ⟨by simp only; omega, (show o.n + 1 ≤ j + 1 by omega), fun x hx => ?_, c1⟩ (by simp only; omega)
    change x ∈ (Vec.app o (Vec.lit [_])).toL at hx
    rw [toL_app, toL_lit, List.mem_append, List.mem_singleton] at hx
    rcases hx with hx | rfl
    · exact hd x hx
    · have key : ∀ i : Fin 13, drP (LET.extract i (i + 1)) ∧ (LET.extract i (i + 1)).size ≤ 100 := by decide +kernel
      have := key ⟨j, by omega⟩
      simp only [Int.toNat_natCast]
      exact ⟨this.1, nm_small this.2 ⟨by omega, by omega⟩ ⟨by omega, by omega⟩⟩
  · exact ⟨_, _, _, rfl, by omega, hd, c1⟩
theorem Names_ok {v : Bs} (hv : bytesOk v) : ∃ o, spec_DrawNamesOk.F v = some o ∧ o.n ≤ 20 ∧ drL o := by
  have hM : maxN = 140737488355328 := rfl
  obtain ⟨h, e⟩ := spec_l01New_ok v hv
  rw [spec_DrawNamesOk.F, spec_DrawNamesOk.B, e, Option.bind_some, spec_l13Names_s0451.F, spec_l13Names_s0451.B]
  simp only
  generalize hK : (fun (e01 : Bs) (e02 e03 : Int) (e04 : Vec NM) => (spec_l01Below_sb3e9.F 30 e01 e02 e03).bind fun r1 => _) = K0
  obtain ⟨i1, h1, o, e0, ho, hd, c1⟩ := Names_L0 (v := v) (i := 0) ⟨hv, by omega, by omega⟩ h K0
  obtain ⟨x, i2, h2, e1, -, -, -, c2⟩ := spec_l01Below_ok 30 c1 h1
  rw [e0, ← hK]
  simp only
  rw [e1, Option.bind_some, selb]
  split
  · obtain ⟨s, i3, h3, e2, hs, c3⟩ := Path2_ok c2 h2
    obtain ⟨y, i4, h4, hy, e3, c4⟩ := PickInt_ok c3 h3 (Vec.lit [(-1 : Int), (0 : Int), (11 : Int), (12 : Int)]) (show 0 < 4 by decide)
    obtain ⟨z, i5, h5, hz, e4, c5⟩ := PickInt_ok c4 h4 (Vec.lit [(-1 : Int), (0 : Int), (39 : Int), (40 : Int)]) (show 0 < 4 by decide)
    have hlit : ∀ x : NM, (Vec.lit [x]).n = 1 := fun _ => rfl
    rw [e2, Option.bind_some, e3, Option.bind_some, e4, Option.bind_some, chk_true (decide_eq_true (by rw [hlit]; omega)), Option.bind_some]
    refine ⟨_, rfl, (show o.n + 1 ≤ 20 by omega), fun x hx => ?_⟩
    change x ∈ (Vec.app o (Vec.lit [_])).toL at hx
    rw [toL_app, toL_lit, List.mem_append, List.mem_singleton] at hx
    rcases hx with hx | rfl
    · exact hd x hx
    · have k1 : ∀ x ∈ [(-1 : Int), (0 : Int), (11 : Int), (12 : Int)], -100 ≤ x ∧ x ≤ 100 := by decide
      have k2 : ∀ x ∈ [(-1 : Int), (0 : Int), (39 : Int), (40 : Int)], -100 ≤ x ∧ x ≤ 100 := by decide
      exact ⟨hs.1, nm_small hs.2 (k1 _ (lit_mem hy)) (k2 _ (lit_mem hz))⟩
  rw [selb]
  split
  · obtain ⟨i3, h3, u, e2, hu, hd2, c3⟩ := Names_L1 c2 h2 (fun e11 e12 e13 e14 => some (e11, e12, e13, e14))
    rw [e2, Option.bind_some]
    exact ⟨_, rfl, hu, hd2⟩
  · rw [Option.bind_some]
    exact ⟨_, rfl, (by show o.n ≤ 20; omega), hd⟩
/-! ### The law -/
theorem spec_l13Id_ok (v : Vec (ByteArray × Int × Int)) (hv : Sml.sml v) (d : Int) : ∃ r, spec_l13Id.F v d = some r ∧ IsFirst (fun i => (v.g i).2.1 = d) v.n r := by
  have hs : sN = 1048576 := rfl
  have hb : bN = 140737488351232 := rfl
  have hn := hv.1
  unfold spec_l13Id.F spec_l13Id.B
  rcases first_loop (p := fun i => (v.g i).2.1 = d) (n := v.n) (by omega) (fun k i => spec_l13Id.F0 k v d i (fun _ => some (-1 : Int)) (fun x => some x)) (some (-1)) (fun i => some i) (fun k i => by
    simp only [spec_l13Id.F0, spec_l13Id.B0, selb, chkb, decide_eq_true_eq, Int.toNat_natCast, Int.ofNat_lt, Int.natCast_nonneg, true_and]
    refine ⟨fun h1 h2 => by simp [h1, h2], fun h1 h2 => ?_, fun h1 => by simp [h1]⟩
    rw [wr_succ (by omega)]
    simp [h1, h2]) with ⟨h, e⟩ | ⟨i, h1, h2, h3, e⟩
  · exact ⟨-1, e, .inl ⟨rfl, h⟩⟩
  · exact ⟨i, e, .inr ⟨i, rfl, h1, h2, h3⟩⟩
theorem ids_free {v : Vec NM} (hn : v.n ≤ 11) : ¬ ∀ d : Nat, d < 12 → ∃ i, i < v.n ∧ (v.g i).2.1 = (d : Int) := by
  intro h
  have hsub : (List.range 12).map (fun (d : Nat) => (d : Int)) ⊆ v.toL.map (fun x => x.2.1) := by
    intro x hx
    obtain ⟨d, hd, rfl⟩ := List.mem_map.1 hx
    obtain ⟨i, hi, e⟩ := h d (List.mem_range.1 hd)
    exact List.mem_map.2 ⟨v.g i, List.mem_of_getElem? (Vec.toL_get v i hi), e⟩
  have hnd : ((List.range 12).map (fun (d : Nat) => (d : Int))).Nodup := by decide
  have := List.Nodup.length_le_of_subset hnd hsub
  simp at this
  omega
theorem id_loop {ρ : Type} {v : Vec NM} (hg : namesGood v) (hn : v.n ≤ 11) (K0 : Vec NM → Int → Option ρ) : ∃ d : Nat, laws_FnNames.F0 fuelN v 0 0 K0 = K0 v (d : Int) ∧ d ≤ 11 ∧ ∀ i, i < v.n → (v.g i).2.1 ≠ (d : Int) := by
  have hfind : ∀ d : Nat, ∃ r, spec_ById.F v (d : Int) = some r ∧ ((r < 0 ∧ ∀ i, i < v.n → (v.g i).2.1 ≠ (d : Int)) ∨ (0 ≤ r ∧ ∃ i, i < v.n ∧ (v.g i).2.1 = (d : Int))) := by
    intro d
    obtain ⟨b, e1, h1⟩ := spec_NamesOk_ok v (nm_sml hg)
    obtain rfl : b = true := h1.2 hg
    obtain ⟨r, e2, h2⟩ := spec_l13Id_ok v (nm_sml hg) d
    refine ⟨r, by rw [spec_ById.F, spec_ById.B, e1, Option.bind_some, e2]; rfl, ?_⟩
    rcases h2 with ⟨rfl, h2⟩ | ⟨i, rfl, hi, he, -⟩
    · exact .inl ⟨by decide, h2⟩
    · exact .inr ⟨by omega, i, hi, he⟩
  have hex : ∃ d : Nat, d ≤ 11 ∧ ∀ i, i < v.n → (v.g i).2.1 ≠ (d : Int) := Classical.byContradiction fun h => ids_free hn fun d hd => Classical.byContradiction fun h2 => h ⟨d, by omega, fun i hi e => h2 ⟨i, hi, e⟩⟩
  refine loop_inv (σ := Nat × Nat) (fun t => 12 - t.2) (fun t => t.2 ≤ 12 ∧ t.1 ≤ t.2 ∧ (∀ d, d < t.1 → ∃ i, i < v.n ∧ (v.g i).2.1 = (d : Int)) ∧ (t.1 = t.2 ∨ ∀ i, i < v.n → (v.g i).2.1 ≠ (t.1 : Int)))
    (fun _ x => ∃ d : Nat, x = K0 v (d : Int) ∧ d ≤ 11 ∧ ∀ i, i < v.n → (v.g i).2.1 ≠ (d : Int)) (fun k t => laws_FnNames.F0 k v (t.1 : Int) (t.2 : Int) K0) ?_ fuelN (0, 0) (by simp only [fuelN]; omega) ⟨by decide, Nat.le_refl _, fun d hd => by omega, .inl rfl⟩
  rintro k ⟨d, j⟩ ⟨hj, hdj, hall, hlast⟩ ih
  simp only at hj hdj hall hlast ⊢
  by_cases h12 : (j : Int) < 12
  · obtain ⟨r, e, hr⟩ := hfind d
    simp only [laws_FnNames.F0, laws_FnNames.B0, decide_eq_true h12, sel, e, Option.bind_some]
    rcases hr with ⟨h0, hno⟩ | ⟨h0, hyes⟩
    · rw [decide_eq_false (show ¬ (0 : Int) ≤ r by omega)]
      have w := ih (d, j + 1) ⟨by simp only; omega, by simp only; omega, hall, .inr hno⟩ (by simp only; omega)
      simp only at w
      rw [← wr_succ (by omega)] at w
      exact w
    · rw [decide_eq_true h0]
      have hdj2 : d = j := by
        rcases hlast with h | h
        · exact h
        · obtain ⟨i, hi, e2⟩ := hyes
          exact absurd e2 (h i hi)
      have w := ih (d + 1, j + 1) ⟨by simp only; omega, by simp only; omega, fun d' hd' => by
        rcases Nat.lt_or_ge d' d with h | h
        · exact hall d' h
        · obtain rfl : d' = d := by simp only at hd'; omega
          exact hyes, .inl (by simp only; omega)⟩ (by simp only; omega)
      simp only at w
      rw [← wr_succ (by omega), ← wr_succ (by omega)] at w
      exact w
  · simp only [laws_FnNames.F0, laws_FnNames.B0, decide_eq_false h12, sel]
    refine ⟨d, rfl, ?_⟩
    have hjj : j = 12 := by omega
    rcases hlast with h | h
    · exfalso
      exact ids_free hn fun d' hd' => hall d' (by omega)
    · refine ⟨?_, h⟩
      refine Classical.byContradiction fun h2 => ?_
      exact ids_free hn fun d' hd' => hall d' (by omega)
structure NmRes (L : Vec NM) (d : Int) where
  more : Vec NM
  moved : Vec NM
  back : Vec NM
  less : Vec NM
  non : Vec NM
  k : Nat
  h1 : impl_PutName.F L ZZ d 3 = some (true, more)
  h2 : impl_ByPath.F more ZZ = some (k : Int)
  h3 : impl_NamesOk.F more = some true
  h4 : more.n = L.n + 1
  h5 : impl_ById.F more d = some (k : Int)
  h6 : k < more.n ∧ (more.g k).2.2 = 3
  h7 : impl_MoveName.F more ZZ Z0 = some (true, moved)
  h8 : impl_MoveName.F moved Z0 ZZ = some (true, back)
  h9 : impl_CutName.F back ZZ = some (true, less)
  h10 : impl_CutName.F L ZZ = some (false, non)
  h11 : impl_ById.F moved d = some 0
  h12 : laws_sameNames.F back more = some true
  h13 : laws_sameNames.F less L = some true
theorem names_core {L : Vec NM} (hg : namesGood L) (hn : L.n ≤ 11) (hd : ∀ x ∈ L.toL, 97 ≤ byteAt x.1 0 ∧ x.1 ≠ ZZ) (d : Nat) (hd11 : d ≤ 11) (hfree : ∀ i, i < L.n → (L.g i).2.1 ≠ (d : Int)) : Nonempty (NmRes L d) := by
  have hi : ∀ x ∈ L.toL, x.2.1 ≠ (d : Int) := fun x hx => by obtain ⟨i, hi, rfl⟩ := mem_toL hx; exact hfree i hi
  obtain ⟨more, e1, t1, g1⟩ := PutName_new hg hn (n := (ZZ, (d : Int), 3)) ⟨ZZ_good, ⟨(show (0 : Int) ≤ d by omega), (show (d : Int) ≤ 11 by omega)⟩, (show (0 : Int) ≤ 3 by omega), (show (3 : Int) ≤ 39 by omega)⟩ (fun x hx => (hd x hx).2) hi
  obtain ⟨k, hk, a1, a2⟩ := ins_at (M := L.toL) (isLt (ZZ, (d : Int), 3)) (ZZ, (d : Int), 3)
  rw [← t1] at a1 a2
  obtain ⟨b1, b2, b3⟩ := ByPath_at g1 a1
  have b4 := ById_at g1 a1
  obtain ⟨c, e3, c3⟩ := impl_NamesOk_ok more (nm_sml g1)
  obtain rfl : c = true := c3.2 g1
  have h97 : ∀ x ∈ L.toL, ¬ bLt x.1 Z0 := fun x hx => not_lt0 (((names_list.1 hg).2.2.2 x hx).1.1.1) (hd x hx).1
  have hne0 : ∀ x ∈ L.toL, x.1 ≠ Z0 := fun x hx e => by have := (hd x hx).1; rw [e] at this; exact absurd this (by decide)
  obtain ⟨moved, e4, t4, g4⟩ := MoveName_at g1 a1 Z0_good (by rw [a2]; exact hne0) g1.1
  rw [a2] at t4
  have hins : insL (isLt (Z0, (d : Int), (3 : Int))) (Z0, (d : Int), (3 : Int)) L.toL = (Z0, (d : Int), (3 : Int)) :: L.toL := by
    unfold insL
    cases hL : L.toL with
    | nil => rfl
    | cons y l =>
      have hy : isLt (Z0, (d : Int), (3 : Int)) y = false := decide_eq_false (h97 y (by rw [hL]; exact List.mem_cons_self))
      simp only [List.takeWhile_cons, List.dropWhile_cons, hy, Bool.false_eq_true, if_false, List.nil_append]
  simp only at t4
  rw [hins] at t4
  have a4 : moved.toL[0]? = some (Z0, (d : Int), (3 : Int)) := by rw [t4]; rfl
  have b5 := ById_at g4 a4
  have he4 : moved.toL.eraseIdx 0 = L.toL := by rw [t4]; rfl
  obtain ⟨back, e5, t5, g5⟩ := MoveName_at g4 a4 ZZ_good (by rw [he4]; exact fun x hx => (hd x hx).2) g4.1
  simp only at t5
  rw [he4, ← t1] at t5
  obtain ⟨less, e6, t6⟩ := CutName_at g5 (k := k) (n := (ZZ, (d : Int), 3)) (by rw [t5]; exact a1)
  rw [t5, a2] at t6
  obtain ⟨non, e7⟩ := CutName_none hg (s := ZZ) (fun x hx => (hd x hx).2)
  have h4 : more.n = L.n + 1 := by rw [← Vec.toL_length, t1, insL_length, Vec.toL_length]
  have hbn : back.n = more.n := by rw [← Vec.toL_length, t5, Vec.toL_length]
  have hln : less.n = L.n := by rw [← Vec.toL_length, t6, Vec.toL_length]
  exact ⟨⟨more, moved, back, less, non, k, e1, b3, e3, h4, b4, ⟨b1, by rw [b2]⟩, e4, e5, e6, e7, b5, sameNames_ok back more t5 (by omega), sameNames_ok less L t6 (by omega)⟩⟩
theorem names_tail {L : Vec NM} {d : Int} (hn : L.n ≤ 11) (R : NmRes L d) {ρ : Type} (K : Bool → Option ρ) : ((impl_PutName.F L ZZ d (3 : Int)).bind fun r4 => (impl_ByPath.F r4.2 ZZ).bind fun r5 => sel ((!r4.1)) (K false) ((impl_NamesOk.F r4.2).bind fun r6 => sel ((!r6)) (K false) (sel ((!decide ((r4.2.n : Int) = (wr ((L.n : Int) + (1 : Int)))))) (K false) (sel (decide (r5 < (0 : Int))) (K false) ((impl_ById.F r4.2 d).bind fun r7 => sel ((!decide (r7 = r5))) (K false) (chk (decide (0 ≤ r5 ∧ r5 < (r4.2.n : Int))) (chk (decide (r5.toNat < r4.2.n)) (sel ((!decide ((r4.2.g r5.toNat).2.2 = (3 : Int)))) (K false) ((impl_MoveName.F r4.2 ZZ Z0).bind fun r8 => (impl_MoveName.F r8.2 Z0 ZZ).bind fun r9 => (impl_CutName.F r9.2 ZZ).bind fun r10 => (impl_CutName.F L ZZ).bind fun r11 => sel (r8.1) (sel (r9.1) (sel (r10.1) (sel ((!r11.1)) ((impl_ById.F r8.2 d).bind fun r12 => sel (decide (r12 = (0 : Int))) ((laws_sameNames.F r9.2 r4.2).bind fun r13 => sel (r13) ((laws_sameNames.F r10.2 L).bind fun r14 => K r14) (K false)) (K false)) (K false)) (K false)) (K false)) (K false)))))))))) = K true := by
  obtain ⟨more, moved, back, less, non, k, h1, h2, h3, h4, h5, ⟨h6, h6'⟩, h7, h8, h9, h10, h11, h12, h13⟩ := R
  have p1 : decide ((more.n : Int) = wr ((L.n : Int) + 1)) = true := decide_eq_true (by rw [h4, wr_succ (by omega)])
  have p2 : decide ((k : Int) < 0) = false := decide_eq_false (by omega)
  have p3 : decide (0 ≤ (k : Int) ∧ (k : Int) < (more.n : Int)) = true := decide_eq_true ⟨by omega, by omega⟩
  have p4 : decide (k < more.n) = true := decide_eq_true h6
  simp only [h1, h2, h3, h5, h7, h8, h9, h10, h11, h12, h13, Option.bind_some, Bool.not_true, Bool.not_false, sel, p1, p2, p3, p4, chk, Int.toNat_natCast, h6', decide_true]
abbrev nLit : Vec NM := Vec.lit [((ByteArray.mk #[97]), (1 : Int), (0 : Int)), ((ByteArray.mk #[98]), (0 : Int), (2 : Int))]
theorem nLit_good : namesGood nLit := by
  refine names_list.2 ?_
  rw [toL_lit]
  have pg : ∀ c : UInt8, (c = 97 ∨ c = 98) → pathGood (ByteArray.mk #[c]) := by
    intro c hc
    refine ⟨⟨by show 1 ≤ 1; omega, by show 1 ≤ 24; omega⟩, by rcases hc with rfl | rfl <;> decide, by rcases hc with rfl | rfl <;> decide, fun i hi => ?_, fun i hi h0 => ?_⟩
    · have hi : i < 1 := hi
      obtain rfl : i = 0 := by omega
      rcases hc with rfl | rfl <;> decide
    · have hi : i < 1 := hi
      omega
  refine ⟨by decide, ?_, ?_, fun x hx => ?_⟩
  · rw [List.pairwise_cons]
    exact ⟨fun x hx => by
      obtain rfl : x = ((ByteArray.mk #[98]), (0 : Int), (2 : Int)) := by simpa using hx
      show bLt (ByteArray.mk #[97]) (ByteArray.mk #[98])
      unfold bLt
      rw [ByteArray.toList_eq, ByteArray.toList_eq]
      decide, List.pairwise_singleton _ _⟩
  · rw [List.pairwise_cons]
    exact ⟨fun x hx => by
      obtain rfl : x = ((ByteArray.mk #[98]), (0 : Int), (2 : Int)) := by simpa using hx
      decide, List.pairwise_singleton _ _⟩
  · simp only [List.mem_cons, List.not_mem_nil, or_false] at hx
    rcases hx with rfl | rfl
    · exact ⟨pg 97 (.inl rfl), ⟨by decide, by decide⟩, by decide, by decide⟩
    · exact ⟨pg 98 (.inr rfl), ⟨by decide, by decide⟩, by decide, by decide⟩
theorem nLit_dr : ∀ x ∈ nLit.toL, 97 ≤ byteAt x.1 0 ∧ x.1 ≠ ZZ := by
  rw [toL_lit]
  intro x hx
  simp only [List.mem_cons, List.not_mem_nil, or_false] at hx
  rcases hx with rfl | rfl
  · exact ⟨by decide, by decide⟩
  · exact ⟨by decide, by decide⟩
theorem names_all {L : Vec NM} (hg : namesGood L) (hn : L.n ≤ 11) (hd : ∀ x ∈ L.toL, 97 ≤ byteAt x.1 0 ∧ x.1 ≠ ZZ) (K0 : Vec NM → Int → Option Bool) (hK : ∀ d, NmRes L d → K0 L d = some true) : laws_FnNames.F0 fuelN L 0 0 K0 = some true := by
  obtain ⟨d, e, hd11, hf⟩ := id_loop hg hn K0
  obtain ⟨R⟩ := names_core hg hn hd d hd11 hf
  rw [e]
  exact hK _ R
theorem selTn {α : Type} (x y : α) : sel true x y = x := id rfl
theorem selFn {α : Type} (x y : α) : sel false x y = y := id rfl
theorem laws_FnNames_true (v : Bs) (hv : Bnd.bnd v) : laws_FnNames.F v = some true := by
  have hbig : laws_big.F v = some (decide ((1048576 : Int) < (v.n : Int))) := rfl
  rw [laws_FnNames.F, laws_FnNames.B, hbig, Option.bind_some, selb]
  split
  · rfl
  rename_i hn
  rw [decide_eq_true_eq] at hn
  obtain ⟨o, e1, ho, hd⟩ := Names_ok (bytes_of hv (by omega))
  have hos : Sml.sml o := ⟨by unfold sN; omega, fun i hi => (hd _ (List.mem_of_getElem? (Vec.toL_get o i hi))).2⟩
  obtain ⟨c, e2, h2⟩ := spec_NamesOk_ok o hos
  rw [e1, Option.bind_some, e2, Option.bind_some]
  cases c with
  | false =>
    rw [show (!false) = true from rfl]
    rw [selTn, show decide (((Vec.lit [((ByteArray.mk #[97]), (1 : Int), (0 : Int)), ((ByteArray.mk #[98]), (0 : Int), (2 : Int))] : Vec NM).n : Int) = 12) = false from rfl, selFn]
    exact names_all nLit_good (by decide) nLit_dr _ fun d R => names_tail (by decide) R _
  | true =>
    have hg := h2.1 rfl
    have hdr : ∀ x ∈ o.toL, 97 ≤ byteAt x.1 0 ∧ x.1 ≠ ZZ := fun x hx => drP_good (hd x hx).1 ((names_list.1 hg).2.2.2 x hx).1
    rw [show (!true) = false from rfl]
    rw [selFn, selb]
    split
    · rename_i h12
      rw [decide_eq_true_eq] at h12
      have hsub : (Vec.sub o ((1 : Int).toNat) ((o.n : Int).toNat)).toL = o.toL.drop 1 := by
        rw [show ((1 : Int).toNat) = 1 from rfl, Int.toNat_natCast, toL_sub o 1 o.n (Nat.le_refl _), List.take_of_length_le (by rw [Vec.toL_length]; omega)]
      have hn1 : (Vec.sub o ((1 : Int).toNat) ((o.n : Int).toNat)).n = o.n - 1 := by rw [← Vec.toL_length, hsub, List.length_drop, Vec.toL_length]
      obtain ⟨q1, q2, q3, q4⟩ := names_list.1 hg
      have hg1 : namesGood (Vec.sub o ((1 : Int).toNat) ((o.n : Int).toNat)) := names_list.2 (by
        rw [hsub]
        exact ⟨by rw [List.length_drop]; omega, q2.sublist (List.drop_sublist _ _), q3.sublist (List.drop_sublist _ _), fun x hx => q4 x (List.mem_of_mem_drop hx)⟩)
      rw [chk_true (decide_eq_true ⟨by omega, by omega, by omega⟩)]
      exact names_all hg1 (by rw [hn1]; omega) (fun x hx => by rw [hsub] at hx; exact hdr x (List.mem_of_mem_drop hx)) _ fun d R => names_tail (by rw [hn1]; omega) R _
    · rename_i h12
      rw [decide_eq_true_eq] at h12
      have := hg.1
      exact names_all hg (by omega) hdr _ fun d R => names_tail (by omega) R _
end Go.Al
