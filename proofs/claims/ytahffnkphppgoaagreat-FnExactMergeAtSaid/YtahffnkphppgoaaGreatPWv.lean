import Derived.Test.YtahffnkphppgoaaGreatPCl
set_option linter.unusedVariables false
set_option linter.unusedSimpArgs false
set_option linter.constructorNameAsVariable false
set_option linter.unusedSectionVars false
namespace Go.Al
def lineGood (s : ByteArray) : Prop := (∀ i, i < s.size → byteAt s i ≠ 10) ∧ s.size ≤ 60
theorem spec_LineOk_ok (s : ByteArray) (hs : s.size ≤ bN) : ∃ c, spec_LineOk.F s = some c ∧ (c = true ↔ lineGood s) := by
  have hb : bN = 140737488351232 := rfl
  rw [spec_LineOk.F, spec_LineOk.B]
  rcases zT (p := fun i => byteAt s i ≠ 10) (n := s.size) hs (fun k i => spec_LineOk.F0 k s i (fun e01 => some (decide ((e01.size : Int) ≤ (60 : Int)))) (fun x => some x)) (some (decide ((s.size : Int) ≤ (60 : Int)))) (some false)
    (fun k i hi => by
      simp only [spec_LineOk.F0, spec_LineOk.B0, selb, chkb, decide_eq_true_eq, Int.toNat_natCast, Int.ofNat_lt, Int.natCast_nonneg, true_and]
      rw [zK (by omega), if_pos hi, if_pos hi]
      by_cases h : byteAt s i = 10
      · rw [if_pos h]; exact ⟨fun _ => rfl, fun h2 => absurd h h2⟩
      · rw [if_neg h]; exact ⟨fun h2 => absurd h h2, fun _ => rfl⟩)
    (fun k i hi => by
      simp only [spec_LineOk.F0, spec_LineOk.B0, selb, decide_eq_true_eq, Int.ofNat_lt, if_neg hi]) with ⟨h, e⟩ | ⟨h, e⟩
  · exact ⟨_, e, by rw [decide_eq_true_eq, lineGood]; exact ⟨fun h2 => ⟨h, by omega⟩, fun h2 => by have := h2.2; omega⟩⟩
  · exact ⟨false, e, fun h2 => (by cases h2), fun h2 => absurd h2.1 h⟩
theorem occ_one (l : List UInt8) (a : UInt8) (i : Nat) : Lib.occAt l [a] i = true ↔ l[i]? = some a := by
  have e0 : (l.drop i)[0]? = l[i]? := by simp
  unfold Lib.occAt
  rw [← e0]
  cases l.drop i with
  | nil => simp
  | cons x t => simp; exact eq_comm
theorem byteAt_10 (s : ByteArray) (i : Nat) : byteAt s i = 10 ↔ s.data.toList.getD i 0 = 10 := by
  unfold byteAt
  constructor
  · intro h
    apply UInt8.toNat_inj.1
    have : (s.data.toList.getD i 0).toNat = 10 := by omega
    rw [this]; rfl
  · intro h
    rw [h]; rfl
theorem contains_nl (s : ByteArray) : Lib.contains s.data.toList [10] = true ↔ ∃ i, i < s.size ∧ byteAt s i = 10 := by
  have hl : s.data.toList.length = s.size := by simp
  have hocc : ∀ i, i < s.size → (Lib.occAt s.data.toList [10] i = true ↔ byteAt s i = 10) := fun i hi => by
    rw [occ_one, byteAt_10, List.getD_eq_getElem?_getD, List.getElem?_eq_getElem (by omega : i < s.data.toList.length)]
    simp
  have hin : ∀ i, Lib.occAt s.data.toList [10] i = true → i < s.size := fun i h => by
    have := (List.getElem?_eq_some_iff.1 ((occ_one _ _ _).1 h)).1
    omega
  unfold Lib.contains
  rw [decide_eq_true_eq]
  rcases Lib.index_spec s.data.toList [10] with ⟨h1, h2⟩ | ⟨i, h1, h2, h3, h4⟩
  · rw [h1]
    refine ⟨fun h => by omega, fun ⟨i, hi, h⟩ => ?_⟩
    have := h2 i (by omega)
    rw [(hocc i hi).2 h] at this
    cases this
  · rw [h1]
    exact ⟨fun _ => ⟨i, hin i h3, (hocc i (hin i h3)).1 h3⟩, fun _ => by omega⟩
theorem impl_LineOk_ok (s : ByteArray) : ∃ c, impl_LineOk.F s = some c ∧ (c = true ↔ lineGood s) := by
  rw [impl_LineOk.F, impl_LineOk.B]
  by_cases h : s.size ≤ 60
  · have e4 : strings_Contains.F s (ByteArray.mk #[10]) = some (Lib.contains s.data.toList [10]) := by
      unfold strings_Contains.F
      rw [selb, if_pos (by rw [decide_eq_true_eq]; omega)]
    rw [e4, decide_eq_true (show (s.size : Int) ≤ 60 by omega)]
    refine ⟨_, rfl, ?_⟩
    have := contains_nl s
    cases hc : Lib.contains s.data.toList [10] with
    | true =>
      obtain ⟨i, hi, h3⟩ := this.1 hc
      exact ⟨fun h => (by cases h), fun h4 => absurd h3 (h4.1 i hi)⟩
    | false => exact ⟨fun _ => ⟨fun i hi h3 => (by rw [this.2 ⟨i, hi, h3⟩] at hc; cases hc), h⟩, fun _ => rfl⟩
  · rw [decide_eq_false (show ¬ (s.size : Int) ≤ 60 by omega)]
    exact ⟨false, rfl, fun h => (by cases h), fun h2 => absurd h2.2 h⟩
open Classical in
noncomputable def placesN (B : Vec Bd) (S : Nat → Prop) (i : Nat) : List Int := ((List.range i).filter fun j => decide (live (B.g j) S)).map fun (j : Nat) => (j : Int)
noncomputable def places (B : Vec Bd) (S : Nat → Prop) : List Int := placesN B S B.n
theorem placesN_yes {B : Vec Bd} {S : Nat → Prop} {i : Nat} (h : live (B.g i) S) : placesN B S (i + 1) = placesN B S i ++ [(i : Int)] := by
  unfold placesN
  rw [List.range_succ, List.filter_append, List.map_append, List.filter_cons_of_pos (by simpa using h)]
  rfl
theorem placesN_no {B : Vec Bd} {S : Nat → Prop} {i : Nat} (h : ¬ live (B.g i) S) : placesN B S (i + 1) = placesN B S i := by
  unfold placesN
  rw [List.range_succ, List.filter_append, List.map_append, List.filter_cons_of_neg (by simpa using h)]
  simp
theorem placesN_len (B : Vec Bd) (S : Nat → Prop) (i : Nat) : (placesN B S i).length ≤ i := by
  unfold placesN
  rw [List.length_map]
  exact Nat.le_trans (List.length_filter_le _ _) (by simp)
def dSml (B : Vec Bd) : Prop := B.n ≤ 1048576 ∧ ∀ i, i < B.n → (B.g i).2.2.2.n ≤ 1048576 ∧ (B.g i).1.size ≤ 1048576
theorem spec_places_ok (P : Gr) (B : Vec Bd) (hB : dSml B) (s : Vec Bool) (n : Nat) (hn : n ≤ 40) (S : Nat → Prop) (hs : Marks s n S) (hS : ∀ u, S u → u < n) :
    ∃ r, spec_l06Places.F P B s = some r ∧ r.toL = places B S := by
  have hb : bN = 140737488351232 := rfl
  have hM : maxN = 140737488355328 := rfl
  have hB1 := hB.1
  rw [spec_l06Places.F, spec_l06Places.B]
  refine zP (σ := Nat × Vec Int) (fun t => B.n - t.1) (fun t => t.1 ≤ B.n ∧ t.2.toL = placesN B S t.1)
    (fun _ x => ∃ r, x = some r ∧ r.toL = places B S) (fun k t => spec_l06Places.F0 k s (t.1 : Int) P B t.2 (fun e01 => some e01)) ?_ fuelN (0, Vec.nil) (by simp only [fuelN]; omega)
    ⟨Nat.zero_le _, rfl⟩
  rintro k ⟨i, r⟩ ⟨hi, hr⟩ ih
  simp only at hi hr
  have hrn : r.n ≤ i := by have := placesN_len B S i; rw [← hr, Vec.toL_length] at this; exact this
  simp only [spec_l06Places.F0, spec_l06Places.B0, selb, chkb, decide_eq_true_eq, Int.toNat_natCast, Int.ofNat_lt, Int.natCast_nonneg, true_and]
  by_cases h : i < B.n
  · obtain ⟨c, e, hc⟩ := spec_live_ok (B.g i) (by have := (hB.2 i h).1; omega) s n hn S hs hS
    rw [if_pos h, if_pos h, e, zK (by omega), Option.bind_some]
    cases c with
    | true =>
      rw [if_pos rfl, if_pos (by show (r.n + 1) * 9 ≤ _; omega)]
      exact ih (i + 1, Vec.app r (Vec.lit [(i : Int)])) ⟨by simp only; omega, by rw [placesN_yes (hc.1 rfl), toL_app, hr]; rfl⟩ (by simp only; omega)
    | false =>
      rw [if_neg (by simp)]
      exact ih (i + 1, r) ⟨by simp only; omega, by rw [placesN_no (fun h => by have := hc.2 h; cases this)]; exact hr⟩ (by simp only; omega)
  · rw [if_neg h]
    have e : i = B.n := by omega
    subst e
    exact ⟨r, rfl, hr⟩
theorem impl_liveIn_ok (P : Gr) (B : Vec Bd) (hB : dSml B) (x : Int) (S : Nat → Prop) (hx : Bits x S) :
    ∃ r, impl_Weave_liveIn.F P B x = some r ∧ r.toL = places B S := by
  have hb : bN = 140737488351232 := rfl
  have hM : maxN = 140737488355328 := rfl
  have hB1 := hB.1
  rw [impl_Weave_liveIn.F, impl_Weave_liveIn.B]
  refine zP (σ := Nat × Vec Int) (fun t => B.n - t.1) (fun t => t.1 ≤ B.n ∧ t.2.toL = placesN B S t.1)
    (fun _ y => ∃ r, y = some r ∧ r.toL = places B S) (fun k t => impl_Weave_liveIn.F0 k x B (B.n : Int) (t.1 : Int) t.2 (fun e01 => some e01)) ?_ fuelN (0, Vec.nil) (by simp only [fuelN]; omega)
    ⟨Nat.zero_le _, rfl⟩
  rintro k ⟨i, r⟩ ⟨hi, hr⟩ ih
  simp only at hi hr
  have hrn : r.n ≤ i := by have := placesN_len B S i; rw [← hr, Vec.toL_length] at this; exact this
  simp only [impl_Weave_liveIn.F0, impl_Weave_liveIn.B0, selb, chkb, decide_eq_true_eq, Int.toNat_natCast, Int.ofNat_lt, Int.natCast_nonneg, true_and]
  by_cases h : i < B.n
  · obtain ⟨c, e, hc⟩ := impl_live_ok (B.g i) (by have := (hB.2 i h).1; omega) x S hx
    rw [if_pos h, if_pos h, e, zK (by omega), Option.bind_some]
    cases c with
    | true =>
      rw [if_pos rfl, if_pos (by show (r.n + 1) * 9 ≤ _; omega)]
      exact ih (i + 1, Vec.app r (Vec.lit [(i : Int)])) ⟨by simp only; omega, by rw [placesN_yes (hc.1 rfl), toL_app, hr]; rfl⟩ (by simp only; omega)
    | false =>
      rw [if_neg (by simp)]
      exact ih (i + 1, r) ⟨by simp only; omega, by rw [placesN_no (fun h => by have := hc.2 h; cases this)]; exact hr⟩ (by simp only; omega)
  · rw [if_neg h]
    have e : i = B.n := by omega
    subst e
    exact ⟨r, rfl, hr⟩
def bornN (B : Vec Bd) : Nat → Nat → Nat
  | 0, _ => 0
  | i + 1, v => bornN B i v + (if (B.g i).2.1 = (v : Int) then 1 else 0)
theorem bornN_le (B : Vec Bd) : ∀ i v, bornN B i v ≤ i
  | 0, _ => Nat.le_refl _
  | i + 1, v => by have := bornN_le B i v; unfold bornN; split <;> omega
def bodyAt (P : Gr) (B : Vec Bd) (i : Nat) : Prop :=
  lineGood (B.g i).1 ∧ (0 ≤ (B.g i).2.1 ∧ (B.g i).2.1 < (P.n : Int)) ∧ (B.g i).2.2.1 = (bornN B i (B.g i).2.1.toNat : Int) ∧ rise (B.g i).2.2.2 (P.n : Int) ∧
    ∀ k, k < (B.g i).2.2.2.n → live (B.g i) (ClL P (P.g ((B.g i).2.2.2.g k).toNat))
def wvGood (P : Gr) (B : Vec Bd) : Prop := zV P ∧ B.n ≤ 300 ∧ (∀ i, i < B.n → bodyAt P B i) ∧ ∀ v, v < P.n → bornN B B.n v ≤ 80 ∧ (places B (Cl P v)).length ≤ 80
def Born (B : Vec Bd) (n i : Nat) (b : Vec Int) : Prop := b.n = n ∧ ∀ v, v < n → b.g v = (bornN B i v : Int)
theorem Born.next {B : Vec Bd} {n i : Nat} {b : Vec Int} (h : Born B n i b) (hi : i < 2000000) (h0 : 0 ≤ (B.g i).2.1) (hn : (B.g i).2.1 < (n : Int)) : Born B n (i + 1) (Vec.set b (B.g i).2.1.toNat (wr (b.g (B.g i).2.1.toNat + 1))) := by
  refine ⟨h.1, fun v hv => ?_⟩
  have hle := bornN_le B i v
  rw [Vec.set_g]
  by_cases e : v = (B.g i).2.1.toNat
  · rw [if_pos e, ← e, h.2 v hv, zK (by omega), bornN, if_pos (by omega)]
  · rw [if_neg e, h.2 v hv, bornN, if_neg (by omega)]
    rfl
theorem ClL_set {P : Gr} (hg : zV P) {v : Nat} (hv : v < P.n) (u : Nat) : ClL P (P.g v) u ↔ ∃ i, i < (P.g v).n ∧ Cl P ((P.g v).g i).toNat u := by
  constructor
  · rintro ⟨i, h1, -, -, h⟩; exact ⟨i, h1, h⟩
  · rintro ⟨i, h1, h⟩
    have := gr_par hg hv h1
    exact ⟨i, h1, this.1, by omega, h⟩
theorem spec_proper_loop {ρ : Type} (P : Gr) (hg : zV P) (B : Vec Bd) (b0 : Vec Int) (K0 : Int → Gr → Vec Bd → Vec Int → Vec (Vec Bool) → Option ρ) :
    ∃ pr, spec_WeaveOk.F0 fuelN (P.n : Int) 0 P B b0 Vec.nil K0 = K0 (P.n : Int) P B b0 pr ∧ pr.n = P.n ∧ ∀ v, v < P.n → Marks (pr.g v) P.n (ClL P (P.g v)) := by
  have hM : maxN = 140737488355328 := rfl
  have hP := hg.1
  refine zP (σ := Nat × Vec (Vec Bool)) (fun t => P.n - t.1) (fun t => t.1 ≤ P.n ∧ t.2.n = t.1 ∧ ∀ v, v < t.1 → Marks (t.2.g v) P.n (ClL P (P.g v)))
    (fun _ x => ∃ pr, x = K0 (P.n : Int) P B b0 pr ∧ pr.n = P.n ∧ ∀ v, v < P.n → Marks (pr.g v) P.n (ClL P (P.g v))) (fun k t => spec_WeaveOk.F0 k (P.n : Int) (t.1 : Int) P B b0 t.2 K0) ?_ fuelN (0, Vec.nil) (by simp only [fuelN]; omega)
    ⟨Nat.zero_le _, rfl, fun v hv => absurd hv (Nat.not_lt_zero v)⟩
  rintro k ⟨i, pr⟩ ⟨hi, hn, hm⟩ ih
  simp only at hi hn hm
  simp only [spec_WeaveOk.F0, spec_WeaveOk.B0, selb, chkb, decide_eq_true_eq, Int.toNat_natCast, Int.ofNat_lt, Int.natCast_nonneg, true_and]
  by_cases h : i < P.n
  · obtain ⟨s, e, hs⟩ := spec_l05Set_ok P hg (P.g i) (by have := (hg.2 i h).1; unfold bN; omega)
    rw [if_pos h, if_pos h, e, zK (by omega), Option.bind_some, if_pos (by show (pr.n + 1) * 25 ≤ _; omega)]
    refine ih (i + 1, Vec.app pr (Vec.lit [s])) ⟨by simp only; omega, by show pr.n + 1 = i + 1; omega, fun v hv => ?_⟩ (by simp only; omega)
    simp only at hv ⊢
    rw [Vec.app_g]
    by_cases hv2 : v < i
    · rw [if_pos (by omega)]; exact hm v hv2
    · obtain rfl : v = i := by omega
      rw [if_neg (by omega), hn, Nat.sub_self]
      exact hs
  · rw [if_neg h]
    have e : i = P.n := by omega
    subst e
    exact ⟨pr, rfl, hn, hm⟩
theorem spec_dels_loop {ρ : Type} (P : Gr) (hg : zV P) (B : Vec Bd) (b : Bd) (hb' : b.2.2.2.n ≤ bN) (hr : rise b.2.2.2 (P.n : Int)) (i : Int) (bo : Vec Int) (pr : Vec (Vec Bool)) (hpr : pr.n = P.n) (hm : ∀ v, v < P.n → Marks (pr.g v) P.n (ClL P (P.g v)))
    (K4 : Int → Int → Gr → Vec Bd → Vec Int → Vec (Vec Bool) → Option ρ) (Kr : Bool → Option ρ) :
    ((∀ k, k < b.2.2.2.n → live b (ClL P (P.g (b.2.2.2.g k).toNat))) ∧ spec_WeaveOk.F2 fuelN (P.n : Int) i 0 P B bo pr b.1 b.2.1 b.2.2.1 b.2.2.2 K4 Kr = K4 (P.n : Int) i P B bo pr) ∨
    (¬ (∀ k, k < b.2.2.2.n → live b (ClL P (P.g (b.2.2.2.g k).toNat))) ∧ spec_WeaveOk.F2 fuelN (P.n : Int) i 0 P B bo pr b.1 b.2.1 b.2.2.1 b.2.2.2 K4 Kr = Kr false) := by
  have hb : bN = 140737488351232 := rfl
  refine zT (p := fun k => live b (ClL P (P.g (b.2.2.2.g k).toNat))) hb' (fun f k => spec_WeaveOk.F2 f (P.n : Int) i k P B bo pr b.1 b.2.1 b.2.2.1 b.2.2.2 K4 Kr) _ _ (fun f k hk => ?_) (fun f k hk => ?_)
  · simp only [spec_WeaveOk.F2, spec_WeaveOk.B2, selb, chkb, decide_eq_true_eq, Int.toNat_natCast, Int.ofNat_lt, Int.natCast_nonneg, true_and]
    obtain ⟨h1, h2, -⟩ := hr k hk
    obtain ⟨c, e, hc⟩ := spec_live_ok b hb' (pr.g (b.2.2.2.g k).toNat) P.n hg.1 _ (hm _ (by omega)) (fun u hu => ClL_lt hg hu)
    rw [if_pos hk, if_pos hk, if_pos (by omega), if_pos (by omega), e, zK (by omega), Option.bind_some]
    cases c with
    | true => exact ⟨fun h => absurd (hc.1 rfl) h, fun _ => rfl⟩
    | false => exact ⟨fun _ => rfl, fun h => by have := hc.2 h; cases this⟩
  · simp only [spec_WeaveOk.F2, spec_WeaveOk.B2, selb, decide_eq_true_eq, Int.ofNat_lt, if_neg hk]
theorem spec_bodies_loop {ρ : Type} (P : Gr) (hg : zV P) (B : Vec Bd) (hB : dSml B) (b0 : Vec Int) (h0 : Born B P.n 0 b0) (pr : Vec (Vec Bool)) (hpr : pr.n = P.n) (hm : ∀ v, v < P.n → Marks (pr.g v) P.n (ClL P (P.g v)))
    (K2 : Int → Gr → Vec Bd → Vec Int → Option ρ) (Kr : Bool → Option ρ) :
    ((∀ i, i < B.n → bodyAt P B i) ∧ ∃ b, Born B P.n B.n b ∧ spec_WeaveOk.F1 fuelN (P.n : Int) 0 P B b0 pr K2 Kr = K2 (P.n : Int) P B b) ∨ (¬ (∀ i, i < B.n → bodyAt P B i) ∧ spec_WeaveOk.F1 fuelN (P.n : Int) 0 P B b0 pr K2 Kr = Kr false) := by
  have hb : bN = 140737488351232 := rfl
  have hP := hg.1
  have hB1 := hB.1
  refine zP (σ := Nat × Vec Int) (fun t => B.n - t.1) (fun t => t.1 ≤ B.n ∧ Born B P.n t.1 t.2 ∧ ∀ i, i < t.1 → bodyAt P B i)
    (fun _ x => ((∀ i, i < B.n → bodyAt P B i) ∧ ∃ b, Born B P.n B.n b ∧ x = K2 (P.n : Int) P B b) ∨ (¬ (∀ i, i < B.n → bodyAt P B i) ∧ x = Kr false)) (fun k t => spec_WeaveOk.F1 k (P.n : Int) (t.1 : Int) P B t.2 pr K2 Kr) ?_ fuelN (0, b0) (by simp only [fuelN]; omega)
    ⟨Nat.zero_le _, h0, fun v hv => absurd hv (Nat.not_lt_zero v)⟩
  rintro k ⟨i, bo⟩ ⟨hi, hbo, hgd⟩ ih
  simp only at hi hbo hgd
  simp only [spec_WeaveOk.F1, spec_WeaveOk.B1, spec_l01In_eq, selb, chkb, decide_eq_true_eq, Int.toNat_natCast, Int.ofNat_lt, Int.natCast_nonneg, true_and, Option.bind_some]
  by_cases h : i < B.n
  · obtain ⟨hd1, hd2⟩ := hB.2 i h
    have bad : ∀ {x : Option ρ}, ¬ bodyAt P B i → x = Kr false → ((∀ i, i < B.n → bodyAt P B i) ∧ ∃ b, Born B P.n B.n b ∧ x = K2 (P.n : Int) P B b) ∨ (¬ (∀ i, i < B.n → bodyAt P B i) ∧ x = Kr false) := fun h1 h2 => .inr ⟨fun h3 => h1 (h3 i h), h2⟩
    obtain ⟨c, e, hc⟩ := spec_LineOk_ok (B.g i).1 (by omega)
    rw [if_pos h, if_pos h, e, zQ (x := (P.n : Int) - 1) (by omega) (by omega), Option.bind_some]
    cases c with
    | false => exact bad (fun h => by have := hc.2 h.1; cases this) rfl
    | true =>
      have hline := hc.1 rfl
      rw [if_neg (by simp)]
      by_cases h2 : 0 ≤ (B.g i).2.1 ∧ (B.g i).2.1 ≤ (P.n : Int) - 1
      · rw [if_neg (by simp [h2])]
        have h3 : 0 ≤ (B.g i).2.1 ∧ (B.g i).2.1 < (bo.n : Int) := by rw [hbo.1]; omega
        rw [if_pos h3, if_pos (by omega)]
        have hbv := hbo.2 (B.g i).2.1.toNat (by omega)
        by_cases h4 : (B.g i).2.2.1 = bo.g (B.g i).2.1.toNat
        · rw [if_neg (by simp [h4])]
          obtain ⟨c, e, hr⟩ := spec_l05Rise_ok (B.g i).2.2.2 (by omega) (P.n : Int) (by omega) (by omega)
          rw [e, Option.bind_some]
          cases c with
          | false => exact bad (fun h => by have := hr.2 h.2.2.2.1; cases this) rfl
          | true =>
            have hrise := hr.1 rfl
            rw [if_neg (by simp)]
            have hnx := hbo.next (by omega) h3.1 (by omega)
            rcases spec_dels_loop P hg B (B.g i) (by omega) hrise (i : Int) (Vec.set bo (B.g i).2.1.toNat (wr (bo.g (B.g i).2.1.toNat + 1))) pr hpr hm
              (fun e21 e22 e23 e24 e25 e26 => spec_WeaveOk.F1 k e21 (wr (e22 + (1 : Int))) e23 e24 e25 e26 K2 Kr) (fun x21 => Kr x21) with ⟨h5, e5⟩ | ⟨h5, e5⟩
            · rw [if_pos h3, if_pos (by omega), if_pos h3, if_pos (by omega), e5, zK (by omega)]
              refine ih (i + 1, Vec.set bo (B.g i).2.1.toNat (wr (bo.g (B.g i).2.1.toNat + 1))) ⟨by simp only; omega, hnx, fun j hj => ?_⟩ (by simp only; omega)
              rcases Nat.lt_or_ge j i with h6 | h6
              · exact hgd j h6
              · obtain rfl : j = i := by simp only at hj; omega
                exact ⟨hline, ⟨h2.1, by omega⟩, by rw [h4, hbv], hrise, h5⟩
            · rw [if_pos h3, if_pos (by omega), if_pos h3, if_pos (by omega), e5]
              exact bad (fun h => h5 h.2.2.2.2) rfl
        · rw [if_pos (by simp [h4])]
          exact bad (fun h => h4 (by rw [hbv]; exact h.2.2.1)) rfl
      · rw [decide_eq_false h2, if_pos (show (!false) = true from rfl)]
        exact bad (fun h => h2 (by have := h.2.1; omega)) rfl
  · rw [if_neg h]
    have e : i = B.n := by omega
    subst e
    exact .inl ⟨hgd, bo, hbo, rfl⟩
theorem spec_WeaveOk_ok (P : Gr) (B : Vec Bd) (hB : dSml B) : ∃ c, spec_WeaveOk.F P B = some c ∧ (c = true ↔ wvGood P B) := by
  rw [spec_WeaveOk.F, spec_WeaveOk.B]
  obtain ⟨c, e, hc⟩ := spec_GraphOk_ok P
  rw [e, Option.bind_some]
  cases c with
  | false => exact ⟨false, rfl, fun h => (by cases h), fun h => hc.2 h.1⟩
  | true =>
    have hg := hc.1 rfl
    have hP := hg.1
    simp only [sel, Bool.not_true]
    by_cases h3 : B.n ≤ 300
    · have m1 : mkOk (P.n : Int) 8 = true := mk_small (by decide) _ (by unfold sN; omega)
      rw [decide_eq_false (show ¬ (300 : Int) < (B.n : Int) by omega), m1, decide_eq_true (show True ∧ 0 ≤ (P.n : Int) from ⟨trivial, by omega⟩)]
      simp only [chk, Int.toNat_natCast]
      obtain ⟨pr, e0, hpr, hm⟩ := spec_proper_loop P hg B (Vec.rep P.n (0 : Int)) (fun e01 e02 e03 e04 e05 => spec_WeaveOk.F1 fuelN e01 (0 : Int) e02 e03 e04 e05 (fun e11 e12 e13 e14 => spec_WeaveOk.F3 fuelN e11 (0 : Int) e12 e13 e14 (fun _ => some true) (fun x31 => some x31)) (fun x11 => some x11))
      rw [e0]
      rcases spec_bodies_loop P hg B hB (Vec.rep P.n (0 : Int)) ⟨rfl, fun v _ => rfl⟩ pr hpr hm (fun e11 e12 e13 e14 => spec_WeaveOk.F3 fuelN e11 (0 : Int) e12 e13 e14 (fun _ => some true) (fun x31 => some x31)) (fun x11 => some x11) with ⟨h4, b, hb, e1⟩ | ⟨h4, e1⟩
      · rw [e1]
        rcases zT (p := fun v => bornN B B.n v ≤ 80 ∧ (places B (Cl P v)).length ≤ 80) (n := P.n) (by unfold bN; omega) (fun k v => spec_WeaveOk.F3 k (P.n : Int) v P B b (fun _ => some true) (fun x31 => some x31)) (some true) (some false)
          (fun k v hv => by
            simp only [spec_WeaveOk.F3, spec_WeaveOk.B3, selb, chkb, decide_eq_true_eq, Int.toNat_natCast, Int.ofNat_lt, Int.natCast_nonneg, true_and]
            have h5 := hb.1
            rw [if_pos hv, if_pos (by omega), if_pos (by omega), hb.2 v hv, zK (by omega)]
            by_cases h6 : bornN B B.n v ≤ 80
            · rw [if_neg (by omega)]
              obtain ⟨s, e2, hs⟩ := spec_l06Closure_ok P hg B v hv
              obtain ⟨r, e3, hr⟩ := spec_places_ok P B hB s P.n hP (Cl P v) hs (fun u hu => Cl_lt hg hu hv)
              rw [e2, Option.bind_some, e3, Option.bind_some]
              have hrn : r.n = (places B (Cl P v)).length := by rw [← hr, Vec.toL_length]
              by_cases h7 : (places B (Cl P v)).length ≤ 80
              · rw [if_neg (by omega)]; exact ⟨fun h => absurd ⟨h6, h7⟩ h, fun _ => rfl⟩
              · rw [if_pos (by omega)]; exact ⟨fun _ => rfl, fun h => absurd h.2 h7⟩
            · rw [if_pos (by omega)]; exact ⟨fun _ => rfl, fun h => absurd h.1 h6⟩)
          (fun k v hv => by
            simp only [spec_WeaveOk.F3, spec_WeaveOk.B3, selb, decide_eq_true_eq, Int.ofNat_lt, if_neg hv]) with ⟨h5, e2⟩ | ⟨h5, e2⟩
        · exact ⟨true, e2, fun _ => ⟨hg, h3, h4, h5⟩, fun _ => rfl⟩
        · exact ⟨false, e2, fun h => (by cases h), fun h => absurd h.2.2.2 h5⟩
      · rw [e1]
        exact ⟨false, rfl, fun h => (by cases h), fun h => absurd h.2.2.1 h4⟩
    · rw [decide_eq_true (show (300 : Int) < (B.n : Int) by omega)]
      exact ⟨false, rfl, fun h => (by cases h), fun h => absurd h.2.1 h3⟩
theorem impl_isPlace_ok (a n : Int) (h0 : 0 ≤ n) (h1 : n ≤ 1000000000) : impl_isPlace.F a n = some (decide (0 ≤ a ∧ a < n)) := by
  rw [impl_isPlace.F, impl_isPlace.B, impl_inRange_eq, zQ (by omega) (by omega), Option.bind_some]
  exact congrArg some (decide_eq_decide.2 ⟨fun h => ⟨h.1, by omega⟩, fun h => ⟨h.1, by omega⟩⟩)
def ClosT (P : Gr) (C : Vec (IK .u64)) : Prop := C.n = P.n ∧ ∀ v, v < P.n → Bits (C.g v).v (Cl P v)
theorem union_par {P : Gr} (hg : zV P) {C : Vec (IK .u64)} (hC : ClosT P C) {v : Nat} (hv : v < P.n) : ∃ x, impl_unionOf.F C (P.g v) = some x ∧ Bits x (ClL P (P.g v)) := by
  obtain ⟨x, e, hx⟩ := unionOf_ok C (Cl P) (P.g v) (by have := (hg.2 v hv).1; unfold bN; omega) (fun u hu => (hC.2 u (by rw [← hC.1]; exact hu)).1) (fun i hi => by have := gr_par hg hv hi; have := hC.1; omega)
    (fun i hi u => by have := gr_par hg hv hi; exact (hC.2 _ (by omega)).2 u)
  exact ⟨x, e, hx.1, fun u => (hx.2 u).trans (ClL_set hg hv u).symm⟩
theorem impl_dels_loop {ρ : Type} (P : Gr) (hg : zV P) (B B2 : Vec Bd) (b : Bd) (hb' : b.2.2.2.n ≤ bN) (hr : rise b.2.2.2 (P.n : Int)) (n i : Int) (bo : Vec Int) (C : Vec (IK .u64)) (hC : ClosT P C)
    (K2 : Vec (IK .u64) → Vec Bd → Int → Int → Gr → Vec Bd → Vec Int → Option ρ) (Kr : Bool → Option ρ) :
    ((∀ k, k < b.2.2.2.n → live b (ClL P (P.g (b.2.2.2.g k).toNat))) ∧ impl_bodiesOk.F1 fuelN C B n i b.2.2.2 (b.2.2.2.n : Int) 0 P B2 bo b.1 b.2.1 b.2.2.1 b.2.2.2 K2 Kr = K2 C B n i P B2 bo) ∨
    (¬ (∀ k, k < b.2.2.2.n → live b (ClL P (P.g (b.2.2.2.g k).toNat))) ∧ impl_bodiesOk.F1 fuelN C B n i b.2.2.2 (b.2.2.2.n : Int) 0 P B2 bo b.1 b.2.1 b.2.2.1 b.2.2.2 K2 Kr = Kr false) := by
  have hb : bN = 140737488351232 := rfl
  refine zT (p := fun k => live b (ClL P (P.g (b.2.2.2.g k).toNat))) hb' (fun f k => impl_bodiesOk.F1 f C B n i b.2.2.2 (b.2.2.2.n : Int) k P B2 bo b.1 b.2.1 b.2.2.1 b.2.2.2 K2 Kr) _ _ (fun f k hk => ?_) (fun f k hk => ?_)
  · simp only [impl_bodiesOk.F1, impl_bodiesOk.B1, selb, chkb, decide_eq_true_eq, Int.toNat_natCast, Int.ofNat_lt, Int.natCast_nonneg, true_and]
    obtain ⟨h1, h2, -⟩ := hr k hk
    obtain ⟨x, e0, hx⟩ := union_par hg hC (v := (b.2.2.2.g k).toNat) (by omega)
    obtain ⟨c, e, hc⟩ := impl_live_ok b hb' x _ hx
    rw [if_pos hk, if_pos hk, if_pos (by omega), e0, Option.bind_some, e, zK (by omega), Option.bind_some]
    cases c with
    | true => exact ⟨fun h => absurd (hc.1 rfl) h, fun _ => rfl⟩
    | false => exact ⟨fun _ => rfl, fun h => by have := hc.2 h; cases this⟩
  · simp only [impl_bodiesOk.F1, impl_bodiesOk.B1, selb, decide_eq_true_eq, Int.ofNat_lt, if_neg hk]
theorem impl_bodies_loop {ρ : Type} (P : Gr) (hg : zV P) (B : Vec Bd) (hB : dSml B) (b0 : Vec Int) (h0 : Born B P.n 0 b0) (C : Vec (IK .u64)) (hC : ClosT P C)
    (K0 : Vec (IK .u64) → Gr → Vec Bd → Vec Int → Option ρ) (Kr : Bool → Option ρ) :
    ((∀ i, i < B.n → bodyAt P B i) ∧ ∃ b, Born B P.n B.n b ∧ impl_bodiesOk.F0 fuelN C B (B.n : Int) 0 P B b0 K0 Kr = K0 C P B b) ∨ (¬ (∀ i, i < B.n → bodyAt P B i) ∧ impl_bodiesOk.F0 fuelN C B (B.n : Int) 0 P B b0 K0 Kr = Kr false) := by
  have hb : bN = 140737488351232 := rfl
  have hP := hg.1
  have hB1 := hB.1
  have hCn := hC.1
  refine zP (σ := Nat × Vec Int) (fun t => B.n - t.1) (fun t => t.1 ≤ B.n ∧ Born B P.n t.1 t.2 ∧ ∀ i, i < t.1 → bodyAt P B i)
    (fun _ x => ((∀ i, i < B.n → bodyAt P B i) ∧ ∃ b, Born B P.n B.n b ∧ x = K0 C P B b) ∨ (¬ (∀ i, i < B.n → bodyAt P B i) ∧ x = Kr false)) (fun k t => impl_bodiesOk.F0 k C B (B.n : Int) (t.1 : Int) P B t.2 K0 Kr) ?_ fuelN (0, b0) (by simp only [fuelN]; omega)
    ⟨Nat.zero_le _, h0, fun v hv => absurd hv (Nat.not_lt_zero v)⟩
  rintro k ⟨i, bo⟩ ⟨hi, hbo, hgd⟩ ih
  simp only at hi hbo hgd
  simp only [impl_bodiesOk.F0, impl_bodiesOk.B0, impl_isPlace_ok _ (C.n : Int) (by omega) (by omega), selb, chkb, decide_eq_true_eq, Int.toNat_natCast, Int.ofNat_lt, Int.natCast_nonneg, true_and, Option.bind_some]
  by_cases h : i < B.n
  · obtain ⟨hd1, hd2⟩ := hB.2 i h
    have bad : ∀ {x : Option ρ}, ¬ bodyAt P B i → x = Kr false → ((∀ i, i < B.n → bodyAt P B i) ∧ ∃ b, Born B P.n B.n b ∧ x = K0 C P B b) ∨ (¬ (∀ i, i < B.n → bodyAt P B i) ∧ x = Kr false) := fun h1 h2 => .inr ⟨fun h3 => h1 (h3 i h), h2⟩
    obtain ⟨c, e, hc⟩ := impl_LineOk_ok (B.g i).1
    rw [if_pos h, if_pos h, e, Option.bind_some]
    cases c with
    | false => exact bad (fun h => by have := hc.2 h.1; cases this) rfl
    | true =>
      have hline := hc.1 rfl
      rw [if_neg (by simp)]
      by_cases h2 : 0 ≤ (B.g i).2.1 ∧ (B.g i).2.1 < (C.n : Int)
      · rw [if_neg (by simp [h2])]
        have h3 : 0 ≤ (B.g i).2.1 ∧ (B.g i).2.1 < (bo.n : Int) := by rw [hbo.1]; omega
        rw [if_pos h3, if_pos (by omega)]
        have hbv := hbo.2 (B.g i).2.1.toNat (by omega)
        by_cases h4 : (B.g i).2.2.1 = bo.g (B.g i).2.1.toNat
        · rw [if_neg (by simp [h4])]
          obtain ⟨c, e, hr⟩ := impl_ascends_ok (B.g i).2.2.2 (by omega) (C.n : Int) (by omega) (by omega)
          rw [e, Option.bind_some]
          rw [hCn] at hr
          cases c with
          | false => exact bad (fun h => by have := hr.2 h.2.2.2.1; cases this) rfl
          | true =>
            have hrise := hr.1 rfl
            rw [if_neg (by simp)]
            have hnx := hbo.next (by omega) h3.1 (by omega)
            rcases impl_dels_loop P hg B B (B.g i) (by omega) hrise (B.n : Int) (i : Int) (Vec.set bo (B.g i).2.1.toNat (wr (bo.g (B.g i).2.1.toNat + 1))) C hC
              (fun e11 e12 e13 e14 e15 e16 e17 => impl_bodiesOk.F0 k e11 e12 e13 (wr (e14 + (1 : Int))) e15 e16 e17 K0 Kr) (fun x11 => Kr x11) with ⟨h5, e5⟩ | ⟨h5, e5⟩
            · rw [if_pos h3, if_pos (by omega), if_pos h3, if_pos (by omega), e5, zK (by omega)]
              refine ih (i + 1, Vec.set bo (B.g i).2.1.toNat (wr (bo.g (B.g i).2.1.toNat + 1))) ⟨by simp only; omega, hnx, fun j hj => ?_⟩ (by simp only; omega)
              rcases Nat.lt_or_ge j i with h6 | h6
              · exact hgd j h6
              · obtain rfl : j = i := by simp only at hj; omega
                exact ⟨hline, ⟨h2.1, by omega⟩, by rw [h4, hbv], hrise, h5⟩
            · rw [if_pos h3, if_pos (by omega), if_pos h3, if_pos (by omega), e5]
              exact bad (fun h => h5 h.2.2.2.2) rfl
        · rw [if_pos (by simp [h4])]
          exact bad (fun h => h4 (by rw [hbv]; exact h.2.2.1)) rfl
      · rw [decide_eq_false h2, if_pos (show (!false) = true from rfl)]
        exact bad (fun h => h2 (by have := h.2.1; omega)) rfl
  · rw [if_neg h]
    have e : i = B.n := by omega
    subst e
    exact .inl ⟨hgd, bo, hbo, rfl⟩
theorem impl_bodiesOk_ok (P : Gr) (hg : zV P) (B : Vec Bd) (hB : dSml B) (C : Vec (IK .u64)) (hC : ClosT P C) : ∃ c, impl_bodiesOk.F P B C = some c ∧ (c = true ↔ (∀ i, i < B.n → bodyAt P B i) ∧ ∀ v, v < P.n → bornN B B.n v ≤ 80 ∧ (places B (Cl P v)).length ≤ 80) := by
  have hP := hg.1
  have hCn := hC.1
  rw [impl_bodiesOk.F, impl_bodiesOk.B]
  have m1 : mkOk (C.n : Int) 8 = true := mk_small (by decide) _ (by unfold sN; omega)
  rw [m1, decide_eq_true (show (C.n : Int) = (C.n : Int) ∧ 0 ≤ (C.n : Int) from ⟨rfl, by omega⟩)]
  simp only [chk, Int.toNat_natCast]
  rcases impl_bodies_loop P hg B hB (Vec.rep C.n (0 : Int)) ⟨hCn, fun v _ => rfl⟩ C hC (fun e01 e02 e03 e04 => impl_bodiesOk.F2 fuelN e01 (e01.n : Int) (0 : Int) e02 e03 e04 (fun _ => some true) (fun x21 => some x21)) (fun x01 => some x01) with ⟨h4, b, hb, e1⟩ | ⟨h4, e1⟩
  · rw [e1]
    rcases zT (p := fun v => bornN B B.n v ≤ 80 ∧ (places B (Cl P v)).length ≤ 80) (n := C.n) (by unfold bN; omega) (fun k v => impl_bodiesOk.F2 k C (C.n : Int) v P B b (fun _ => some true) (fun x31 => some x31)) (some true) (some false)
      (fun k v hv => by
        simp only [impl_bodiesOk.F2, impl_bodiesOk.B2, selb, chkb, decide_eq_true_eq, Int.toNat_natCast, Int.ofNat_lt, Int.natCast_nonneg, true_and]
        have h5 := hb.1
        have hv' : v < P.n := by omega
        rw [if_pos hv, if_pos hv, if_pos (by omega), if_pos (by omega), hb.2 v hv', zK (by omega)]
        by_cases h6 : bornN B B.n v ≤ 80
        · rw [if_neg (by omega)]
          obtain ⟨r, e3, hr⟩ := impl_liveIn_ok P B hB (C.g v).v (Cl P v) (hC.2 v hv')
          rw [e3, Option.bind_some]
          have hrn : r.n = (places B (Cl P v)).length := by rw [← hr, Vec.toL_length]
          by_cases h7 : (places B (Cl P v)).length ≤ 80
          · rw [if_neg (by omega)]; exact ⟨fun h => absurd ⟨h6, h7⟩ h, fun _ => rfl⟩
          · rw [if_pos (by omega)]; exact ⟨fun _ => rfl, fun h => absurd h.2 h7⟩
        · rw [if_pos (by omega)]; exact ⟨fun _ => rfl, fun h => absurd h.1 h6⟩)
      (fun k v hv => by
        simp only [impl_bodiesOk.F2, impl_bodiesOk.B2, selb, decide_eq_true_eq, Int.ofNat_lt, if_neg hv]) with ⟨h5, e2⟩ | ⟨h5, e2⟩
    · exact ⟨true, e2, fun _ => ⟨h4, fun v hv => h5 v (by omega)⟩, fun _ => rfl⟩
    · exact ⟨false, e2, fun h => (by cases h), fun h => absurd (fun v hv => h.2 v (by omega)) h5⟩
  · rw [e1]
    exact ⟨false, rfl, fun h => (by cases h), fun h => absurd h.1 h4⟩
theorem impl_closures_T (P : Gr) (hg : zV P) : ∃ C, impl_closures.F P = some C ∧ ClosT P C := by
  obtain ⟨C, e, h1, h2⟩ := impl_closures_ok P hg
  exact ⟨C, e, h1, h2⟩
theorem impl_WeaveOk_ok (P : Gr) (hPn : P.n ≤ 1048576) (B : Vec Bd) (hB : dSml B) : ∃ c, impl_WeaveOk.F P B = some c ∧ (c = true ↔ wvGood P B) := by
  rw [impl_WeaveOk.F, impl_WeaveOk.B]
  by_cases h3 : B.n ≤ 300
  · rw [decide_eq_true (show (B.n : Int) ≤ (300 : Int) by omega)]
    obtain ⟨c, e, hc⟩ := impl_GraphOk_ok P hPn
    rw [e]
    simp only [sel, Option.bind_some]
    cases c with
    | false => exact ⟨false, rfl, fun h => (by cases h), fun h => hc.2 h.1⟩
    | true =>
      have hg := hc.1 rfl
      obtain ⟨C, e2, hC⟩ := impl_closures_T P hg
      obtain ⟨c, e3, h5⟩ := impl_bodiesOk_ok P hg B hB C hC
      simp only [e2, Option.bind_some, e3]
      exact ⟨c, rfl, h5.trans ⟨fun h => ⟨hg, h3, h.1, h.2⟩, fun h => h.2.2⟩⟩
  · rw [decide_eq_false (show ¬ (B.n : Int) ≤ (300 : Int) by omega)]
    exact ⟨false, rfl, fun h => (by cases h), fun h => absurd h.2.1 h3⟩
end Go.Al
