import Derived.Test.YtnkmpehikhmbjaaPCom
import Derived.Test.YtnkmpehikhmbjaaGTch
set_option linter.unusedVariables false
set_option linter.unusedSimpArgs false
set_option linter.constructorNameAsVariable false
set_option linter.unusedSectionVars false
namespace Go.Al
/-! ### What a commit touches -/
theorem id_two (v : Vec Nm) (hv : Sml.sml v) (d : Int) : ∃ r : Int, spec_l13Id.F v d = some r ∧ impl_idAt.F v d = some r ∧ (r = -1 ∨ (0 ≤ r ∧ r < (v.n : Int))) := by
  have hb : bN = 140737488351232 := rfl
  have hs : sN = 1048576 := rfl
  have hn := hv.1
  obtain ⟨r, e1, h1⟩ := spec_l13Id_ok v hv d
  obtain ⟨q, e2, h2⟩ := impl_idAt_ok v (by omega) d
  have h2' : IsFirst (fun i => (v.g i).2.1 = d) v.n q := h2
  obtain rfl : r = q := h1.one h2'
  refine ⟨r, e1, e2, ?_⟩
  rcases h1 with ⟨h, -⟩ | ⟨i, h, h3, -⟩
  · exact .inl h
  · exact .inr (by omega)
theorem differs_two (a b : Vec Nm) (ha : Sml.sml a) (hb : Sml.sml b) (d : Int) (p q : Vec Int) (s t : ByteArray) : ∃ c, spec_l14Differs.F a b d = some c ∧ impl_unlike.F p s a q t b d = some c := by
  obtain ⟨x, e1, e2, h1⟩ := id_two a ha d
  obtain ⟨y, e3, e4, h2⟩ := id_two b hb d
  rw [spec_l14Differs.F, spec_l14Differs.B, impl_unlike.F, impl_unlike.B, e1, e2, e3, e4]
  simp only [Option.bind_some]
  by_cases hx : x < 0
  · have hx2 : ¬ 0 ≤ x := by omega
    simp only [selb, decide_eq_true hx, decide_eq_false hx2, if_true, Bool.false_eq_true, if_false]
    exact ⟨_, rfl, rfl⟩
  · have hx2 : 0 ≤ x := by omega
    by_cases hy : y < 0
    · simp only [selb, decide_eq_true hx2, decide_eq_true hy, decide_eq_false hx, if_true, Bool.false_eq_true, if_false]
      exact ⟨_, rfl, rfl⟩
    · simp only [selb, decide_eq_false hx, decide_eq_false hy, Bool.false_eq_true, if_false]
      rw [chk_true (decide_eq_true ⟨hx2, by omega⟩), chk_true (decide_eq_true ⟨by omega, by omega⟩)]
      exact ⟨_, rfl, rfl⟩
theorem pars_in {L : Vec Cm} (hg : grGood (cgr L)) {c : Nat} (hc : c < L.n) {k : Nat} (hk : k < (L.g c).1.n) : 0 ≤ (L.g c).1.g k ∧ (L.g c).1.g k < (L.n : Int) := by
  have h : riseAt (L.g c).1 (c : Int) k := (hg.2 c hc).2 k hk
  obtain ⟨h1, h2, -⟩ := h
  exact ⟨h1, by omega⟩
theorem hit_two {ρ τ : Type} (L : Vec Cm) (hL : cmSml L) (hg : grGood (cgr L)) (c : Nat) (hc : c < L.n) (d : Int) (h0 : Bool) (out : Vec Int) (K : Vec Cm → Int → Int → Bool → Vec Int → Option ρ) (J : Vec Cm → Int → Int → Bool → Int → Vec Int → Option τ) :
    ∃ hit, spec_l14Touched.F1 fuelN L (c : Int) d h0 0 out K = K L (c : Int) d hit out ∧ impl_touched.F1 fuelN L (c : Int) d h0 d (L.g c).1 ((L.g c).1.n : Int) 0 out J = J L (c : Int) d hit d out := by
  have hn4 : (L.g c).1.n ≤ 4 := (hg.2 c hc).1
  have key := loop_inv (σ := Nat × Bool) (fun t => (L.g c).1.n - t.1) (fun t => t.1 ≤ (L.g c).1.n) (fun _ (x : Option ρ × Option τ) => ∃ hit, x = (K L (c : Int) d hit out, J L (c : Int) d hit d out))
    (fun k t => (spec_l14Touched.F1 k L (c : Int) d t.2 (t.1 : Int) out K, impl_touched.F1 k L (c : Int) d t.2 d (L.g c).1 ((L.g c).1.n : Int) (t.1 : Int) out J)) ?_ fuelN (0, h0) (by simp only [fuelN]; omega) (Nat.zero_le _)
  · obtain ⟨hit, e⟩ := key
    exact ⟨hit, congrArg Prod.fst e, congrArg Prod.snd e⟩
  rintro k ⟨i, h⟩ hi ih
  simp only at hi ⊢
  by_cases hlt : i < (L.g c).1.n
  · obtain ⟨p1, p2⟩ := pars_in hg hc hlt
    cases h with
    | true =>
      simp only [spec_l14Touched.F1, spec_l14Touched.B1, impl_touched.F1, impl_touched.B1, selb, chkb, decide_eq_true_eq, Int.toNat_natCast, Int.ofNat_lt, Int.natCast_nonneg, true_and, if_pos hlt, if_pos hc, if_true, wr_succ (i := i) (by omega)]
      exact ih (i + 1, true) hlt (by simp only; omega)
    | false =>
      obtain ⟨b, e1, e2⟩ := differs_two (L.g c).2.2 (L.g ((L.g c).1.g i).toNat).2.2 (hL.2 c hc).2 (hL.2 _ (by omega)).2 d (L.g c).1 (L.g ((L.g c).1.g i).toNat).1 (L.g c).2.1 (L.g ((L.g c).1.g i).toNat).2.1
      simp only [spec_l14Touched.F1, spec_l14Touched.B1, impl_touched.F1, impl_touched.B1, selb, chkb, decide_eq_true_eq, Int.toNat_natCast, Int.ofNat_lt, Int.natCast_nonneg, true_and, if_pos hlt, if_pos hc, Bool.false_eq_true, if_false, if_pos (show 0 ≤ (L.g c).1.g i ∧ (L.g c).1.g i < (L.n : Int) from ⟨p1, p2⟩), e1, e2, Option.bind_some, wr_succ (i := i) (by omega)]
      exact ih (i + 1, b) hlt (by simp only; omega)
  · simp only [spec_l14Touched.F1, spec_l14Touched.B1, impl_touched.F1, impl_touched.B1, selb, chkb, decide_eq_true_eq, Int.toNat_natCast, Int.ofNat_lt, Int.natCast_nonneg, true_and, if_neg hlt, if_pos hc]
    exact ⟨h, rfl⟩
theorem touched_two (L : Vec Cm) (hL : cmSml L) (hg : grGood (cgr L)) (c : Nat) (hc : c < L.n) : ∃ o, spec_l14Touched.F L (c : Int) = some o ∧ impl_touched.F L (c : Int) = some o ∧ o.n ≤ 12 ∧ ∀ i, i < o.n → 0 ≤ o.g i ∧ o.g i < 12 := by
  have hM : maxN = 140737488355328 := rfl
  have hlit : ∀ x : Int, (Vec.lit [x] : Vec Int).n = 1 := fun _ => rfl
  rw [spec_l14Touched.F, spec_l14Touched.B, impl_touched.F, impl_touched.B]
  have key := loop_inv (σ := Nat × Vec Int) (fun t => 12 - t.1) (fun t => t.1 ≤ 12 ∧ t.2.n ≤ t.1 ∧ ∀ i, i < t.2.n → 0 ≤ t.2.g i ∧ t.2.g i < 12) (fun _ (x : Option (Vec Int) × Option (Vec Int)) => ∃ o : Vec Int, x = (some o, some o) ∧ o.n ≤ 12 ∧ ∀ i, i < o.n → 0 ≤ o.g i ∧ o.g i < 12)
    (fun k t => (spec_l14Touched.F0 k L (c : Int) (t.1 : Int) t.2 (fun e01 => some e01), impl_touched.F0 k L (c : Int) (t.1 : Int) t.2 (fun e01 => some e01))) ?_ fuelN (0, Vec.nil) (by simp only [fuelN]; omega) ⟨Nat.zero_le _, Nat.le_refl _, fun i hi => absurd hi (Nat.not_lt_zero i)⟩
  · obtain ⟨o, e, h1, h2⟩ := key
    exact ⟨o, congrArg Prod.fst e, congrArg Prod.snd e, h1, h2⟩
  rintro k ⟨d, out⟩ ⟨hd, ho, hall⟩ ih
  simp only at hd ho hall ⊢
  by_cases hlt : d < 12
  · have hlt' : (d : Int) < 12 := by omega
    -- both go on from the same hit
    have go : ∀ h0 : Bool, ∃ o : Vec Int, ((spec_l14Touched.F1 fuelN L (c : Int) (d : Int) h0 0 out fun e11 e12 e13 e14 e15 => sel (e14) (chk (decide ((e15.n + (Vec.lit [e13] : Vec Int).n) * 9 ≤ maxN)) (spec_l14Touched.F0 k e11 e12 (wr (e13 + (1 : Int))) (Vec.app e15 (Vec.lit [e13] : Vec Int)) (fun e01 => some e01))) (spec_l14Touched.F0 k e11 e12 (wr (e13 + (1 : Int))) e15 (fun e01 => some e01))),
        (impl_touched.F1 fuelN L (c : Int) (d : Int) h0 (d : Int) (L.g c).1 ((L.g c).1.n : Int) 0 out fun e11 e12 e13 e14 e15 e16 => sel (e14) (chk (decide ((e16.n + (Vec.lit [e13] : Vec Int).n) * 9 ≤ maxN)) (impl_touched.F0 k e11 e12 (wr (e15 + (1 : Int))) (Vec.app e16 (Vec.lit [e13] : Vec Int)) (fun e01 => some e01))) (impl_touched.F0 k e11 e12 (wr (e15 + (1 : Int))) e16 (fun e01 => some e01)))) = (some o, some o) ∧ o.n ≤ 12 ∧ ∀ i, i < o.n → 0 ≤ o.g i ∧ o.g i < 12 := by
      intro h0
      obtain ⟨hit, e1, e2⟩ := hit_two L hL hg c hc (d : Int) h0 out (fun e11 e12 e13 e14 e15 => sel (e14) (chk (decide ((e15.n + (Vec.lit [e13] : Vec Int).n) * 9 ≤ maxN)) (spec_l14Touched.F0 k e11 e12 (wr (e13 + (1 : Int))) (Vec.app e15 (Vec.lit [e13] : Vec Int)) (fun e01 => some e01))) (spec_l14Touched.F0 k e11 e12 (wr (e13 + (1 : Int))) e15 (fun e01 => some e01)))
        (fun e11 e12 e13 e14 e15 e16 => sel (e14) (chk (decide ((e16.n + (Vec.lit [e13] : Vec Int).n) * 9 ≤ maxN)) (impl_touched.F0 k e11 e12 (wr (e15 + (1 : Int))) (Vec.app e16 (Vec.lit [e13] : Vec Int)) (fun e01 => some e01))) (impl_touched.F0 k e11 e12 (wr (e15 + (1 : Int))) e16 (fun e01 => some e01)))
      rw [e1, e2]
      cases hit with
      | false =>
        simp only [selb, Bool.false_eq_true, if_false, wr_succ (i := d) (by omega)]
        exact ih (d + 1, out) ⟨hlt, by simp only; omega, hall⟩ (by simp only; omega)
      | true =>
        simp only [selb, if_true, chkb, decide_eq_true_eq, hlit, if_pos (show (out.n + 1) * 9 ≤ maxN by omega), wr_succ (i := d) (by omega)]
        refine ih (d + 1, Vec.app out (Vec.lit [(d : Int)])) ⟨hlt, by show out.n + 1 ≤ d + 1; omega, fun i hi => ?_⟩ (by simp only; omega)
        simp only at hi ⊢
        rw [Vec.app_g]
        by_cases h3 : i < out.n
        · rw [if_pos h3]; exact hall i h3
        · rw [if_neg h3]
          have hi' : i < out.n + 1 := hi
          rw [show i - out.n = 0 by omega]
          exact ⟨by show (0 : Int) ≤ (d : Int); omega, by show (d : Int) < 12; omega⟩
    by_cases h0 : (L.g c).1.n = 0
    · obtain ⟨r, e1, e2, -⟩ := id_two (L.g c).2.2 (hL.2 c hc).2 (d : Int)
      have h0' : ((L.g c).1.n : Int) = 0 := by omega
      have := go (decide ((0 : Int) ≤ r))
      simp only [spec_l14Touched.F0, spec_l14Touched.B0, impl_touched.F0, impl_touched.B0, selb, chkb, decide_eq_true_eq, Int.toNat_natCast, Int.ofNat_lt, Int.natCast_nonneg, true_and, if_pos hlt', if_pos hc, if_pos h0', e1, e2, Option.bind_some]
      simpa only [selb, chkb, decide_eq_true_eq] using this
    · have h0' : ¬ ((L.g c).1.n : Int) = 0 := by omega
      have := go false
      simp only [spec_l14Touched.F0, spec_l14Touched.B0, impl_touched.F0, impl_touched.B0, selb, chkb, decide_eq_true_eq, Int.toNat_natCast, Int.ofNat_lt, Int.natCast_nonneg, true_and, if_pos hlt', if_pos hc, if_neg h0']
      simpa only [selb, chkb, decide_eq_true_eq] using this
  · have hlt' : ¬ (d : Int) < 12 := by omega
    simp only [spec_l14Touched.F0, spec_l14Touched.B0, impl_touched.F0, impl_touched.B0, selb, decide_eq_true_eq, if_neg hlt']
    exact ⟨out, rfl, by omega, hall⟩
theorem impl_place_ok (a n : Int) (h0 : 0 ≤ n) (h1 : n ≤ 1000000000) : impl_isPlace.F a n = some (decide (0 ≤ a ∧ a < n)) := by
  rw [impl_isPlace.F, impl_isPlace.B, wr_small (by omega) (by omega), inRange_eq, Option.bind_some]
  congr 1
  rw [decide_eq_decide]
  omega
theorem TouchedIn_two (L : Vec Cm) (hL : cmSml L) (ver : Vec Int) (c : Int) : ∃ o, spec_TouchedIn.F L ver c = some o ∧ impl_TouchedIn.F L ver c = some o ∧ Sml.sml o := by
  have hn := hL.1
  have nils : Sml.sml (Vec.nil : Vec Int) := ⟨Nat.zero_le _, fun i hi => absurd hi (Nat.not_lt_zero i)⟩
  rw [spec_TouchedIn.F, spec_TouchedIn.B, impl_TouchedIn.F, impl_TouchedIn.B]
  obtain ⟨x, e1, h1⟩ := spec_CommitsOk_ok L hL ver
  obtain ⟨y, e2, h2⟩ := impl_CommitsOk_ok L hL ver
  rw [e1, impl_place_ok c (L.n : Int) (by omega) (by omega), Option.bind_some, Option.bind_some, in_eq, wr_small (by omega) (by omega)]
  by_cases hg : cmGood L ver
  · obtain rfl : x = true := h1.2 hg
    obtain rfl : y = true := h2.2 hg
    rw [selb, if_neg (by decide), Option.bind_some]
    by_cases hc : 0 ≤ c ∧ c < (L.n : Int)
    · rw [decide_eq_true hc, decide_eq_true (show 0 ≤ c ∧ c ≤ (L.n : Int) - 1 by omega), selb, selb, if_neg (by decide), if_neg (by decide), e2, Option.bind_some, selb, if_neg (by decide)]
      obtain ⟨c, rfl⟩ : ∃ m : Nat, c = m := ⟨c.toNat, by omega⟩
      obtain ⟨o, e3, e4, h3, h4⟩ := touched_two L hL hg.2.2.1 c (by omega)
      rw [e3, e4]
      refine ⟨o, rfl, rfl, by unfold sN; omega, fun i hi => ?_⟩
      have := h4 i hi
      exact ⟨by omega, by omega⟩
    · rw [decide_eq_false hc, decide_eq_false (show ¬ (0 ≤ c ∧ c ≤ (L.n : Int) - 1) by omega), selb, selb, if_pos (by decide), if_pos (by decide)]
      exact ⟨_, rfl, rfl, nils⟩
  · obtain rfl : x = false := by cases x with | false => rfl | true => exact absurd (h1.1 rfl) hg
    obtain rfl : y = false := by cases y with | false => rfl | true => exact absurd (h2.1 rfl) hg
    rw [selb, if_pos (by decide), selb, e2]
    split
    · exact ⟨_, rfl, rfl, nils⟩
    · rw [Option.bind_some, selb, if_pos (by decide)]
      exact ⟨_, rfl, rfl, nils⟩
end Go.Al
