import Derived.Test.YtnkmpehikhmbjaaPText
import Derived.Test.YtnkmpehikhmbjaaGPl
set_option linter.unusedVariables false
set_option linter.unusedSimpArgs false
set_option linter.constructorNameAsVariable false
set_option linter.unusedSectionVars false
namespace Go.Al
/-! ### A weave as whole copies -/
abbrev Idn : Type := Int × Int
abbrev Pln : Type := Vec (Vec Int) × Vec (Vec ByteArray) × Vec (Vec Idn)
def idAt (B : Vec Bd) (x : Int) : Idn := ((B.g x.toNat).2.1, (B.g x.toNat).2.2.1)
noncomputable def IDS (P : Gr) (B : Vec Bd) (v : Nat) : List Idn := (places B (Cl P v)).map (idAt B)
/-- The first m versions of a weave as whole copies. -/
def PlG (P : Gr) (B : Vec Bd) (m : Nat) (p : Pln) : Prop := (p.1.n = m ∧ ∀ v, v < m → p.1.g v = P.g v) ∧ (p.2.1.n = m ∧ ∀ v, v < m → (p.2.1.g v).toL = TX P B v) ∧ (p.2.2.n = m ∧ ∀ v, v < m → (p.2.2.g v).toL = IDS P B v)
theorem app_one {A : Type} [Enc A] {t : Vec A} {m : Nat} {x : A} {p : Nat → A → Prop} (h : t.n = m ∧ ∀ v, v < m → p v (t.g v)) (hx : p m x) : (Vec.app t (Vec.lit [x])).n = m + 1 ∧ ∀ v, v < m + 1 → p v ((Vec.app t (Vec.lit [x])).g v) := by
  refine ⟨by rw [Vec.app_n, h.1]; rfl, fun v hv => ?_⟩
  rw [Vec.app_g, h.1]
  by_cases hlt : v < m
  · rw [if_pos hlt]
    exact h.2 v hlt
  · obtain rfl : v = m := by omega
    rw [if_neg hlt, Nat.sub_self]
    exact hx
theorem spec_ids_loop {ρ : Type} (P : Gr) (B : Vec Bd) (v : Int) (l : Vec Int) (hl : l.n ≤ 1000) (hin : ∀ x ∈ l.toL, 0 ≤ x ∧ x < (B.n : Int)) (x y z) (K2 : Int → Gr → Vec Bd → Vec Idn → Vec Int → Gr → Vec (Vec ByteArray) → Vec (Vec Idn) → Option ρ) :
    ∃ o, spec_PlainOf.F1 fuelN v 0 P B Vec.nil l x y z K2 = K2 v P B o l x y z ∧ o.toL = l.toL.map (idAt B) := by
  have hM : maxN = 140737488355328 := rfl
  refine map_loop l (by omega) (idAt B) (fun k i out => spec_PlainOf.F1 k v i P B out l x y z K2) (fun o => K2 v P B o l x y z) (fun k i out hn hi => ?_) (fun k i out hi => ?_)
  · have hlit : ∀ x : Idn, (Vec.lit [x] : Vec Idn).n = 1 := fun _ => rfl
    have hx := hin (l.g i) (List.mem_of_getElem? (Vec.toL_get l i hi))
    simp only [spec_PlainOf.F1, spec_PlainOf.B1, selb, chkb, decide_eq_true_eq, Int.toNat_natCast, Int.ofNat_lt, Int.natCast_nonneg, true_and, if_pos hi, if_pos hx, hlit, if_pos (show (out.n + 1) * 17 ≤ maxN by omega), wr_succ (i := i) (by omega), idAt]
  · simp only [spec_PlainOf.F1, spec_PlainOf.B1, selb, decide_eq_true_eq, Int.ofNat_lt, if_neg hi]
theorem impl_ids_loop {ρ : Type} (P : Gr) (B : Vec Bd) (a b c : Int) (l : Vec Nt) (hl : l.n ≤ 1000) (x y z) (K2 : Int → Int → Int → Gr → Vec Bd → Vec Idn → Gr → Vec (Vec ByteArray) → Vec (Vec Idn) → Option ρ) :
    ∃ o, impl_plainOf.F1 fuelN a b c (l.n : Int) 0 P B Vec.nil l x y z K2 = K2 a b c P B o x y z ∧ o.toL = l.toL.map (fun n => ((n.1, n.2.1) : Idn)) := by
  have hM : maxN = 140737488355328 := rfl
  refine map_loop l (by omega) (fun n => ((n.1, n.2.1) : Idn)) (fun k i out => impl_plainOf.F1 k a b c (l.n : Int) i P B out l x y z K2) (fun o => K2 a b c P B o x y z) (fun k i out hn hi => ?_) (fun k i out hi => ?_)
  · have hlit : ∀ x : Idn, (Vec.lit [x] : Vec Idn).n = 1 := fun _ => rfl
    simp only [impl_plainOf.F1, impl_plainOf.B1, selb, chkb, decide_eq_true_eq, Int.toNat_natCast, Int.ofNat_lt, Int.natCast_nonneg, true_and, if_pos hi, hlit, if_pos (show (out.n + 1) * 17 ≤ maxN by omega), wr_succ (i := i) (by omega)]
  · simp only [impl_plainOf.F1, impl_plainOf.B1, selb, decide_eq_true_eq, Int.ofNat_lt, if_neg hi]
theorem spec_plain_loop {ρ : Type} (P : Gr) (hP : ∀ v, v < P.n → (P.g v).n ≤ 1048576) (B : Vec Bd) (hB : dSml B) (hw : wvGood P B) (K0 : Gr → Vec (Vec ByteArray) → Vec (Vec Idn) → Option ρ) :
    ∃ p : Pln, spec_PlainOf.F0 fuelN 0 P B Vec.nil Vec.nil Vec.nil K0 = K0 p.1 p.2.1 p.2.2 ∧ PlG P B P.n p := by
  have hM : maxN = 140737488355328 := rfl
  have hg := hw.1
  have hn := hg.1
  refine loop_inv (σ := Nat × Pln) (fun t => P.n - t.1) (fun t => t.1 ≤ P.n ∧ PlG P B t.1 t.2) (fun _ x => ∃ p : Pln, x = K0 p.1 p.2.1 p.2.2 ∧ PlG P B P.n p) (fun k t => spec_PlainOf.F0 k (t.1 : Int) P B t.2.1 t.2.2.1 t.2.2.2 K0) ?_ fuelN (0, Vec.nil, Vec.nil, Vec.nil) (by simp only [fuelN]; omega)
    ⟨Nat.zero_le _, ⟨rfl, fun v hv => absurd hv (Nat.not_lt_zero v)⟩, ⟨rfl, fun v hv => absurd hv (Nat.not_lt_zero v)⟩, ⟨rfl, fun v hv => absurd hv (Nat.not_lt_zero v)⟩⟩
  rintro k ⟨v, x, y, z⟩ ⟨hv, hp⟩ ih
  simp only at hv hp ⊢
  by_cases hlt : v < P.n
  · obtain ⟨s, e1, hs⟩ := spec_l06Closure_ok P hg B v hlt
    obtain ⟨l, e2, hl⟩ := spec_places_ok P B hB s P.n hg.1 (Cl P v) hs (fun u hu => Cl_lt hg hu hlt)
    have hln : l.n ≤ 80 := by rw [← Vec.toL_length, hl]; exact places_le hw hlt
    have hin : ∀ x ∈ l.toL, 0 ≤ x ∧ x < (B.n : Int) := fun x hx => by rw [hl] at hx; exact places_mem hx
    obtain ⟨t, e4, ht⟩ := spec_lines_ok P B l (by omega) hin
    rw [spec_PlainOf.F0, spec_PlainOf.B0, selb, if_pos (by simpa using hlt), e1, Option.bind_some, e2, Option.bind_some]
    obtain ⟨o, e3, ho⟩ := spec_ids_loop P B (v : Int) l (by omega) hin x y z (fun e11 e12 e13 e14 e15 e16 e17 e18 => chk (decide (0 ≤ e11 ∧ e11 < (e12.n : Int))) (chk (decide ((e12.g e11.toNat).n * 9 ≤ maxN)) (chk (decide ((e16.n + (Vec.lit [(e12.g e11.toNat)] : Vec (Vec Int)).n) * 25 ≤ maxN)) ((spec_l06Lines.F e12 e13 e15).bind fun r4 => chk (decide ((e17.n + (Vec.lit [r4] : Vec (Vec ByteArray)).n) * 25 ≤ maxN)) (chk (decide ((e18.n + (Vec.lit [e14] : Vec (Vec (Int × Int))).n) * 25 ≤ maxN)) (spec_PlainOf.F0 k (wr (e11 + (1 : Int))) e12 e13 (Vec.app e16 (Vec.lit [(e12.g e11.toNat)] : Vec (Vec Int))) (Vec.app e17 (Vec.lit [r4] : Vec (Vec ByteArray))) (Vec.app e18 (Vec.lit [e14] : Vec (Vec (Int × Int)))) K0))))))
    rw [e3]
    have hl1 : ∀ x : Vec Int, (Vec.lit [x] : Vec (Vec Int)).n = 1 := fun _ => rfl
    have hl2 : ∀ x : Vec ByteArray, (Vec.lit [x] : Vec (Vec ByteArray)).n = 1 := fun _ => rfl
    have hl3 : ∀ x : Vec Idn, (Vec.lit [x] : Vec (Vec Idn)).n = 1 := fun _ => rfl
    have h9 := hP v hlt
    have hx := hp.1.1
    have hy := hp.2.1.1
    have hz := hp.2.2.1
    simp only at hx hy hz
    simp only [chkb, decide_eq_true_eq, Int.toNat_natCast, Int.ofNat_lt, Int.natCast_nonneg, true_and, if_pos hlt, hl1, hl2, hl3, e4, Option.bind_some, wr_succ (i := v) (by omega), if_pos (show (P.g v).n * 9 ≤ maxN by omega), if_pos (show (x.n + 1) * 25 ≤ maxN by omega), if_pos (show (y.n + 1) * 25 ≤ maxN by omega), if_pos (show (z.n + 1) * 25 ≤ maxN by omega)]
    refine ih (v + 1, Vec.app x (Vec.lit [P.g v]), Vec.app y (Vec.lit [t]), Vec.app z (Vec.lit [o])) ⟨hlt, app_one (p := fun v a => a = P.g v) hp.1 rfl, app_one (p := fun v (a : Vec ByteArray) => a.toL = TX P B v) hp.2.1 ?_, app_one (p := fun v (a : Vec Idn) => a.toL = IDS P B v) hp.2.2 ?_⟩ (by simp only; omega)
    · rw [ht, hl]; rfl
    · rw [ho, hl]; rfl
  · rw [spec_PlainOf.F0, spec_PlainOf.B0, selb, if_neg (by simpa using hlt)]
    obtain rfl : v = P.n := by omega
    exact ⟨(x, y, z), rfl, hp⟩
theorem copyGraph_ok (P : Gr) (hn : P.n ≤ 1048576) (hP : ∀ v, v < P.n → (P.g v).n ≤ 1048576) : ∃ Q : Gr, impl_copyGraph.F P = some Q ∧ Q.n = P.n ∧ ∀ v, v < P.n → Q.g v = P.g v := by
  have hM : maxN = 140737488355328 := rfl
  rw [impl_copyGraph.F, impl_copyGraph.B]
  refine loop_inv (σ := Nat × Gr) (fun t => P.n - t.1) (fun t => t.1 ≤ P.n ∧ t.2.n = t.1 ∧ ∀ v, v < t.1 → t.2.g v = P.g v) (fun _ x => ∃ Q : Gr, x = some Q ∧ Q.n = P.n ∧ ∀ v, v < P.n → Q.g v = P.g v) (fun k t => impl_copyGraph.F0 k P (P.n : Int) (t.1 : Int) t.2 (fun e01 => some e01)) ?_ fuelN (0, Vec.nil) (by simp only [fuelN]; omega)
    ⟨Nat.zero_le _, rfl, fun v hv => absurd hv (Nat.not_lt_zero v)⟩
  rintro k ⟨v, x⟩ ⟨hv, hx⟩ ih
  simp only at hv hx ⊢
  by_cases hlt : v < P.n
  · have hl1 : ∀ x : Vec Int, (Vec.lit [x] : Vec (Vec Int)).n = 1 := fun _ => rfl
    have h9 := hP v hlt
    have hxn := hx.1
    have e : slices_Clone_int_int.F (P.g v) = some (P.g v) := by
      rw [slices_Clone_int_int.F, selb, if_pos (by rw [decide_eq_true_eq]; omega)]
    simp only [impl_copyGraph.F0, impl_copyGraph.B0, selb, chkb, decide_eq_true_eq, Int.toNat_natCast, Int.ofNat_lt, Int.natCast_nonneg, true_and, if_pos hlt, e, Option.bind_some, hl1, if_pos (show (x.n + 1) * 25 ≤ maxN by omega), wr_succ (i := v) (by omega)]
    exact ih (v + 1, Vec.app x (Vec.lit [P.g v])) ⟨hlt, app_one (p := fun v a => a = P.g v) hx rfl⟩ (by simp only; omega)
  · simp only [impl_copyGraph.F0, impl_copyGraph.B0, selb, decide_eq_true_eq, Int.ofNat_lt, if_neg hlt]
    obtain rfl : v = P.n := by omega
    exact ⟨x, rfl, hx⟩
theorem impl_plainOf_ok (P : Gr) (hP : ∀ v, v < P.n → (P.g v).n ≤ 1048576) (B : Vec Bd) (hB : dSml B) (hw : wvGood P B) : ∃ p : Pln, impl_plainOf.F P B = some p ∧ PlG P B P.n p := by
  have hM : maxN = 140737488355328 := rfl
  have hg := hw.1
  have hn := hg.1
  obtain ⟨X, e0, hX1, hX2⟩ := copyGraph_ok P (by omega) hP
  rw [impl_plainOf.F, impl_plainOf.B, e0, Option.bind_some]
  refine loop_inv (σ := Nat × Vec (Vec ByteArray) × Vec (Vec Idn)) (fun t => P.n - t.1) (fun t => t.1 ≤ P.n ∧ (t.2.1.n = t.1 ∧ ∀ v, v < t.1 → (t.2.1.g v).toL = TX P B v) ∧ (t.2.2.n = t.1 ∧ ∀ v, v < t.1 → (t.2.2.g v).toL = IDS P B v)) (fun _ x => ∃ p : Pln, x = some p ∧ PlG P B P.n p)
    (fun k t => impl_plainOf.F0 k (P.n : Int) (t.1 : Int) P B X t.2.1 t.2.2 (fun e01 e02 e03 => some (e01, e02, e03))) ?_ fuelN (0, Vec.nil, Vec.nil) (by simp only [fuelN]; omega)
    ⟨Nat.zero_le _, ⟨rfl, fun v hv => absurd hv (Nat.not_lt_zero v)⟩, ⟨rfl, fun v hv => absurd hv (Nat.not_lt_zero v)⟩⟩
  rintro k ⟨v, y, z⟩ ⟨hv, hy, hz⟩ ih
  simp only at hv hy hz ⊢
  by_cases hlt : v < P.n
  · obtain ⟨q, e1, hq⟩ := impl_annotate_ok P B hB hw v hlt
    obtain ⟨t, e2, ht⟩ := impl_text_ok P B hB hw v hlt
    have hqn : q.n ≤ 80 := by rw [← Vec.toL_length, hq, List.length_map]; exact places_le hw hlt
    rw [impl_plainOf.F0, impl_plainOf.B0, selb, if_pos (by simpa using hlt), e1, Option.bind_some]
    obtain ⟨o, e3, ho⟩ := impl_ids_loop P B (v : Int) (P.n : Int) (v : Int) q (by omega) X y z (fun e11 e12 e13 e14 e15 e16 e17 e18 e19 => (impl_Weave_extract.F e14 e15 e11).bind fun r3 => chk (decide ((e18.n + (Vec.lit [r3] : Vec (Vec ByteArray)).n) * 25 ≤ maxN)) (chk (decide ((e19.n + (Vec.lit [e16] : Vec (Vec (Int × Int))).n) * 25 ≤ maxN)) (impl_plainOf.F0 k e12 (wr (e13 + (1 : Int))) e14 e15 e17 (Vec.app e18 (Vec.lit [r3] : Vec (Vec ByteArray))) (Vec.app e19 (Vec.lit [e16] : Vec (Vec (Int × Int)))) (fun e01 e02 e03 => some (e01, e02, e03)))))
    rw [e3]
    have hl2 : ∀ x : Vec ByteArray, (Vec.lit [x] : Vec (Vec ByteArray)).n = 1 := fun _ => rfl
    have hl3 : ∀ x : Vec Idn, (Vec.lit [x] : Vec (Vec Idn)).n = 1 := fun _ => rfl
    have hy1 := hy.1
    have hz1 := hz.1
    simp only [chkb, decide_eq_true_eq, hl2, hl3, e2, Option.bind_some, wr_succ (i := v) (by omega), if_pos (show (y.n + 1) * 25 ≤ maxN by omega), if_pos (show (z.n + 1) * 25 ≤ maxN by omega)]
    refine ih (v + 1, Vec.app y (Vec.lit [t]), Vec.app z (Vec.lit [o])) ⟨hlt, app_one (p := fun v (a : Vec ByteArray) => a.toL = TX P B v) hy ht, app_one (p := fun v (a : Vec Idn) => a.toL = IDS P B v) hz ?_⟩ (by simp only; omega)
    rw [ho, hq, List.map_map]
    rfl
  · rw [impl_plainOf.F0, impl_plainOf.B0, selb, if_neg (by simpa using hlt)]
    obtain rfl : v = P.n := by omega
    exact ⟨(X, y, z), rfl, ⟨hX1, hX2⟩, hy, hz⟩
theorem plG_sim {P : Gr} {B : Vec Bd} {p q : Pln} (h1 : PlG P B P.n p) (h2 : PlG P B P.n q) : Sim.sim p q :=
  ⟨⟨h1.1.1.trans h2.1.1.symm, fun v hv => by
      have hv' : v < P.n := by rw [← h1.1.1]; exact hv
      rw [h1.1.2 v hv', h2.1.2 v hv']; exact Sim.refl _⟩,
   ⟨h1.2.1.1.trans h2.2.1.1.symm, fun v hv => by
      have hv' : v < P.n := by rw [← h1.2.1.1]; exact hv
      exact Sim.same (same_iff.2 (by rw [h1.2.1.2 v hv', h2.2.1.2 v hv']))⟩,
   ⟨h1.2.2.1.trans h2.2.2.1.symm, fun v hv => by
      have hv' : v < P.n := by rw [← h1.2.2.1]; exact hv
      exact Sim.same (same_iff.2 (by rw [h1.2.2.2 v hv', h2.2.2.2 v hv']))⟩⟩
theorem plG_sml {P : Gr} {B : Vec Bd} (hP : Sml.sml P) (hB : Sml.sml B) (hw : wvGood P B) {p : Pln} (h : PlG P B P.n p) : Sml.sml p := by
  have hn := hw.1.1
  refine ⟨⟨by rw [h.1.1]; unfold sN; omega, fun v hv => ?_⟩, ⟨by rw [h.2.1.1]; unfold sN; omega, fun v hv => ?_⟩, ⟨by rw [h.2.2.1]; unfold sN; omega, fun v hv => ?_⟩⟩
  · have hv' : v < P.n := by rw [← h.1.1]; exact hv
    rw [h.1.2 v hv']
    exact hP.2 v hv'
  · have hv' : v < P.n := by rw [← h.2.1.1]; exact hv
    refine sml_of (h.2.1.2 v hv') ?_ fun x hx => ?_
    · unfold TX textOf
      rw [List.length_map]
      have := places_le hw hv'
      unfold sN
      omega
    · unfold TX textOf at hx
      obtain ⟨i, hi, rfl⟩ := List.mem_map.1 hx
      have := places_mem hi
      exact (hB.2 i.toNat (by omega)).1
  · have hv' : v < P.n := by rw [← h.2.2.1]; exact hv
    refine sml_of (h.2.2.2 v hv') ?_ fun x hx => ?_
    · unfold IDS
      rw [List.length_map]
      have := places_le hw hv'
      unfold sN
      omega
    · unfold IDS at hx
      obtain ⟨i, hi, rfl⟩ := List.mem_map.1 hx
      have := places_mem hi
      have h2 := hB.2 i.toNat (by omega)
      exact ⟨h2.2.1, h2.2.2.1⟩
end Go.Al
