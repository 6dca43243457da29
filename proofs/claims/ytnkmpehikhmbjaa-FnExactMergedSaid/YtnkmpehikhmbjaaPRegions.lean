import Derived.Test.YtnkmpehikhmbjaaPMo
import Derived.Test.YtnkmpehikhmbjaaGRegions
set_option linter.unusedVariables false
set_option linter.unusedSimpArgs false
set_option linter.constructorNameAsVariable false
set_option linter.unusedSectionVars false
namespace Go.Al
abbrev Rg : Type := Bool × Vec ByteArray × Vec ByteArray × Vec ByteArray
abbrev RgL : Type := Bool × List ByteArray × List ByteArray × List ByteArray
def rgL (r : Rg) : RgL := (r.1, r.2.1.toL, r.2.2.1.toL, r.2.2.2.toL)
def isL (m : Pr) : Bool := decide (m.1 = 2) || decide (m.1 = 4)
def isR (m : Pr) : Bool := decide (m.1 = 3) || decide (m.1 = 5)
def isN (m : Pr) : Bool := decide (m.1 = 2) || decide (m.1 = 3)
def isA (m : Pr) : Bool := decide (m.1 = 2) || decide (m.1 = 5)
def lnOf (m : Pr) : ByteArray := m.2.2.2
/-- The region of marks that are not kept. -/
def regOf (l : List Pr) : RgL := (l.any isL && l.any isR, if l.any isL && l.any isR then [] else (l.filter isN).map lnOf, (l.filter isA).map lnOf, (l.filter fun m => !isA m).map lnOf)
def appB (v : Vec ByteArray) (b : Bool) (x : ByteArray) : Vec ByteArray := if b = true then Vec.app v (Vec.lit [x]) else v
theorem appB_L (v : Vec ByteArray) (b : Bool) (x : ByteArray) : (appB v b x).toL = v.toL ++ (if b = true then [x] else []) := by
  unfold appB
  split
  · rw [toL_app, toL_lit]
  · simp
theorem appB_n (v : Vec ByteArray) (b : Bool) (x : ByteArray) : (appB v b x).n ≤ v.n + 1 := by
  unfold appB
  split
  · exact Nat.le_refl _
  · omega
theorem filter_take {v : Vec Pr} {i : Nat} (hi : i < v.n) (p : Pr → Bool) : ((v.toL.take (i + 1)).filter p).map lnOf = ((v.toL.take i).filter p).map lnOf ++ (if p (v.g i) = true then [lnOf (v.g i)] else []) := by
  rw [toL_take_succ v i hi, List.filter_append, List.map_append]
  congr 1
  by_cases h : p (v.g i) = true <;> simp [h]
theorem any_take {v : Vec Pr} {i : Nat} (hi : i < v.n) (p : Pr → Bool) : (v.toL.take (i + 1)).any p = ((v.toL.take i).any p || p (v.g i)) := by
  rw [toL_take_succ v i hi, List.any_append]
  simp
theorem kinds (k : Int) : (k = 2 ∧ k ≠ 3 ∧ k ≠ 4 ∧ k ≠ 5) ∨ (k ≠ 2 ∧ k = 3 ∧ k ≠ 4 ∧ k ≠ 5) ∨ (k ≠ 2 ∧ k ≠ 3 ∧ k = 4 ∧ k ≠ 5) ∨ (k ≠ 2 ∧ k ≠ 3 ∧ k ≠ 4 ∧ k = 5) ∨ (k ≠ 2 ∧ k ≠ 3 ∧ k ≠ 4 ∧ k ≠ 5) := by omega
theorem spec_reg_step {ρ : Type} (k : Nat) (l : Vec Pr) (a b : Bool) (i : Nat) (hi : i < l.n) (hl : l.n ≤ 1000) (x y z : Vec ByteArray) (hx : x.n ≤ 1000) (hy : y.n ≤ 1000) (hz : z.n ≤ 1000) (p q : Bool) (K0 : Bool → Bool → Bool → Bool → Vec ByteArray → Vec ByteArray → Vec ByteArray → Option ρ) :
    spec_l11Region.F0 (k + 1) l a b (i : Int) p q x y z K0 = spec_l11Region.F0 k l (a || isL (l.g i)) (b || isR (l.g i)) ((i + 1 : Nat) : Int) p q (appB x (isN (l.g i)) (lnOf (l.g i))) (appB y (isA (l.g i)) (lnOf (l.g i))) (appB z (!isA (l.g i)) (lnOf (l.g i))) K0 := by
  have hM : maxN = 140737488355328 := rfl
  have hlit : ∀ x : ByteArray, (Vec.lit [x] : Vec ByteArray).n = 1 := fun _ => rfl
  simp only [spec_l11Region.F0, spec_l11Region.B0, selb, chkb, decide_eq_true_eq, Int.toNat_natCast, Int.ofNat_lt, Int.natCast_nonneg, true_and, if_pos hi, hlit, wr_succ (i := i) (by omega),
    if_pos (show (x.n + 1) * 17 ≤ maxN by omega), if_pos (show (y.n + 1) * 17 ≤ maxN by omega), if_pos (show (z.n + 1) * 17 ≤ maxN by omega)]
  unfold isL isR isN isA lnOf appB
  rcases kinds (l.g i).1 with ⟨h2, h3, h4, h5⟩ | ⟨h2, h3, h4, h5⟩ | ⟨h2, h3, h4, h5⟩ | ⟨h2, h3, h4, h5⟩ | ⟨h2, h3, h4, h5⟩ <;> cases a <;> cases b <;> simp [h2, h3, h4, h5]
theorem impl_reg_step {ρ : Type} (k : Nat) (l : Vec Pr) (a b : Bool) (i : Nat) (hi : i < l.n) (hl : l.n ≤ 1000) (x y z : Vec ByteArray) (hx : x.n ≤ 1000) (hy : y.n ≤ 1000) (hz : z.n ≤ 1000) (p q : Bool) (K0 : Bool → Bool → Bool → Bool → Vec ByteArray → Vec ByteArray → Vec ByteArray → Option ρ) :
    impl_regionOf.F0 (k + 1) a b l (l.n : Int) (i : Int) p q x y z K0 = impl_regionOf.F0 k (a || isL (l.g i)) (b || isR (l.g i)) l (l.n : Int) ((i + 1 : Nat) : Int) p q (appB x (isN (l.g i)) (lnOf (l.g i))) (appB y (isA (l.g i)) (lnOf (l.g i))) (appB z (!isA (l.g i)) (lnOf (l.g i))) K0 := by
  have hM : maxN = 140737488355328 := rfl
  have hlit : ∀ x : ByteArray, (Vec.lit [x] : Vec ByteArray).n = 1 := fun _ => rfl
  simp only [impl_regionOf.F0, impl_regionOf.B0, selb, chkb, decide_eq_true_eq, Int.toNat_natCast, Int.ofNat_lt, Int.natCast_nonneg, true_and, if_pos hi, hlit, wr_succ (i := i) (by omega),
    if_pos (show (x.n + 1) * 17 ≤ maxN by omega), if_pos (show (y.n + 1) * 17 ≤ maxN by omega), if_pos (show (z.n + 1) * 17 ≤ maxN by omega)]
  unfold isL isR isN isA lnOf appB
  rcases kinds (l.g i).1 with ⟨h2, h3, h4, h5⟩ | ⟨h2, h3, h4, h5⟩ | ⟨h2, h3, h4, h5⟩ | ⟨h2, h3, h4, h5⟩ | ⟨h2, h3, h4, h5⟩ <;> cases a <;> cases b <;> simp [h2, h3, h4, h5]
theorem reg_loop {ρ : Type} (l : Vec Pr) (hl : l.n ≤ 1000) (G : Nat → Bool → Bool → Int → Vec ByteArray → Vec ByteArray → Vec ByteArray → Option ρ) (K : Bool → Bool → Vec ByteArray → Vec ByteArray → Vec ByteArray → Option ρ)
    (h : ∀ k a b (i : Nat) x y z, i < l.n → x.n ≤ 1000 → y.n ≤ 1000 → z.n ≤ 1000 → G (k + 1) a b (i : Int) x y z = G k (a || isL (l.g i)) (b || isR (l.g i)) ((i + 1 : Nat) : Int) (appB x (isN (l.g i)) (lnOf (l.g i))) (appB y (isA (l.g i)) (lnOf (l.g i))) (appB z (!isA (l.g i)) (lnOf (l.g i))))
    (h2 : ∀ k a b (i : Nat) x y z, ¬ i < l.n → G (k + 1) a b (i : Int) x y z = K a b x y z) :
    ∃ x y z, G fuelN false false 0 Vec.nil Vec.nil Vec.nil = K (l.toL.any isL) (l.toL.any isR) x y z ∧ x.toL = (l.toL.filter isN).map lnOf ∧ y.toL = (l.toL.filter isA).map lnOf ∧ z.toL = (l.toL.filter fun m => !isA m).map lnOf := by
  refine loop_inv (σ := Nat × Vec ByteArray × Vec ByteArray × Vec ByteArray) (fun t => l.n - t.1)
    (fun t => t.1 ≤ l.n ∧ t.2.1.toL = ((l.toL.take t.1).filter isN).map lnOf ∧ t.2.2.1.toL = ((l.toL.take t.1).filter isA).map lnOf ∧ t.2.2.2.toL = ((l.toL.take t.1).filter fun m => !isA m).map lnOf)
    (fun _ v => ∃ x y z, v = K (l.toL.any isL) (l.toL.any isR) x y z ∧ x.toL = (l.toL.filter isN).map lnOf ∧ y.toL = (l.toL.filter isA).map lnOf ∧ z.toL = (l.toL.filter fun m => !isA m).map lnOf)
    (fun k t => G k ((l.toL.take t.1).any isL) ((l.toL.take t.1).any isR) (t.1 : Int) t.2.1 t.2.2.1 t.2.2.2) ?_ fuelN (0, Vec.nil, Vec.nil, Vec.nil) (by simp only [fuelN]; omega)
    ⟨Nat.zero_le _, rfl, rfl, rfl⟩
  rintro k ⟨i, x, y, z⟩ ⟨hi, hx, hy, hz⟩ ih
  simp only at hi hx hy hz ⊢
  have bound : ∀ (v : Vec ByteArray) (p : Pr → Bool), v.toL = ((l.toL.take i).filter p).map lnOf → v.n ≤ 1000 := fun v p e => by
    rw [← Vec.toL_length, e, List.length_map]
    exact Nat.le_trans (List.length_filter_le _ _) (by rw [List.length_take, Vec.toL_length]; omega)
  by_cases hlt : i < l.n
  · rw [h k _ _ i x y z hlt (bound x _ hx) (bound y _ hy) (bound z _ hz), ← any_take hlt isL, ← any_take hlt isR]
    exact ih (i + 1, appB x (isN (l.g i)) (lnOf (l.g i)), appB y (isA (l.g i)) (lnOf (l.g i)), appB z (!isA (l.g i)) (lnOf (l.g i)))
      ⟨hlt, by rw [appB_L, hx, filter_take hlt], by rw [appB_L, hy, filter_take hlt], by rw [appB_L, hz, filter_take hlt]⟩ (by simp only; omega)
  · rw [h2 k _ _ i x y z hlt]
    have e : l.toL.take i = l.toL := List.take_of_length_le (by rw [Vec.toL_length]; omega)
    rw [e] at hx hy hz ⊢
    exact ⟨x, y, z, rfl, hx, hy, hz⟩
theorem rgL_of {b : Bool} {x y z : Vec ByteArray} {l : List Pr} (hb : b = (l.any isL && l.any isR)) (hx : x.toL = if l.any isL && l.any isR then [] else (l.filter isN).map lnOf) (hy : y.toL = (l.filter isA).map lnOf) (hz : z.toL = (l.filter fun m => !isA m).map lnOf) : rgL (b, x, y, z) = regOf l := by
  unfold rgL regOf
  simp only
  rw [hb, hx, hy, hz]
theorem spec_reg_ok (l : Vec Pr) (hl : l.n ≤ 1000) : ∃ r, spec_l11Region.F l = some r ∧ rgL r = regOf l.toL := by
  rw [spec_l11Region.F, spec_l11Region.B]
  obtain ⟨x, y, z, e, hx, hy, hz⟩ := reg_loop l hl (fun k a b i x y z => spec_l11Region.F0 k l a b i false false x y z (fun e01 e02 e03 e04 e05 e06 e07 => sel (e01) (sel ((!e02)) (some (e02, e05, e06, e07)) (some (e02, (Vec.nil : Vec ByteArray), e06, e07))) (some (false, e05, e06, e07))))
    (fun a b x y z => sel a (sel (!b) (some (b, x, y, z)) (some (b, Vec.nil, y, z))) (some (false, x, y, z)))
    (fun k a b i x y z hi hx hy hz => spec_reg_step k l a b i hi hl x y z hx hy hz _ _ _)
    (fun k a b i x y z hi => by simp only [spec_l11Region.F0, spec_l11Region.B0, selb, decide_eq_true_eq, Int.ofNat_lt, if_neg hi])
  rw [e]
  cases ha : l.toL.any isL with
  | false => exact ⟨_, rfl, rgL_of (by rw [ha]; rfl) (by rw [ha]; simpa using hx) hy hz⟩
  | true =>
    cases hb : l.toL.any isR with
    | false => exact ⟨_, rfl, rgL_of (by rw [ha, hb]; rfl) (by rw [ha, hb]; simpa using hx) hy hz⟩
    | true => exact ⟨_, rfl, rgL_of (by rw [ha, hb]; rfl) (by rw [ha, hb]; rfl) hy hz⟩
theorem impl_reg_ok (l : Vec Pr) (hl : l.n ≤ 1000) : ∃ r, impl_regionOf.F l = some r ∧ rgL r = regOf l.toL := by
  rw [impl_regionOf.F, impl_regionOf.B]
  obtain ⟨x, y, z, e, hx, hy, hz⟩ := reg_loop l hl (fun k a b i x y z => impl_regionOf.F0 k a b l (l.n : Int) i false false x y z (fun e01 e02 e03 e04 e05 e06 e07 => sel (e01) (sel (e02) (some (true, (Vec.nil : Vec ByteArray), e06, e07)) (some (e04, e05, e06, e07))) (some (e04, e05, e06, e07))))
    (fun a b x y z => sel a (sel b (some (true, Vec.nil, y, z)) (some (false, x, y, z))) (some (false, x, y, z)))
    (fun k a b i x y z hi hx hy hz => impl_reg_step k l a b i hi hl x y z hx hy hz _ _ _)
    (fun k a b i x y z hi => by simp only [impl_regionOf.F0, impl_regionOf.B0, selb, decide_eq_true_eq, Int.ofNat_lt, if_neg hi])
  rw [e]
  cases ha : l.toL.any isL with
  | false => exact ⟨_, rfl, rgL_of (by rw [ha]; rfl) (by rw [ha]; simpa using hx) hy hz⟩
  | true =>
    cases hb : l.toL.any isR with
    | false => exact ⟨_, rfl, rgL_of (by rw [ha, hb]; rfl) (by rw [ha, hb]; simpa using hx) hy hz⟩
    | true => exact ⟨_, rfl, rgL_of (by rw [ha, hb]; rfl) (by rw [ha, hb]; rfl) hy hz⟩
/-! ### All regions -/
def flsh (now : List Pr) : List RgL := if now = [] then [] else [regOf now]
def rgs : List Pr → List Pr → List RgL
  | [], now => flsh now
  | m :: l, now => if m.1 = 1 then flsh now ++ (false, [lnOf m], [], []) :: rgs l [] else rgs l (now ++ [m])
theorem rgs_at {v : Vec Pr} {i : Nat} (hi : i < v.n) (now : List Pr) : rgs (v.toL.drop i) now = if (v.g i).1 = 1 then flsh now ++ (false, [lnOf (v.g i)], [], []) :: rgs (v.toL.drop (i + 1)) [] else rgs (v.toL.drop (i + 1)) (now ++ [v.g i]) := by
  have h : v.toL.drop i = v.g i :: v.toL.drop (i + 1) := by
    rw [List.drop_eq_getElem_cons (by rw [Vec.toL_length]; exact hi)]
    congr 1
    exact (List.getElem_eq_iff _).2 (Vec.toL_get v i hi)
  rw [h, rgs]
theorem lit_Lg {A : Type} [Enc A] (out : Vec A) (x : A) : (Vec.app out (Vec.lit [x])).toL = out.toL ++ [x] := by rw [toL_app, toL_lit]
theorem nil_n {A : Type} {v : Vec A} (h : v.toL = []) : v.n = 0 := by rw [← Vec.toL_length, h]; rfl
abbrev Gok (v4 : Vec Rg) (L : List RgL) : Prop := v4.toL.map rgL = L
theorem spec_regions_loop {ρ : Type} (l : Vec Pr) (hl : l.n ≤ 300) (K0 : Int → Vec Rg → Option ρ) : ∃ o, spec_RegionsOf.F0 fuelN 0 0 l Vec.nil Vec.nil K0 = K0 0 o ∧ o.toL.map rgL = rgs l.toL [] ∧ o.n ≤ 700 := by
  have hM : maxN = 140737488355328 := rfl
  have hlit : ∀ x : Pr, (Vec.lit [x] : Vec Pr).n = 1 := fun _ => rfl
  have hlit2 : ∀ x : Rg, (Vec.lit [x] : Vec Rg).n = 1 := fun _ => rfl
  refine loop_inv (σ := Nat × Vec Rg × Vec Pr) (fun t => l.n + 1 - t.1) (fun t => t.2.1.n + (if 0 < t.2.2.n then 1 else 0) ≤ 2 * t.1 ∧ t.2.2.n ≤ t.1 ∧ ((t.1 ≤ l.n ∧ t.2.1.toL.map rgL ++ rgs (l.toL.drop t.1) t.2.2.toL = rgs l.toL []) ∨ (t.1 = l.n + 1 ∧ t.2.1.toL.map rgL = rgs l.toL [])))
    (fun _ x => ∃ o, x = K0 0 o ∧ o.toL.map rgL = rgs l.toL [] ∧ o.n ≤ 700) (fun k t => spec_RegionsOf.F0 k 0 (t.1 : Int) l t.2.1 t.2.2 K0) ?_ fuelN (0, Vec.nil, Vec.nil) (by simp only [fuelN]; omega)
    ⟨by simp [Vec.nil], Nat.le_refl _, .inl ⟨Nat.zero_le _, by simp [Vec.toL]⟩⟩
  rintro k ⟨i, out, now⟩ ⟨hn1, hn2, hi⟩ ih
  simp only at hn1 hn2 hi ⊢
  rcases hi with ⟨hi, hv⟩ | ⟨hi, hv⟩
  · have hile : (i : Int) ≤ (l.n : Int) := by omega
    have hout : out.n ≤ 600 := by split at hn1 <;> omega
    by_cases hlt : i < l.n
    · rw [rgs_at hlt] at hv
      by_cases hk : (l.g i).1 = 1
      · rw [if_pos hk] at hv
        by_cases hnow : 0 < now.n
        · obtain ⟨r, e, hr⟩ := spec_reg_ok now (by omega)
          rw [if_pos hnow] at hn1
          simp only [spec_RegionsOf.F0, spec_RegionsOf.B0, selb, chkb, decide_eq_true_eq, Int.toNat_natCast, Int.ofNat_lt, Int.natCast_nonneg, true_and, if_pos hlt, if_pos hile, hlit, hlit2, if_true, hk, decide_true, Bool.not_true, Bool.false_eq_true, if_false, e, Option.bind_some, wr_succ (i := i) (by omega),
            if_pos (show (0 : Int) < (now.n : Int) by omega), if_pos (show (out.n + 1) * 81 ≤ maxN by omega), if_pos (show ((Vec.app out (Vec.lit [(r.1, r.2.1, r.2.2.1, r.2.2.2)] : Vec Rg)).n + 1) * 81 ≤ maxN by show (out.n + 1 + 1) * 81 ≤ maxN; omega)]
          refine ih (i + 1, Vec.app (Vec.app out (Vec.lit [((r.1, r.2.1, r.2.2.1, r.2.2.2) : Rg)])) (Vec.lit [((false, Vec.lit [(l.g i).2.2.2], Vec.nil, Vec.nil) : Rg)]), Vec.nil) ⟨?_, Nat.zero_le _, .inl ⟨hlt, ?_⟩⟩ (by simp only; omega)
          · show out.n + 1 + 1 + 0 ≤ 2 * (i + 1)
            omega
          · simp only
            rw [lit_Lg, lit_Lg, List.map_append, List.map_append, ← hv]
            have hne : now.toL ≠ [] := fun h => by rw [nil_n h] at hnow; cases hnow
            simp only [flsh, if_neg hne, List.map_cons, List.map_nil, List.append_assoc, List.cons_append, List.nil_append]
            rw [show ((r.1, r.2.1, r.2.2.1, r.2.2.2) : Rg) = r from rfl, hr]
            rfl
        · rw [if_neg hnow] at hn1
          simp only [spec_RegionsOf.F0, spec_RegionsOf.B0, selb, chkb, decide_eq_true_eq, Int.toNat_natCast, Int.ofNat_lt, Int.natCast_nonneg, true_and, if_pos hlt, if_pos hile, hlit, hlit2, if_true, hk, decide_true, Bool.not_true, Bool.false_eq_true, if_false, wr_succ (i := i) (by omega),
            if_neg (show ¬ (0 : Int) < (now.n : Int) by omega), if_pos (show (out.n + 1) * 81 ≤ maxN by omega)]
          refine ih (i + 1, Vec.app out (Vec.lit [((false, Vec.lit [(l.g i).2.2.2], Vec.nil, Vec.nil) : Rg)]), Vec.nil) ⟨?_, Nat.zero_le _, .inl ⟨hlt, ?_⟩⟩ (by simp only; omega)
          · show out.n + 1 + 0 ≤ 2 * (i + 1)
            omega
          · simp only
            have hne : now.toL = [] := List.eq_nil_of_length_eq_zero (by rw [Vec.toL_length]; omega)
            rw [lit_Lg, List.map_append, ← hv]
            simp only [flsh, hne, if_true, List.map_cons, List.map_nil, List.append_assoc, List.cons_append, List.nil_append]
            rfl
      · rw [if_neg hk] at hv
        simp only [spec_RegionsOf.F0, spec_RegionsOf.B0, selb, chkb, decide_eq_true_eq, Int.toNat_natCast, Int.ofNat_lt, Int.natCast_nonneg, true_and, if_pos hlt, if_pos hile, hlit, hlit2, if_true, decide_eq_false hk, Bool.not_false, wr_succ (i := i) (by omega),
          if_pos (show (now.n + 1) * 41 ≤ maxN by omega)]
        refine ih (i + 1, out, Vec.app now (Vec.lit [((l.g i).1, (l.g i).2.1, (l.g i).2.2.1, (l.g i).2.2.2)])) ⟨?_, by show now.n + 1 ≤ i + 1; omega, .inl ⟨hlt, ?_⟩⟩ (by simp only; omega)
        · show out.n + (if 0 < now.n + 1 then 1 else 0) ≤ 2 * (i + 1)
          split at hn1 <;> simp <;> omega
        · simp only
          rw [lit_Lg, ← hv]
    · have e : i = l.n := by omega
      have hd : l.toL.drop i = [] := List.drop_eq_nil_of_le (by rw [Vec.toL_length]; omega)
      rw [hd, rgs] at hv
      have hlt' : ¬ (i : Int) < (l.n : Int) := by omega
      by_cases hnow : 0 < now.n
      · obtain ⟨r, e, hr⟩ := spec_reg_ok now (by omega)
        rw [if_pos hnow] at hn1
        simp only [spec_RegionsOf.F0, spec_RegionsOf.B0, selb, chkb, decide_eq_true_eq, if_neg hlt', if_pos hile, hlit, hlit2, if_true, e, Option.bind_some, wr_succ (i := i) (by omega),
          if_pos (show (0 : Int) < (now.n : Int) by omega), if_pos (show (out.n + 1) * 81 ≤ maxN by omega)]
        refine ih (i + 1, Vec.app out (Vec.lit [((r.1, r.2.1, r.2.2.1, r.2.2.2) : Rg)]), Vec.nil) ⟨?_, Nat.zero_le _, .inr ⟨by omega, ?_⟩⟩ (by simp only; omega)
        · show out.n + 1 + 0 ≤ 2 * (i + 1)
          omega
        · simp only
          have hne : now.toL ≠ [] := fun h => by rw [nil_n h] at hnow; cases hnow
          rw [lit_Lg, List.map_append, ← hv]
          simp only [flsh, if_neg hne, List.map_cons, List.map_nil]
          rw [show ((r.1, r.2.1, r.2.2.1, r.2.2.2) : Rg) = r from rfl, hr]
      · rw [if_neg hnow] at hn1
        simp only [spec_RegionsOf.F0, spec_RegionsOf.B0, selb, chkb, decide_eq_true_eq, if_neg hlt', if_pos hile, if_true, wr_succ (i := i) (by omega), if_neg (show ¬ (0 : Int) < (now.n : Int) by omega)]
        have hne : now.toL = [] := List.eq_nil_of_length_eq_zero (by rw [Vec.toL_length]; omega)
        refine ih (i + 1, out, Vec.nil) ⟨?_, Nat.zero_le _, .inr ⟨by omega, ?_⟩⟩ (by simp only; omega)
        · show out.n + 0 ≤ 2 * (i + 1)
          omega
        · simp only
          rw [← hv, flsh, if_pos hne, List.append_nil]
  · have hile : ¬ (i : Int) ≤ (l.n : Int) := by omega
    simp only [spec_RegionsOf.F0, spec_RegionsOf.B0, selb, decide_eq_true_eq, if_neg hile]
    exact ⟨out, rfl, hv, by split at hn1 <;> omega⟩
theorem flush_ok (now : Vec Pr) (hn : now.n ≤ 1000) (out : Vec Rg) (ho : out.n ≤ 1000) : ∃ o, impl_Weave_regionsOf_1_sfaa7.F now out = some (now, o) ∧ o.toL.map rgL = out.toL.map rgL ++ flsh now.toL ∧ o.n = out.n + (if 0 < now.n then 1 else 0) := by
  have hM : maxN = 140737488355328 := rfl
  have hlit2 : ∀ x : Rg, (Vec.lit [x] : Vec Rg).n = 1 := fun _ => rfl
  rw [impl_Weave_regionsOf_1_sfaa7.F, impl_Weave_regionsOf_1_sfaa7.B, selb]
  by_cases hnow : 0 < now.n
  · obtain ⟨r, e, hr⟩ := impl_reg_ok now hn
    rw [if_pos (by simpa using hnow), e, Option.bind_some, hlit2, chkb, if_pos (by rw [decide_eq_true_eq]; omega)]
    have hne : now.toL ≠ [] := fun h => by rw [nil_n h] at hnow; cases hnow
    refine ⟨_, rfl, ?_, by rw [if_pos hnow]; rfl⟩
    rw [lit_Lg, List.map_append, flsh, if_neg hne, show ((r.1, r.2.1, r.2.2.1, r.2.2.2) : Rg) = r from rfl, List.map_cons, List.map_nil, hr]
  · rw [if_neg (by simpa using hnow)]
    have hne : now.toL = [] := List.eq_nil_of_length_eq_zero (by rw [Vec.toL_length]; omega)
    exact ⟨_, rfl, by rw [flsh, if_pos hne, List.append_nil], by rw [if_neg hnow]; rfl⟩
theorem impl_regions_loop {ρ : Type} (l : Vec Pr) (hl : l.n ≤ 300) (K0 : Vec Rg → Vec Pr → Option ρ) : ∃ o now, impl_Weave_regionsOf.F0 fuelN (l.n : Int) 0 l Vec.nil Vec.nil K0 = K0 o now ∧ o.toL.map rgL ++ flsh now.toL = rgs l.toL [] ∧ o.n ≤ 600 ∧ now.n ≤ 300 := by
  have hM : maxN = 140737488355328 := rfl
  have hlit : ∀ x : Pr, (Vec.lit [x] : Vec Pr).n = 1 := fun _ => rfl
  have hlit2 : ∀ x : Rg, (Vec.lit [x] : Vec Rg).n = 1 := fun _ => rfl
  refine loop_inv (σ := Nat × Vec Rg × Vec Pr) (fun t => l.n - t.1) (fun t => t.2.1.n + (if 0 < t.2.2.n then 1 else 0) ≤ 2 * t.1 ∧ t.2.2.n ≤ t.1 ∧ t.1 ≤ l.n ∧ t.2.1.toL.map rgL ++ rgs (l.toL.drop t.1) t.2.2.toL = rgs l.toL [])
    (fun _ x => ∃ o now, x = K0 o now ∧ o.toL.map rgL ++ flsh now.toL = rgs l.toL [] ∧ o.n ≤ 600 ∧ now.n ≤ 300) (fun k t => impl_Weave_regionsOf.F0 k (l.n : Int) (t.1 : Int) l t.2.1 t.2.2 K0) ?_ fuelN (0, Vec.nil, Vec.nil) (by simp only [fuelN]; omega)
    ⟨by simp [Vec.nil], Nat.le_refl _, Nat.zero_le _, by simp [Vec.toL]⟩
  rintro k ⟨i, out, now⟩ ⟨hn1, hn2, hi, hv⟩ ih
  simp only at hn1 hn2 hi hv ⊢
  have hout : out.n ≤ 600 := by split at hn1 <;> omega
  by_cases hlt : i < l.n
  · rw [rgs_at hlt] at hv
    by_cases hk : (l.g i).1 = 1
    · rw [if_pos hk] at hv
      obtain ⟨o, e, ho1, ho2⟩ := flush_ok now (by omega) out (by omega)
      simp only [impl_Weave_regionsOf.F0, impl_Weave_regionsOf.B0, selb, chkb, decide_eq_true_eq, Int.toNat_natCast, Int.ofNat_lt, Int.natCast_nonneg, true_and, if_pos hlt, hlit, hlit2, if_true, hk, decide_true, Bool.not_true, Bool.false_eq_true, if_false, e, Option.bind_some, wr_succ (i := i) (by omega),
        if_pos (show (o.n + 1) * 81 ≤ maxN by split at ho2 <;> omega)]
      refine ih (i + 1, Vec.app o (Vec.lit [((false, Vec.lit [(l.g i).2.2.2], Vec.nil, Vec.nil) : Rg)]), Vec.nil) ⟨?_, Nat.zero_le _, hlt, ?_⟩ (by simp only; omega)
      · show o.n + 1 + 0 ≤ 2 * (i + 1)
        omega
      · simp only
        rw [lit_Lg, List.map_append, ho1, ← hv]
        simp only [List.map_cons, List.map_nil, List.append_assoc, List.cons_append, List.nil_append]
        rfl
    · rw [if_neg hk] at hv
      simp only [impl_Weave_regionsOf.F0, impl_Weave_regionsOf.B0, selb, chkb, decide_eq_true_eq, Int.toNat_natCast, Int.ofNat_lt, Int.natCast_nonneg, true_and, if_pos hlt, hlit, hlit2, if_true, decide_eq_false hk, Bool.not_false, wr_succ (i := i) (by omega),
        if_pos (show (now.n + 1) * 41 ≤ maxN by omega)]
      refine ih (i + 1, out, Vec.app now (Vec.lit [((l.g i).1, (l.g i).2.1, (l.g i).2.2.1, (l.g i).2.2.2)])) ⟨?_, by show now.n + 1 ≤ i + 1; omega, hlt, ?_⟩ (by simp only; omega)
      · show out.n + (if 0 < now.n + 1 then 1 else 0) ≤ 2 * (i + 1)
        split at hn1 <;> simp <;> omega
      · simp only
        rw [lit_Lg, ← hv]
  · have hd : l.toL.drop i = [] := List.drop_eq_nil_of_le (by rw [Vec.toL_length]; omega)
    rw [hd, rgs] at hv
    simp only [impl_Weave_regionsOf.F0, impl_Weave_regionsOf.B0, selb, decide_eq_true_eq, Int.ofNat_lt, if_neg hlt]
    exact ⟨out, now, rfl, hv, hout, by omega⟩
theorem impl_regionsOf_ok (P : Gr) (B : Vec Bd) (hB : dSml B) (hw : wvGood P B) (i j : Nat) (hi : i < P.n) (hj : j < P.n) : ∃ q, impl_Weave_regionsOf.F P B (i : Int) (j : Int) = some q ∧ q.toL.map rgL = rgs ((cmpN B (Cl P i) (Cl P j) B.n).map (markOf (Cl P i) (Cl P j))) [] ∧ q.n ≤ 700 := by
  rw [impl_Weave_regionsOf.F, impl_Weave_regionsOf.B]
  obtain ⟨m, e1, hm⟩ := impl_marksOf_ok P B hB hw i j hi hj
  have hmn : m.n ≤ 300 := by rw [← Vec.toL_length, hm, List.length_map]; exact Nat.le_trans (cmpN_len _ _ _ _) hw.2.1
  obtain ⟨o, now, e2, h2, h3, h4⟩ := impl_regions_loop m hmn (fun e01 e02 => (impl_Weave_regionsOf_1_sfaa7.F e02 e01).bind fun r2 => some r2.2)
  obtain ⟨q, e3, h5, h6⟩ := flush_ok now (by omega) o (by omega)
  rw [e1, Option.bind_some, e2, e3, Option.bind_some]
  refine ⟨q, rfl, by rw [h5, h2, hm], by split at h6 <;> omega⟩
/-- RegionsOf, case by case. -/
theorem Regions_cases (P : Gr) (hP : P.n ≤ 1048576) (B : Vec Bd) (hB : dSml B) (a b : Int) :
    (∃ code, code ≠ 0 ∧ (code = 1 ∨ code = 2) ∧ spec_RegionsOf.F P B a b = some (code, Vec.nil) ∧ impl_RegionsOf.F P B a b = some (code, Vec.nil)) ∨
    (wvGood P B ∧ ∃ (i j : Nat) (r q : Vec Rg), a = i ∧ b = j ∧ i < P.n ∧ j < P.n ∧ spec_RegionsOf.F P B a b = some (0, r) ∧ impl_RegionsOf.F P B a b = some (0, q) ∧
      r.toL.map rgL = rgs ((cmpN B (Cl P i) (Cl P j) B.n).map (markOf (Cl P i) (Cl P j))) [] ∧ q.toL.map rgL = r.toL.map rgL ∧ r.n ≤ 700) := by
  have nilL : ∀ code : Int, code ≠ 0 → ∀ K0 : Int → Vec Rg → Option (Int × Vec Rg), spec_RegionsOf.F0 fuelN code 0 Vec.nil Vec.nil Vec.nil K0 = K0 code Vec.nil := fun code hc K0 => by
    obtain ⟨f, hf⟩ : ∃ f, fuelN = f + 1 := ⟨fuelN - 1, by unfold fuelN; omega⟩
    rw [hf, spec_RegionsOf.F0, spec_RegionsOf.B0, selb, if_pos (by simp), selb, if_neg (by simpa using hc)]
  rw [spec_RegionsOf.F, spec_RegionsOf.B, impl_RegionsOf.F, impl_RegionsOf.B]
  rcases spec_MarksOf_cases P hP B hB a b with ⟨h, e1⟩ | ⟨h, h2, e1⟩ | ⟨hw, i, j, r, rfl, rfl, hi, hj, e1, hr⟩
  · rcases vcode_two P hP B hB a b with ⟨-, e2⟩ | ⟨h3, -⟩ | ⟨h3, -⟩
    · rw [e1, e2, Option.bind_some, Option.bind_some]
      exact .inl ⟨1, by decide, .inl rfl, nilL 1 (by decide) _, rfl⟩
    · exact absurd h3 h
    · exact absurd h3 h
  · rcases vcode_two P hP B hB a b with ⟨h3, e2⟩ | ⟨-, -, e2⟩ | ⟨-, h3, -⟩
    · exact absurd h h3
    · rw [e1, e2, Option.bind_some, Option.bind_some]
      exact .inl ⟨2, by decide, .inr rfl, nilL 2 (by decide) _, rfl⟩
    · exact absurd h3 h2
  · rcases vcode_two P hP B hB (i : Int) (j : Int) with ⟨h3, e2⟩ | ⟨-, h3, -⟩ | ⟨-, h3, e2⟩
    · exact absurd hw h3
    · exact absurd ⟨⟨by omega, by omega⟩, ⟨by omega, by omega⟩⟩ h3
    · have hrn : r.n ≤ 300 := by rw [← Vec.toL_length, hr, List.length_map]; exact Nat.le_trans (cmpN_len _ _ _ _) hw.2.1
      obtain ⟨o, e3, ho, hon⟩ := spec_regions_loop r hrn (fun e01 e02 => some (e01, e02))
      obtain ⟨q, e4, hq, hqn⟩ := impl_regionsOf_ok P B hB hw i j hi hj
      rw [e1, e2, e4, Option.bind_some, Option.bind_some]
      refine .inr ⟨hw, i, j, o, q, rfl, rfl, hi, hj, e3, rfl, by rw [ho, hr], by rw [hq, ho, hr], hon⟩
end Go.Al
