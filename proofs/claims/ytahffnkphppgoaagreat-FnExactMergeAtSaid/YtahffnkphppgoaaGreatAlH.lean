import Derived.Test.YtahffnkphppgoaaGreatAlE
set_option linter.unusedVariables false
set_option linter.unusedSimpArgs false
set_option linter.constructorNameAsVariable false
set_option linter.unusedSectionVars false
namespace Go.Al
section
variable {A : Type}
theorem toL_at (v : Vec A) (i : Nat) : v.toL[i]? = if i < v.n then some (v.g i) else none := by
  by_cases h : i < v.n
  · rw [Vec.toL_get v i h, if_pos h]
  · rw [if_neg h, List.getElem?_eq_none (by simpa using h)]
theorem toL_of {v : Vec A} {l : List A} (h1 : v.n = l.length) (h2 : ∀ i, i < v.n → l[i]? = some (v.g i)) : v.toL = l := by
  apply List.ext_getElem?
  intro i
  rw [toL_at]
  split
  · rename_i h; rw [h2 i h]
  · rename_i h; rw [List.getElem?_eq_none (by omega)]
theorem same_iff {v w : Vec A} : Vec.Same v w ↔ v.toL = w.toL := ⟨fun h => Vec.toL_ext h.1 h.2, Vec.of_toL⟩
end
section
variable {A : Type} [Enc A]
theorem toL_app (v w : Vec A) : (v.app w).toL = v.toL ++ w.toL := by
  refine toL_of ?_ fun t ht => ?_
  · show v.n + w.n = _
    simp
  · have ht : t < v.n + w.n := ht
    rw [List.getElem?_append, Vec.toL_length, Vec.app_g]
    split
    · rw [toL_at, if_pos (by omega)]
    · rw [toL_at, if_pos (by omega)]
theorem toL_lit (l : List A) : (Vec.lit l).toL = l := by
  refine toL_of rfl fun t ht => ?_
  have ht : t < l.length := ht
  show _ = some (Vec.litG l t)
  have key : ∀ (l : List A) (t : Nat), t < l.length → l[t]? = some (Vec.litG l t) := by
    intro l
    induction l with
    | nil => intro t h; simp at h
    | cons x l ih =>
      intro t h
      cases l with
      | nil =>
        have : t = 0 := by simpa using h
        subst this
        rfl
      | cons y l =>
        rw [Vec.litG, Enc.mrg_eq]
        cases t with
        | zero => simp [sel]
        | succ t => simpa [sel] using ih t (by simpa using h)
  exact key l t ht
end
class Sim (A : Type) where
  sim : A → A → Prop
  refl : ∀ a, sim a a
instance : Sim Int := ⟨Eq, fun _ => rfl⟩
instance : Sim Bool := ⟨Eq, fun _ => rfl⟩
instance : Sim ByteArray := ⟨Eq, fun _ => rfl⟩
instance {k : IntKind} : Sim (IK k) := ⟨Eq, fun _ => rfl⟩
instance {A B : Type} [Sim A] [Sim B] : Sim (A × B) := ⟨fun a b => Sim.sim a.1 b.1 ∧ Sim.sim a.2 b.2, fun a => ⟨Sim.refl _, Sim.refl _⟩⟩
instance {A : Type} [Sim A] : Sim (Vec A) := ⟨fun v w => v.n = w.n ∧ ∀ i, i < v.n → Sim.sim (v.g i) (w.g i), fun v => ⟨rfl, fun i _ => Sim.refl _⟩⟩
theorem Sim.same {A : Type} [Sim A] {v w : Vec A} (h : Vec.Same v w) : Sim.sim v w := ⟨h.1, fun i hi => by rw [h.2 i hi]; exact Sim.refl _⟩
def SimOk {A : Type} [Sml A] [Sim A] (F : A → A → Option Bool) : Prop := ∀ a b : A, Sml.sml a → Sim.sim a b → F a b = some true
section
variable {A : Type} [Enc A] [Bnd A] [Sml A] [Sim A]
theorem simS {C : A → A → Option Bool} (hC : SimOk C) {F : Vec A → Vec A → Option Bool} {F0 : Nat → Vec A → Vec A → Int → (Unit → Option Bool) → (Bool → Option Bool) → Option Bool}
    (h0 : ∀ k v w i K0 Kr, F0 (k + 1) v w i K0 Kr = sel (decide (i < (v.n : Int))) (chk (decide (0 ≤ i ∧ i < (v.n : Int))) (chk (decide (0 ≤ i ∧ i < (w.n : Int))) ((C (v.g i.toNat) (w.g i.toNat)).bind fun r => sel (!r) (Kr false) (F0 k v w (wr (i + 1)) K0 Kr)))) (K0 ()))
    (hF : ∀ v w, F v w = sel (!decide ((v.n : Int) = (w.n : Int))) (some false) (F0 fuelN v w 0 (fun _ => some true) some)) : SimOk F := by
  have hs : sN = 1048576 := rfl
  rintro v w ⟨hn, hg⟩ ⟨hvw, hsim⟩
  rw [hF]
  have e : decide ((v.n : Int) = (w.n : Int)) = true := by simp [hvw]
  simp only [selb, e, Bool.not_true, Bool.false_eq_true, if_false]
  refine zP (σ := Nat) (fun i => v.n - i) (fun i => i ≤ v.n) (fun _ x => x = some true) (fun k i => F0 k v w (i : Int) (fun _ => some true) some) ?_ fuelN 0 (by unfold fuelN; omega) (Nat.zero_le _)
  intro k i hi ih
  simp only [h0, selb, chkb, decide_eq_true_eq, Int.toNat_natCast, Int.ofNat_lt, Int.natCast_nonneg, true_and]
  by_cases hi2 : i < v.n
  · simp only [hi2, if_true, show i < w.n by omega, hC _ _ (hg i hi2) (hsim i hi2), Option.bind_some, zK (i := i) (by omega), Bool.not_true, Bool.false_eq_true, if_false]
    exact ih (i + 1) hi2 (by omega)
  · rw [if_neg hi2]
end
theorem sim_free {A : Type} [Sml A] [Sim A] {F : A → A → Option Bool} (hs : ∀ a b : A, Sim.sim a b → a = b) (h : ∀ a, F a a = some true) : SimOk F := fun a b _ hab => by rw [← hs a b hab]; exact h a
theorem Vec.set_set {A : Type} [Enc A] (v : Vec A) (k : Nat) (x y : A) : Vec.set (Vec.set v k x) k y = Vec.set v k y := by
  have h : (Vec.set (Vec.set v k x) k y).g = (Vec.set v k y).g := by
    funext i
    simp only [Vec.set_g]
    split <;> rfl
  have h2 : (Vec.set (Vec.set v k x) k y).n = (Vec.set v k y).n := rfl
  generalize Vec.set (Vec.set v k x) k y = a at *
  generalize Vec.set v k y = b at *
  obtain ⟨n, g⟩ := a
  obtain ⟨m, f⟩ := b
  simp only at h h2
  rw [h, h2]
def mN : Nat := 4611686018000000000
section
variable {E : Type} [Enc E]
theorem markS {c : Nat} (hc : c ≤ 16) {val : Int → E} {F0 : Nat → Int → Int → Vec E → (Int → Vec E → Option (Int × Vec E)) → Option (Int × Vec E)}
    (h0 : ∀ f (k i : Nat) (v : Vec E) K0, 1 ≤ k → k + c * (v.n - i) ≤ mN → v.n ≤ sN → F0 (f + 1) (k : Int) (i : Int) v K0 = if i < v.n then F0 f ((k + c : Nat) : Int) ((i + 1 : Nat) : Int) (v.set i (val (k : Int))) K0 else K0 (k : Int) v)
    (v : Vec E) (hn : v.n ≤ sN) (k : Nat) (hk : 1 ≤ k) (hkn : k + c * v.n ≤ mN) (K0 : Int → Vec E → Option (Int × Vec E)) :
    ∃ u : Vec E, u.n = v.n ∧ (∀ t, t < v.n → u.g t = val ((k + c * t : Nat) : Int)) ∧ F0 fuelN (k : Int) 0 v K0 = K0 ((k + c * v.n : Nat) : Int) u := by
  have hs : sN = 1048576 := rfl
  have := zP (σ := Nat × Vec E) (fun s => v.n - s.1) (fun s => s.1 ≤ v.n ∧ s.2.n = v.n ∧ ∀ t, t < s.1 → s.2.g t = val ((k + c * t : Nat) : Int))
    (fun _ x => ∃ u : Vec E, u.n = v.n ∧ (∀ t, t < v.n → u.g t = val ((k + c * t : Nat) : Int)) ∧ x = K0 ((k + c * v.n : Nat) : Int) u)
    (fun f s => F0 f ((k + c * s.1 : Nat) : Int) (s.1 : Int) s.2 K0) ?_ fuelN (0, v) (by show v.n - 0 < fuelN; unfold fuelN; omega) ⟨Nat.zero_le _, rfl, fun t ht => by omega⟩
  · simpa using this
  · rintro f ⟨i, u⟩ ⟨h1, h2, h3⟩ ih
    simp only at h1 h2 h3 ⊢
    have hle : c * i + c * (v.n - i) = c * v.n := by rw [← Nat.mul_add]; congr 1; omega
    rw [h0 f (k + c * i) i u K0 (by omega) (by rw [h2]; omega) (by omega), h2]
    by_cases hi : i < v.n
    · rw [if_pos hi]
      have h9 := ih (i + 1, u.set i (val ((k + c * i : Nat) : Int))) ⟨hi, by simpa using h2, fun t ht => by
        simp only [Vec.set_g]
        split
        · rename_i e; rw [e]
        · exact h3 t (by simp only at ht; omega)⟩ (by simp only; omega)
      simp only at h9
      rw [show k + c * (i + 1) = k + c * i + c by rw [Nat.mul_add]; omega] at h9
      exact h9
    · rw [if_neg hi]
      have e : i = v.n := by omega
      subst e
      exact ⟨u, h2, h3, rfl⟩
theorem heldS {c : Nat} (hc : c ≤ 16) {val : Int → E} {F0 : Nat → Vec E → Int → Int → (Int → Option Int) → (Int → Option Int) → Option Int}
    (h0 : ∀ f (k i : Nat) (v : Vec E) K0 Kr, 1 ≤ k → k + c * (v.n - i) ≤ mN → v.n ≤ sN → (i < v.n → v.g i = val (k : Int)) → F0 (f + 1) v (k : Int) (i : Int) K0 Kr = if i < v.n then F0 f v ((k + c : Nat) : Int) ((i + 1 : Nat) : Int) K0 Kr else K0 (k : Int))
    (u : Vec E) (hn : u.n ≤ sN) (k : Nat) (hk : 1 ≤ k) (hkn : k + c * u.n ≤ mN) (hu : ∀ t, t < u.n → u.g t = val ((k + c * t : Nat) : Int)) (K0 Kr : Int → Option Int) : F0 fuelN u (k : Int) 0 K0 Kr = K0 ((k + c * u.n : Nat) : Int) := by
  have hs : sN = 1048576 := rfl
  have := zP (σ := Nat) (fun s => u.n - s) (fun s => s ≤ u.n) (fun _ x => x = K0 ((k + c * u.n : Nat) : Int))
    (fun f s => F0 f u ((k + c * s : Nat) : Int) (s : Int) K0 Kr) ?_ fuelN 0 (by show u.n - 0 < fuelN; unfold fuelN; omega) (Nat.zero_le _)
  · simpa using this
  · intro f i h1 ih
    have hle : c * i + c * (u.n - i) = c * u.n := by rw [← Nat.mul_add]; congr 1; omega
    rw [h0 f (k + c * i) i u K0 Kr (by omega) (by omega) hn (hu i)]
    by_cases hi : i < u.n
    · rw [if_pos hi]
      have h9 := ih (i + 1) hi (by omega)
      rw [show k + c * (i + 1) = k + c * i + c by rw [Nat.mul_add]; omega] at h9
      exact h9
    · rw [if_neg hi]
      have e : i = u.n := by omega
      subst e
      rfl
end
def MarkOk {A : Type} [Sml A] (M : Int → A → Option (Int × A)) (H : A → Int → Option Int) : Prop := ∀ a, Sml.sml a → ∃ k u, M 1 a = some (k, u) ∧ 1 ≤ k ∧ H u 1 = some k
theorem zQ {x : Int} (h1 : -9223372036854775808 ≤ x) (h2 : x ≤ 9223372036854775807) : wr x = x := by unfold wr; rw [IntKind.wrap_i64]; omega
theorem mark_text {F0 : Nat → Int → ByteArray → (ByteArray → Option ByteArray) → Option ByteArray}
    (h0 : ∀ k v1 v2 K0, F0 (k + 1) v1 v2 K0 = sel (decide ((0 : Int) < v1)) (chk (okBytes (Vec.lit [⟨(IntKind.wrap .u8 (wr ((48 : Int) + (Int.tmod v1 (10 : Int)))))⟩] : Vec (IK .u8))) (chk (decide ((toBytes (Vec.lit [⟨(IntKind.wrap .u8 (wr ((48 : Int) + (Int.tmod v1 (10 : Int)))))⟩] : Vec (IK .u8))).size + v2.size ≤ maxN)) (F0 k (wr (Int.tdiv v1 (10 : Int))) ((toBytes (Vec.lit [⟨(IntKind.wrap .u8 (wr ((48 : Int) + (Int.tmod v1 (10 : Int)))))⟩] : Vec (IK .u8))) ++ v2) K0))) (K0 v2))
    {F : Int → Option ByteArray} (hF : ∀ a1, F a1 = sel (decide (a1 ≤ (0 : Int))) (some (ByteArray.mk #[109, 48])) (F0 fuelN a1 ByteArray.empty (fun e01 => chk (decide ((ByteArray.mk #[109]).size + e01.size ≤ maxN)) (some ((ByteArray.mk #[109]) ++ e01)))))
    (k : Nat) (hk1 : 1 ≤ k) (hk : k ≤ mN) : ∃ b, F (k : Int) = some b := by
  have hm : mN = 4611686018000000000 := rfl
  have hM : maxN = 140737488355328 := rfl
  rw [hF, selb, if_neg (by simp; omega)]
  refine zP (σ := Nat × ByteArray) (fun s => s.1) (fun s => s.1 * 10 ^ s.2.size ≤ mN ∧ s.2.size ≤ 20 ∧ s.1 ≤ mN) (fun _ x => ∃ b, x = some b)
    (fun f s => F0 f (s.1 : Int) s.2 (fun e01 => chk (decide ((ByteArray.mk #[109]).size + e01.size ≤ maxN)) (some ((ByteArray.mk #[109]) ++ e01)))) ?_ fuelN (k, ByteArray.empty) (by show k < fuelN; unfold fuelN; omega) ⟨by show k * 10 ^ ByteArray.empty.size ≤ mN; simp; omega, by show ByteArray.empty.size ≤ 20; simp, hk⟩
  rintro f ⟨n, s⟩ ⟨hi, hz, hnn⟩ ih
  simp only at hi hz hnn ⊢
  rw [h0, selb]
  by_cases hn : n = 0
  · subst hn
    rw [if_neg (by simp), chkb, if_pos (by simp only [decide_eq_true_eq]; show 1 + s.size ≤ maxN; omega)]
    exact ⟨_, rfl⟩
  · rw [if_pos (by simp; omega)]
    generalize hx : (⟨IntKind.wrap .u8 (wr ((48 : Int) + Int.tmod (n : Int) (10 : Int)))⟩ : IK .u8) = x
    have h1 : okBytes (Vec.lit [x] : Vec (IK .u8)) = true := by
      unfold okBytes
      rw [decide_eq_true_eq]
      intro i hi2
      rfl
    have h2 : (toBytes (Vec.lit [x] : Vec (IK .u8))).size = 1 := rfl
    rw [chkb, if_pos h1, chkb, h2, if_pos (by simp only [decide_eq_true_eq]; omega)]
    have h3 : wr (Int.tdiv (n : Int) 10) = ((n / 10 : Nat) : Int) := by
      rw [show Int.tdiv (n : Int) 10 = ((n / 10 : Nat) : Int) from rfl]
      exact zQ (by omega) (by omega)
    rw [h3]
    have hz2 : s.size ≤ 19 := by
      rcases Nat.lt_or_ge s.size 20 with h | h
      · omega
      · exfalso
        have h5 : 10 ^ 20 ≤ 10 ^ s.size := Nat.pow_le_pow_right (by decide) h
        have h6 : 1 * 10 ^ s.size ≤ n * 10 ^ s.size := Nat.mul_le_mul_right _ (by omega)
        have h7 : (10 : Nat) ^ 20 = 100000000000000000000 := by decide
        omega
    have h8 : n / 10 * 10 ^ (1 + s.size) ≤ mN := by
      have h9 : n / 10 * 10 * 10 ^ s.size ≤ n * 10 ^ s.size := Nat.mul_le_mul_right _ (by omega)
      rw [Nat.pow_add, Nat.pow_one, ← Nat.mul_assoc]
      omega
    refine ih (n / 10, toBytes (Vec.lit [x] : Vec (IK .u8)) ++ s) ⟨?_, ?_, by show n / 10 ≤ mN; omega⟩ (by show n / 10 < n; omega)
    · show n / 10 * 10 ^ (toBytes _ ++ s).size ≤ mN
      rw [ByteArray.size_append, h2]
      exact h8
    · show (toBytes _ ++ s).size ≤ 20
      rw [ByteArray.size_append, h2]
      omega
def MkOk {A : Type} [Sml A] (b : Nat) (M : Int → A → Option (Int × A)) (H : A → Int → Option Int) : Prop :=
  ∀ a, Sml.sml a → ∀ k : Nat, 1 ≤ k → k + b ≤ mN → ∃ (c : Nat) (u : A), c ≤ b ∧ M (k : Int) a = some (((k + c : Nat) : Int), u) ∧ H u (k : Int) = some ((k + c : Nat) : Int)
def MkTot {A : Type} [Sml A] (b : Nat) (M : Int → A → Option (Int × A)) : Prop :=
  ∀ a, Sml.sml a → ∀ k : Nat, 1 ≤ k → k + b ≤ mN → ∃ (c : Nat) (u : A), c ≤ b ∧ M (k : Int) a = some (((k + c : Nat) : Int), u)
theorem MkOk.mark {A : Type} [Sml A] {b : Nat} {M : Int → A → Option (Int × A)} {H : A → Int → Option Int} (h : MkOk b M H) (hb : b + 1 ≤ mN) : MarkOk M H := fun a ha => by
  obtain ⟨c, u, h1, h2, h3⟩ := h a ha 1 (Nat.le_refl _) (by omega)
  exact ⟨((1 + c : Nat) : Int), u, h2, by omega, h3⟩
section
variable {E : Type} [Enc E] [Sml E]
theorem mkTS {b : Nat} {M : Int → Vec E → Option (Int × Vec E)} {M0 : Nat → Int → Int → Vec E → (Int → Vec E → Option (Int × Vec E)) → Option (Int × Vec E)}
    (hm : ∀ f (k i : Nat) (v : Vec E) K0, i < v.n → v.n ≤ sN → Sml.sml (v.g i) → 1 ≤ k → k + b ≤ mN → ∃ (c : Nat) (e : E), c ≤ b ∧ M0 (f + 1) (k : Int) (i : Int) v K0 = M0 f ((k + c : Nat) : Int) ((i + 1 : Nat) : Int) (v.set i e) K0)
    (hm0 : ∀ f (k i : Nat) (v : Vec E) K0, ¬ i < v.n → M0 (f + 1) (k : Int) (i : Int) v K0 = K0 (k : Int) v)
    (hM : ∀ k v, M k v = M0 fuelN k 0 v (fun x1 x2 => some (x1, x2))) : MkTot (sN * b) M := by
  rintro v ⟨hn, hg⟩ k hk hk2
  have hs : sN = 1048576 := rfl
  rw [hM]
  have hle : ∀ i, i ≤ v.n → b * i ≤ sN * b := fun i hi => by rw [Nat.mul_comm]; exact Nat.mul_le_mul_right _ (by omega)
  refine zP (σ := Nat × Nat × Vec E) (fun s => v.n - s.1) (fun s => s.1 ≤ v.n ∧ s.2.2.n = v.n ∧ (∀ j, s.1 ≤ j → j < v.n → s.2.2.g j = v.g j) ∧ k ≤ s.2.1 ∧ s.2.1 ≤ k + b * s.1)
    (fun _ x => ∃ (c : Nat) (u : Vec E), c ≤ sN * b ∧ x = some (((k + c : Nat) : Int), u)) (fun f s => M0 f (s.2.1 : Int) (s.1 : Int) s.2.2 (fun x1 x2 => some (x1, x2))) ?_ fuelN (0, k, v) (by show v.n - 0 < fuelN; unfold fuelN; omega)
    ⟨Nat.zero_le _, rfl, fun _ _ _ => rfl, Nat.le_refl _, Nat.le_add_right _ _⟩
  rintro f ⟨i, q, u⟩ ⟨hi, hun, hsame, hq1, hq2⟩ ih
  simp only at hi hun hsame hq1 hq2 ⊢
  have h1 := hle i hi
  by_cases h : i < v.n
  · have h2 := hle (i + 1) h
    rw [Nat.mul_add, Nat.mul_one] at h2
    obtain ⟨c, e, e1, e2⟩ := hm f q i u (fun x1 x2 => some (x1, x2)) (by omega) (by omega) (by rw [hsame i (Nat.le_refl _) h]; exact hg i h) (by omega) (by omega)
    rw [e2]
    refine ih (i + 1, q + c, u.set i e) ⟨by simp only; omega, hun, fun j hj hj2 => ?_, (by show k ≤ q + c; omega), (by show q + c ≤ k + b * (i + 1); rw [Nat.mul_add]; omega)⟩ (by simp only; omega)
    simp only at hj ⊢
    rw [Vec.set_g, if_neg (by omega)]
    exact hsame j (by omega) hj2
  · rw [hm0 f q i u _ (by omega)]
    exact ⟨q - k, u, by omega, by rw [show k + (q - k) = q by omega]⟩
theorem mkHS {b : Nat} {M : Int → Vec E → Option (Int × Vec E)} {H : Vec E → Int → Option Int} {M0 : Nat → Int → Int → Vec E → (Int → Vec E → Option (Int × Vec E)) → Option (Int × Vec E)}
    {H0 : Nat → Vec E → Int → Int → (Int → Option Int) → (Int → Option Int) → Option Int}
    (hm : ∀ f (k i : Nat) (v : Vec E) K0, i < v.n → v.n ≤ sN → Sml.sml (v.g i) → 1 ≤ k → k + b ≤ mN → ∃ (c : Nat) (e : E), c ≤ b ∧ M0 (f + 1) (k : Int) (i : Int) v K0 = M0 f ((k + c : Nat) : Int) ((i + 1 : Nat) : Int) (v.set i e) K0 ∧
      ∀ f (u : Vec E) L0 Lr, i < u.n → u.n ≤ sN → u.g i = e → H0 (f + 1) u (k : Int) (i : Int) L0 Lr = H0 f u ((k + c : Nat) : Int) ((i + 1 : Nat) : Int) L0 Lr)
    (hm0 : ∀ f (k i : Nat) (v : Vec E) K0, ¬ i < v.n → M0 (f + 1) (k : Int) (i : Int) v K0 = K0 (k : Int) v)
    (hh0 : ∀ f (k i : Nat) (v : Vec E) L0 Lr, ¬ i < v.n → H0 (f + 1) v (k : Int) (i : Int) L0 Lr = L0 (k : Int))
    (hM : ∀ k v, M k v = M0 fuelN k 0 v (fun x1 x2 => some (x1, x2))) (hH : ∀ v k, H v k = H0 fuelN v k 0 (fun x1 => some x1) (fun x1 => some x1)) : MkOk (sN * b) M H := by
  rintro v ⟨hn, hg⟩ k hk hk2
  have hs : sN = 1048576 := rfl
  simp only [hM, hH]
  have hle : ∀ i, i ≤ v.n → b * i ≤ sN * b := fun i hi => by rw [Nat.mul_comm]; exact Nat.mul_le_mul_right _ (by omega)
  obtain ⟨g, hgf⟩ : ∃ g, fuelN = g + 1 + v.n := ⟨fuelN - v.n - 1, by unfold fuelN; omega⟩
  refine zP (σ := Nat × Nat × Vec E) (fun s => v.n - s.1) (fun s => s.1 ≤ v.n ∧ s.2.2.n = v.n ∧ (∀ j, s.1 ≤ j → j < v.n → s.2.2.g j = v.g j) ∧ k ≤ s.2.1 ∧ s.2.1 ≤ k + b * s.1 ∧
      ∀ w : Vec E, w.n = v.n → (∀ j, j < s.1 → w.g j = s.2.2.g j) → ∀ f L0 Lr, H0 (f + s.1) w (k : Int) 0 L0 Lr = H0 f w (s.2.1 : Int) (s.1 : Int) L0 Lr)
    (fun _ x => ∃ (c : Nat) (u : Vec E), c ≤ sN * b ∧ x = some (((k + c : Nat) : Int), u) ∧ H0 fuelN u (k : Int) 0 (fun x1 => some x1) (fun x1 => some x1) = some ((k + c : Nat) : Int)) (fun f s => M0 f (s.2.1 : Int) (s.1 : Int) s.2.2 (fun x1 x2 => some (x1, x2))) ?_ fuelN (0, k, v) (by show v.n - 0 < fuelN; unfold fuelN; omega)
    ⟨Nat.zero_le _, rfl, fun _ _ _ => rfl, Nat.le_refl _, Nat.le_add_right _ _, fun _ _ _ _ _ _ => rfl⟩
  rintro f ⟨i, q, u⟩ ⟨hi, hun, hsame, hq1, hq2, hheld⟩ ih
  simp only at hi hun hsame hq1 hq2 hheld ⊢
  have h1 := hle i hi
  by_cases h : i < v.n
  · have h2 := hle (i + 1) h
    rw [Nat.mul_add, Nat.mul_one] at h2
    obtain ⟨c, e, e1, e2, e3⟩ := hm f q i u (fun x1 x2 => some (x1, x2)) (by omega) (by omega) (by rw [hsame i (Nat.le_refl _) h]; exact hg i h) (by omega) (by omega)
    rw [e2]
    refine ih (i + 1, q + c, u.set i e) ⟨by simp only; omega, hun, fun j hj hj2 => ?_, (by show k ≤ q + c; omega), (by show q + c ≤ k + b * (i + 1); rw [Nat.mul_add]; omega), fun w hw hj f L0 Lr => ?_⟩ (by simp only; omega)
    · simp only at hj ⊢
      rw [Vec.set_g, if_neg (by omega)]
      exact hsame j (by omega) hj2
    · simp only at hj ⊢
      rw [show f + (i + 1) = (f + 1) + i by omega, hheld w hw (fun j h3 => ?_) (f + 1) L0 Lr]
      · refine e3 f w L0 Lr (by omega) (by omega) ?_
        rw [hj i (by omega), Vec.set_g, if_pos rfl]
      · rw [hj j (by omega), Vec.set_g, if_neg (by omega)]
  · rw [hm0 f q i u _ (by omega)]
    refine ⟨q - k, u, by omega, by rw [show k + (q - k) = q by omega], ?_⟩
    obtain rfl : i = v.n := by omega
    rw [hgf, hheld u hun (fun _ _ => rfl), hh0 g q v.n u _ _ (by omega), show k + (q - k) = q by omega]
theorem mk_flat {c : Nat} (hc : c ≤ 16) {val : Int → E} {M : Int → Vec E → Option (Int × Vec E)} {H : Vec E → Int → Option Int} {M0 : Nat → Int → Int → Vec E → (Int → Vec E → Option (Int × Vec E)) → Option (Int × Vec E)}
    {H0 : Nat → Vec E → Int → Int → (Int → Option Int) → (Int → Option Int) → Option Int}
    (h0 : ∀ f (k i : Nat) (v : Vec E) K0, 1 ≤ k → k + c * (v.n - i) ≤ mN → v.n ≤ sN → M0 (f + 1) (k : Int) (i : Int) v K0 = if i < v.n then M0 f ((k + c : Nat) : Int) ((i + 1 : Nat) : Int) (v.set i (val (k : Int))) K0 else K0 (k : Int) v)
    (g0 : ∀ f (k i : Nat) (v : Vec E) K0 Kr, 1 ≤ k → k + c * (v.n - i) ≤ mN → v.n ≤ sN → (i < v.n → v.g i = val (k : Int)) → H0 (f + 1) v (k : Int) (i : Int) K0 Kr = if i < v.n then H0 f v ((k + c : Nat) : Int) ((i + 1 : Nat) : Int) K0 Kr else K0 (k : Int))
    (hM : ∀ k v, M k v = M0 fuelN k 0 v (fun x1 x2 => some (x1, x2))) (hH : ∀ v k, H v k = H0 fuelN v k 0 (fun x1 => some x1) (fun x1 => some x1)) : MkOk (c * sN) M H := by
  rintro a ⟨hn, -⟩ k hk hk2
  have hle : c * a.n ≤ c * sN := Nat.mul_le_mul_left _ hn
  obtain ⟨u, h1, h2, h3⟩ := markS hc h0 a hn k hk (by omega) (fun x1 x2 => some (x1, x2))
  have h4 := heldS hc g0 u (by rw [h1]; exact hn) k hk (by rw [h1]; omega) (by rw [h1]; exact h2) (fun x1 => some x1) (fun x1 => some x1)
  rw [h1] at h4
  exact ⟨c * a.n, u, hle, by rw [hM]; exact h3, by rw [hH]; exact h4⟩
theorem mt_flat {c : Nat} (hc : c ≤ 16) {val : Int → E} {M : Int → Vec E → Option (Int × Vec E)} {M0 : Nat → Int → Int → Vec E → (Int → Vec E → Option (Int × Vec E)) → Option (Int × Vec E)}
    (h0 : ∀ f (k i : Nat) (v : Vec E) K0, 1 ≤ k → k + c * (v.n - i) ≤ mN → v.n ≤ sN → M0 (f + 1) (k : Int) (i : Int) v K0 = if i < v.n then M0 f ((k + c : Nat) : Int) ((i + 1 : Nat) : Int) (v.set i (val (k : Int))) K0 else K0 (k : Int) v)
    (hM : ∀ k v, M k v = M0 fuelN k 0 v (fun x1 x2 => some (x1, x2))) : MkTot (c * sN) M := by
  rintro a ⟨hn, -⟩ k hk hk2
  have hle : c * a.n ≤ c * sN := Nat.mul_le_mul_left _ hn
  obtain ⟨u, h1, h2, h3⟩ := markS hc h0 a hn k hk (by omega) (fun x1 x2 => some (x1, x2))
  exact ⟨c * a.n, u, hle, by rw [hM]; exact h3⟩
end
def ToOkP {A R : Type} [Sml A] (f : R → A) (F : A → Option R) : Prop := ∀ a : A, Sml.sml a → ∃ b, F a = some b ∧ Sml.sml (f b)
section
variable {A : Type} [Enc A] [Sml A]
theorem toSP {R : Type} {f : R → A} {B : Int → Bool} (hB : ∀ n : Nat, n ≤ sN → B n = true) {C : A → Option R} (hC : ToOkP f C) {z : A} {F : Vec A → Option (Vec A)} {F0 : Nat → Vec A → Int → Vec A → (Vec A → Option (Vec A)) → Option (Vec A)}
    (h0 : ∀ k v i u K0, F0 (k + 1) v i u K0 = sel (decide (i < (v.n : Int))) (chk (decide (0 ≤ i ∧ i < (v.n : Int))) ((C (v.g i.toNat)).bind fun r => chk (decide (0 ≤ i ∧ i < (u.n : Int))) (chk (decide (i.toNat < u.n)) (F0 k v (wr (i + 1)) (Vec.set u i.toNat (f r)) K0)))) (K0 u))
    (hF : ∀ v, F v = chk (decide ((v.n : Int) = (v.n : Int) ∧ 0 ≤ (v.n : Int))) (chk (B (v.n : Int)) (F0 fuelN v 0 (Vec.rep v.n z) some))) : ToOk F := by
  have hs : sN = 1048576 := rfl
  rintro v ⟨hn, hg⟩
  rw [hF, chkb, if_pos (by simp), chkb, if_pos (hB _ hn)]
  refine zP (σ := Nat × Vec A) (fun p => v.n - p.1) (fun p => p.1 ≤ v.n ∧ p.2.n = v.n ∧ ∀ j, j < p.1 → Sml.sml (p.2.g j)) (fun _ x => ∃ b, x = some b ∧ Sml.sml b)
    (fun k p => F0 k v (p.1 : Int) p.2 some) ?_ fuelN (0, Vec.rep v.n z) (by unfold fuelN; omega) ⟨Nat.zero_le _, rfl, fun j hj => by omega⟩
  rintro k ⟨i, u⟩ ⟨h1, h2, h3⟩ ih
  simp only at h1 h2 h3
  simp only [h0, selb, chkb, decide_eq_true_eq, Int.toNat_natCast, Int.ofNat_lt, Int.natCast_nonneg, true_and, h2]
  by_cases hi : i < v.n
  · obtain ⟨b, hb, hb2⟩ := hC (v.g i) (hg i hi)
    simp only [hi, if_true, hb, Option.bind_some, zK (i := i) (by omega)]
    refine ih (i + 1, Vec.set u i (f b)) ⟨hi, h2, fun j hj => ?_⟩ (by simp only; omega)
    show Sml.sml ((Vec.set u i (f b)).g j)
    rw [Vec.set_g]
    split
    · exact hb2
    · exact h3 j (by simp only at hj; omega)
  · rw [if_neg hi]
    exact ⟨u, rfl, show u.n ≤ sN by rw [h2]; exact hn, fun j hj => h3 j (by omega)⟩
end
end Go.Al
