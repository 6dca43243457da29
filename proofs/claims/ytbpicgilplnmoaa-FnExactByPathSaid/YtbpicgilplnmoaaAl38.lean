import Derived.Test.YtbpicgilplnmoaaAl37
set_option linter.unusedVariables false
set_option linter.unusedSimpArgs false
set_option linter.unusedSectionVars false
namespace Go.Al

/-! ### 52. The printed functions as plain ones -/
theorem selb {α : Type} (b : Bool) (x y : α) : sel b x y = if b = true then x else y := by cases b <;> rfl
theorem chkb {α : Type} (b : Bool) (x : Option α) : chk b x = if b = true then x else none := by cases b <;> rfl
theorem chk_true {α : Type} {b : Bool} {x : Option α} (h : b = true) : chk b x = x := by subst h; rfl
theorem wr_id {x : Int} (h1 : -9223372036854775808 ≤ x) (h2 : x ≤ 9223372036854775807) : wr x = x := by
  simp [IntKind.wrap, IntKind.signed, IntKind.bits] <;> (try split) <;> omega
theorem wr_succ {i : Nat} (h : i < 4611686018427387904) : wr ((i : Int) + 1) = ((i + 1 : Nat) : Int) := by
  rw [wr_id (by omega) (by omega)]; rfl
theorem wr_pred {i : Nat} (h0 : 0 < i) (h : i < 4611686018427387904) : wr ((i : Int) - 1) = ((i - 1 : Nat) : Int) := by
  rw [wr_id (by omega) (by omega)]; omega
theorem wr_range (x : Int) : -9223372036854775808 ≤ wr x ∧ wr x ≤ 9223372036854775807 := by
  constructor <;> simp [IntKind.wrap, IntKind.signed, IntKind.bits] <;> (try split) <;> omega
section
variable {A : Type} [Enc A]
@[simp] theorem Vec.set_n (v : Vec A) (k : Nat) (x : A) : (Vec.set v k x).n = v.n := rfl
@[simp] theorem Vec.set_g (v : Vec A) (k : Nat) (x : A) (i : Nat) : (Vec.set v k x).g i = if i = k then x else v.g i := by
  simp only [Vec.set, Enc.mrg_eq, selb, decide_eq_true_eq]
@[simp] theorem Vec.app_n (v w : Vec A) : (Vec.app v w).n = v.n + w.n := rfl
@[simp] theorem Vec.app_g (v w : Vec A) (i : Nat) : (Vec.app v w).g i = if i < v.n then v.g i else w.g (i - v.n) := by
  simp only [Vec.app, Enc.mrg_eq, selb, decide_eq_true_eq]
@[simp] theorem Vec.rep_n (n : Nat) (x : A) : (Vec.rep n x).n = n := rfl
@[simp] theorem Vec.rep_g (n : Nat) (x : A) (i : Nat) : (Vec.rep n x).g i = x := rfl
@[simp] theorem Vec.sub_n (v : Vec A) (l h : Nat) : (Vec.sub v l h).n = h - l := rfl
@[simp] theorem Vec.sub_g (v : Vec A) (l h i : Nat) : (Vec.sub v l h).g i = v.g (l + i) := rfl
@[simp] theorem Vec.nil_n : (Vec.nil : Vec A).n = 0 := rfl
@[simp] theorem Vec.lit_n (l : List A) : (Vec.lit l).n = l.length := rfl
end
/-- What a slice holds. -/
def Vec.toL {A : Type} (v : Vec A) : List A := (List.range v.n).map v.g
@[simp] theorem Vec.toL_length {A : Type} (v : Vec A) : v.toL.length = v.n := by simp [Vec.toL]
theorem Vec.toL_get {A : Type} (v : Vec A) (i : Nat) (h : i < v.n) : v.toL[i]? = some (v.g i) := by simp [Vec.toL, h]
theorem Vec.toL_ext {A : Type} {v w : Vec A} (h : v.n = w.n) (h2 : ∀ i, i < v.n → v.g i = w.g i) : v.toL = w.toL := by
  unfold Vec.toL
  rw [← h]
  exact List.map_congr_left fun i hi => h2 i (List.mem_range.1 hi)
theorem Vec.of_toL {A : Type} {v w : Vec A} (h : v.toL = w.toL) : v.n = w.n ∧ ∀ i, i < v.n → v.g i = w.g i := by
  have hn : v.n = w.n := by have := congrArg List.length h; simpa using this
  refine ⟨hn, fun i hi => ?_⟩
  have := congrArg (·[i]?) h
  simp only [Vec.toL_get v i hi, Vec.toL_get w i (hn ▸ hi)] at this
  simpa using this
/-- The same as far as they reach. -/
def Vec.Same {A : Type} (v w : Vec A) : Prop := v.n = w.n ∧ ∀ i, i < v.n → v.g i = w.g i

/-- A loop with an invariant and a measure. -/
theorem loop_inv {σ : Type} {τ : Type} (m : σ → Nat) (Inv : σ → Prop) (Post : σ → τ → Prop) (F : Nat → σ → τ)
    (hstep : ∀ k s, Inv s → (∀ s', Inv s' → m s' < m s → Post s' (F k s')) → Post s (F (k + 1) s)) : ∀ k s, m s < k → Inv s → Post s (F k s) := by
  intro k
  induction k with
  | zero => intro s h; omega
  | succ k ih => exact fun s hm hi => hstep k s hi fun s' hi' hm' => ih s' (by omega) hi'

end Go.Al
