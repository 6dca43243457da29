import Derived.Test.YtbhcecfdgkgjmaaAlF
import Derived.Test.YtbhcecfdgkgjmaaAlH
set_option linter.unusedVariables false
set_option linter.unusedSimpArgs false
set_option linter.constructorNameAsVariable false
set_option linter.unusedSectionVars false
namespace Go.Al
/-! ### 63. Lists that something is put into -/
/-- Put in ahead of the first that is not p. -/
def insL {A : Type} (p : A → Bool) (n : A) (M : List A) : List A := M.takeWhile p ++ n :: M.dropWhile p
theorem insL_all {A : Type} {p : A → Bool} {n : A} {M : List A} (h : M.all p = true) : insL p n M = M ++ [n] := by
  induction M with
  | nil => rfl
  | cons y M ih =>
    simp only [List.all_cons, Bool.and_eq_true] at h
    have := ih h.2
    simp only [insL, List.takeWhile_cons, List.dropWhile_cons, h.1, if_true, List.cons_append] at this ⊢
    rw [this]
theorem insL_new {A : Type} {p : A → Bool} {n x : A} {M : List A} (h : M.all p = true) (hx : p x = false) : insL p n (M ++ [x]) = M ++ [n] ++ [x] := by
  have h' : ∀ x ∈ M, p x = true := fun x hx => List.all_eq_true.1 h x hx
  unfold insL
  rw [List.takeWhile_append_of_pos h', List.dropWhile_append_of_pos h']
  simp [hx]
theorem insL_old {A : Type} {p : A → Bool} {n x : A} {M : List A} (h : M.all p = false) : insL p n (M ++ [x]) = insL p n M ++ [x] := by
  induction M with
  | nil => simp at h
  | cons y M ih =>
    cases hy : p y with
    | true =>
      have h2 : M.all p = false := by simpa [hy] using h
      have := ih h2
      simp only [insL, List.cons_append, List.takeWhile_cons, List.dropWhile_cons, hy, if_true] at this ⊢
      rw [this]
    | false => simp [insL, List.takeWhile_cons, List.dropWhile_cons, hy]
theorem insL_congr {A : Type} {p q : A → Bool} {n : A} {M : List A} (h : ∀ x ∈ M, p x = q x) : insL p n M = insL q n M := by
  induction M with
  | nil => rfl
  | cons y M ih =>
    have h1 := h y (by simp)
    have h2 := ih fun x hx => h x (by simp [hx])
    unfold insL at h2 ⊢
    rw [List.takeWhile_cons, List.takeWhile_cons, List.dropWhile_cons, List.dropWhile_cons, h1]
    cases hq : q y with
    | true =>
      simp only [if_true, List.cons_append]
      rw [h2]
    | false => rfl
theorem insL_length {A : Type} (p : A → Bool) (n : A) (M : List A) : (insL p n M).length = M.length + 1 := by
  have := congrArg List.length (List.takeWhile_append_dropWhile (p := p) (l := M))
  simp only [List.length_append] at this
  simp only [insL, List.length_append, List.length_cons]
  omega
theorem insL_take {A : Type} {p : A → Bool} {n : A} {M : List A} {k : Nat} (hk : k ≤ M.length) (h1 : ∀ x ∈ M.take k, p x = true) (h2 : ∀ h : k < M.length, p M[k] = false) : M.take k ++ n :: M.drop k = insL p n M := by
  induction M generalizing k with
  | nil => simp at hk; subst hk; rfl
  | cons y M ih =>
    cases k with
    | zero =>
      have hy := h2 (by simp)
      simp at hy
      simp [insL, List.takeWhile_cons, List.dropWhile_cons, hy]
    | succ k =>
      have hy : p y = true := h1 y (by simp)
      have := ih (k := k) (by simpa using hk) (fun x hx => h1 x (by simp [hx])) (fun h => by have := h2 (by simpa using h); rwa [List.getElem_cons_succ] at this)
      simp only [List.take_succ_cons, List.drop_succ_cons, List.cons_append, insL, List.takeWhile_cons, List.dropWhile_cons, hy, if_true] at this ⊢
      rw [this]
theorem mem_insL {A : Type} {p : A → Bool} {n x : A} {M : List A} : x ∈ insL p n M ↔ x = n ∨ x ∈ M := by
  unfold insL
  simp only [List.mem_append, List.mem_cons]
  have : x ∈ M ↔ x ∈ M.takeWhile p ∨ x ∈ M.dropWhile p := by
    rw [← List.mem_append, List.takeWhile_append_dropWhile]
  rw [this]
  constructor
  · rintro (h | h | h)
    · exact .inr (.inl h)
    · exact .inl h
    · exact .inr (.inr h)
  · rintro (h | h | h)
    · exact .inr (.inl h)
    · exact .inl h
    · exact .inr (.inr h)
theorem filter_erase {A : Type} {p : A → Bool} {M : List A} {k : Nat} (hk : k < M.length) (h1 : p M[k] = false) (h2 : ∀ j (h : j < M.length), j ≠ k → p M[j] = true) : M.filter p = M.eraseIdx k := by
  induction M generalizing k with
  | nil => simp at hk
  | cons y M ih =>
    cases k with
    | zero =>
      have h1' : p y = false := h1
      have : M.filter p = M := List.filter_eq_self.2 fun x hx => by
        obtain ⟨j, hj, rfl⟩ := List.mem_iff_getElem.1 hx
        exact h2 (j + 1) (by simpa using hj) (by omega)
      simp [List.filter_cons, h1', this]
    | succ k =>
      have hy : p y = true := h2 0 (by simp) (by omega)
      have := ih (k := k) (by simpa using hk) (by rwa [List.getElem_cons_succ] at h1) (fun j hj hne => by have := h2 (j + 1) (by simpa using hj) (by omega); rwa [List.getElem_cons_succ] at this)
      simp [List.filter_cons, hy, this]
theorem toL_take_succ {A : Type} (v : Vec A) (i : Nat) (hi : i < v.n) : v.toL.take (i + 1) = v.toL.take i ++ [v.g i] := by
  rw [List.take_add_one, Vec.toL_get v i hi]; rfl
theorem sml_of {A : Type} [Sml A] {v : Vec A} {l : List A} (h : v.toL = l) (hl : l.length ≤ sN) (hs : ∀ x ∈ l, Sml.sml x) : Sml.sml v := by
  refine ⟨by rw [← Vec.toL_length, h]; exact hl, fun i hi => hs _ ?_⟩
  rw [← h]
  exact List.mem_of_getElem? (Vec.toL_get v i hi)
theorem mem_toL {A : Type} {v : Vec A} {x : A} (h : x ∈ v.toL) : ∃ i, i < v.n ∧ v.g i = x := by
  obtain ⟨i, hi, rfl⟩ := List.mem_iff_getElem.1 h
  have hi' : i < v.n := by simpa using hi
  exact ⟨i, hi', (Option.some.inj ((List.getElem?_eq_getElem hi).symm.trans (Vec.toL_get v i hi'))).symm⟩
theorem sml_del {A : Type} [Sml A] {v : Vec A} (hv : Sml.sml v) (i : Nat) (hi : i < v.n) : Sml.sml (v.del i (i + 1)) := by
  have hd : ((i : Int) + 1 - (i : Int)).toNat = 1 := by omega
  have hn : (v.del i (i + 1)).n = v.n - 1 := by show v.n - _ = _; rw [hd]
  refine ⟨by have := hv.1; omega, fun t ht => ?_⟩
  show Sml.sml (v.g (delSrc i (i + 1) t))
  refine hv.2 _ ?_
  unfold delSrc
  rw [hd, Int.toNat_natCast]
  split <;> omega
end Go.Al
