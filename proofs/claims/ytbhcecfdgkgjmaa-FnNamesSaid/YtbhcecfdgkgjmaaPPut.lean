import Derived.Test.YtbhcecfdgkgjmaaPNm2
import Derived.Test.YtbhcecfdgkgjmaaGPut
set_option linter.unusedVariables false
set_option linter.unusedSimpArgs false
set_option linter.constructorNameAsVariable false
set_option linter.unusedSectionVars false
namespace Go.Al
theorem ByPath_two (v : Vec (ByteArray × Int × Int)) (hv : Sml.sml v) (d : ByteArray) : ∃ r, spec_ByPath.F v d = some r ∧ impl_ByPath.F v d = some r ∧ (r < 0 ∨ namesGood v ∧ ∃ i : Nat, r = i ∧ i < v.n ∧ (v.g i).1 = d) := by
  obtain ⟨b, e1, h1⟩ := spec_NamesOk_ok v hv
  obtain ⟨b', e2, h2⟩ := impl_NamesOk_ok v hv
  have : b' = b := by rw [Bool.eq_iff_iff, h1, h2]
  subst this
  obtain ⟨r, e3, h3⟩ := spec_l13Path_ok v hv d
  obtain ⟨q, e4, h4⟩ := impl_pathAt_ok v hv d
  obtain rfl := h3.one h4
  unfold spec_ByPath.F spec_ByPath.B impl_ByPath.F impl_ByPath.B
  rw [e1, e2, e3, e4]
  simp only [Option.bind_some, selb]
  split
  · exact ⟨_, rfl, rfl, .inl (by decide)⟩
  · rename_i hb
    refine ⟨_, rfl, rfl, ?_⟩
    rcases h3 with ⟨rfl, -⟩ | ⟨i, rfl, hi, hp, -⟩
    · exact .inl (by decide)
    · exact .inr ⟨h1.1 (by simpa using hb), i, rfl, hi, hp⟩
theorem sml_del {A : Type} [Sml A] {v : Vec A} (hv : Sml.sml v) (i : Nat) (hi : i < v.n) : Sml.sml (v.del i (i + 1)) := by
  have hd : ((i : Int) + 1 - (i : Int)).toNat = 1 := by omega
  have hn : (v.del i (i + 1)).n = v.n - 1 := by show v.n - _ = _; rw [hd]
  refine ⟨by have := hv.1; omega, fun t ht => ?_⟩
  show Sml.sml (v.g (delSrc i (i + 1) t))
  refine hv.2 _ ?_
  unfold delSrc
  rw [hd, Int.toNat_natCast]
  split <;> omega
theorem impl_dropName_eq (v : Vec (ByteArray × Int × Int)) (hv : Sml.sml v) (i : Nat) (hi : i < v.n) : impl_dropName_s0773.F (i : Int) v = some (v.del i (i + 1)) := by
  have hs : sN = 1048576 := rfl
  have hn := hv.1
  unfold impl_dropName_s0773.F impl_dropName_s0773.B slices_Delete_impl_Name_safb9.F
  rw [wr_succ (i := i) (by omega)]
  have h : decide ((0 : Int) ≤ (i : Int) ∧ (i : Int) < ((i + 1 : Nat) : Int) ∧ ((i + 1 : Nat) : Int) ≤ (v.n : Int)) = true := by simp; omega
  rw [h]
  rfl
theorem impl_clone_eq (v : Vec (ByteArray × Int × Int)) (hv : Sml.sml v) : slices_Clone_impl_Name.F v = some v := by
  have hs : sN = 1048576 := rfl
  have hM : maxN = 140737488355328 := rfl
  have hn := hv.1
  unfold slices_Clone_impl_Name.F
  have h : decide (v.n * 33 ≤ maxN) = true := by simp; omega
  rw [h]
  rfl
abbrev NM : Type := ByteArray × Int × Int
theorem names_sorted {v : Vec NM} (h : namesGood v) : ∀ j, j < v.n → ∀ i, i < j → bLt (v.g i).1 (v.g j).1 := by
  intro j
  induction j with
  | zero => intro _ i hi; omega
  | succ j ih =>
    intro hj i hi
    have h1 := (h.2 (j + 1) hj).2.1 (by omega)
    rw [Nat.add_sub_cancel] at h1
    by_cases hij : i = j
    · subst hij; exact h1
    · exact bLt_trans (ih (by omega) i (by omega)) h1
theorem namesGood_same {v w : Vec NM} (h : Vec.Same v w) : namesGood v ↔ namesGood w := by
  have key : ∀ {v w : Vec NM}, Vec.Same v w → namesGood v → namesGood w := by
    intro v w h hv
    refine ⟨by rw [← h.1]; exact hv.1, fun i hi => ?_⟩
    have hi' : i < v.n := by rw [h.1]; exact hi
    obtain ⟨h1, h2, h3, h4, h5⟩ := hv.2 i hi'
    unfold nameGood
    rw [← h.2 i hi']
    refine ⟨h1, fun h0 => ?_, h3, h4, fun j hj => ?_⟩
    · rw [← h.2 (i - 1) (by omega)]; exact h2 h0
    · rw [← h.2 j (by omega)]; exact h5 j hj
  exact ⟨key h, key h.symm⟩

/-- Put in ahead of the first that is not p. -/
def insL {A : Type} (p : A → Bool) (n : A) (M : List A) : List A := M.takeWhile p ++ n :: M.dropWhile p
theorem insL_all {A : Type} {p : A → Bool} {n : A} {M : List A} (h : M.all p = true) : insL p n M = M ++ [n] := by
  induction M with
  | nil => rfl
  | cons y M ih =>
    simp only [List.all_cons, Bool.and_eq_true] at h
    have := ih h.2
    simp only [insL, List.takeWhile_cons, List.dropWhile_cons, h.1, if_true, List.cons_append] at this ⊢
    rw [this]
theorem insL_new {A : Type} {p : A → Bool} {n x : A} {M : List A} (h : M.all p = true) (hx : p x = false) : insL p n (M ++ [x]) = M ++ [n] ++ [x] := by
  have h' : ∀ x ∈ M, p x = true := fun x hx => List.all_eq_true.1 h x hx
  unfold insL
  rw [List.takeWhile_append_of_pos h', List.dropWhile_append_of_pos h']
  simp [hx]
theorem insL_old {A : Type} {p : A → Bool} {n x : A} {M : List A} (h : M.all p = false) : insL p n (M ++ [x]) = insL p n M ++ [x] := by
  induction M with
  | nil => simp at h
  | cons y M ih =>
    cases hy : p y with
    | true =>
      have h2 : M.all p = false := by simpa [hy] using h
      have := ih h2
      simp only [insL, List.cons_append, List.takeWhile_cons, List.dropWhile_cons, hy, if_true] at this ⊢
      rw [this]
    | false => simp [insL, List.takeWhile_cons, List.dropWhile_cons, hy]
theorem insL_congr {A : Type} {p q : A → Bool} {n : A} {M : List A} (h : ∀ x ∈ M, p x = q x) : insL p n M = insL q n M := by
  induction M with
  | nil => rfl
  | cons y M ih =>
    have h1 := h y (by simp)
    have h2 := ih fun x hx => h x (by simp [hx])
    unfold insL at h2 ⊢
    rw [List.takeWhile_cons, List.takeWhile_cons, List.dropWhile_cons, List.dropWhile_cons, h1]
    cases hq : q y with
    | true =>
      simp only [if_true, List.cons_append]
      rw [h2]
    | false => rfl
theorem insL_length {A : Type} (p : A → Bool) (n : A) (M : List A) : (insL p n M).length = M.length + 1 := by
  have := congrArg List.length (List.takeWhile_append_dropWhile (p := p) (l := M))
  simp only [List.length_append] at this
  simp only [insL, List.length_append, List.length_cons]
  omega
theorem insL_take {A : Type} {p : A → Bool} {n : A} {M : List A} {k : Nat} (hk : k ≤ M.length) (h1 : ∀ x ∈ M.take k, p x = true) (h2 : ∀ h : k < M.length, p M[k] = false) : M.take k ++ n :: M.drop k = insL p n M := by
  induction M generalizing k with
  | nil => simp at hk; subst hk; rfl
  | cons y M ih =>
    cases k with
    | zero =>
      have hy := h2 (by simp)
      simp at hy
      simp [insL, List.takeWhile_cons, List.dropWhile_cons, hy]
    | succ k =>
      have hy : p y = true := h1 y (by simp)
      have := ih (k := k) (by simpa using hk) (fun x hx => h1 x (by simp [hx])) (fun h => by have := h2 (by simpa using h); rwa [List.getElem_cons_succ] at this)
      simp only [List.take_succ_cons, List.drop_succ_cons, List.cons_append, insL, List.takeWhile_cons, List.dropWhile_cons, hy, if_true] at this ⊢
      rw [this]
theorem mem_insL {A : Type} {p : A → Bool} {n x : A} {M : List A} : x ∈ insL p n M ↔ x = n ∨ x ∈ M := by
  unfold insL
  simp only [List.mem_append, List.mem_cons]
  have : x ∈ M ↔ x ∈ M.takeWhile p ∨ x ∈ M.dropWhile p := by
    rw [← List.mem_append, List.takeWhile_append_dropWhile]
  rw [this]
  constructor
  · rintro (h | h | h)
    · exact .inr (.inl h)
    · exact .inl h
    · exact .inr (.inr h)
  · rintro (h | h | h)
    · exact .inr (.inl h)
    · exact .inl h
    · exact .inr (.inr h)
theorem filter_erase {A : Type} {p : A → Bool} {M : List A} {k : Nat} (hk : k < M.length) (h1 : p M[k] = false) (h2 : ∀ j (h : j < M.length), j ≠ k → p M[j] = true) : M.filter p = M.eraseIdx k := by
  induction M generalizing k with
  | nil => simp at hk
  | cons y M ih =>
    cases k with
    | zero =>
      have h1' : p y = false := h1
      have : M.filter p = M := List.filter_eq_self.2 fun x hx => by
        obtain ⟨j, hj, rfl⟩ := List.mem_iff_getElem.1 hx
        exact h2 (j + 1) (by simpa using hj) (by omega)
      simp [List.filter_cons, h1', this]
    | succ k =>
      have hy : p y = true := h2 0 (by simp) (by omega)
      have := ih (k := k) (by simpa using hk) (by rwa [List.getElem_cons_succ] at h1) (fun j hj hne => by have := h2 (j + 1) (by simpa using hj) (by omega); rwa [List.getElem_cons_succ] at this)
      simp [List.filter_cons, hy, this]

/-! Putting a name -/
def notGt (n x : NM) : Bool := !decide (n.1.toList < x.1.toList)
def isLt (n x : NM) : Bool := decide (x.1.toList < n.1.toList)
def notId (d : Int) (x : NM) : Bool := !decide (x.2.1 = d)
theorem toL_take_succ {A : Type} (v : Vec A) (i : Nat) (hi : i < v.n) : v.toL.take (i + 1) = v.toL.take i ++ [v.g i] := by
  rw [List.take_add_one, Vec.toL_get v i hi]; rfl
theorem spec_l13Put_loop {ρ : Type} (v : Vec NM) (hn : v.n ≤ 12) (n : NM) (K0 : Bool → ByteArray → Int → Int → Vec NM → Option ρ) :
    ∃ (b : Bool) (out : Vec NM), spec_l13Put.F0 fuelN v false 0 n.1 n.2.1 n.2.2 Vec.nil K0 = K0 b n.1 n.2.1 n.2.2 out ∧ out.n ≤ 14 ∧
      (b = false → out.toL = v.toL.filter (notId n.2.1) ∧ (v.toL.filter (notId n.2.1)).all (notGt n) = true) ∧ (b = true → out.toL = insL (notGt n) n (v.toL.filter (notId n.2.1))) := by
  have hM : maxN = 140737488355328 := rfl
  have := loop_inv (σ := Nat × Bool × Vec NM) (fun s => v.n - s.1)
    (fun s => s.1 ≤ v.n ∧ s.2.2.n ≤ s.1 + 1 ∧ (s.2.1 = false → s.2.2.toL = (v.toL.take s.1).filter (notId n.2.1) ∧ ((v.toL.take s.1).filter (notId n.2.1)).all (notGt n) = true) ∧
      (s.2.1 = true → s.2.2.toL = insL (notGt n) n ((v.toL.take s.1).filter (notId n.2.1)) ∧ ((v.toL.take s.1).filter (notId n.2.1)).all (notGt n) = false))
    (fun _ x => ∃ (b : Bool) (out : Vec NM), x = K0 b n.1 n.2.1 n.2.2 out ∧ out.n ≤ 14 ∧
      (b = false → out.toL = v.toL.filter (notId n.2.1) ∧ (v.toL.filter (notId n.2.1)).all (notGt n) = true) ∧ (b = true → out.toL = insL (notGt n) n (v.toL.filter (notId n.2.1))))
    (fun f s => spec_l13Put.F0 f v s.2.1 (s.1 : Int) n.1 n.2.1 n.2.2 s.2.2 K0) ?_ fuelN (0, false, Vec.nil) (by show v.n - 0 < fuelN; unfold fuelN; omega)
    ⟨Nat.zero_le _, Nat.zero_le _, fun _ => ⟨rfl, rfl⟩, fun h => Bool.noConfusion h⟩
  · exact this
  · rintro f ⟨i, b, out⟩ ⟨h1, h2, h3, h4⟩ ih
    simp only at h1 h2 h3 h4 ⊢
    by_cases hi : i < v.n
    · have hT := toL_take_succ v i hi
      have hF : (v.toL.take (i + 1)).filter (notId n.2.1) = (v.toL.take i).filter (notId n.2.1) ++ [v.g i].filter (notId n.2.1) := by rw [hT, List.filter_append]
      have hwi : wr ((i : Int) + 1) = ((i + 1 : Nat) : Int) := wr_succ (i := i) (by omega)
      by_cases hd : (v.g i).2.1 = n.2.1
      · have hF' : (v.toL.take (i + 1)).filter (notId n.2.1) = (v.toL.take i).filter (notId n.2.1) := by rw [hF]; simp [notId, hd]
        have := ih (i + 1, b, out) ⟨hi, by simp only; omega, by simp only [hF']; exact h3, by simp only [hF']; exact h4⟩ (by simp only; omega)
        simp only at this
        simp only [spec_l13Put.F0, spec_l13Put.B0, selb, chkb, hwi, Int.toNat_natCast, Int.ofNat_lt, hi, decide_true, if_true, hd, show (0 : Int) ≤ (i : Int) ∧ True from ⟨by omega, trivial⟩]
        exact this
      · have hF' : (v.toL.take (i + 1)).filter (notId n.2.1) = (v.toL.take i).filter (notId n.2.1) ++ [v.g i] := by rw [hF]; simp [notId, hd]
        have hidx : (0 : Int) ≤ (i : Int) ∧ (i : Int) < (v.n : Int) := ⟨by omega, by omega⟩
        have e1 : ((v.g i).1, (v.g i).2.1, (v.g i).2.2) = v.g i := rfl
        have e2 : (n.1, n.2.1, n.2.2) = n := rfl
        have c1 : decide ((out.n + (Vec.lit [v.g i]).n) * 33 ≤ maxN) = true := decide_eq_true (by show (out.n + 1) * 33 ≤ maxN; omega)
        have c2 : decide ((out.n + (Vec.lit [n]).n) * 33 ≤ maxN) = true := decide_eq_true (by show (out.n + 1) * 33 ≤ maxN; omega)
        have c3 : decide (((Vec.app out (Vec.lit [n])).n + (Vec.lit [v.g i]).n) * 33 ≤ maxN) = true := decide_eq_true (by show (out.n + 1 + 1) * 33 ≤ maxN; omega)
        have hlt : decide ((i : Int) < (v.n : Int)) = true := decide_eq_true hidx.2
        have hix : decide (0 ≤ (i : Int) ∧ (i : Int) < (v.n : Int)) = true := decide_eq_true hidx
        have hdd : decide ((v.g i).2.1 = n.2.1) = false := decide_eq_false hd
        rw [spec_l13Put.F0, spec_l13Put.B0, hlt, hix]
        simp only [sel, chk, Int.toNat_natCast, hdd, hwi, e1, e2, c1, c2, c3]
        cases b with
        | false =>
          obtain ⟨q1, q2⟩ := h3 rfl
          have hol : out.n ≤ i := by
            have h8 := congrArg List.length q1
            rw [Vec.toL_length] at h8
            have h9 := List.length_filter_le (notId n.2.1) (v.toL.take i)
            rw [List.length_take] at h9
            omega
          cases hgt : decide (n.1.toList < (v.g i).1.toList) with
          | true =>
            have hx : notGt n (v.g i) = false := by simp only [notGt, hgt, Bool.not_true]
            have := ih (i + 1, true, Vec.app (Vec.app out (Vec.lit [n])) (Vec.lit [v.g i])) ⟨hi, by simp only [Vec.app_n, Vec.lit_n, List.length_singleton]; omega, fun h => Bool.noConfusion h, fun _ => ⟨by
              simp only
              rw [hF', insL_new q2 hx, toL_app, toL_app, toL_lit1, toL_lit1, q1], by simp only; rw [hF', List.all_append, q2]; simp [hx]⟩⟩ (by simp only; omega)
            simpa using this
          | false =>
            have hx : notGt n (v.g i) = true := by simp only [notGt, hgt, Bool.not_false]
            have := ih (i + 1, false, Vec.app out (Vec.lit [v.g i])) ⟨hi, by simp only [Vec.app_n, Vec.lit_n, List.length_singleton]; omega, fun _ => ⟨by
              simp only
              rw [hF', toL_app, toL_lit1, q1], by simp only; rw [hF', List.all_append, q2]; simp [hx]⟩, fun h => Bool.noConfusion h⟩ (by simp only; omega)
            simpa using this
        | true =>
          obtain ⟨q1, q2⟩ := h4 rfl
          have := ih (i + 1, true, Vec.app out (Vec.lit [v.g i])) ⟨hi, by simp only [Vec.app_n, Vec.lit_n, List.length_singleton]; omega, fun h => Bool.noConfusion h, fun _ => ⟨by
            simp only
            rw [hF', insL_old q2, toL_app, toL_lit1, q1], by simp only; rw [hF', List.all_append, q2]; rfl⟩⟩ (by simp only; omega)
          simpa using this
    · have hv : v.toL.take i = v.toL := List.take_of_length_le (by simp; omega)
      simp only [spec_l13Put.F0, spec_l13Put.B0, selb, Int.ofNat_lt, hi, decide_false, Bool.false_eq_true, if_false]
      rw [hv] at h3 h4
      exact ⟨b, out, rfl, by omega, h3, fun h => (h4 h).1⟩

theorem spec_l13Put_ok (v : Vec NM) (hn : v.n ≤ 12) (n : NM) : ∃ out, spec_l13Put.F v n.1 n.2.1 n.2.2 = some out ∧ out.toL = insL (notGt n) n (v.toL.filter (notId n.2.1)) := by
  have hM : maxN = 140737488355328 := rfl
  rw [spec_l13Put.F, spec_l13Put.B]
  obtain ⟨b, out, e, h1, h2, h3⟩ := spec_l13Put_loop v hn n (fun e01 e02 e03 e04 e05 => sel (!e01) (chk (decide ((e05.n + (Vec.lit [(e02, e03, e04)]).n) * 33 ≤ maxN)) (some (Vec.app e05 (Vec.lit [(e02, e03, e04)])))) (some e05))
  rw [e]
  cases b with
  | true => exact ⟨out, rfl, h3 rfl⟩
  | false =>
    obtain ⟨q1, q2⟩ := h2 rfl
    have c1 : decide ((out.n + (Vec.lit [(n.1, n.2.1, n.2.2)]).n) * 33 ≤ maxN) = true := decide_eq_true (by show (out.n + 1) * 33 ≤ maxN; omega)
    refine ⟨Vec.app out (Vec.lit [n]), ?_, ?_⟩
    · rw [c1]; rfl
    · rw [toL_app, toL_lit1, q1, insL_all q2]
theorem impl_insertName_loop {ρ : Type} (u : Vec NM) (hn : u.n ≤ 12) (n : NM) (K0 : Int → Vec NM → ByteArray → Int → Int → Option ρ) :
    ∃ i : Nat, impl_insertName_s2b2c.F0 fuelN 0 u n.1 n.2.1 n.2.2 K0 = K0 (i : Int) u n.1 n.2.1 n.2.2 ∧ i ≤ u.n ∧ (∀ j, j < i → isLt n (u.g j) = true) ∧ (i < u.n → isLt n (u.g i) = false) := by
  have := loop_inv (σ := Nat) (fun s => u.n - s) (fun s => s ≤ u.n ∧ ∀ j, j < s → isLt n (u.g j) = true)
    (fun _ x => ∃ i : Nat, x = K0 (i : Int) u n.1 n.2.1 n.2.2 ∧ i ≤ u.n ∧ (∀ j, j < i → isLt n (u.g j) = true) ∧ (i < u.n → isLt n (u.g i) = false))
    (fun f s => impl_insertName_s2b2c.F0 f (s : Int) u n.1 n.2.1 n.2.2 K0) ?_ fuelN 0 (by show u.n - 0 < fuelN; unfold fuelN; omega) ⟨Nat.zero_le _, fun j hj => by omega⟩
  · exact this
  · rintro f i ⟨h1, h2⟩ ih
    rw [impl_insertName_s2b2c.F0, impl_insertName_s2b2c.B0]
    by_cases hi : i < u.n
    · have hlt : decide ((i : Int) < (u.n : Int)) = true := decide_eq_true (by omega)
      have hix : decide (0 ≤ (i : Int) ∧ (i : Int) < (u.n : Int)) = true := decide_eq_true ⟨by omega, by omega⟩
      have hin : decide (i < u.n) = true := decide_eq_true hi
      rw [hlt, hix]
      simp only [sel, chk, Int.toNat_natCast, hin, wr_succ (i := i) (by omega)]
      cases hc : decide ((u.g i).1.toList < n.1.toList) with
      | true =>
        exact ih (i + 1) ⟨hi, fun j hj => by
          by_cases hji : j = i
          · subst hji; exact hc
          · exact h2 j (by omega)⟩ (by omega)
      | false => exact ⟨i, rfl, h1, h2, fun _ => hc⟩
    · have hlt : decide ((i : Int) < (u.n : Int)) = false := decide_eq_false (by omega)
      rw [hlt]
      exact ⟨i, rfl, h1, h2, fun h => absurd h hi⟩
theorem impl_insertName_ok (u : Vec NM) (hn : u.n ≤ 12) (n : NM) : ∃ out, impl_insertName_s2b2c.F n.1 n.2.1 n.2.2 u = some out ∧ out.toL = insL (isLt n) n u.toL := by
  have hM : maxN = 140737488355328 := rfl
  rw [impl_insertName_s2b2c.F, impl_insertName_s2b2c.B]
  obtain ⟨i, e, h1, h2, h3⟩ := impl_insertName_loop u hn n (fun e01 e02 e03 e04 e05 => (slices_Insert_impl_Name_s19f7.F e01 e02 (Vec.lit [(e03, e04, e05)])).bind fun r1 => some r1)
  rw [e, slices_Insert_impl_Name_s19f7.F]
  have c1 : decide (0 ≤ (i : Int) ∧ (i : Int) ≤ (u.n : Int) ∧ (Vec.lit [(n.1, n.2.1, n.2.2)]).n = 1 ∧ (u.n + 1) * (32 + 1) ≤ maxN) = true := decide_eq_true ⟨by omega, by omega, rfl, by omega⟩
  rw [c1]
  refine ⟨_, rfl, ?_⟩
  rw [toL_ins1 _ _ _ h1]
  refine insL_take (by simpa using h1) (fun x hx => ?_) (fun h => ?_)
  · obtain ⟨j, hj, rfl⟩ := List.mem_iff_getElem.1 hx
    have hj' : j < i := by simp at hj; omega
    have : (u.toL.take i)[j] = u.g j := by
      have h9 := toL_at u j
      rw [if_pos (by omega)] at h9
      rw [List.getElem_take]
      exact Option.some.inj ((List.getElem?_eq_getElem (by simp; omega)).symm.trans h9)
    rw [this]
    exact h2 j hj'
  · have hi : i < u.n := by simpa using h
    have : u.toL[i] = u.g i := Option.some.inj ((List.getElem?_eq_getElem h).symm.trans (Vec.toL_get u i hi))
    rw [this]
    exact h3 hi
/-- What a list of names is that is right. -/
theorem not_good {out : Vec NM} {i j : Nat} (hj : j < out.n) (hij : i < j) (h : (out.g i).1 = (out.g j).1) : ¬ namesGood out := fun hg => by
  have := names_sorted hg j hj i hij
  rw [h] at this
  exact bLt_irrefl this
theorem not_good_ins {out : Vec NM} {p : NM → Bool} {n x : NM} {M : List NM} (h : out.toL = insL p n M) (hx : x ∈ M) (he : x.1 = n.1) : ¬ namesGood out := by
  have hx' : x ∈ M.takeWhile p ∨ x ∈ M.dropWhile p := by rw [← List.mem_append, List.takeWhile_append_dropWhile]; exact hx
  have hn : out.n = M.length + 1 := by rw [← Vec.toL_length, h, insL_length]
  have hat : ∀ k (y : NM), out.toL[k]? = some y → k < out.n ∧ out.g k = y := fun k y hk => by
    rw [toL_at] at hk
    split at hk
    · rename_i h1; exact ⟨h1, Option.some.inj hk⟩
    · cases hk
  have hmid : out.toL[(M.takeWhile p).length]? = some n := by rw [h, insL, List.getElem?_append_right (Nat.le_refl _), Nat.sub_self]; rfl
  obtain ⟨m1, m2⟩ := hat _ _ hmid
  rcases hx' with hx' | hx'
  · obtain ⟨k, hk, rfl⟩ := List.mem_iff_getElem.1 hx'
    have hk2 : out.toL[k]? = some (M.takeWhile p)[k] := by rw [h, insL, List.getElem?_append_left hk, List.getElem?_eq_getElem hk]
    obtain ⟨k1, k2⟩ := hat _ _ hk2
    exact not_good m1 hk (by rw [k2, m2]; exact he)
  · obtain ⟨k, hk, rfl⟩ := List.mem_iff_getElem.1 hx'
    have hk2 : out.toL[(M.takeWhile p).length + 1 + k]? = some (M.dropWhile p)[k] := by
      rw [h, insL, List.getElem?_append_right (by omega), show (M.takeWhile p).length + 1 + k - (M.takeWhile p).length = k + 1 by omega, List.getElem?_cons_succ, List.getElem?_eq_getElem hk]
    obtain ⟨k1, k2⟩ := hat _ _ hk2
    exact not_good (i := (M.takeWhile p).length) k1 (by omega) (by rw [k2, m2]; exact he.symm)
theorem sml_of {A : Type} [Sml A] {v : Vec A} {l : List A} (h : v.toL = l) (hl : l.length ≤ sN) (hs : ∀ x ∈ l, Sml.sml x) : Sml.sml v := by
  refine ⟨by rw [← Vec.toL_length, h]; exact hl, fun i hi => hs _ ?_⟩
  rw [← h]
  exact List.mem_of_getElem? (Vec.toL_get v i hi)
theorem mem_toL {A : Type} {v : Vec A} {x : A} (h : x ∈ v.toL) : ∃ i, i < v.n ∧ v.g i = x := by
  obtain ⟨i, hi, rfl⟩ := List.mem_iff_getElem.1 h
  have hi' : i < v.n := by simpa using hi
  exact ⟨i, hi', (Option.some.inj ((List.getElem?_eq_getElem hi).symm.trans (Vec.toL_get v i hi'))).symm⟩
/-- Where a name is put, both ways, into a list that bears none of its id. -/
theorem put_two (M : List NM) (hM : M.length ≤ 12) (hMs : ∀ x ∈ M, Sml.sml x) (n : NM) (hn : Sml.sml n) (out out2 : Vec NM) (h1 : out.toL = insL (notGt n) n M) (h2 : out2.toL = insL (isLt n) n M) :
    Sml.sml out ∧ Sml.sml out2 ∧ (namesGood out ↔ namesGood out2) ∧ (namesGood out → Vec.Same out2 out) := by
  have hs : sN = 1048576 := rfl
  refine ⟨sml_of h1 (by rw [insL_length]; omega) (fun x hx => (mem_insL.1 hx).elim (fun e => e ▸ hn) (hMs x)), sml_of h2 (by rw [insL_length]; omega) (fun x hx => (mem_insL.1 hx).elim (fun e => e ▸ hn) (hMs x)), ?_⟩
  by_cases hx : ∃ x ∈ M, x.1 = n.1
  · obtain ⟨x, hx, he⟩ := hx
    have g1 := not_good_ins h1 hx he
    have g2 := not_good_ins h2 hx he
    exact ⟨⟨fun h => absurd h g1, fun h => absurd h g2⟩, fun h => absurd h g1⟩
  · have e : insL (notGt n) n M = insL (isLt n) n M := insL_congr fun x hx' => by
      unfold notGt isLt
      by_cases q1 : n.1.toList < x.1.toList
      · have : ¬ x.1.toList < n.1.toList := fun q => bLt_irrefl (bLt_trans (a := n.1) (b := x.1) q1 q)
        simp [q1, this]
      · have : x.1.toList < n.1.toList := Classical.byContradiction fun q => hx ⟨x, hx', bLt_tri q q1⟩
        simp [q1, this]
    have hsame : Vec.Same out2 out := by rw [same_iff, h1, h2, e]
    exact ⟨namesGood_same hsame.symm, fun _ => hsame⟩

theorem idAt_first {v : Vec NM} {d r : Int} (h : isFirst (fun i => (v.g i).2.1 = d) v.n r) (hg : namesGood v) :
    (r < 0 ∧ v.toL.filter (notId d) = v.toL) ∨ ∃ i : Nat, r = i ∧ i < v.n ∧ v.toL.filter (notId d) = v.toL.eraseIdx i := by
  rcases h with ⟨rfl, h⟩ | ⟨i, rfl, hi, hp, -⟩
  · refine .inl ⟨by decide, List.filter_eq_self.2 fun x hx => ?_⟩
    obtain ⟨j, hj, rfl⟩ := mem_toL hx
    simp [notId, h j hj]
  · have hget : ∀ j (h : j < v.toL.length), v.toL[j] = v.g j := fun j h => Option.some.inj ((List.getElem?_eq_getElem h).symm.trans (Vec.toL_get v j (by simpa using h)))
    refine .inr ⟨i, rfl, hi, filter_erase (by simpa using hi) ?_ fun j hj hne => ?_⟩
    · rw [hget]; simp [notId, hp]
    · rw [hget]
      have hj' : j < v.n := by simpa using hj
      have : (v.g j).2.1 ≠ d := by
        rcases Nat.lt_or_gt_of_ne hne with h | h
        · have := (hg.2 i hi).2.2.2.2 j h
          rwa [hp] at this
        · have := (hg.2 j hj').2.2.2.2 i h
          rw [hp] at this
          exact fun e => this e.symm
      simp [notId, this]
end Go.Al
