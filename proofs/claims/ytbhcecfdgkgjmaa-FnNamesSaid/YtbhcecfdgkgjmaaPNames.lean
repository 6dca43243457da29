import Derived.Test.YtbhcecfdgkgjmaaPPut
import Derived.Test.YtbhcecfdgkgjmaaPDraw
import Derived.Test.YtbhcecfdgkgjmaaGFnNames
set_option linter.unusedVariables false
set_option linter.unusedSimpArgs false
set_option linter.constructorNameAsVariable false
set_option linter.unusedSectionVars false
namespace Go.Al
/-! ### Right names as lists -/
def nmOk (x : NM) : Prop := pathGood x.1 ∧ (0 ≤ x.2.1 ∧ x.2.1 ≤ 11) ∧ 0 ≤ x.2.2 ∧ x.2.2 ≤ 39
def nmLt (x y : NM) : Prop := bLt x.1 y.1
def nmL (l : List NM) : Prop := l.length ≤ 12 ∧ l.Pairwise nmLt ∧ l.Pairwise (fun x y => x.2.1 ≠ y.2.1) ∧ ∀ x ∈ l, nmOk x
theorem nm_idx {v : Vec NM} {j : Nat} (h : j < v.toL.length) : v.toL[j] = v.g j := Option.some.inj ((List.getElem?_eq_getElem h).symm.trans (Vec.toL_get v j (by simpa using h)))
theorem names_list {v : Vec NM} : namesGood v ↔ nmL v.toL := by
  unfold nmL
  rw [Vec.toL_length, List.pairwise_iff_getElem, List.pairwise_iff_getElem]
  constructor
  · intro h
    refine ⟨h.1, fun i j hi hj hij => ?_, fun i j hi hj hij => ?_, fun x hx => ?_⟩
    · rw [nm_idx hi, nm_idx hj]; exact names_sorted h j (by simpa using hj) i hij
    · rw [nm_idx hi, nm_idx hj]; exact (h.2 j (by simpa using hj)).2.2.2.2 i hij
    · obtain ⟨i, hi, rfl⟩ := mem_toL hx
      obtain ⟨q1, q2, q3, q4, q5⟩ := h.2 i hi
      exact ⟨q1, q3, q4⟩
  · rintro ⟨h1, h2, h3, h4⟩
    refine ⟨h1, fun i hi => ?_⟩
    have hl : i < v.toL.length := by simpa using hi
    obtain ⟨q1, q2, q3⟩ := h4 (v.g i) (List.mem_of_getElem? (Vec.toL_get v i hi))
    refine ⟨q1, fun h0 => ?_, q2, q3, fun j hj => ?_⟩
    · have := h2 (i - 1) i (by omega) hl (by omega)
      rw [nm_idx, nm_idx] at this
      exact this
    · have := h3 j i (by omega) hl hj
      rw [nm_idx, nm_idx] at this
      exact this
theorem nm_sml {v : Vec NM} (h : namesGood v) : Sml.sml v := by
  have hs : sN = 1048576 := rfl
  have h1 := h.1
  refine ⟨by omega, fun i hi => ?_⟩
  obtain ⟨q1, q2, q3, q4, q5⟩ := h.2 i hi
  have := q1.1
  exact ⟨by show (v.g i).1.size ≤ sN; omega, ⟨by omega, by omega⟩, by omega, by omega⟩
/-- A name put in its place, among such of other paths. -/
theorem take_mem {A : Type} {p : A → Bool} {x : A} : ∀ {l : List A}, x ∈ l.takeWhile p → x ∈ l ∧ p x = true
  | [], h => by cases h
  | y :: l, h => by
    rw [List.takeWhile_cons] at h
    split at h
    · rename_i hy
      rcases List.mem_cons.1 h with rfl | h
      · exact ⟨List.mem_cons_self, hy⟩
      · exact ⟨List.mem_cons_of_mem _ (take_mem h).1, (take_mem h).2⟩
    · cases h
theorem ins_sorted {M : List NM} (hM : M.Pairwise nmLt) {n : NM} (hn : ∀ x ∈ M, x.1 ≠ n.1) : (insL (isLt n) n M).Pairwise nmLt := by
  unfold insL
  have hsub : ∀ x ∈ M.dropWhile (isLt n), bLt n.1 x.1 := by
    have key : ∀ (l : List NM), l.Pairwise nmLt → (∀ x ∈ l, x.1 ≠ n.1) → ∀ x ∈ l.dropWhile (isLt n), bLt n.1 x.1 := by
      intro l
      induction l with
      | nil => intro _ _ x hx; cases hx
      | cons y l ih =>
        intro hp hne x hx
        rw [List.pairwise_cons] at hp
        rw [List.dropWhile_cons] at hx
        split at hx
        · exact ih hp.2 (fun z hz => hne z (List.mem_cons_of_mem _ hz)) x hx
        · rename_i hy
          have hny : bLt n.1 y.1 := Classical.byContradiction fun h => hne y List.mem_cons_self (bLt_tri (fun h2 => hy (decide_eq_true h2)) h)
          rcases List.mem_cons.1 hx with rfl | hx
          · exact hny
          · exact bLt_trans hny (hp.1 x hx)
    exact key M hM hn
  rw [List.pairwise_append, List.pairwise_cons]
  have hp : (M.takeWhile (isLt n) ++ M.dropWhile (isLt n)).Pairwise nmLt := by rw [List.takeWhile_append_dropWhile]; exact hM
  rw [List.pairwise_append] at hp
  refine ⟨hp.1, ⟨hsub, hp.2.1⟩, fun a ha b hb => ?_⟩
  have han : bLt a.1 n.1 := of_decide_eq_true (p := a.1.toList < n.1.toList) (take_mem ha).2
  rcases List.mem_cons.1 hb with rfl | hb
  · exact han
  · exact bLt_trans han (hsub b hb)
theorem ins_ids {M : List NM} (hM : M.Pairwise (fun x y => x.2.1 ≠ y.2.1)) {n : NM} (hn : ∀ x ∈ M, x.2.1 ≠ n.2.1) (p : NM → Bool) : (insL p n M).Pairwise (fun x y => x.2.1 ≠ y.2.1) := by
  unfold insL
  have hp : (M.takeWhile p ++ M.dropWhile p).Pairwise (fun x y : NM => x.2.1 ≠ y.2.1) := by rw [List.takeWhile_append_dropWhile]; exact hM
  rw [List.pairwise_append] at hp
  have h1 : ∀ x ∈ M.takeWhile p, x.2.1 ≠ n.2.1 := fun x hx => hn x (take_mem hx).1
  have h2 : ∀ x ∈ M.dropWhile p, x.2.1 ≠ n.2.1 := fun x hx => hn x ((List.dropWhile_suffix p).mem hx)
  rw [List.pairwise_append, List.pairwise_cons]
  refine ⟨hp.1, ⟨fun x hx e => h2 x hx e.symm, hp.2.1⟩, fun a ha b hb => ?_⟩
  rcases List.mem_cons.1 hb with rfl | hb
  · exact h1 a ha
  · exact hp.2.2 a ha b hb
theorem ins_good {M : List NM} (hM : nmL M) (hl : M.length ≤ 11) {n : NM} (ho : nmOk n) (hp : ∀ x ∈ M, x.1 ≠ n.1) (hi : ∀ x ∈ M, x.2.1 ≠ n.2.1) : nmL (insL (isLt n) n M) :=
  ⟨by rw [insL_length]; omega, ins_sorted hM.2.1 hp, ins_ids hM.2.2.1 hi _, fun x hx => (mem_insL.1 hx).elim (fun e => e ▸ ho) (hM.2.2.2 x)⟩
/-- Where the name stands that was put. -/
theorem ins_at {M : List NM} (p : NM → Bool) (n : NM) : ∃ k, k ≤ M.length ∧ (insL p n M)[k]? = some n ∧ (insL p n M).eraseIdx k = M := by
  refine ⟨(M.takeWhile p).length, (List.takeWhile_prefix p).length_le, ?_, ?_⟩
  · unfold insL
    rw [List.getElem?_append_right (Nat.le_refl _), Nat.sub_self]
    rfl
  · unfold insL
    rw [List.eraseIdx_append_of_length_le (Nat.le_refl _), Nat.sub_self]
    exact List.takeWhile_append_dropWhile
theorem pathOf {v : Vec NM} (h : namesGood v) {i j : Nat} (hi : i < v.n) (hj : j < v.n) (e : (v.g i).1 = (v.g j).1) : i = j := by
  rcases Nat.lt_trichotomy i j with h1 | h1 | h1
  · have := names_sorted h j hj i h1; rw [e] at this; exact absurd this bLt_irrefl
  · exact h1
  · have := names_sorted h i hi j h1; rw [e] at this; exact absurd this bLt_irrefl
theorem ByPath_at {v : Vec NM} (h : namesGood v) {k : Nat} {n : NM} (hk : v.toL[k]? = some n) : k < v.n ∧ v.g k = n ∧ impl_ByPath.F v n.1 = some (k : Int) := by
  rw [toL_at] at hk
  split at hk
  · rename_i hkn
    obtain rfl := Option.some.inj hk
    refine ⟨hkn, rfl, ?_⟩
    obtain ⟨b, e1, h1⟩ := impl_NamesOk_ok v (nm_sml h)
    obtain rfl : b = true := h1.2 h
    obtain ⟨r, e2, h2⟩ := impl_pathAt_ok v (nm_sml h) (v.g k).1
    rw [impl_ByPath.F, impl_ByPath.B, e1, Option.bind_some, e2]
    rcases h2 with ⟨-, h2⟩ | ⟨i, rfl, hi, he, -⟩
    · exact absurd rfl (h2 k hkn)
    · obtain rfl := pathOf h hi hkn he
      rfl
  · cases hk
theorem ByPath_none {v : Vec NM} (h : namesGood v) {s : ByteArray} (hs : ∀ x ∈ v.toL, x.1 ≠ s) : impl_ByPath.F v s = some (-1) := by
  obtain ⟨b, e1, h1⟩ := impl_NamesOk_ok v (nm_sml h)
  obtain rfl : b = true := h1.2 h
  obtain ⟨r, e2, h2⟩ := impl_pathAt_ok v (nm_sml h) s
  rw [impl_ByPath.F, impl_ByPath.B, e1, Option.bind_some, e2]
  rcases h2 with ⟨rfl, -⟩ | ⟨i, rfl, hi, he, -⟩
  · rfl
  · exact absurd he (hs _ (List.mem_of_getElem? (Vec.toL_get v i hi)))
theorem ById_at {v : Vec NM} (h : namesGood v) {k : Nat} {n : NM} (hk : v.toL[k]? = some n) : impl_ById.F v n.2.1 = some (k : Int) := by
  rw [toL_at] at hk
  split at hk
  · rename_i hkn
    obtain rfl := Option.some.inj hk
    obtain ⟨b, e1, h1⟩ := impl_NamesOk_ok v (nm_sml h)
    obtain rfl : b = true := h1.2 h
    obtain ⟨r, e2, h2⟩ := impl_idAt_ok v (by have := h.1; unfold bN; omega) (v.g k).2.1
    rw [impl_ById.F, impl_ById.B, e1, Option.bind_some, e2]
    rcases h2 with ⟨-, h2⟩ | ⟨i, rfl, hi, he, -⟩
    · exact absurd rfl (h2 k hkn)
    · have hik : i = k := by
        rcases Nat.lt_trichotomy i k with h3 | h3 | h3
        · exact absurd he ((h.2 k hkn).2.2.2.2 i h3)
        · exact h3
        · exact absurd he.symm ((h.2 i hi).2.2.2.2 k h3)
      subst hik
      rfl
  · cases hk
theorem PutName_new {v : Vec NM} (h : namesGood v) (hl : v.n ≤ 11) {n : NM} (ho : nmOk n) (hp : ∀ x ∈ v.toL, x.1 ≠ n.1) (hi : ∀ x ∈ v.toL, x.2.1 ≠ n.2.1) : ∃ u, impl_PutName.F v n.1 n.2.1 n.2.2 = some (true, u) ∧ u.toL = insL (isLt n) n v.toL ∧ namesGood u := by
  obtain ⟨b, e1, h1⟩ := impl_NamesOk_ok v (nm_sml h)
  obtain rfl : b = true := h1.2 h
  obtain ⟨r, e2, h2⟩ := impl_idAt_ok v (by unfold bN; omega) n.2.1
  obtain ⟨u, e3, h3⟩ := impl_insertName_ok v (by omega) n
  have hg : namesGood u := names_list.2 (by rw [h3]; exact ins_good (names_list.1 h) (by simpa using hl) ho hp hi)
  obtain ⟨b, e4, h4⟩ := impl_NamesOk_ok u (nm_sml hg)
  obtain rfl : b = true := h4.2 hg
  refine ⟨u, ?_, h3, hg⟩
  rcases h2 with ⟨rfl, -⟩ | ⟨i, rfl, hi2, he, -⟩
  · rw [impl_PutName.F, impl_PutName.B, e1, Option.bind_some, impl_clone_eq v (nm_sml h)]
    simp only [Bool.not_true, sel, Option.bind_some, e2, show decide ((0 : Int) ≤ -1) = false from rfl, e3, e4]
  · exact absurd he (hi _ (List.mem_of_getElem? (Vec.toL_get v i hi2)))
theorem MoveName_at {v : Vec NM} (h : namesGood v) {k : Nat} {n : NM} (hk : v.toL[k]? = some n) {t : ByteArray} (ho : pathGood t) (hp : ∀ x ∈ v.toL.eraseIdx k, x.1 ≠ t) (hl : v.n ≤ 12) :
    ∃ u, impl_MoveName.F v n.1 t = some (true, u) ∧ u.toL = insL (isLt (t, n.2.1, n.2.2)) (t, n.2.1, n.2.2) (v.toL.eraseIdx k) ∧ namesGood u := by
  obtain ⟨hkn, hgk, e1⟩ := ByPath_at h hk
  have hdl : (v.del (k : Int) ((k : Int) + 1)).toL = v.toL.eraseIdx k := toL_del1 v k hkn
  have hdn : (v.del (k : Int) ((k : Int) + 1)).n = v.n - 1 := by show v.n - _ = _; omega
  obtain ⟨u, e3, h3⟩ := impl_insertName_ok (v.del k (k + 1)) (by rw [hdn]; omega) (t, n.2.1, n.2.2)
  rw [hdl] at h3
  obtain ⟨q1, q2, q3, q4⟩ := names_list.1 h
  have hon := q4 n (List.mem_of_getElem? hk)
  have hids : ∀ x ∈ v.toL.eraseIdx k, x.2.1 ≠ n.2.1 := by
    intro x hx e
    obtain ⟨i, hi, rfl⟩ := List.mem_iff_getElem.1 hx
    rw [List.getElem_eraseIdx] at e
    have hkl : k < v.toL.length := by simpa using hkn
    have hnk : v.toL[k] = n := by rw [nm_idx, hgk]
    rw [List.pairwise_iff_getElem] at q3
    rw [List.length_eraseIdx, if_pos hkl] at hi
    split at e
    · rename_i hik
      exact q3 i k (by omega) hkl hik (by rw [hnk]; exact e)
    · rename_i hik
      exact q3 k (i + 1) hkl (by omega) (by omega) (by rw [hnk]; exact e.symm)
  have hg : namesGood u := names_list.2 (by
    rw [h3]
    exact ins_good ⟨by rw [← hdl, Vec.toL_length, hdn]; omega, q2.sublist (List.eraseIdx_sublist _ _), q3.sublist (List.eraseIdx_sublist _ _), fun x hx => q4 x (List.mem_of_mem_eraseIdx hx)⟩ (by rw [← hdl, Vec.toL_length, hdn]; omega) ⟨ho, hon.2⟩ hp hids)
  obtain ⟨b, e4, h4⟩ := impl_NamesOk_ok u (nm_sml hg)
  obtain rfl : b = true := h4.2 hg
  refine ⟨u, ?_, h3, hg⟩
  have c1 : decide ((k : Int) < 0) = false := decide_eq_false (by omega)
  have c2 : decide (0 ≤ (k : Int) ∧ (k : Int) < (v.n : Int)) = true := decide_eq_true ⟨by omega, by omega⟩
  simp only at e3
  rw [impl_MoveName.F, impl_MoveName.B, e1]
  simp only [Option.bind_some, c1, sel, c2, chk, Int.toNat_natCast, impl_clone_eq v (nm_sml h), impl_dropName_eq v (nm_sml h) k hkn, hgk, e3, e4, Bool.not_true]
theorem CutName_at {v : Vec NM} (h : namesGood v) {k : Nat} {n : NM} (hk : v.toL[k]? = some n) : ∃ u, impl_CutName.F v n.1 = some (true, u) ∧ u.toL = v.toL.eraseIdx k := by
  obtain ⟨hkn, hgk, e1⟩ := ByPath_at h hk
  refine ⟨v.del k (k + 1), ?_, toL_del1 v k hkn⟩
  have c1 : decide ((k : Int) < 0) = false := decide_eq_false (by omega)
  rw [impl_CutName.F, impl_CutName.B, e1]
  simp only [Option.bind_some, c1, sel, impl_clone_eq v (nm_sml h), impl_dropName_eq v (nm_sml h) k hkn]
theorem CutName_none {v : Vec NM} (h : namesGood v) {s : ByteArray} (hs : ∀ x ∈ v.toL, x.1 ≠ s) : ∃ u, impl_CutName.F v s = some (false, u) := by
  rw [impl_CutName.F, impl_CutName.B, ByPath_none h hs]
  exact ⟨_, rfl⟩
theorem sameNames_ok (v w : Vec NM) (h : v.toL = w.toL) (hn : v.n ≤ 1000) : laws_sameNames.F v w = some true := by
  obtain ⟨h1, h2⟩ := Vec.of_toL h
  rw [laws_sameNames.F, laws_sameNames.B, show decide ((v.n : Int) = (w.n : Int)) = true from decide_eq_true (by omega)]
  simp only [Bool.not_true, sel]
  refine loop_inv (σ := Nat) (fun i => v.n - i) (fun i => i ≤ v.n) (fun _ x => x = some true) (fun k i => laws_sameNames.F0 k v w (i : Int) (fun _ => some true) (fun x => some x)) ?_ fuelN 0 (by unfold fuelN; omega) (Nat.zero_le _)
  intro k i hi ih
  by_cases hi2 : i < v.n
  · have q1 : decide ((i : Int) < (v.n : Int)) = true := decide_eq_true (by omega)
    have q2 : decide (0 ≤ (i : Int) ∧ (i : Int) < (v.n : Int)) = true := decide_eq_true ⟨by omega, by omega⟩
    have q3 : decide (0 ≤ (i : Int) ∧ (i : Int) < (w.n : Int)) = true := decide_eq_true ⟨by omega, by omega⟩
    have w1 := ih (i + 1) hi2 (by omega)
    rw [← wr_succ (by omega)] at w1
    simp only [laws_sameNames.F0, laws_sameNames.B0, q1, q2, q3, sel, chk, Int.toNat_natCast, h2 i hi2, decide_true, Bool.and_self, Bool.not_true]
    exact w1
  · simp only [laws_sameNames.F0, laws_sameNames.B0, show decide ((i : Int) < (v.n : Int)) = false from decide_eq_false (by omega), sel]
end Go.Al
