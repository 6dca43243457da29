import Derived.Test.YtbpicgilplnmoaaAl11
set_option linter.unusedVariables false
set_option linter.unusedSimpArgs false
set_option linter.constructorNameAsVariable false
namespace Go.Al

/-! ### 14. An element's cells replaced -/
theorem at2_set {xs : Rw N} {idx i j : Nat} {e : List N} (hi : idx < xs.n) : at2 (xs.set idx e) i j = if i = idx then e[j]? else at2 xs i j := by
  rw [Rw.set_eq]
  unfold at2
  by_cases h : i = idx
  · subst h; simp [hi]
  · simp [h]

theorem unif_set {sz idx : Nat} {xs : Rw N} {e : List N} (h : unif sz xs) (he : e.length = sz) : unif sz (xs.set idx e) := by
  rw [Rw.set_eq]
  intro i hi
  show (if i = idx then e else xs.g i).length = sz
  split
  · exact he
  · exact h i hi

theorem div_lt {i i' j j' sz : Nat} (hj : j < sz) (hj' : j' < sz) (h : i * sz + j = i' * sz + j') : i = i' ∧ j = j' := by
  have h1 : (i * sz + j) / sz = i := by rw [Nat.add_comm, Nat.add_mul_div_right _ _ (by omega), Nat.div_eq_of_lt hj, Nat.zero_add]
  have h2 : (i' * sz + j') / sz = i' := by rw [Nat.add_comm, Nat.add_mul_div_right _ _ (by omega), Nat.div_eq_of_lt hj', Nat.zero_add]
  have : i = i' := by rw [← h1, ← h2, h]
  subst this
  exact ⟨rfl, by omega⟩

section
variable {P : Program} {st : St} {a : Act} {w : World} {I : Nat → Prop} {β : List Value} {S : Nat → Nat → Prop}

/-- Cells (idx, f), (idx, f + 1), .. of an owned row are written. -/
theorem RowR.store {b : Value} {T T' : Nat → Prop} {sz idx f : Nat} {xs : Rw N} (h : RowR w I β b T sz xs []) {e : List N} (hi : idx < xs.n) (he : xs.g idx = e)
    {ns : List N} {vs : List Value} {Fs : Nat → Nat → Prop} (hlen : vs.length = ns.length) (hfit : f + ns.length ≤ e.length)
    (hown : ∀ (k : Nat) (n : N) (v : Value), ns[k]? = some n → vs[k]? = some v → Own w I n v (Fs k))
    (hFd : ∀ k k' b, Fs k b → Fs k' b → k = k') (hFT : ∀ k b, Fs k b → ¬ T b) (hT : ∀ b, T b → T' b) (hFT' : ∀ k b, Fs k b → T' b) (hTI : ∀ b, T b → ¬ I b) :
    ∃ g cap cur el fr, b = .slice (some ⟨g, 0, none⟩) xs.n cap ∧ T g ∧ w.heap[g]? = some (.cells cur el fr) ∧ (cur.size ≤ fr.1 ∨ fr.2 ≤ fr.1) ∧ idx * sz + f + vs.length ≤ cur.size ∧
      RowR (w.setRow g (putCells cur (idx * sz + f) vs)) I β b T' sz (xs.set idx (setAt e f ns)) [] := by
  rcases h with ⟨h0, -⟩ | ⟨g, cap, el, cur, fr, c, F, rfl, hu, hn, hcap, hm, hg, hb, hfr, hs, hc, H, -, hF, hD⟩
  · omega
  · have hel : e.length = sz := by rw [← he]; exact hu idx hi
    have hroom : idx * sz + f + vs.length ≤ cur.size := by
      have h1 : (idx + 1) * sz ≤ cap * sz := Nat.mul_le_mul_right _ (by omega)
      rw [Nat.add_mul, Nat.one_mul] at h1
      omega
    refine ⟨g, cap, cur, el, fr, rfl, hg, hb, hfr, hroom, .inr ⟨g, cap, el, putCells cur (idx * sz + f) vs, fr,
      fun i j => if i = idx ∧ f ≤ j ∧ j < f + ns.length then vs.getD (j - f) undef else c i j,
      fun i j b => (if i = idx ∧ f ≤ j ∧ j < f + ns.length then Fs (j - f) b else F i j b), ?_, ?_, ?_, ?_, hm, hT _ hg, setRow_heap w g cur _ el _ hb, by rw [putCells_size]; exact hfr, by rw [putCells_size]; exact hs, ?_, ?_, by simp, ?_, ?_⟩⟩
    · rfl
    · exact unif_set hu (by rw [setAt_length hfit]; exact hel)
    · exact hn
    · exact hcap
    · intro i j x hx
      rw [at2_set hi] at hx
      rw [putCells_get _ _ _ _ (by omega)]
      have hjs : j < sz := by
        split at hx
        · have := (List.getElem?_eq_some_iff.1 hx).1
          rw [setAt_length hfit, hel] at this
          exact this
        · exact (at2_lt hu hx).2
      by_cases h1 : i = idx ∧ f ≤ j ∧ j < f + ns.length
      · obtain ⟨rfl, h2, h3⟩ := h1
        rw [if_pos (by omega)]
        simp only [h2, h3, and_self, if_true]
        rw [show i * sz + j - (i * sz + f) = j - f by omega]
        simp [List.getD, show j - f < vs.length by omega]
      · dsimp only
        rw [if_neg h1]
        rw [if_neg]
        · by_cases h2 : i = idx
          · subst h2
            rw [if_pos rfl, setAt_get hfit, if_neg (by omega)] at hx
            exact hc i j x (by rw [at2_of hi, he]; exact hx)
          · rw [if_neg h2] at hx
            exact hc i j x hx
        · rintro ⟨h2, h3⟩
          have h4 : i * sz + j = idx * sz + (i * sz + j - idx * sz) := by omega
          have := div_lt hjs (show i * sz + j - idx * sz < sz by omega) h4
          exact h1 ⟨this.1, by omega, by omega⟩
    · intro i j x hx _
      rw [at2_set hi] at hx
      have hsame : ∀ b, b ≠ g → (w.setRow g (putCells cur (idx * sz + f) vs)).heap[b]? = w.heap[b]? := fun b hb => setRow_other w g b _ hb
      have hIw : ∀ b, I b → (w.setRow g (putCells cur (idx * sz + f) vs)).heap[b]? = w.heap[b]? := fun q hq => hsame q (by rintro rfl; exact hTI _ hg hq)
      by_cases h1 : i = idx ∧ f ≤ j ∧ j < f + ns.length
      · obtain ⟨rfl, h2, h3⟩ := h1
        simp only [h2, h3, and_self, if_true]
        rw [if_pos rfl, setAt_get hfit, if_pos ⟨h2, h3⟩] at hx
        have hv : vs[j - f]? = some (vs.getD (j - f) undef) := by simp [List.getD, show j - f < vs.length by omega]
        exact (hown _ x _ hx hv).mono (fun _ h => h) hIw (fun q hq => hsame q (by rintro rfl; exact hFT _ _ hq hg)) (fun _ h => h)
      · simp only [h1, if_false]
        have hx' : at2 xs i j = some x := by
          by_cases h2 : i = idx
          · subst h2
            rw [if_pos rfl, setAt_get hfit, if_neg (by omega)] at hx
            rw [at2_of hi, he]; exact hx
          · rwa [if_neg h2] at hx
        exact (H i j x hx' (by rintro ⟨k, hk⟩; cases hk)).mono (fun _ h => h) hIw (fun q hq => hsame q (hF i j q hq).2) (fun _ h => h)
    · intro i j q hq
      split at hq
      · exact ⟨hFT' _ q hq, by rintro rfl; exact hFT _ _ hq hg⟩
      · exact ⟨hT _ (hF i j q hq).1, (hF i j q hq).2⟩
    · intro i j i' j' q hq hq'
      split at hq
      · rename_i h1
        split at hq'
        · rename_i h2
          have := hFd _ _ q hq hq'
          omega
        · exact absurd (hF i' j' q hq').1 (hFT _ q hq)
      · split at hq'
        · exact absurd (hF i j q hq).1 (hFT _ q hq')
        · exact hD i j i' j' q hq hq'

end
end Go.Al
