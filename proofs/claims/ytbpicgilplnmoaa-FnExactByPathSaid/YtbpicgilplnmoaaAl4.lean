import Derived.Test.YtbpicgilplnmoaaAl3
set_option linter.unusedVariables false
set_option linter.unusedSimpArgs false
namespace Go.Al
section
variable {P : Program} {st : St} {a : Act} {w : World} {I : Nat → Prop} {β : List Value} {S : Nat → Nat → Prop}

theorem obj_some {i : Nat} {o : Ob} (h : st.obj i = o) (hne : o ≠ .none) : st.obs[i]? = some o := by
  unfold St.obj at h
  cases hs : st.obs[i]? with
  | none => simp [hs] at h; exact absurd h.symm hne
  | some o' => simp [hs] at h; rw [h]

theorem RelV.obj (hr : RelV st a w I β S) {i : Nat} {o : Ob} (h : st.obj i = o) (hne : o ≠ .none) : ∃ b, β[i]? = some b ∧ ObR w I β b (S i) o := by
  have hs := obj_some h hne
  have hlt : i < β.length := by rw [hr.bl]; exact (List.getElem?_eq_some_iff.1 hs).1
  exact ⟨_, List.getElem?_eq_getElem hlt, hr.ob i o _ hs (List.getElem?_eq_getElem hlt)⟩

theorem RelV.box (hr : RelV st a w I β S) {i : Nat} {cs : List C} (h : st.obj i = .box cs) :
    ∃ g cur e, β[i]? = some (.pointer (some ⟨g, 0, none⟩)) ∧ S i g ∧ w.heap[g]? = some (.cells cur e (0, 0)) ∧ CsR w I β cs cur := by
  obtain ⟨b, hb, g, cur, e, rfl, hg, hh, hc⟩ := hr.obj h (by simp)
  exact ⟨g, cur, e, hb, hg, hh, hc⟩

theorem is_iff {α : Type} {o : Option α} {K : α → Prop} (h : is o K) : ∃ x, o = some x ∧ K x := by
  cases o with
  | none => exact h.elim
  | some x => exact ⟨x, rfl, h⟩

theorem Im.toC {x : N} {v : Value} (h : Im w I x v) : CR w I β (toC x) v := by
  cases h with
  | v h => exact Im.v h
  | im h => exact h
  | sl A cap ad c hu hn hcap hA hc H => exact Im.sl A cap ad c hu hn hcap hA hc H

theorem allSome_get {α : Type} : ∀ {l : List (Option α)} {r : List α}, allSome l = some r → ∀ (j : Nat) (x : α), r[j]? = some x → l[j]? = some (some x)
  | [], r, h => by simp [allSome] at h; subst h; simp
  | Option.none :: l, r, h => by simp [allSome] at h
  | some y :: l, r, h => by
    simp only [allSome, Option.map_eq_some_iff] at h
    obtain ⟨r', hr', rfl⟩ := h
    intro j x hx
    cases j with
    | zero => simpa using hx
    | succ j => simpa using allSome_get hr' j x (by simpa using hx)
theorem allSome_length {α : Type} : ∀ {l : List (Option α)} {r : List α}, allSome l = some r → r.length = l.length
  | [], r, h => by simp [allSome] at h; subst h; rfl
  | Option.none :: l, r, h => by simp [allSome] at h
  | some y :: l, r, h => by
    simp only [allSome, Option.map_eq_some_iff] at h
    obtain ⟨r', hr', rfl⟩ := h
    simp [allSome_length hr']

/-- The elements of an owned row, as they lie. -/
theorem RowR.cells {b : Value} {T : Nat → Prop} {sz : Nat} {xs : Rw N} (h : RowR w I β b T sz xs []) {i j : Nat} {x : N} (hx : at2 xs i j = some x) :
    ∃ g n cap v F, b = .slice (some ⟨g, 0, none⟩) n cap ∧ w.cell? ⟨g, i * sz + j, none⟩ = some v ∧ Own w I x v F := by
  rcases h with ⟨h0, -⟩ | ⟨g, cap, e, cur, fr, c, F, rfl, hu, hn, hcap, hm, hg, hb, hfr, hs, hc, H, -, hF, hD⟩
  · rw [at2_zero h0] at hx; cases hx
  · exact ⟨g, _, cap, c i j, F i j, rfl, by rw [cells_at hb]; exact hc i j x hx, H i j x hx (by rintro ⟨k, hk⟩; cases hk)⟩

theorem Own.toCo {x : N} {v : Value} {F : Nat → Prop} (h : Own w I x v F) {y : C} (hy : toCo x = some y) : CR w I β y v := by
  cases h with
  | v h => simp only [Al.toCo, Option.some.injEq] at hy; subst hy; exact Im.v h
  | im h => simp only [Al.toCo, Option.some.injEq] at hy; subst hy; exact h
  | nil => simp [Al.toCo] at hy
  | sl => simp [Al.toCo] at hy

theorem load_sound (hr : RelV st a w I β S) {t : TypeId} {av : AV} {v : Value} (hv : AVR w I β av v) {K : AV → List Ob → Prop} (h : loadK P st (tyOf P t) av K) :
    ∃ v' av', (Instr.loadAt t v).run P w = .ok v' w ∧ K av' [] ∧ AVR w I β av' v' := by
  unfold loadK at h
  split at h
  · rename_i i off
    obtain ⟨g, hg, rfl⟩ := hv
    split at h
    · rename_i cs hobj
      obtain ⟨av', hl, hK⟩ := is_iff h
      obtain ⟨g', cur, e, hb, -, hh, hsz, hc⟩ := hr.box hobj
      rw [hg] at hb
      obtain rfl : g = g' := by simpa using hb
      obtain ⟨v', hrun, hav⟩ := loadC_sound (w := w) (I := I) (β := β) hl ⟨g, off, none⟩ (fun j => cur.getD (off + j) undef) (fun j x hx => by
        have hj : off + j < cs.length := by
          have := (List.getElem?_eq_some_iff.1 hx).1
          simp at this; omega
        rw [add00, cells_at hh]
        simp [Array.getD, hsz ▸ hj]) (fun j x hx => by
        have hx' : cs[off + j]? = some x := by simpa using hx
        have hj : off + j < cur.size := by rw [hsz]; exact (List.getElem?_eq_some_iff.1 hx').1
        refine hc (off + j) x _ hx' ?_
        simp [Array.getD, hj])
      exact ⟨v', av', by simpa [Instr.loadAt, Instr.sureAddr] using hrun, hK, hav⟩
    · exact h.elim
  · rename_i cs
    obtain ⟨ad, c, rfl, hi, hc, H⟩ := hv
    obtain ⟨av', hl, hK⟩ := is_iff h
    obtain ⟨v', hrun, hav⟩ := loadC_sound (w := w) (I := I) (β := β) hl ad c (fun j x hx => by
        simp only [List.getElem?_map, Option.map_eq_some_iff] at hx
        obtain ⟨y, hy, rfl⟩ := hx
        exact hc j y hy) (fun j x hx => by
        simp only [List.getElem?_map, Option.map_eq_some_iff] at hx
        obtain ⟨y, hy, rfl⟩ := hx
        exact (H j y hy).toC)
    exact ⟨v', av', by simpa [Instr.loadAt, Instr.sureAddr] using hrun, hK, hav⟩
  · rename_i i sz idx f
    obtain ⟨g, n, cap, hg, rfl⟩ := hv
    split at h
    · rename_i sz' xs hobj
      obtain ⟨rfl, he, h⟩ := h
      obtain ⟨cs, hcs, h⟩ := is_iff h
      obtain ⟨av', hl, hK⟩ := is_iff h
      obtain ⟨b, hb, hrow⟩ := hr.obj hobj (by simp)
      rw [hg] at hb
      obtain rfl := (Option.some.injEq _ _ ▸ hb : _ = b)
      have key : ∀ (j : Nat) (y : C), cs[j]? = some y → ∃ v, w.cell? ⟨g, idx * sz + f + j, none⟩ = some v ∧ CR w I β y v := by
        intro j y hy
        have h1 := allSome_get hcs j y hy
        simp only [List.getElem?_map, Option.map_eq_some_iff] at h1
        obtain ⟨x, hx, hxy⟩ := h1
        have hx2 : (xs.g idx)[f + j]? = some x := by
          rw [List.getElem?_take] at hx
          split at hx
          · simpa using hx
          · cases hx
        obtain ⟨g', n', cap', v, F, hb', hcell, hown⟩ := hrow.cells (i := idx) (j := f + j) (x := x) (by rw [at2_of he]; exact hx2)
        simp only [Value.slice.injEq, Option.some.injEq, Addr.mk.injEq] at hb'
        obtain ⟨⟨rfl, -⟩, -⟩ := hb'
        exact ⟨v, by rw [Nat.add_assoc]; exact hcell, hown.toCo hxy⟩
      obtain ⟨v', hrun, hav⟩ := loadC_sound (w := w) (I := I) (β := β) hl ⟨g, idx * sz + f, none⟩ (fun j => (w.cell? ⟨g, idx * sz + f + j, none⟩).getD undef) (fun j x hx => by
        obtain ⟨v, h1, h2⟩ := key j x hx
        rw [add00, h1]
        rfl) (fun j x hx => by
        obtain ⟨v, h1, h2⟩ := key j x hx
        rw [h1]
        exact h2)
      exact ⟨v', av', by simpa [Instr.loadAt, Instr.sureAddr] using hrun, hK, hav⟩
    · exact h.elim
  · exact h.elim

end
end Go.Al
