import Derived.Test.YtbpicgilplnmoaaAl6
set_option linter.unusedVariables false
set_option linter.unusedSimpArgs false
namespace Go.Al
section
variable {P : Program} {st : St} {a : Act} {w : World} {I : Nat → Prop} {β : List Value} {S : Nat → Nat → Prop}

/-! ### New objects -/

theorem alloc_size (w : World) (o : Obj) : (w.alloc o).heap.size = w.heap.size + 1 := by simp

/-- One new object, its block the world's next one. -/
theorem QPost.one (hr : RelV st a w I β S) {w' : World} {av : AV} {v b : Value} {o : Ob} {Sn : Nat → Prop}
    (hfr : Fr (fun _ => False) w w') (hS : ∀ x, Sn x → w.heap.size ≤ x ∧ x < w'.heap.size)
    (hav : AVR w' I (β ++ [b]) av v) (hob : ObR w' I (β ++ [b]) b Sn o) : QPost st w I β S av [o] v w' := by
  refine ⟨I, [b], fun k x => k = 0 ∧ Sn x, hfr, fun _ h => h, fun _ h => .inl h, fun x hx => Nat.lt_of_lt_of_le (hr.ilt x hx) hfr.size, rfl, hav, ?_, ?_, ?_⟩
  · intro k o' b' ho hb
    cases k with
    | zero =>
      simp at ho hb
      subst ho; subst hb
      exact hob.mono (fun _ h => h) (fun _ _ => rfl) (fun _ _ h => h) (fun _ _ => rfl) (fun x hx => ⟨rfl, hx⟩)
    | succ k => simp at ho
  · rintro k x ⟨rfl, hx⟩
    exact ⟨by simp, (hS x hx).1, (hS x hx).2, fun hI => by have := hr.ilt x hI; have := (hS x hx).1; omega⟩
  · rintro i j x ⟨rfl, -⟩ ⟨rfl, -⟩
    rfl

theorem CsR.app {cs : List C} {arr : Array Value} (h : CsR w I β cs arr) (βn : List Value) : CsR w I (β ++ βn) cs arr :=
  h.mono (fun _ h => h) (fun _ _ => rfl) (fun i b hb => by rw [List.getElem?_append_left (List.getElem?_eq_some_iff.1 hb).1]; exact hb)

theorem QPost.box (hr : RelV st a w I β S) {cs : List C} {arr : Array Value} (h : CsR w I β cs arr) (e : TypeId) :
    QPost st w I β S (.c (.p st.obs.length 0)) [.box cs] (.pointer (some ⟨w.heap.size, 0, none⟩)) (w.alloc (.cells arr e)) := by
  refine QPost.one (b := .pointer (some ⟨w.heap.size, 0, none⟩)) (Sn := fun x => x = w.heap.size) hr (Fr.alloc _ _ _) ?_ ?_ ?_
  · rintro x rfl; exact ⟨Nat.le_refl _, by simp⟩
  · exact ⟨w.heap.size, by rw [← hr.bl]; simp, rfl⟩
  · refine ⟨w.heap.size, arr, e, rfl, rfl, heap_alloc_new w _, ?_⟩
    exact (h.app _).mono (fun _ h => h) (fun b hb => heap_alloc_old w _ b (hr.ilt b hb)) (fun _ _ h => h)

theorem zC_sound {v : Value} (h : v.oneCell' = true) : CR w I β (zC v) v := by
  unfold zC
  split
  · exact ⟨_, rfl⟩
  · exact Im.v h

theorem zCs_sound {arr : Array Value} (h : arr.toList.all (·.oneCell') = true) : CsR w I β (arr.toList.map zC) arr := by
  refine ⟨by simp, fun j x v hx hv => ?_⟩
  have hv' : arr.toList[j]? = some v := by simpa using hv
  simp only [List.getElem?_map, hv', Option.map_some, Option.some.injEq] at hx
  subst hx
  exact zC_sound (List.all_eq_true.1 h v (List.mem_of_getElem? hv'))

theorem one_cells {v : Value} (h : v.oneCell' = true) : v.cells = #[v] := by cases v <;> first | rfl | (simp [Value.oneCell'] at h)

theorem partCs_sound {av : AV} {v : Value} (hv : AVR w I β av v) {cs : List C} (h : partCs av = some cs) : CsR w I β cs v.cells := by
  unfold partCs at h
  split at h
  · simp only [Option.some.injEq] at h
    subst h
    rw [one_cells (CR.one hv)]
    refine ⟨rfl, fun j x u hx hu => ?_⟩
    cases j with
    | zero => simp at hx hu; subst hx; subst hu; exact hv
    | succ j => simp at hx
  · simp only [Option.some.injEq] at h
    subst h
    obtain ⟨arr, rfl, h⟩ := hv
    exact h
  · cases h

/-! ### build -/
theorem setAt_length {α : Type} {cs new : List α} {off : Nat} (h : off + new.length ≤ cs.length) : (setAt cs off new).length = cs.length := by
  unfold setAt; simp; omega
theorem setAt_get {α : Type} {cs new : List α} {off : Nat} (h : off + new.length ≤ cs.length) (j : Nat) :
    (setAt cs off new)[j]? = if off ≤ j ∧ j < off + new.length then new[j - off]? else cs[j]? := by
  unfold setAt
  rw [List.append_assoc, List.getElem?_append]
  simp only [List.length_take, show min off cs.length = off by omega, List.getElem?_take]
  by_cases h1 : j < off
  · simp [h1, show ¬ off ≤ j by omega]
  · simp only [h1, if_false]
    rw [List.getElem?_append]
    by_cases h2 : j - off < new.length
    · simp [h2, show off ≤ j ∧ j < off + new.length by omega]
    · simp only [h2, if_false, List.getElem?_drop]
      rw [if_neg (by omega)]
      congr 1
      omega

theorem foldl_set (new : List Value) (off : Nat) : ∀ (k : Nat) (arr : Array Value) (j : Nat), off + k + new.length ≤ arr.size →
    ((new.zipIdx k).foldl (fun cs p => cs.setIfInBounds (off + p.2) p.1) arr)[j]? = (if off + k ≤ j ∧ j < off + k + new.length then new[j - (off + k)]? else arr[j]?) ∧
    ((new.zipIdx k).foldl (fun cs p => cs.setIfInBounds (off + p.2) p.1) arr).size = arr.size := by
  induction new with
  | nil => intro k arr j h; simp; omega
  | cons v r ih =>
    intro k arr j h
    simp only [List.zipIdx_cons, List.foldl_cons]
    obtain ⟨e1, e2⟩ := ih (k + 1) (arr.setIfInBounds (off + k) v) j (by simp at h ⊢; omega)
    refine ⟨?_, by rw [e2]; simp⟩
    rw [e1]
    simp only [List.length_cons] at h ⊢
    by_cases h1 : j = off + k
    · subst h1
      rw [if_neg (by omega), if_pos (by omega)]
      simp [Array.getElem?_setIfInBounds, show off + k < arr.size by omega]
    · by_cases h2 : off + (k + 1) ≤ j ∧ j < off + (k + 1) + r.length
      · rw [if_pos h2, if_pos (by omega), show j - (off + k) = (j - (off + (k + 1))) + 1 by omega]
        simp
      · rw [if_neg h2, if_neg (by omega), Array.getElem?_setIfInBounds_ne (by omega)]

theorem CsR.setAt {cs new : List C} {arr narr : Array Value} {off : Nat} (h : CsR w I β cs arr) (hn : CsR w I β new narr) (hle : off + new.length ≤ cs.length) :
    CsR w I β (setAt cs off new) (narr.zipIdx.foldl (fun cs p => cs.setIfInBounds (off + p.2) p.1) arr) := by
  have hl : off + 0 + narr.toList.length ≤ arr.size := by rw [h.1]; simp [hn.1]; omega
  have key : ∀ j, (narr.zipIdx.foldl (fun cs p => cs.setIfInBounds (off + p.2) p.1) arr)[j]? = (if off ≤ j ∧ j < off + narr.size then narr[j - off]? else arr[j]?) ∧
      (narr.zipIdx.foldl (fun cs p => cs.setIfInBounds (off + p.2) p.1) arr).size = arr.size := by
    intro j
    have := foldl_set narr.toList off 0 arr j hl
    rw [← Array.foldl_toList, Array.toList_zipIdx]
    simpa using this
  refine ⟨by rw [(key 0).2, h.1, setAt_length hle], fun j x v hx hv => ?_⟩
  rw [(key j).1] at hv
  rw [setAt_get hle] at hx
  rw [hn.1] at hv
  split at hx
  · rename_i hc
    rw [if_pos hc] at hv
    exact hn.2 _ x v hx hv
  · rename_i hc
    rw [if_neg hc] at hv
    exact h.2 _ x v hx hv

theorem fill_sound (hr : RelV st a w I β S) {t : TypeId} {fs : Array Field} (hfs : P.underlying t = some (.struct fs)) (place : Nat → Option (Nat × Nat))
    (hp : ∀ f off u, fldOf (tyOf P t) f = some (off, u) → (tyOf P u).ok = true → place f = some (off, (tyOf P u).size)) :
    ∀ (parts : List (Nat × Operand)) (cs cs' : List C) (arr : Array Value), CsR w I β cs arr →
      fillC P (tyOf P t) (parts.map fun p => (p.1, st.ev p.2)) cs = some cs' → (∀ p ∈ parts, ∀ off u, fldOf (tyOf P t) p.1 = some (off, u) → (tyOf P u).ok = true) →
      ∃ arr', Instr.fill place arr (parts.map fun p => (p.1, a.eval p.2)) = some arr' ∧ CsR w I β cs' arr' := by
  intro parts
  induction parts with
  | nil =>
    intro cs cs' arr h hf _
    simp only [List.map_nil, fillC, Option.some.injEq] at hf
    subst hf
    exact ⟨arr, rfl, h⟩
  | cons p r ih =>
    intro cs cs' arr h hf hall
    simp only [List.map_cons, fillC] at hf
    split at hf
    · rename_i off u new h1 h2
      split at hf
      · rename_i hc
        have hok := hall p (by simp) off u h1
        have hn := partCs_sound (ev_sound hr p.2) h2
        obtain ⟨arr', h3, h4⟩ := ih _ cs' _ (h.setAt hn hc.2) hf (fun q hq => hall q (by simp [hq]))
        refine ⟨arr', ?_, h4⟩
        have hsz : (a.eval p.2).cells.size = (tyOf P u).size := by rw [hn.1, hc.1]
        have hno : ¬ (off + (a.eval p.2).cells.size > arr.size) := by rw [hn.1, h.1]; omega
        simp only [List.map_cons, Instr.fill, hp p.1 off u h1 hok, hsz, ne_eq, not_true_eq_false, decide_false, Bool.false_or]
        rw [hsz] at hno
        simp only [hno, decide_false, Bool.false_eq_true, if_false]
        exact h3
      · cases hf
    · cases hf

end
end Go.Al
