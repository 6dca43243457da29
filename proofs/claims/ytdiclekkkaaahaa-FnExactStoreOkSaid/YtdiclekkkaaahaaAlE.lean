import Derived.Test.YtdiclekkkaaahaaAlD
set_option linter.unusedVariables false
set_option linter.unusedSimpArgs false
set_option linter.constructorNameAsVariable false
set_option linter.unusedSectionVars false
namespace Go.Al

/-! ### 30. Rows that are the same below their number -/
inductive NE : N → N → Prop
  | refl (x : N) : NE x x
  | v (x : Value) : NE (.v x) (.v x)
  | im {x y : N} (h : NE x y) : NE (.im x) (.im y)
  | sl {sz : Nat} {xs ys : Rw N} (hn : xs.n = ys.n) (hl : ∀ i, i < xs.n → (xs.g i).length = (ys.g i).length)
      (h : ∀ i j x y, at2 xs i j = some x → at2 ys i j = some y → NE x y) : NE (.sl sz xs) (.sl sz ys)

section
variable {w : World} {I : Nat → Prop} {β : List Value}
theorem at2_same {xs ys : Rw N} (hn : xs.n = ys.n) (hl : ∀ i, i < xs.n → (xs.g i).length = (ys.g i).length) {i j : Nat} {y : N} (h : at2 ys i j = some y) : ∃ x, at2 xs i j = some x := by
  obtain ⟨h1, h2⟩ := at2_pos h
  have hi : i < xs.n := by omega
  have hj : j < (xs.g i).length := by rw [hl i hi]; exact (List.getElem?_eq_some_iff.1 h2).1
  exact ⟨(xs.g i)[j], by rw [at2_of hi]; simp [hj]⟩
theorem unif_same {xs ys : Rw N} (hn : xs.n = ys.n) (hl : ∀ i, i < xs.n → (xs.g i).length = (ys.g i).length) {sz : Nat} (h : unif sz xs) : unif sz ys := by
  intro i hi
  rw [← hl i (by omega)]
  exact h i (by omega)

theorem Im.ne {x : N} {c : Value} (h : Im w I x c) : ∀ {y : N}, NE x y → Im w I y c := by
  induction h with
  | v h => intro y hy; cases hy <;> exact .v h
  | im h ih => intro y hy; cases hy with | refl => exact .im h | im hy => exact .im (ih hy)
  | sl A cap ad c hu hn hcap hA hc H ih =>
    intro y hy
    cases hy with
    | refl => exact .sl A cap ad c hu hn hcap hA hc H
    | sl hnn hl hy =>
      rename_i xs sz ys
      have := Im.sl (w := w) (I := I) (sz := _) (xs := ys) A cap ad c (unif_same hnn hl hu) (by omega) (by omega) (fun h => hA (by omega))
        (fun i j z hz => by obtain ⟨z', hz'⟩ := at2_same hnn hl hz; exact hc i j z' hz')
        (fun i j z hz => by obtain ⟨z', hz'⟩ := at2_same hnn hl hz; exact ih i j z' hz' (hy i j z' z hz' hz))
      rw [← hnn] at this
      exact this

theorem Own.ne {x : N} {c : Value} {S : Nat → Prop} (h : Own w I x c S) : ∀ {y : N}, NE x y → Own w I y c S := by
  induction h with
  | v h => intro y hy; cases hy <;> exact .v h
  | im h => intro y hy; cases hy with | refl => exact .im h | im hy => exact .im (h.ne hy)
  | nil A h0 => intro y hy; cases hy with | refl => exact .nil A h0 | sl hnn hl hy => exact .nil A (by omega)
  | sl g cap e cur fr c F hu hn hcap hm hg hb hfr hs hc H hF hD ih =>
    intro y hy
    cases hy with
    | refl => exact .sl g cap e cur fr c F hu hn hcap hm hg hb hfr hs hc H hF hD
    | sl hnn hl hy =>
      rename_i xs S sz ys
      have := Own.sl (w := w) (I := I) (xs := ys) g cap e cur fr c F (unif_same hnn hl hu) (by omega) (by omega) hm hg hb hfr hs
        (fun i j z hz => by obtain ⟨z', hz'⟩ := at2_same hnn hl hz; exact hc i j z' hz')
        (fun i j z hz => by obtain ⟨z', hz'⟩ := at2_same hnn hl hz; exact ih i j z' hz' (hy i j z' z hz' hz)) hF hD
      rw [← hnn] at this
      exact this

/-- Objects that are the same, their rows below their number. -/
inductive OE : Ob → Ob → Prop
  | refl (o : Ob) : OE o o
  | row {sz : Nat} {xs ys : Rw N} (h : NE (.sl sz xs) (.sl sz ys)) : OE (.row sz xs []) (.row sz ys [])
  | fro {sz : Nat} {xs ys : Rw N} (h : NE (.sl sz xs) (.sl sz ys)) : OE (.fro sz xs) (.fro sz ys)
theorem ObR.oe {b : Value} {S : Nat → Prop} {o o' : Ob} (h : ObR w I β b S o) (he : OE o o') : ObR w I β b S o' := by
  cases he with
  | refl => exact h
  | row he =>
    have h1 := RowR.own (show RowR w I β b S _ _ [] from h)
    exact RowR.of_own (h1.ne he)
  | fro he => exact Im.ne (show Im w I _ b from h) he

/-- Slots that are the same. -/
inductive AE : AV → AV → Prop
  | refl (a : AV) : AE a a
  | n {x y : N} (h : NE x y) : AE (.c (.n x)) (.c (.n y))
theorem AVR.ae {a b : AV} {v : Value} (h : AVR w I β a v) (he : AE a b) : AVR w I β b v := by
  cases he with
  | refl => exact h
  | n he => exact Im.ne (show Im w I _ v from h) he
end

theorem StLe.same {st st' : St} (h1 : st.slots.length = st'.slots.length) (h2 : ∀ (t : Nat) (x y : AV), st.slots[t]? = some x → st'.slots[t]? = some y → AE x y)
    (h3 : st.obs.length = st'.obs.length) (h4 : ∀ (i : Nat) (x y : Ob), st.obs[i]? = some x → st'.obs[i]? = some y → OE x y) (h5 : st.ks = st'.ks) : StLe st st' := by
  rintro cx a w ⟨I, β, S, hr, hc⟩
  refine ⟨I, β, S, ⟨by rw [← h1]; exact hr.sz, by rw [← h3]; exact hr.bl, fun t v u hv hu => ?_, fun i o b ho hb => ?_, hr.sdis, fun i b hb => by rw [← h3]; exact hr.slt i b hb, hr.il⟩,
    ⟨hc.own, hc.isub, hc.iinv, hc.frame, by rw [← h5]; exact hc.keep, hc.defers⟩⟩
  · have ht : t < st.slots.length := by rw [h1]; exact (Sl.some_iff.1 hv).1
    exact (hr.slot t _ u (Sl.get_lt ht) hu).ae (h2 t _ v (Sl.get_lt ht) hv)
  · have hi : i < st.obs.length := by rw [h3]; exact (List.getElem?_eq_some_iff.1 ho).1
    exact (hr.ob i _ b (List.getElem?_eq_getElem hi) hb).oe (h4 i _ o (List.getElem?_eq_getElem hi) ho)

/-- A row by another one that is the same as far as it reaches. -/
theorem NE.rw {A : Type} [Enc A] {u v : Vec A} (h : Vec.Same u v) : NE (.sl (Enc.sz A) (encRw u)) (.sl (Enc.sz A) (encRw v)) := by
  refine .sl h.1 (fun i _ => by simp [encRw, Enc.len]) fun i j x y hx hy => ?_
  obtain ⟨hi, hx⟩ := at2_pos hx
  obtain ⟨-, hy⟩ := at2_pos hy
  have e : u.g i = v.g i := h.2 i hi
  simp only [encRw] at hx hy
  rw [e, hy] at hx
  obtain rfl := Option.some.inj hx
  exact .refl _
theorem AC.row {P : Program} {f : FuncId} {args : List AV} {A : Type} [Enc A] {v : Vec A} (h : AC P f args [] true [] fun rv obs => rv = .c (.h 0) ∧ ∃ u : Vec A, obs = [Go.Al.rw u] ∧ Vec.Same u v) :
    AC P f args [] true [] fun rv obs => (rv, obs) = (.c (.h 0), [Go.Al.rw v]) := by
  intro w vals I β S hr
  refine (h w vals I β S hr).mono ?_
  rintro x w' ⟨rv, obs, v', I', β', S', h1, ⟨rfl, u, rfl, hu⟩, h2, h3, h4, h5, h6, h7, h8, h9, h10⟩
  refine ⟨_, _, v', I', β', S', h1, rfl, h2, h3, h4, fun i o b ho hb => ?_, h6, h7, h8, h9, h10⟩
  cases i with
  | zero =>
    simp only [List.getElem?_cons_zero, Option.some.injEq] at ho
    subst ho
    exact (h5 0 _ b rfl hb).oe (.row (NE.rw hu))
  | succ i => simp at ho

end Go.Al
