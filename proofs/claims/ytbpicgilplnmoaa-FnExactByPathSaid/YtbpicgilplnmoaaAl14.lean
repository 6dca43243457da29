import Derived.Test.YtbpicgilplnmoaaAl13
set_option linter.unusedVariables false
set_option linter.unusedSimpArgs false
set_option linter.constructorNameAsVariable false
namespace Go.Al

/-! ### 16. From one state to the next -/
section
variable {P : Program} {st : St} {a : Act} {w : World} {I : Nat → Prop} {β : List Value} {S : Nat → Nat → Prop} {c : Cx}

theorem put_slots (st : St) (d : Option Nat) (v : AV) : (st.put d v).slots = match d with | some d => st.slots.set d v | Option.none => st.slots := by cases d <;> rfl
theorem put_obs (st : St) (d : Option Nat) (v : AV) : (st.put d v).obs = st.obs := by cases d <;> rfl
theorem put_ks (st : St) (d : Option Nat) (v : AV) : (st.put d v).ks = st.ks := by cases d <;> rfl

/-- A slot is written. -/
theorem RelV.put (hr : RelV st a w I β S) (d : Option Nat) {av : AV} {v : Value} (hv : AVR w I β av v) : RelV (st.put d av) (a.put d v) w I β S := by
  refine ⟨?_, by rw [put_obs]; exact hr.bl, ?_, by rw [put_obs]; exact hr.ob, hr.sdis, by rw [put_obs]; exact hr.slt, hr.il⟩
  · cases d with
    | none => exact hr.sz
    | some d => simpa [Act.put, St.put] using hr.sz
  · intro t u x hu hx
    cases d with
    | none => exact hr.slot t u x hu hx
    | some d =>
      simp only [St.put, Act.put] at hu hx
      rw [Sl.getElem?_set] at hu
      by_cases h : d = t
      · subst h
        rw [if_pos rfl] at hu
        split at hu
        · rename_i hlt
          rw [Array.getElem?_setIfInBounds] at hx
          simp only [if_true] at hx
          split at hx
          · simp only [Option.some.injEq] at hu hx
            subst hu; subst hx
            exact hv
          · cases hx
        · cases hu
      · rw [if_neg h] at hu
        rw [Array.getElem?_setIfInBounds_ne h] at hx
        exact hr.slot t u x hu hx

theorem RelC.put (h : RelC c st a w I β S) (d : Option Nat) (av : AV) (v : Value) : RelC c (st.put d av) (a.put d v) w I β S :=
  ⟨h.own, h.isub, h.iinv, h.frame, by rw [put_ks]; exact h.keep, by cases d <;> exact h.defers⟩

/-- Behind an effect-free operation. -/
theorem step_core (hr : RelV st a w I β S) (hc : RelC c st a w I β S) {av : AV} {news : List Ob} {v : Value} {w' : World} (d : Option Nat)
    {I' : Nat → Prop} {βn : List Value} {Sn : Nat → Nat → Prop} (hfr : Fr (fun _ => False) w w') (hI : ∀ b, I b → I' b) (hI2 : ∀ b, I' b → I b ∨ w.heap.size ≤ b) (hIl : ∀ b, I' b → b < w'.heap.size) (hbn : βn.length = news.length)
    (hav : AVR w' I' (β ++ βn) av v) (hob : ∀ (k : Nat) (o : Ob) (b : Value), news[k]? = some o → βn[k]? = some b → ObR w' I' (β ++ βn) b (Sn k) o)
    (hslt : ∀ k b, Sn k b → k < news.length ∧ w.heap.size ≤ b ∧ b < w'.heap.size ∧ ¬ I' b) (hsd : ∀ i j b, Sn i b → Sn j b → i = j) :
    RelV ((st.new news).put d av) (a.put d v) w' I' (β ++ βn) (fun i b => if i < st.obs.length then S i b else Sn (i - st.obs.length) b) ∧ RelC c ((st.new news).put d av) (a.put d v) w' I' (β ++ βn) (fun i b => if i < st.obs.length then S i b else Sn (i - st.obs.length) b) := by
  have hβ : ∀ (i : Nat) (b : Value), β[i]? = some b → (β ++ βn)[i]? = some b := fun i b hb => by rw [List.getElem?_append_left (List.getElem?_eq_some_iff.1 hb).1]; exact hb
  have hsame : ∀ b, b < w.heap.size → w'.heap[b]? = w.heap[b]? := fun b hb => hfr.block b hb (fun h => h)
  have hIw : ∀ b, I b → w'.heap[b]? = w.heap[b]? := fun b hb => hsame b (hr.ilt b hb)
  refine ⟨RelV.put ?_ d hav, RelC.put ?_ d av v⟩
  · refine ⟨hr.sz, by simp [St.new, hr.bl, hbn], fun t u x hu hx => (hr.slot t u x hu hx).mono hI hIw hβ, ?_, ?_, ?_, hr.il.mono hI hIw hIl⟩
    · intro i o b ho hb
      simp only [St.new] at ho
      by_cases h : i < st.obs.length
      · simp only [h, if_true]
        rw [List.getElem?_append_left h] at ho
        rw [List.getElem?_append_left (by rw [hr.bl]; exact h)] at hb
        exact (hr.ob i o b ho hb).mono hI hIw hβ (fun q hq => hsame q (hr.slt i q hq).2.1) (fun _ h => h)
      · simp only [h, if_false]
        rw [List.getElem?_append_right (by omega)] at ho
        rw [List.getElem?_append_right (by rw [hr.bl]; omega), hr.bl] at hb
        exact hob _ o b ho hb
    · intro i j b hb hb'
      split at hb <;> split at hb'
      · exact hr.sdis i j b hb hb'
      · have := (hr.slt i b hb).2.1; have := (hslt _ b hb').2.1; omega
      · have := (hr.slt j b hb').2.1; have := (hslt _ b hb).2.1; omega
      · have := hsd _ _ b hb hb'; omega
    · intro i b hb
      simp only [St.new, List.length_append]
      split at hb
      · obtain ⟨h1, h2, h3⟩ := hr.slt i b hb
        refine ⟨by omega, Nat.lt_of_lt_of_le h2 hfr.size, fun h => ?_⟩
        rcases hI2 b h with h | h
        · exact h3 h
        · omega
      · obtain ⟨h1, h2, h3, h4⟩ := hslt _ b hb
        exact ⟨by omega, h3, h4⟩
  · refine ⟨?_, fun b hb => hI b (hc.isub b hb), ?_, ?_, ?_, hc.defers⟩
    · intro i b hb
      split at hb
      · exact hc.own i b hb
      · exact .inl (Nat.le_trans hc.frame.size (hslt _ b hb).2.1)
    · intro b hb
      rcases hI2 b hb with h | h
      · exact hc.iinv b h
      · exact .inr (.inl (Nat.le_trans hc.frame.size h))
    · exact hc.frame.trans hfr (fun _ h => h.elim)
    · intro i hi hk
      rw [List.getElem?_append_left (hc.klt hi hk)]
      exact hc.keep i hi hk

theorem step_quiet (hr : RelV st a w I β S) (hc : RelC c st a w I β S) {av : AV} {news : List Ob} {v : Value} {w' : World} (hq : QPost st w I β S av news v w') (d : Option Nat) :
    Rel c ((st.new news).put d av) (a.put d v) w' := by
  obtain ⟨I', βn, Sn, hfr, hI, hI2, hIl, hbn, hav, hob, hslt, hsd⟩ := hq
  obtain ⟨h1, h2⟩ := step_core hr hc d hfr hI hI2 hIl hbn hav hob hslt hsd
  exact ⟨_, _, _, h1, h2⟩

end

/-! ### 17. Forgetting handles -/
def C.kill (bad : Nat → Bool) : C → C
  | .h i => if bad i = true then .u else .h i
  | .p i off => if bad i = true then .u else .p i off
  | x => x
def K.kill (bad : Nat → Bool) : K → K
  | .c x => .c (x.kill bad)
  | .a cs => .a (cs.map (C.kill bad))
def AV.kill (bad : Nat → Bool) : AV → AV
  | .c x => .c (x.kill bad)
  | .a cs => .a (cs.map (C.kill bad))
  | .tup vs => .tup (vs.map (K.kill bad))
  | .fn f cs => .fn f (cs.map (C.kill bad))
  | .ea i sz idx f => if bad i = true then .dead else .ea i sz idx f
  | .ra cs => .ra cs
  | .rb cs loc => .rb cs loc
  | .dead => .dead
def Ob.kill (bad : Nat → Bool) : Ob → Ob
  | .box cs => .box (cs.map (C.kill bad))
  | .row sz xs hole => .row sz xs (hole.map fun h => (h.1, h.2.1, h.2.2.bind fun k => if bad k = true then Option.none else some k))
  | o => o
def St.kill (st : St) (bad : Nat → Bool) : St := { st with slots := st.slots.map (AV.kill bad), obs := st.obs.map (Ob.kill bad) }

section
variable {w : World} {I : Nat → Prop} {β β' : List Value} {bad : Nat → Bool}
theorem CR.kill (hβ : ∀ (i : Nat) (b : Value), bad i = false → β[i]? = some b → β'[i]? = some b) {x : C} {v : Value} (h : CR w I β x v) : CR w I β' (x.kill bad) v := by
  have h1 := CR.one h
  cases x with
  | n x => exact h
  | h i =>
    simp only [C.kill]
    split
    · exact h1
    · exact ⟨hβ _ _ (Bool.eq_false_iff.2 ‹_›) h.1, h.2⟩
  | p i off =>
    simp only [C.kill]
    split
    · exact h1
    · obtain ⟨g, h1, h2⟩ := h; exact ⟨g, hβ _ _ (Bool.eq_false_iff.2 ‹_›) h1, h2⟩
  | z => exact h
  | u => exact h
  | b x loc => exact h
theorem CsR.kill (hβ : ∀ (i : Nat) (b : Value), bad i = false → β[i]? = some b → β'[i]? = some b) {cs : List C} {a : Array Value} (h : CsR w I β cs a) : CsR w I β' (cs.map (C.kill bad)) a :=
  ⟨by rw [List.length_map]; exact h.1, fun j x v hx hv => by
    simp only [List.getElem?_map, Option.map_eq_some_iff] at hx
    obtain ⟨y, hy, rfl⟩ := hx
    exact (h.2 j y v hy hv).kill hβ⟩
theorem KR.kill (hβ : ∀ (i : Nat) (b : Value), bad i = false → β[i]? = some b → β'[i]? = some b) {x : K} {v : Value} (h : KR w I β x v) : KR w I β' (x.kill bad) v := by
  cases x with
  | c x => exact CR.kill hβ h
  | a cs => obtain ⟨a, rfl, h⟩ := h; exact ⟨a, rfl, h.kill hβ⟩
theorem AVR.kill (hβ : ∀ (i : Nat) (b : Value), bad i = false → β[i]? = some b → β'[i]? = some b) {x : AV} {v : Value} (h : AVR w I β x v) : AVR w I β' (x.kill bad) v := by
  cases x with
  | c x => exact CR.kill hβ h
  | a cs => obtain ⟨a, rfl, h⟩ := h; exact ⟨a, rfl, h.kill hβ⟩
  | tup vs =>
    obtain ⟨a, rfl, hl, h⟩ := h
    refine ⟨a, rfl, by rw [List.length_map]; exact hl, fun j x v hx hv => ?_⟩
    simp only [List.getElem?_map, Option.map_eq_some_iff] at hx
    obtain ⟨y, hy, rfl⟩ := hx
    exact (h j y v hy hv).kill hβ
  | fn f cs => obtain ⟨a, rfl, h⟩ := h; exact ⟨a, rfl, h.kill hβ⟩
  | ea i sz idx f =>
    simp only [AV.kill]
    split
    · trivial
    · obtain ⟨g, n, cap, h, rfl⟩ := h; exact ⟨g, n, cap, hβ _ _ (Bool.eq_false_iff.2 ‹_›) h, rfl⟩
  | ra cs => exact h
  | rb cs loc => trivial
  | dead => trivial
theorem ObR.kill (hβ : ∀ (i : Nat) (b : Value), bad i = false → β[i]? = some b → β'[i]? = some b) {b : Value} {S : Nat → Prop} {o : Ob} (h : ObR w I β b S o) : ObR w I β' b S (o.kill bad) := by
  cases o with
  | row sz xs hole =>
    rcases h with h | ⟨g, cap, e, cur, fr, c, F, h1, h2, h3, h4, h5, h6, h7, h8, h9, h10, H, hk, hF, hD⟩
    · exact .inl h
    · refine .inr ⟨g, cap, e, cur, fr, c, F, h1, h2, h3, h4, h5, h6, h7, h8, h9, h10, fun i' j' x hx hh => H i' j' x hx (fun ⟨q, hq⟩ => hh ?_), fun i' j' k' hh => ?_, hF, hD⟩
      · exact ⟨_, List.mem_map.2 ⟨_, hq, rfl⟩⟩
      · obtain ⟨⟨i2, j2, k2⟩, hm, he⟩ := List.mem_map.1 hh
        simp only [Prod.mk.injEq] at he
        obtain ⟨rfl, rfl, he⟩ := he
        cases k2 with
        | none => cases he
        | some k2 =>
          simp only [Option.bind_some] at he
          split at he
          · cases he
          · simp only [Option.some.injEq] at he
            subst he
            exact hβ _ _ (Bool.eq_false_iff.2 ‹_›) (hk _ _ _ hm)
  | box cs => obtain ⟨g, cur, e, rfl, hg, hb, H⟩ := h; exact ⟨g, cur, e, rfl, hg, hb, H.kill hβ⟩
  | fro sz xs => exact h
  | none => trivial
end

end Go.Al
