import Derived.Test.YtbpicgilplnmoaaAl9
set_option linter.unusedVariables false
set_option linter.unusedSimpArgs false
namespace Go.Al

/-! ### 9. Renaming and forgetting -/
def C.map (σ : Nat → Nat) : C → C
  | .n x => .n x
  | .h i => .h (σ i)
  | .p i off => .p (σ i) off
  | .z => .z
  | .u => .u
  | .b x loc => .b x (loc.map fun l => (σ l.1, l.2))
def K.map (σ : Nat → Nat) : K → K
  | .c x => .c (x.map σ)
  | .a cs => .a (cs.map (C.map σ))
def AV.map (σ : Nat → Nat) : AV → AV
  | .c x => .c (x.map σ)
  | .a cs => .a (cs.map (C.map σ))
  | .tup vs => .tup (vs.map (K.map σ))
  | .fn f cs => .fn f (cs.map (C.map σ))
  | .ea i sz idx f => .ea (σ i) sz idx f
  | .ra cs => .ra cs
  | .rb cs loc => .rb cs (loc.map fun l => (σ l.1, l.2))
  | .dead => .dead
def Ob.map (σ : Nat → Nat) : Ob → Ob
  | .row sz xs hole => .row sz xs (hole.map fun h => (h.1, h.2.1, h.2.2.map σ))
  | .box cs => .box (cs.map (C.map σ))
  | .fro sz xs => .fro sz xs
  | .none => .none

section
variable {w : World} {I : Nat → Prop} {β β' : List Value} {σ : Nat → Nat}
theorem CR.map (hσ : ∀ (i : Nat) (b : Value), β'[i]? = some b → β[σ i]? = some b) {x : C} {v : Value} (h : CR w I β' x v) : CR w I β (x.map σ) v := by
  cases x with
  | n x => exact h
  | h i => exact ⟨hσ _ _ h.1, h.2⟩
  | p i off => obtain ⟨g, h1, h2⟩ := h; exact ⟨g, hσ _ _ h1, h2⟩
  | z => exact h
  | u => exact h
  | b x loc => exact h
theorem CR.unmap (hσ : ∀ (i : Nat) (b : Value), β[σ i]? = some b → β'[i]? = some b) {x : C} {v : Value} (h : CR w I β (x.map σ) v) : CR w I β' x v := by
  cases x with
  | n x => exact h
  | h i => exact ⟨hσ _ _ h.1, h.2⟩
  | p i off => obtain ⟨g, h1, h2⟩ := h; exact ⟨g, hσ _ _ h1, h2⟩
  | z => exact h
  | u => exact h
  | b x loc => exact h
theorem CsR.map (hσ : ∀ (i : Nat) (b : Value), β'[i]? = some b → β[σ i]? = some b) {cs : List C} {a : Array Value} (h : CsR w I β' cs a) : CsR w I β (cs.map (C.map σ)) a :=
  ⟨by rw [List.length_map]; exact h.1, fun j x v hx hv => by
    simp only [List.getElem?_map, Option.map_eq_some_iff] at hx
    obtain ⟨y, hy, rfl⟩ := hx
    exact (h.2 j y v hy hv).map hσ⟩
theorem CsR.unmap (hσ : ∀ (i : Nat) (b : Value), β[σ i]? = some b → β'[i]? = some b) {cs : List C} {a : Array Value} (h : CsR w I β (cs.map (C.map σ)) a) : CsR w I β' cs a :=
  ⟨by rw [h.1, List.length_map], fun j x v hx hv => (h.2 j (x.map σ) v (by simp [hx]) hv).unmap hσ⟩
theorem KR.map (hσ : ∀ (i : Nat) (b : Value), β'[i]? = some b → β[σ i]? = some b) {x : K} {v : Value} (h : KR w I β' x v) : KR w I β (x.map σ) v := by
  cases x with
  | c x => exact CR.map hσ h
  | a cs => obtain ⟨a, rfl, h⟩ := h; exact ⟨a, rfl, h.map hσ⟩
theorem KR.unmap (hσ : ∀ (i : Nat) (b : Value), β[σ i]? = some b → β'[i]? = some b) {x : K} {v : Value} (h : KR w I β (x.map σ) v) : KR w I β' x v := by
  cases x with
  | c x => exact CR.unmap hσ h
  | a cs => obtain ⟨a, rfl, h⟩ := h; exact ⟨a, rfl, h.unmap hσ⟩
theorem AVR.map (hσ : ∀ (i : Nat) (b : Value), β'[i]? = some b → β[σ i]? = some b) {x : AV} {v : Value} (h : AVR w I β' x v) : AVR w I β (x.map σ) v := by
  cases x with
  | c x => exact CR.map hσ h
  | a cs => obtain ⟨a, rfl, h⟩ := h; exact ⟨a, rfl, h.map hσ⟩
  | tup vs =>
    obtain ⟨a, rfl, hl, h⟩ := h
    refine ⟨a, rfl, by rw [List.length_map]; exact hl, fun j x v hx hv => ?_⟩
    simp only [List.getElem?_map, Option.map_eq_some_iff] at hx
    obtain ⟨y, hy, rfl⟩ := hx
    exact (h j y v hy hv).map hσ
  | fn f cs => obtain ⟨a, rfl, h⟩ := h; exact ⟨a, rfl, h.map hσ⟩
  | ea i sz idx f => obtain ⟨g, n, cap, h, rfl⟩ := h; exact ⟨g, n, cap, hσ _ _ h, rfl⟩
  | ra cs => exact h
  | rb cs loc => trivial
  | dead => trivial
theorem AVR.unmap (hσ : ∀ (i : Nat) (b : Value), β[σ i]? = some b → β'[i]? = some b) {x : AV} {v : Value} (h : AVR w I β (x.map σ) v) : AVR w I β' x v := by
  cases x with
  | c x => exact CR.unmap hσ h
  | a cs => obtain ⟨a, rfl, h⟩ := h; exact ⟨a, rfl, h.unmap hσ⟩
  | tup vs =>
    obtain ⟨a, rfl, hl, h⟩ := h
    exact ⟨a, rfl, by rw [hl, List.length_map], fun j x v hx hv => (h j (x.map σ) v (by simp [hx]) hv).unmap hσ⟩
  | fn f cs => obtain ⟨a, rfl, h⟩ := h; exact ⟨a, rfl, h.unmap hσ⟩
  | ea i sz idx f => obtain ⟨g, n, cap, h, rfl⟩ := h; exact ⟨g, n, cap, hσ _ _ h, rfl⟩
  | ra cs => exact h
  | rb cs loc => trivial
  | dead => trivial
theorem ObR.map (hσ : ∀ (i : Nat) (b : Value), β'[i]? = some b → β[σ i]? = some b) {b : Value} {S : Nat → Prop} {o : Ob} (h : ObR w I β' b S o) : ObR w I β b S (o.map σ) := by
  cases o with
  | row sz xs hole =>
    rcases h with h | ⟨g, cap, e, cur, fr, c, F, h1, h2, h3, h4, h5, h6, h7, h8, h9, h10, H, hk, hF, hD⟩
    · exact .inl h
    · refine .inr ⟨g, cap, e, cur, fr, c, F, h1, h2, h3, h4, h5, h6, h7, h8, h9, h10, fun i j x hx hh => H i j x hx (fun ⟨k, hk⟩ => hh ⟨_, List.mem_map.2 ⟨_, hk, rfl⟩⟩), fun i j k h => ?_, hF, hD⟩
      obtain ⟨⟨i', j', k'⟩, hm, he⟩ := List.mem_map.1 h
      simp only [Prod.mk.injEq, Option.map_eq_some_iff] at he
      obtain ⟨rfl, rfl, k'', rfl, rfl⟩ := he
      exact hσ _ _ (hk _ _ _ hm)
  | box cs => obtain ⟨g, cur, e, rfl, hg, hb, H⟩ := h; exact ⟨g, cur, e, rfl, hg, hb, H.map hσ⟩
  | fro sz xs => exact h
  | none => trivial
theorem ObR.unmap (hσ : ∀ (i : Nat) (b : Value), β[σ i]? = some b → β'[i]? = some b) {b : Value} {S : Nat → Prop} {o : Ob} (h : ObR w I β b S (o.map σ)) : ObR w I β' b S o := by
  cases o with
  | row sz xs hole =>
    rcases h with h | ⟨g, cap, e, cur, fr, c, F, h1, h2, h3, h4, h5, h6, h7, h8, h9, h10, H, hk, hF, hD⟩
    · exact .inl h
    · refine .inr ⟨g, cap, e, cur, fr, c, F, h1, h2, h3, h4, h5, h6, h7, h8, h9, h10, fun i j x hx hh => H i j x hx (fun ⟨k, hk⟩ => hh ?_), fun i j k h => ?_, hF, hD⟩
      · obtain ⟨⟨i', j', k'⟩, hm, he⟩ := List.mem_map.1 hk
        simp only [Prod.mk.injEq] at he
        obtain ⟨rfl, rfl, -⟩ := he
        exact ⟨_, hm⟩
      · exact hσ _ _ (hk i j (σ k) (List.mem_map.2 ⟨_, h, rfl⟩))
  | box cs => obtain ⟨g, cur, e, rfl, hg, hb, H⟩ := h; exact ⟨g, cur, e, rfl, hg, hb, H.unmap hσ⟩
  | fro sz xs => exact h
  | none => trivial
end

/-! ### 10. Contracts -/

/-- Behind a call: what comes back (R), which objects it has written and made. -/
def CPost (hin : List Ob) (sh : Bool) (ks : List Bool) (R : AV → List Ob → Prop) (w : World) (I : Nat → Prop) (β : List Value) (S : Nat → Nat → Prop) (e : Ending) (w' : World) : Prop :=
  ∃ (rv : AV) (obs : List Ob) (v : Value) (I' : Nat → Prop) (β' : List Value) (S' : Nat → Nat → Prop),
    e = .returned v ∧ R rv obs ∧ hin.length ≤ obs.length ∧ AVR w' I' β' rv v ∧ β'.length = obs.length ∧
    (∀ (i : Nat) (o : Ob) (b : Value), obs[i]? = some o → β'[i]? = some b → ObR w' I' β' b (S' i) o) ∧ (∀ i j b, S' i b → S' j b → i = j) ∧
    (∀ i b, S' i b → i < obs.length ∧ b < w'.heap.size ∧ ¬ I' b ∧ (w.heap.size ≤ b ∨ ∃ j, S j b)) ∧
    (∀ b, I' b → b < w'.heap.size ∧ ((sh = true ∧ I b) ∨ w.heap.size ≤ b ∨ ∃ j, S j b)) ∧
    (∀ i, i < hin.length → kb ks i = true → β'[i]? = β[i]?) ∧ Fr (fun b => ∃ j, S j b) w w'

/-- A call from within a function: it is entered, or answers at once. -/
def Goes (P : Program) (g : FuncId) (args : Array Value) (w : World) (Φ : Value → World → Prop) : Prop :=
  (∃ w1, (callFunc g args).run P w = .ok (.enter g args) w1 ∧ Calls P g args w1 fun e w' => ∃ v, e = .returned v ∧ Φ v w') ∨
  ∃ v w', (callFunc g args).run P w = .ok (.value v) w' ∧ Φ v w'

theorem Goes.mono {P : Program} {g : FuncId} {args : Array Value} {w : World} {Φ Ψ : Value → World → Prop} (h : Goes P g args w Φ) (hk : ∀ v w', Φ v w' → Ψ v w') : Goes P g args w Ψ := by
  rcases h with ⟨w1, h1, h2⟩ | ⟨v, w', h1, h2⟩
  · exact .inl ⟨w1, h1, h2.mono fun e w' ⟨v, h3, h4⟩ => ⟨v, h3, hk _ _ h4⟩⟩
  · exact .inr ⟨v, w', h1, hk _ _ h2⟩

theorem Goes.of_calls {P : Program} {g : FuncId} {args : Array Value} {w : World} {Φ : Value → World → Prop} {fn : Func} (hf : P.funcs[g]? = some fn) (hn : (fn.name == "runtime.NumGoroutine") = false) (hb : fn.body.isNone = false)
    (h : Calls P g args w fun e w' => ∃ v, e = .returned v ∧ Φ v w') : Goes P g args w Φ :=
  .inl ⟨w, by
    have hn' : fn.name ≠ "runtime.NumGoroutine" := by simpa using hn
    have hb' : fn.body ≠ none := by rintro e; simp [e] at hb
    simp [callFunc, hf, hn', hb'], h⟩

/-- The contract of function f, called with args over the objects hin. -/
def AC (P : Program) (f : FuncId) (args : List AV) (hin : List Ob) (sh : Bool) (ks : List Bool) (R : AV → List Ob → Prop) : Prop :=
  ∀ (w : World) (vals : Array Value) (I : Nat → Prop) (β : List Value) (S : Nat → Nat → Prop),
    RelV ⟨Sl.of args, hin, ks⟩ ⟨vals, []⟩ w I β S → Goes P f vals w fun v w' => CPost hin sh ks R w I β S (.returned v) w'

theorem AC.mono {P : Program} {f : FuncId} {args : List AV} {hin : List Ob} {sh : Bool} {ks : List Bool} {R R' : AV → List Ob → Prop} (h : AC P f args hin sh ks R) (hR : ∀ rv obs, R rv obs → R' rv obs) : AC P f args hin sh ks R' :=
  fun w vals I β S hr => (h w vals I β S hr).mono fun e w' ⟨rv, obs, v, I', β', S', h1, h2, h3⟩ => ⟨rv, obs, v, I', β', S', h1, hR _ _ h2, h3⟩

/-- A quiet call: nothing old is written. -/
def callQ (P : Program) (st : St) (f : AV) (args : List AV) (K : AV → List Ob → Prop) : Prop :=
  ∀ (a : Act) (w : World) (I : Nat → Prop) (β : List Value) (S : Nat → Nat → Prop) (fv : Value) (vals : List Value), RelV st a w I β S → AVR w I β f fv →
    vals.length = args.length → (∀ (t : Nat) (v : AV) (c : Value), args[t]? = some v → vals[t]? = some c → AVR w I β v c) →
    ∃ g caps, fv = .func (.func g) #[] caps ∧ Goes P g (vals.toArray ++ caps) w (fun v w' => ∃ av news, K av news ∧ QPost st w I β S av news v w')

/-! ### 11. What is lent -/
def passC (st : St) : C → C → Prop
  | .n x, y => y = .n x
  | .h i, .n (.sl sz xs) => st.obj i = .row sz xs [] ∨ st.obj i = .fro sz xs
  | .z, .n (.sl _ xs) => xs.n = 0
  | .z, .z => True
  | _, _ => False
def passCs (st : St) : List C → List C → Prop
  | [], [] => True
  | x :: xs, y :: ys => passC st x y ∧ passCs st xs ys
  | _, _ => False
def passA (st : St) : AV → AV → Prop
  | .c (.p i off), .ra cs => match st.obj i with
    | .box bs => passCs st (bs.drop off) (cs.map .n)
    | _ => False
  | .ea i sz idx f, .ra cs => match st.obj i with
    | .row sz' xs [] => sz = sz' ∧ idx < xs.n ∧ cs = (xs.g idx).drop f
    | _ => False
  | .ra cs, y => y = .ra cs
  | .c x, .c y => passC st x y
  | .a xs, .a ys => passCs st xs ys
  | .fn f xs, .fn g ys => f = g ∧ passCs st xs ys
  | _, _ => False
def passAs (st : St) : List AV → List AV → Prop
  | [], [] => True
  | x :: xs, y :: ys => passA st x y ∧ passAs st xs ys
  | _, _ => False

section
variable {P : Program} {st : St} {a : Act} {w : World} {I : Nat → Prop} {β : List Value} {S : Nat → Nat → Prop}

theorem passC_sound (hr : RelV st a w I β S) {β' : List Value} {x y : C} {v : Value} (h : passC st x y) (hv : CR w I β x v) : CR w (fun b => I b ∨ ∃ i, S i b) β' y v := by
  have hI : ∀ b, I b → I b ∨ ∃ i, S i b := fun _ h => .inl h
  unfold passC at h
  split at h
  · subst h
    exact Im.mono hI (fun _ _ => rfl) hv
  · rename_i i sz xs
    rcases h with h | h
    · have ho := hr.hdr (i := i) (v := v) hv h (by simp)
      exact (RowR.own ho).lend hI (fun b hb => .inr ⟨i, hb⟩)
    · have ho := hr.hdr (i := i) (v := v) hv h (by simp)
      exact Im.mono hI (fun _ _ => rfl) ho
  · obtain ⟨A, rfl⟩ := hv
    exact Im.zero h A
  · exact hv
  · exact h.elim

theorem passCs_sound (hr : RelV st a w I β S) {β' : List Value} : ∀ {xs ys : List C}, passCs st xs ys → ys.length = xs.length ∧
    ∀ (j : Nat) (y : C), ys[j]? = some y → ∃ x, xs[j]? = some x ∧ ∀ v, CR w I β x v → CR w (fun b => I b ∨ ∃ i, S i b) β' y v
  | [], [], _ => ⟨rfl, by simp⟩
  | x :: xs, y :: ys, h => by
    obtain ⟨h1, h2⟩ := h
    obtain ⟨e, ih⟩ := passCs_sound hr (β' := β') h2
    refine ⟨by simp [e], fun j zz hz => ?_⟩
    cases j with
    | zero =>
      simp at hz
      subst hz
      exact ⟨x, rfl, fun v hv => passC_sound hr h1 hv⟩
    | succ j => simpa using ih j zz (by simpa using hz)
  | [], _ :: _, h => h.elim
  | _ :: _, [], h => h.elim

theorem passCs_CsR (hr : RelV st a w I β S) {β' : List Value} {xs ys : List C} {arr : Array Value} (h : passCs st xs ys) (hv : CsR w I β xs arr) : CsR w (fun b => I b ∨ ∃ i, S i b) β' ys arr := by
  obtain ⟨e, h⟩ := passCs_sound hr (β' := β') h
  refine ⟨by rw [e]; exact hv.1, fun j y v hy hv' => ?_⟩
  obtain ⟨x, hx, h⟩ := h j y hy
  exact h v (hv.2 j x v hx hv')

theorem passA_sound (hr : RelV st a w I β S) {β' : List Value} {x y : AV} {v : Value} (h : passA st x y) (hv : AVR w I β x v) : AVR w (fun b => I b ∨ ∃ i, S i b) β' y v := by
  have hI : ∀ b, I b → I b ∨ ∃ i, S i b := fun _ h => .inl h
  unfold passA at h
  split at h
  · rename_i i off cs
    obtain ⟨g, hg, rfl⟩ := hv
    split at h
    · rename_i bs hobj
      obtain ⟨g', cur, e, hb, hS, hh, hc⟩ := hr.box hobj
      rw [hg] at hb
      obtain rfl : g = g' := by simpa using hb
      obtain ⟨e1, h2⟩ := passCs_sound hr (β' := β') h
      refine ⟨⟨g, off, none⟩, fun j => cur.getD (off + j) undef, rfl, .inr ⟨i, hS⟩, fun j x hx => ?_, fun j x hx => ?_⟩
      · have hj : j < (bs.drop off).length := by
          have := (List.getElem?_eq_some_iff.1 hx).1
          simp at e1 ⊢; omega
        have hlt : off + j < cur.size := by rw [hc.1]; simp at hj; omega
        rw [add00, cells_at hh]
        simp [Array.getD, hlt]
      · obtain ⟨zz, hz, h3⟩ := h2 j (.n x) (by simp [hx])
        have hz' : bs[off + j]? = some zz := by simpa using hz
        have hlt : off + j < cur.size := by rw [hc.1]; exact (List.getElem?_eq_some_iff.1 hz').1
        exact h3 _ (hc.2 (off + j) zz _ hz' (by simp [Array.getD, hlt]))
    · exact h.elim
  · rename_i i sz idx f cs
    obtain ⟨g, n, cap, hg, rfl⟩ := hv
    split at h
    · rename_i sz' xs hobj
      obtain ⟨rfl, hel, rfl⟩ := h
      obtain ⟨b, hb, hrow⟩ := hr.obj hobj (by simp)
      rw [hg] at hb
      obtain rfl := (Option.some.injEq _ _ ▸ hb : _ = b)
      have key : ∀ (j : Nat) (x : N), ((xs.g idx).drop f)[j]? = some x → ∃ v, w.cell? ⟨g, idx * sz + f + j, none⟩ = some v ∧ Im w (fun b => I b ∨ ∃ i, S i b) x v ∧ S i g := by
        intro j x hx
        have hx2 : (xs.g idx)[f + j]? = some x := by simpa using hx
        rcases hrow with ⟨h0, -⟩ | ⟨g', cap', e, cur, fr, c, F, hb', hu, hn, hcap, hm, hgS, hh, hfr, hs, hc, H, -, hF, hD⟩
        · omega
        · simp only [Value.slice.injEq, Option.some.injEq, Addr.mk.injEq] at hb'
          obtain ⟨⟨rfl, -⟩, -⟩ := hb'
          have hat : at2 xs idx (f + j) = some x := by rw [at2_of hel]; exact hx2
          refine ⟨c idx (f + j), ?_, ?_, hgS⟩
          · rw [cells_at hh, Nat.add_assoc]; exact hc _ _ x hat
          · exact (H _ _ x hat (by rintro ⟨k, hk⟩; cases hk)).lend hI (fun b hb => .inr ⟨i, (hF _ _ b hb).1⟩)
      have hgS : S i g := by
        rcases hrow with ⟨h0, -⟩ | ⟨g', cap', e, cur, fr, c, F, hb', hu, hn, hcap, hm, hgS, -⟩
        · omega
        · simp only [Value.slice.injEq, Option.some.injEq, Addr.mk.injEq] at hb'
          obtain ⟨⟨rfl, -⟩, -⟩ := hb'
          exact hgS
      refine ⟨⟨g, idx * sz + f, none⟩, fun j => (w.cell? ⟨g, idx * sz + f + j, none⟩).getD undef, rfl, .inr ⟨i, hgS⟩, fun j x hx => ?_, fun j x hx => ?_⟩
      · obtain ⟨v, h1, -⟩ := key j x hx
        rw [add00, h1]
        simp only [h1, Option.getD_some]
      · obtain ⟨v, h1, h2, -⟩ := key j x hx
        simp only [h1, Option.getD_some]
        exact h2
    · exact h.elim
  · subst h
    exact AVR.mono (x := .ra _) (β' := β') hI (fun _ _ => rfl) (fun _ _ h => h) (by exact hv)
  · exact passC_sound hr h hv
  · obtain ⟨arr, rfl, hv⟩ := hv
    exact ⟨arr, rfl, passCs_CsR hr h hv⟩
  · obtain ⟨rfl, h⟩ := h
    obtain ⟨arr, rfl, hv⟩ := hv
    exact ⟨arr, rfl, passCs_CsR hr h hv⟩
  · exact h.elim

theorem passAs_sound (hr : RelV st a w I β S) {β' : List Value} : ∀ {xs ys : List AV} {vals : List Value}, passAs st xs ys → vals.length = xs.length →
    (∀ (t : Nat) (v : AV) (c : Value), xs[t]? = some v → vals[t]? = some c → AVR w I β v c) →
    ys.length = xs.length ∧ ∀ (t : Nat) (v : AV) (c : Value), ys[t]? = some v → vals[t]? = some c → AVR w (fun b => I b ∨ ∃ i, S i b) β' v c
  | [], [], _, _, _, _ => ⟨rfl, by simp⟩
  | x :: xs, y :: ys, [], _, hl, _ => by simp at hl
  | x :: xs, y :: ys, v :: vals, h, hl, hv => by
    obtain ⟨h1, h2⟩ := h
    obtain ⟨e, ih⟩ := passAs_sound hr (β' := β') h2 (vals := vals) (by simpa using hl) (fun t u c hu hc => hv (t + 1) u c (by simpa using hu) (by simpa using hc))
    refine ⟨by simp [e], fun t u c hu hc => ?_⟩
    cases t with
    | zero =>
      simp at hu hc
      subst hu; subst hc
      exact passA_sound hr h1 (hv 0 x _ rfl rfl)
    | succ t => exact ih t u c (by simpa using hu) (by simpa using hc)
  | [], _ :: _, _, h, _, _ => h.elim
  | _ :: _, [], _, h, _, _ => h.elim

/-- A call by contract that writes nothing old. -/
theorem callQ_of {f : FuncId} {caps : List C} {args args' : List AV} {R : AV → List Ob → Prop} {ks : List Bool} {K : AV → List Ob → Prop} (hc : AC P f args' [] false ks R)
    (hp : passAs st (args ++ caps.map .c) args') (hK : ∀ rv obs, R rv obs → K (rv.map (· + st.obs.length)) (obs.map (Ob.map (· + st.obs.length)))) :
    callQ P st (.fn f caps) args K := by
  intro a w I β S fv vals hr hfv hl hv
  obtain ⟨arr, rfl, harr⟩ := hfv
  refine ⟨f, arr, rfl, ?_⟩
  have hargs : ∀ (t : Nat) (v : AV) (c : Value), (args ++ caps.map AV.c)[t]? = some v → (vals ++ arr.toList)[t]? = some c → AVR w I β v c := by
    intro t v c hv' hc'
    rcases Nat.lt_or_ge t args.length with ht | ht
    · rw [List.getElem?_append_left ht] at hv'
      rw [List.getElem?_append_left (by omega)] at hc'
      exact hv t v c hv' hc'
    · rw [List.getElem?_append_right ht] at hv'
      rw [List.getElem?_append_right (by omega), hl] at hc'
      simp only [List.getElem?_map, Option.map_eq_some_iff] at hv'
      obtain ⟨y, hy, rfl⟩ := hv'
      exact harr.2 _ y c hy (by simpa using hc')
  obtain ⟨hlen, hslot⟩ := passAs_sound hr (β' := []) hp (vals := vals ++ arr.toList) (by simp [hl, harr.1]) hargs
  have hrel : RelV ⟨Sl.of args', [], ks⟩ ⟨vals.toArray ++ arr, []⟩ w (fun b => I b ∨ ∃ i, S i b) [] (fun _ _ => False) := by
    refine ⟨?_, rfl, ?_, by simp, by simp, by simp, ?_⟩
    · simp [hlen, hl, harr.1]
    · intro t v c hv' hc'
      refine hslot t v c (by simpa using hv') ?_
      have e : vals ++ arr.toList = (vals.toArray ++ arr).toList := by simp
      rw [e, Array.getElem?_toList]
      exact hc'
    · refine hr.il.mono (fun _ h => .inl h) (fun _ _ => rfl) ?_
      rintro b (hb | ⟨i, hb⟩)
      · exact hr.ilt b hb
      · exact (hr.slt i b hb).2.1
  refine (hc w _ _ _ _ hrel).mono ?_
  rintro v w' ⟨rv, obs, v', I', β', S', hvv, hR, -, hav, hbl, hob, hsd, hslt, hI', -, hfr⟩
  obtain rfl : v = v' := by injection hvv
  have hfr' : Fr (fun _ => False) w w' := hfr.mono (by rintro x ⟨j, hj⟩; exact hj)
  have hfresh : ∀ b, I' b → w.heap.size ≤ b := fun b hb => ((hI' b hb).2).elim (fun h => by simp at h) (fun h => h.elim id (fun ⟨j, hj⟩ => hj.elim))
  have hσ : ∀ (i : Nat) (b : Value), β'[i]? = some b → (β ++ β')[i + st.obs.length]? = some b := by
    intro i b hb
    rw [List.getElem?_append_right (by rw [hr.bl]; omega), hr.bl]
    simpa using hb
  have hm : ∀ {x : AV} {u : Value}, AVR w' I' β' x u → AVR w' (fun b => I b ∨ I' b) β' x u := fun h => h.mono (fun _ h => .inr h) (fun _ _ => rfl) (fun _ _ h => h)
  refine ⟨_, _, hK rv obs hR, fun b => I b ∨ I' b, β', S', hfr', fun _ h => .inl h, ?_, ?_, by simp [hbl], (hm hav).map hσ, ?_, ?_, hsd⟩
  · rintro b (hb | hb)
    · exact .inl hb
    · exact .inr (hfresh b hb)
  · rintro b (hb | hb)
    · exact Nat.lt_of_lt_of_le (hr.ilt b hb) hfr.size
    · exact (hI' b hb).1
  · intro k o b ho hb
    simp only [List.getElem?_map, Option.map_eq_some_iff] at ho
    obtain ⟨o', ho', rfl⟩ := ho
    exact ObR.map hσ ((hob k o' b ho' hb).mono (fun _ h => .inr h) (fun _ _ => rfl) (fun _ _ h => h) (fun _ _ => rfl) (fun _ h => h))
  · intro k b hb
    obtain ⟨h1, h2, h3, h4⟩ := hslt k b hb
    have h5 : w.heap.size ≤ b := h4.elim id (by rintro ⟨j, hj⟩; exact hj.elim)
    refine ⟨by simpa using h1, h5, h2, ?_⟩
    rintro (hI | hI)
    · have := hr.ilt b hI; omega
    · exact h3 hI

end
end Go.Al
