import Derived.Test.YtbpicgilplnmoaaAl17
set_option linter.unusedVariables false
set_option linter.unusedSimpArgs false
namespace Go.Al

/-! ### 21. Calls: what is handed in (ids), what is lent -/
def updAt {α : Type} (l : List α) : List Nat → List α → List α
  | i :: is, x :: xs => updAt (l.set i x) is xs
  | _, _ => l
def sig (ids : List Nat) (n : Nat) (k : Nat) : Nat := match ids[k]? with
  | some i => i
  | Option.none => n + (k - ids.length)

def gC (st : St) (ids : List Nat) (lend : Bool) : C → C → Prop
  | .n x, y => y = .n x
  | .h i, .h k => ids[k]? = some i
  | .p i off, .p k off' => ids[k]? = some i ∧ off = off'
  | .h i, .n (.sl sz xs) => ids.contains i = false ∧ ((lend = true ∧ st.obj i = .row sz xs []) ∨ st.obj i = .fro sz xs)
  | .z, .n (.sl _ xs) => xs.n = 0
  | .z, .z => True
  | _, _ => False
def gCs (st : St) (ids : List Nat) (lend : Bool) : List C → List C → Prop
  | [], [] => True
  | x :: xs, y :: ys => gC st ids lend x y ∧ gCs st ids lend xs ys
  | _, _ => False
def gA (st : St) (ids : List Nat) (lend : Bool) : AV → AV → Prop
  | .c (.p i off), .ra cs => ids.contains i = false ∧ lend = true ∧ match st.obj i with
    | .box bs => gCs st ids lend (bs.drop off) (cs.map .n)
    | _ => False
  | .ea i sz idx f, .ra cs => ids.contains i = false ∧ lend = true ∧ match st.obj i with
    | .row sz' xs [] => sz = sz' ∧ idx < xs.n ∧ cs = (xs.g idx).drop f
    | _ => False
  | .ra cs, y => y = .ra cs
  | .c x, .c y => gC st ids lend x y
  | .a xs, .a ys => gCs st ids lend xs ys
  | .fn f xs, .fn g ys => f = g ∧ gCs st ids lend xs ys
  | _, _ => False
def gAs (st : St) (ids : List Nat) (lend : Bool) : List AV → List AV → Prop
  | [], [] => True
  | x :: xs, y :: ys => gA st ids lend x y ∧ gAs st ids lend xs ys
  | _, _ => False

/-- The state behind the call: objects that were handed in are as the callee left them; handles that may have turned are forgotten. -/
def badIds (ids : List Nat) (ks : List Bool) (i : Nat) : Bool := (List.range ids.length).any fun k => ids[k]? == some i && !(kb ks k)
def St.after (st : St) (ids : List Nat) (ks : List Bool) (obs : List Ob) : St :=
  let s := st.kill (badIds ids ks)
  { s with obs := updAt s.obs ids ((obs.take ids.length).map (Ob.map (sig ids st.obs.length))) ++ (obs.drop ids.length).map (Ob.map (sig ids st.obs.length)) }

section
variable {P : Program} {st : St} {a : Act} {w : World} {I : Nat → Prop} {β : List Value} {S : Nat → Nat → Prop} {c : Cx}

theorem updAt_length {α : Type} : ∀ (ids : List Nat) (xs l : List α), (updAt l ids xs).length = l.length
  | [], _, _ => by simp [updAt]
  | _ :: _, [], _ => by simp [updAt]
  | i :: is, x :: xs, l => by simp [updAt, updAt_length is xs]
theorem updAt_other {α : Type} : ∀ (ids : List Nat) (xs l : List α) (j : Nat), j ∉ ids → (updAt l ids xs)[j]? = l[j]?
  | [], _, _, _, _ => by simp [updAt]
  | _ :: _, [], _, _, _ => by simp [updAt]
  | i :: is, x :: xs, l, j, h => by
    simp only [List.mem_cons, not_or] at h
    rw [updAt, updAt_other is xs _ j h.2, List.getElem?_set_ne (fun e => h.1 e.symm)]
theorem updAt_at {α : Type} : ∀ (ids : List Nat) (xs l : List α) (k i : Nat), ids.Nodup → ids[k]? = some i → k < xs.length → i < l.length → (updAt l ids xs)[i]? = xs[k]?
  | [], _, _, _, _, _, h, _, _ => by simp at h
  | _ :: _, [], _, _, _, _, _, h, _ => by simp at h
  | j :: is, x :: xs, l, 0, i, hn, h, _, hi => by
    simp only [List.getElem?_cons_zero, Option.some.injEq] at h
    subst h
    rw [updAt, updAt_other is xs _ j (List.nodup_cons.1 hn).1, List.getElem?_set_self hi]
    rfl
  | j :: is, x :: xs, l, k + 1, i, hn, h, hk, hi => by
    rw [updAt, updAt_at is xs _ k i (List.nodup_cons.1 hn).2 (by simpa using h) (by simpa using hk) (by simpa using hi)]
    rfl

/-- What the callee may read. -/
def lentI (I : Nat → Prop) (S : Nat → Nat → Prop) (ids : List Nat) (lend : Bool) (b : Nat) : Prop := I b ∨ (lend = true ∧ ∃ i, i ∉ ids ∧ S i b)

section
variable {ids : List Nat} {lend : Bool} {β' : List Value} (hr : RelV st a w I β S) (hβ : ∀ (k i : Nat) (b : Value), ids[k]? = some i → β[i]? = some b → β'[k]? = some b)
include hr hβ

theorem gC_sound {x y : C} {v : Value} (h : gC st ids lend x y) (hv : CR w I β x v) : CR w (lentI I S ids lend) β' y v := by
  have hI : ∀ b, I b → lentI I S ids lend b := fun _ h => .inl h
  unfold gC at h
  split at h
  · subst h
    exact Im.mono hI (fun _ _ => rfl) hv
  · exact ⟨hβ _ _ _ h hv.1, hv.2⟩
  · obtain ⟨h, rfl⟩ := h
    obtain ⟨g, h1, h2⟩ := hv
    exact ⟨g, hβ _ _ _ h h1, h2⟩
  · rename_i i sz xs
    obtain ⟨hn, h⟩ := h
    have hni : i ∉ ids := by simpa using hn
    rcases h with ⟨hl, h⟩ | h
    · have ho := hr.hdr (i := i) (v := v) hv h (by simp)
      exact (RowR.own ho).lend hI (fun b hb => .inr ⟨hl, i, hni, hb⟩)
    · have ho := hr.hdr (i := i) (v := v) hv h (by simp)
      exact Im.mono hI (fun _ _ => rfl) ho
  · obtain ⟨A, rfl⟩ := hv
    exact Im.zero h A
  · exact hv
  · exact h.elim

theorem gCs_sound : ∀ {xs ys : List C}, gCs st ids lend xs ys → ys.length = xs.length ∧
    ∀ (j : Nat) (y : C), ys[j]? = some y → ∃ x, xs[j]? = some x ∧ ∀ v, CR w I β x v → CR w (lentI I S ids lend) β' y v
  | [], [], _ => ⟨rfl, by simp⟩
  | x :: xs, y :: ys, h => by
    obtain ⟨h1, h2⟩ := h
    obtain ⟨e, ih⟩ := gCs_sound h2
    refine ⟨by simp [e], fun j zz hz => ?_⟩
    cases j with
    | zero =>
      simp at hz
      subst hz
      exact ⟨x, rfl, fun v hv => gC_sound hr hβ h1 hv⟩
    | succ j => simpa using ih j zz (by simpa using hz)
  | [], _ :: _, h => h.elim
  | _ :: _, [], h => h.elim

theorem gCs_CsR {xs ys : List C} {arr : Array Value} (h : gCs st ids lend xs ys) (hv : CsR w I β xs arr) : CsR w (lentI I S ids lend) β' ys arr := by
  obtain ⟨e, h⟩ := gCs_sound hr hβ h
  refine ⟨by rw [e]; exact hv.1, fun j y v hy hv' => ?_⟩
  obtain ⟨x, hx, h⟩ := h j y hy
  exact h v (hv.2 j x v hx hv')

theorem gA_sound {x y : AV} {v : Value} (h : gA st ids lend x y) (hv : AVR w I β x v) : AVR w (lentI I S ids lend) β' y v := by
  have hI : ∀ b, I b → lentI I S ids lend b := fun _ h => .inl h
  unfold gA at h
  split at h
  · rename_i i off cs
    obtain ⟨hn, hl, h⟩ := h
    have hni : i ∉ ids := by simpa using hn
    obtain ⟨g, hg, rfl⟩ := hv
    split at h
    · rename_i bs hobj
      obtain ⟨g', cur, e, hb, hS, hh, hc⟩ := hr.box hobj
      rw [hg] at hb
      obtain rfl : g = g' := by simpa using hb
      obtain ⟨e1, h2⟩ := gCs_sound hr hβ h
      refine ⟨⟨g, off, none⟩, fun j => cur.getD (off + j) undef, rfl, .inr ⟨hl, i, hni, hS⟩, fun j x hx => ?_, fun j x hx => ?_⟩
      · have hj : j < (bs.drop off).length := by
          have := (List.getElem?_eq_some_iff.1 hx).1
          simp at e1 ⊢; omega
        have hlt : off + j < cur.size := by rw [hc.1]; simp at hj; omega
        rw [add00, cells_at hh]
        simp [Array.getD, hlt]
      · obtain ⟨zz, hz, h3⟩ := h2 j (.n x) (by simp [hx])
        have hz' : bs[off + j]? = some zz := by simpa using hz
        have hlt : off + j < cur.size := by rw [hc.1]; exact (List.getElem?_eq_some_iff.1 hz').1
        exact h3 _ (hc.2 (off + j) zz _ hz' (by simp [Array.getD, hlt]))
    · exact h.elim
  · rename_i i sz idx f cs
    obtain ⟨hn, hl, h⟩ := h
    have hni : i ∉ ids := by simpa using hn
    obtain ⟨g, n, cap, hg, rfl⟩ := hv
    split at h
    · rename_i sz' xs hobj
      obtain ⟨rfl, hel, rfl⟩ := h
      obtain ⟨b, hb, hrow⟩ := hr.obj hobj (by simp)
      rw [hg] at hb
      obtain rfl := Option.some.inj hb
      rcases hrow with ⟨h0, -⟩ | ⟨g', cap', e, cur, fr, c, F, hb', hu, hn', hcap, hm, hgS, hh, hfr, hs, hc, H, -, hF, hD⟩
      · omega
      · simp only [Value.slice.injEq, Option.some.injEq, Addr.mk.injEq] at hb'
        obtain ⟨⟨rfl, -⟩, -⟩ := hb'
        have key : ∀ (j : Nat) (x : N), ((xs.g idx).drop f)[j]? = some x → w.cell? ⟨g, idx * sz + f + j, none⟩ = some (c idx (f + j)) ∧ Im w (lentI I S ids lend) x (c idx (f + j)) := by
          intro j x hx
          have hx2 : (xs.g idx)[f + j]? = some x := by simpa using hx
          have hat : at2 xs idx (f + j) = some x := by rw [at2_of hel]; exact hx2
          refine ⟨?_, (H _ _ x hat (by rintro ⟨k, hk⟩; cases hk)).lend hI (fun b hb => .inr ⟨hl, i, hni, (hF _ _ b hb).1⟩)⟩
          rw [cells_at hh, Nat.add_assoc]
          exact hc _ _ x hat
        refine ⟨⟨g, idx * sz + f, none⟩, fun j => c idx (f + j), rfl, .inr ⟨hl, i, hni, hgS⟩, fun j x hx => ?_, fun j x hx => (key j x hx).2⟩
        rw [add00]
        exact (key j x hx).1
    · exact h.elim
  · subst h
    exact AVR.mono (x := .ra _) (β := []) (β' := β') hI (fun _ _ => rfl) (fun _ _ h => by simp at h) (by exact hv)
  · exact gC_sound hr hβ h hv
  · obtain ⟨arr, rfl, hv⟩ := hv
    exact ⟨arr, rfl, gCs_CsR hr hβ h hv⟩
  · obtain ⟨rfl, h⟩ := h
    obtain ⟨arr, rfl, hv⟩ := hv
    exact ⟨arr, rfl, gCs_CsR hr hβ h hv⟩
  · exact h.elim

theorem gAs_sound : ∀ {xs ys : List AV} {vals : List Value}, gAs st ids lend xs ys → vals.length = xs.length →
    (∀ (t : Nat) (v : AV) (c : Value), xs[t]? = some v → vals[t]? = some c → AVR w I β v c) →
    ys.length = xs.length ∧ ∀ (t : Nat) (v : AV) (c : Value), ys[t]? = some v → vals[t]? = some c → AVR w (lentI I S ids lend) β' v c
  | [], [], _, _, _, _ => ⟨rfl, by simp⟩
  | x :: xs, y :: ys, [], _, hl, _ => by simp at hl
  | x :: xs, y :: ys, v :: vals, h, hl, hv => by
    obtain ⟨h1, h2⟩ := h
    obtain ⟨e, ih⟩ := gAs_sound h2 (vals := vals) (by simpa using hl) (fun t u c hu hc => hv (t + 1) u c (by simpa using hu) (by simpa using hc))
    refine ⟨by simp [e], fun t u c hu hc => ?_⟩
    cases t with
    | zero =>
      simp at hu hc
      subst hu; subst hc
      exact gA_sound hr hβ h1 (hv 0 x _ rfl rfl)
    | succ t => exact ih t u c (by simpa using hu) (by simpa using hc)
  | [], _ :: _, _, h, _, _ => h.elim
  | _ :: _, [], _, h, _, _ => h.elim
end

theorem sig_in {ids : List Nat} {n k i : Nat} (h : ids[k]? = some i) : sig ids n k = i := by simp [sig, h]
theorem sig_out {ids : List Nat} {n k : Nat} (h : ids.length ≤ k) : sig ids n k = n + (k - ids.length) := by simp [sig, List.getElem?_eq_none h]

/-- A call by contract, from state to state. -/
theorem call_sound (hr : RelV st a w I β S) (hc : RelC c st a w I β S) {f : FuncId} {args args' : List AV} {vals : List Value} {hin : List Ob} {sh : Bool} {ks : List Bool} {R : AV → List Ob → Prop}
    (hac : AC P f args' hin sh ks R) {ids : List Nat} {lend : Bool} (hl : lend = true → sh = false) (hnd : ids.Nodup) (hlt : ∀ i, i ∈ ids → i < st.obs.length)
    (hin_eq : hin.map (Ob.map (sig ids st.obs.length)) = ids.map st.obj) (hks : ∀ i, badIds ids ks i = true → kb st.ks i = false)
    (hp : gAs st ids lend args args') (hvl : vals.length = args.length) (hv : ∀ (t : Nat) (v : AV) (c : Value), args[t]? = some v → vals[t]? = some c → AVR w I β v c)
    {dst : Option Nat} {K : St → Prop} (hK : ∀ rv obs, R rv obs → K ((st.after ids ks obs).put dst (rv.map (sig ids st.obs.length)))) :
    Goes P f vals.toArray w (fun v w' => ∃ st', K st' ∧ Rel c st' (a.put dst v) w') := by
  have hlen : hin.length = ids.length := by simpa using congrArg List.length hin_eq
  let β' : List Value := ids.map fun i => (β[i]?).getD undef
  have hβ'len : β'.length = ids.length := by simp [β']
  have hβ' : ∀ (k i : Nat), ids[k]? = some i → β'[k]? = β[i]? := by
    intro k i h
    have hi : i < β.length := by rw [hr.bl]; exact hlt i (List.mem_of_getElem? h)
    simp [β', h, List.getElem?_eq_getElem hi]
  obtain ⟨hl1, hslot⟩ := gAs_sound (β' := β') (lend := lend) hr (fun k i b h hb => by rw [hβ' k i h]; exact hb) hp hvl hv
  have hσin : ∀ (i : Nat) (b : Value), β[sig ids st.obs.length i]? = some b → β'[i]? = some b := by
    intro i b hb
    cases h : ids[i]? with
    | some j => rw [sig_in h] at hb; rw [hβ' i j h]; exact hb
    | none =>
      rw [sig_out (by simpa using h)] at hb
      rw [List.getElem?_eq_none (by rw [hr.bl]; omega)] at hb
      cases hb
  have hrel : RelV ⟨Sl.of args', hin, ks⟩ ⟨vals.toArray, []⟩ w (lentI I S ids lend) β' (fun k b => ∃ i, ids[k]? = some i ∧ S i b) := by
    refine ⟨?_, by rw [hβ'len, hlen], ?_, ?_, ?_, ?_, ?_⟩
    · simp [hl1, hvl]
    · intro t v u hv' hu
      exact hslot t v u (by simpa using hv') (by simpa using hu)
    · intro k o b ho hb
      have hk : k < ids.length := by rw [← hlen]; exact (List.getElem?_eq_some_iff.1 ho).1
      have hi := List.getElem?_eq_getElem hk
      have hoi : o.map (sig ids st.obs.length) = st.obj ids[k] := by
        have := congrArg (·[k]?) hin_eq
        simpa [ho, hi] using this
      have hil := hlt _ (List.getElem_mem hk)
      have hob : st.obs[ids[k]]? = some (o.map (sig ids st.obs.length)) := by
        rw [hoi, St.obj, List.getElem?_eq_getElem hil]; rfl
      have hbi : β[ids[k]]? = some b := by rw [← hβ' k _ hi]; exact hb
      refine ObR.unmap hσin ((hr.ob _ _ _ hob hbi).mono (fun _ h => .inl h) (fun _ _ => rfl) (fun _ _ h => h) (fun _ _ => rfl) (fun q hq => ⟨_, hi, hq⟩))
    · rintro j k b ⟨i, h1, h2⟩ ⟨i', h3, h4⟩
      have := hr.sdis i i' b h2 h4
      subst this
      have hj := (List.getElem?_eq_some_iff.1 h1).1
      have hk := (List.getElem?_eq_some_iff.1 h3).1
      have e1 := (List.getElem?_eq_some_iff.1 h1).2
      have e2 := (List.getElem?_eq_some_iff.1 h3).2
      exact (List.getElem_inj hnd).1 (e1.trans e2.symm)
    · rintro k b ⟨i, h1, h2⟩
      obtain ⟨q1, q2, q3⟩ := hr.slt i b h2
      refine ⟨by show k < hin.length; rw [hlen]; exact (List.getElem?_eq_some_iff.1 h1).1, q2, ?_⟩
      rintro (h | ⟨-, i', h3, h4⟩)
      · exact q3 h
      · have := hr.sdis i i' b h2 h4
        subst this
        exact h3 (List.mem_of_getElem? h1)
    · refine hr.il.mono (fun _ h => .inl h) (fun _ _ => rfl) ?_
      rintro b (hb | ⟨-, i, -, hb⟩)
      · exact hr.ilt b hb
      · exact (hr.slt i b hb).2.1
  refine (hac w _ _ _ _ hrel).mono ?_
  rintro v w' ⟨rv, obs, v', I', β2, S', hvv, hR, hle, hav, hbl, hob, hsd, hslt, hI', hkeep, hfr⟩
  obtain rfl : v = v' := by injection hvv
  rw [hlen] at hle hkeep
  refine ⟨_, hK rv obs hR, ?_⟩
  let n := st.obs.length
  let βN : List Value := updAt β ids (β2.take ids.length) ++ β2.drop ids.length
  have hβ2t : (β2.take ids.length).length = ids.length := by simp; omega
  have hNold : ∀ (i : Nat), i ∉ ids → i < n → βN[i]? = β[i]? := by
    intro i h1 h2
    rw [List.getElem?_append_left (by rw [updAt_length, hr.bl]; exact h2), updAt_other _ _ _ _ h1]
  have hNin : ∀ (k i : Nat), ids[k]? = some i → βN[i]? = β2[k]? := by
    intro k i h
    have hk := (List.getElem?_eq_some_iff.1 h).1
    have hi := hlt i (List.mem_of_getElem? h)
    rw [List.getElem?_append_left (by rw [updAt_length, hr.bl]; exact hi), updAt_at _ _ _ k i hnd h (by rw [hβ2t]; exact hk) (by rw [hr.bl]; exact hi), List.getElem?_take_of_lt hk]
  have hNnew : ∀ (k : Nat), ids.length ≤ k → βN[n + (k - ids.length)]? = β2[k]? := by
    intro k hk
    rw [List.getElem?_append_right (by rw [updAt_length, hr.bl]; exact Nat.le_add_right _ _), updAt_length, hr.bl, List.getElem?_drop]
    congr 1
    simp only [n]
    omega
  have hσ : ∀ (k : Nat) (b : Value), β2[k]? = some b → βN[sig ids n k]? = some b := by
    intro k b hb
    cases h : ids[k]? with
    | some i => rw [sig_in h, hNin k i h]; exact hb
    | none =>
      have hk : ids.length ≤ k := by simpa using h
      rw [sig_out hk, hNnew k hk]; exact hb
  have hkill : ∀ (i : Nat) (b : Value), badIds ids ks i = false → β[i]? = some b → βN[i]? = some b := by
    intro i b hbad hb
    have hin : i < n := by show i < st.obs.length; rw [← hr.bl]; exact (List.getElem?_eq_some_iff.1 hb).1
    by_cases h : i ∈ ids
    · obtain ⟨k, hk⟩ := List.mem_iff_getElem?.1 h
      have hkl := (List.getElem?_eq_some_iff.1 hk).1
      have hkk : kb ks k = true := by
        cases hkk : kb ks k with
        | true => rfl
        | false =>
          have : badIds ids ks i = true := by
            unfold badIds
            exact List.any_eq_true.2 ⟨k, List.mem_range.2 hkl, by simp [hk, hkk]⟩
          rw [this] at hbad
          cases hbad
      rw [hNin k i hk, hkeep k hkl hkk, hβ' k i hk]
      exact hb
    · rw [hNold i h hin]
      exact hb
  have hIsub : ∀ b, I b → w'.heap[b]? = w.heap[b]? := fun b hb => hfr.block b (hr.ilt b hb) (by rintro ⟨k, i, -, h⟩; exact (hr.slt i b h).2.2 hb)
  have hSsub : ∀ i b, i ∉ ids → S i b → w'.heap[b]? = w.heap[b]? := fun i b hi hb => hfr.block b (hr.slt i b hb).2.1 (by
    rintro ⟨k, i', h1, h2⟩
    have := hr.sdis i i' b hb h2
    subst this
    exact hi (List.mem_of_getElem? h1))
  have hI'S : ∀ i b, I' b → i ∉ ids → S i b → False := by
    intro i b hb hi hS
    rcases (hI' b hb).2 with ⟨h1, h2⟩ | h | ⟨k, i', h3, h4⟩
    · rcases h2 with h2 | ⟨h2, -⟩
      · exact (hr.slt i b hS).2.2 h2
      · rw [hl h2] at h1; cases h1
    · have := (hr.slt i b hS).2.1; omega
    · have := hr.sdis i i' b hS h4
      subst this
      exact hi (List.mem_of_getElem? h3)
  have hI'old : ∀ b, I' b → I b ∨ w.heap.size ≤ b ∨ ∃ i, S i b := by
    intro b hb
    rcases (hI' b hb).2 with ⟨h1, h2⟩ | h | ⟨k, i', h3, h4⟩
    · rcases h2 with h2 | ⟨h2, -⟩
      · exact .inl h2
      · rw [hl h2] at h1; cases h1
    · exact .inr (.inl h)
    · exact .inr (.inr ⟨_, h4⟩)
  let IN : Nat → Prop := fun b => I b ∨ I' b
  let SN : Nat → Nat → Prop := fun i b => (∃ k, sig ids n k = i ∧ k < obs.length ∧ S' k b) ∨ (i ∉ ids ∧ S i b)
  have hsiginj : ∀ (k k' : Nat), k < obs.length → k' < obs.length → sig ids n k = sig ids n k' → k = k' := by
    intro k k' hk hk' h
    cases h1 : ids[k]? with
    | some i =>
      cases h2 : ids[k']? with
      | some i' =>
        rw [sig_in h1, sig_in h2] at h
        subst h
        have e1 := (List.getElem?_eq_some_iff.1 h1).2
        have e2 := (List.getElem?_eq_some_iff.1 h2).2
        exact (List.getElem_inj hnd).1 (e1.trans e2.symm)
      | none =>
        rw [sig_in h1, sig_out (by simpa using h2)] at h
        have := hlt i (List.mem_of_getElem? h1)
        simp only [n] at h
        omega
    | none =>
      cases h2 : ids[k']? with
      | some i' =>
        rw [sig_in h2, sig_out (by simpa using h1)] at h
        have := hlt i' (List.mem_of_getElem? h2)
        simp only [n] at h
        omega
      | none =>
        rw [sig_out (by simpa using h1), sig_out (by simpa using h2)] at h
        have a1 : ids.length ≤ k := by simpa using h1
        have a2 : ids.length ≤ k' := by simpa using h2
        omega
  have hsignot : ∀ (k i : Nat), i ∉ ids → i < n → sig ids n k ≠ i := by
    intro k i hi hlt' h
    cases h1 : ids[k]? with
    | some j => rw [sig_in h1] at h; subst h; exact hi (List.mem_of_getElem? h1)
    | none => rw [sig_out (by simpa using h1)] at h; omega
  have hobsN : (st.after ids ks obs).obs.length = n + (obs.length - ids.length) := by
    simp [St.after, updAt_length, St.kill, n]
  have hsiglt : ∀ (k : Nat), k < obs.length → sig ids n k < n + (obs.length - ids.length) := by
    intro k hk
    cases h1 : ids[k]? with
    | some j => rw [sig_in h1]; have := hlt j (List.mem_of_getElem? h1); simp only [n]; omega
    | none => rw [sig_out (by simpa using h1)]; have a1 : ids.length ≤ k := by simpa using h1
              omega
  have hmI : ∀ b, I b → IN b := fun _ h => .inl h
  refine ⟨IN, βN, SN, RelV.put ?_ dst (AVR.map hσ (hav.mono (fun _ h => .inr h) (fun _ _ => rfl) (fun _ _ h => h))), RelC.put ?_ dst _ _⟩
  · refine ⟨by simpa [St.after, St.kill] using hr.sz, by rw [hobsN]; simp [βN, updAt_length, hr.bl, hbl, n], ?_, ?_, ?_, ?_, ?_⟩
    · intro t v u hv hu
      simp only [St.after, St.kill, Sl.getElem?_map, Option.map_eq_some_iff] at hv
      obtain ⟨v', hv', rfl⟩ := hv
      exact ((hr.slot t v' u hv' hu).mono (β' := β) hmI hIsub (fun _ _ h => h)).kill hkill
    · intro i o b ho hb
      by_cases hi : i ∈ ids
      · obtain ⟨k, hk⟩ := List.mem_iff_getElem?.1 hi
        have hkl := (List.getElem?_eq_some_iff.1 hk).1
        have hin := hlt i hi
        simp only [St.after] at ho
        rw [List.getElem?_append_left (by rw [updAt_length]; simpa [St.kill] using hin), updAt_at _ _ _ k i hnd hk (by simp; omega) (by simpa [St.kill] using hin)] at ho
        simp only [List.getElem?_map, Option.map_eq_some_iff] at ho
        obtain ⟨o', ho', rfl⟩ := ho
        rw [List.getElem?_take_of_lt hkl] at ho'
        rw [hNin k i hk] at hb
        have hkol := (List.getElem?_eq_some_iff.1 ho').1
        exact ObR.map hσ ((hob k o' b ho' hb).mono (fun _ h => .inr h) (fun _ _ => rfl) (fun _ _ h => h) (fun _ _ => rfl) (fun q hq => .inl ⟨k, sig_in hk, hkol, hq⟩))
      · rcases Nat.lt_or_ge i n with hin | hge
        · simp only [St.after] at ho
          rw [List.getElem?_append_left (by rw [updAt_length]; simpa [St.kill] using hin), updAt_other _ _ _ _ hi] at ho
          simp only [St.kill, List.getElem?_map, Option.map_eq_some_iff] at ho
          obtain ⟨o', ho', rfl⟩ := ho
          have hib : i < β.length := by rw [hr.bl]; exact hin
          have hbi : β[i]? = some b := by rw [← hNold i hi hin]; exact hb
          exact ((hr.ob i o' b ho' hbi).mono (β' := β) (S' := SN i) hmI hIsub (fun _ _ h => h) (fun q hq => hSsub i q hi hq) (fun q hq => .inr ⟨hi, hq⟩)).kill hkill
        · simp only [St.after] at ho
          rw [List.getElem?_append_right (by rw [updAt_length]; simpa [St.kill] using hge), updAt_length] at ho
          simp only [St.kill, List.length_map, List.getElem?_map, List.getElem?_drop, Option.map_eq_some_iff] at ho
          obtain ⟨o', ho', rfl⟩ := ho
          have hk : ids.length ≤ ids.length + (i - n) := Nat.le_add_right _ _
          have hi2 : n + (ids.length + (i - n) - ids.length) = i := by omega
          have hnn := hNnew _ hk
          rw [hi2, hb] at hnn
          have hkol := (List.getElem?_eq_some_iff.1 ho').1
          exact ObR.map hσ ((hob _ o' b ho' hnn.symm).mono (fun _ h => .inr h) (fun _ _ => rfl) (fun _ _ h => h) (fun _ _ => rfl) (fun q hq => .inl ⟨_, by rw [sig_out hk]; exact hi2, hkol, hq⟩))
    · rintro i j b (⟨k, h1, hk, h2⟩ | ⟨h1, h2⟩) (⟨k', h3, hk', h4⟩ | ⟨h3, h4⟩)
      · have := hsd k k' b h2 h4
        subst this
        exact h1.symm.trans h3
      · rcases (hslt k b h2).2.2.2 with h | ⟨m, i', h5, h6⟩
        · have := (hr.slt j b h4).2.1; omega
        · have := hr.sdis j i' b h4 h6
          subst this
          exact absurd (List.mem_of_getElem? h5) h3
      · rcases (hslt k' b h4).2.2.2 with h | ⟨m, i', h5, h6⟩
        · have := (hr.slt i b h2).2.1; omega
        · have := hr.sdis i i' b h2 h6
          subst this
          exact absurd (List.mem_of_getElem? h5) h1
      · exact hr.sdis i j b h2 h4
    · rintro i b (⟨k, h1, hk, h2⟩ | ⟨h1, h2⟩)
      · obtain ⟨q1, q2, q3, q4⟩ := hslt k b h2
        refine ⟨by rw [hobsN, ← h1]; exact hsiglt k hk, q2, ?_⟩
        rintro (h | h)
        · rcases q4 with q4 | ⟨m, i', h5, h6⟩
          · have := hr.ilt b h; omega
          · exact (hr.slt i' b h6).2.2 h
        · exact q3 h
      · obtain ⟨q1, q2, q3⟩ := hr.slt i b h2
        refine ⟨by rw [hobsN]; simp only [n]; omega, Nat.lt_of_lt_of_le q2 hfr.size, ?_⟩
        rintro (h | h)
        · exact q3 h
        · exact hI'S i b h h1 h2
    · refine hr.il.mono (fun _ h => .inl h) hIsub ?_
      rintro b (h | h)
      · exact Nat.lt_of_lt_of_le (hr.ilt b h) hfr.size
      · exact (hI' b h).1
  · refine ⟨?_, fun b hb => .inl (hc.isub b hb), ?_, ?_, ?_, hc.defers⟩
    · rintro i b (⟨k, h1, hk, h2⟩ | ⟨h1, h2⟩)
      · rcases (hslt k b h2).2.2.2 with h | ⟨m, i', h5, h6⟩
        · exact .inl (Nat.le_trans hc.frame.size h)
        · exact hc.own i' b h6
      · exact hc.own i b h2
    · rintro b (h | h)
      · exact hc.iinv b h
      · rcases hI'old b h with h | h | ⟨i', h⟩
        · exact hc.iinv b h
        · exact .inr (.inl (Nat.le_trans hc.frame.size h))
        · rcases hc.own i' b h with h | h
          · exact .inr (.inl h)
          · exact .inr (.inr h)
    · refine hc.frame.trans hfr ?_
      rintro x ⟨k, i, -, h⟩
      exact (hc.own i x h).symm
    · intro i hi hk
      have hkst : kb st.ks i = true := hk
      have hbad : badIds ids ks i = false := by
        cases hb : badIds ids ks i with
        | false => rfl
        | true => rw [hks i hb] at hkst; cases hkst
      have hil : i < β.length := hc.klt hi hk
      rw [hkill i _ hbad (List.getElem?_eq_getElem hil), ← List.getElem?_eq_getElem hil]
      exact hc.keep i hi hkst

end
end Go.Al
