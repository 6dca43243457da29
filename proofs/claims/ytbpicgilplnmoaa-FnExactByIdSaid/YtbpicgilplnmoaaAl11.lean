import Derived.Test.YtbpicgilplnmoaaAl10
import Derived.Laws.Append
set_option linter.unusedVariables false
set_option linter.unusedSimpArgs false
set_option linter.constructorNameAsVariable false
namespace Go.Al

/-! ### 12. Writing cells -/
def putCells (cur : Array Value) (o : Nat) : List Value → Array Value
  | [] => cur
  | v :: r => putCells (cur.setIfInBounds o v) (o + 1) r
theorem putCells_size : ∀ (vs : List Value) (cur : Array Value) (o : Nat), (putCells cur o vs).size = cur.size
  | [], _, _ => rfl
  | v :: r, cur, o => by simp [putCells, putCells_size r]
theorem putCells_get : ∀ (vs : List Value) (cur : Array Value) (o k : Nat), o + vs.length ≤ cur.size → (putCells cur o vs)[k]? = if o ≤ k ∧ k < o + vs.length then vs[k - o]? else cur[k]?
  | [], cur, o, k, h => by simp [putCells]; omega
  | v :: r, cur, o, k, h => by
    rw [putCells, putCells_get r _ (o + 1) k (by simp at h ⊢; omega)]
    simp only [List.length_cons] at h ⊢
    by_cases h1 : k = o
    · subst h1
      rw [if_neg (by omega), if_pos (by omega)]
      simp [Array.getElem?_setIfInBounds, show k < cur.size by omega]
    · by_cases h2 : o + 1 ≤ k ∧ k < o + 1 + r.length
      · rw [if_pos h2, if_pos (by omega), show k - o = (k - (o + 1)) + 1 by omega]
        simp
      · rw [if_neg h2, if_neg (by omega), Array.getElem?_setIfInBounds_ne (by omega)]

section
variable {P : Program} {st : St} {a : Act} {w : World} {I : Nat → Prop} {β : List Value} {S : Nat → Nat → Prop}

theorem not_frozen {g k : Nat} {cur : Array Value} {e : TypeId} {fr : Nat × Nat} (hb : w.heap[g]? = some (.cells cur e fr)) (hfr : cur.size ≤ fr.1 ∨ fr.2 ≤ fr.1) (hk : k < cur.size) : w.frozen? ⟨g, k, none⟩ = false := by
  obtain ⟨lo, hi⟩ := fr
  simp only at hfr
  simp only [World.frozen?, hb]
  rw [Bool.and_eq_false_iff]
  by_cases h : lo ≤ k
  · right; simp; omega
  · left; simpa using h

theorem run_storeCells' (g o : Nat) (e : TypeId) (fr : Nat × Nat) : ∀ (vs : List Value) (i : Nat) (cur : Array Value) (w : World), w.heap[g]? = some (.cells cur e fr) → (cur.size ≤ fr.1 ∨ fr.2 ≤ fr.1) →
    o + i + vs.length ≤ cur.size → (∀ v ∈ vs, v.oneCell' = true) → (storeCells ⟨g, o, none⟩ vs i).run P w = .ok () (w.setRow g (putCells cur (o + i) vs))
  | [], i, cur, w, hb, _, _, _ => by rw [storeCells, putCells, setRow_self w g cur e fr hb]; rfl
  | v :: r, i, cur, w, hb, hfr, hl, h1 => by
    have hi : o + i < cur.size := by simp at hl; omega
    have hcell : w.cell? ⟨g, o + i, none⟩ = some cur[o + i] := by rw [cells_at hb]; simp [hi]
    have hst : (store ((⟨g, o, none⟩ : Addr).add i) v).run P w = .ok () (w.setRow g (cur.setIfInBounds (o + i) v)) := by
      rw [add00, run_store P w _ v _ (h1 v (by simp)), hcell]
      simp only [not_frozen hb hfr hi, setCell_eq_setRow w g (o + i) cur e fr v hb]
      rfl
    have ih := run_storeCells' g o e fr r (i + 1) (cur.setIfInBounds (o + i) v) (w.setRow g (cur.setIfInBounds (o + i) v)) (setRow_heap w g cur _ e _ hb) (by simpa using hfr) (by simp at hl ⊢; omega) (fun x hx => h1 x (by simp [hx]))
    rw [storeCells, Sem.run_bind, hst, Result.andThen_ok, ih, setRow_setRow]
    rfl

theorem Fr.setRow {X : Nat → Prop} {w : World} {g : Nat} {cs : Array Value} (h : X g) : Fr X w (w.setRow g cs) :=
  ⟨rfl, rfl, rfl, by simp [World.setRow], fun b hb hX => setRow_other w g b cs (by rintro rfl; exact hX h)⟩

theorem run_storeVar' {t : TypeId} (hok : (tyOf P t).ok = true) {g o : Nat} {e : TypeId} {fr : Nat × Nat} {cur : Array Value} (hb : w.heap[g]? = some (.cells cur e fr)) (hfr : cur.size ≤ fr.1 ∨ fr.2 ≤ fr.1)
    {v : Value} (hs : v.cells.size = (tyOf P t).size) (hl : o + v.cells.size ≤ cur.size) (h1 : ∀ u ∈ v.cells.toList, u.oneCell' = true) :
    (storeVar t ⟨g, o, none⟩ v).run P w = .ok () (w.setRow g (putCells cur o v.cells.toList)) := by
  obtain ⟨i, d, z, hi, hd, hz, hzs, -, hsz, -, -⟩ := tyOf_ok hok
  have hrun := run_storeCells' (P := P) g o e fr v.cells.toList 0 cur w hb hfr (by simpa using hl) h1
  rw [Nat.add_zero] at hrun
  have hs' : v.cells.size = i.size := by rw [hs, hsz]
  simp [storeVar, run_sizeOf' hi, hs', hrun]

/-! ### 13. Cells as they stand in owned rows -/

/-- Cells to be stored in an owned row: what is owned is handed over (the objects' numbers are told). -/
def inlN (st : St) (used : List Nat) : List (Option ZE) → List C → Option (List N × List Nat)
  | [], [] => some ([], used)
  | z :: zs, .h j :: cs => if used.contains j then Option.none else match st.obj j with
    | .row sz xs [] => (inlN st (j :: used) zs cs).map fun p => (.sl sz xs :: p.1, p.2)
    | .fro sz xs => (inlN st used zs cs).map fun p => (.im (.sl sz xs) :: p.1, p.2)
    | _ => Option.none
  | z :: zs, c :: cs => match flatN z c with
    | some x => (inlN st used zs cs).map fun p => (x :: p.1, p.2)
    | Option.none => Option.none
  | _, _ => Option.none

theorem flatN_sound {zs : Option ZE} {c : C} {x : N} {v : Value} (h : flatN zs c = some x) (hv : CR w I β c v) (T : Nat → Prop) : Own w I x v T := by
  unfold flatN at h
  split at h
  · simp only [Option.some.injEq] at h
    subst h
    cases hv with
    | v hv => exact Own.v hv
  · simp only [Option.some.injEq] at h
    subst h
    cases hv with
    | im hv => exact Own.im hv
  · simp only [Option.some.injEq] at h
    subst h
    exact Own.im hv
  · cases zs with
    | none => cases h
    | some s =>
      simp only [Option.some.injEq] at h
      subst h
      obtain ⟨A, rfl⟩ := hv
      exact Own.nil A rfl
  · cases h

theorem inlN_sound (hr : RelV st a w I β S) : ∀ {zs : List (Option ZE)} {cs : List C} {used used' : List Nat} {ns : List N}, inlN st used zs cs = some (ns, used') →
    ns.length = cs.length ∧ (∀ j, j ∈ used → j ∈ used') ∧ (∀ j, j ∈ used' → j ∈ used ∨ ∃ sz xs, st.obj j = .row sz xs []) ∧
    ∃ Fs : Nat → Nat → Prop, (∀ (k : Nat) (c : C) (v : Value), cs[k]? = some c → CR w I β c v → ∃ n, ns[k]? = some n ∧ Own w I n v (Fs k)) ∧
      (∀ k b, Fs k b → ∃ j, j ∈ used' ∧ j ∉ used ∧ S j b) ∧ (∀ k k' b, Fs k b → Fs k' b → k = k') := by
  intro zs
  induction zs with
  | nil =>
    intro cs used used' ns h
    cases cs with
    | nil =>
      simp only [inlN, Option.some.injEq, Prod.mk.injEq] at h
      obtain ⟨rfl, rfl⟩ := h
      exact ⟨rfl, fun _ h => h, fun _ h => .inl h, fun _ _ => False, by simp, by simp, by simp⟩
    | cons c cs => simp [inlN] at h
  | cons z zs ih =>
    intro cs used used' ns h
    cases cs with
    | nil => simp [inlN] at h
    | cons c cs =>
      have flat : ∀ {x : N} {p : List N × List Nat}, (∀ v, CR w I β c v → Own w I x v (fun _ => False)) → inlN st used zs cs = some p → (x :: p.1, p.2) = (ns, used') →
          ns.length = (c :: cs).length ∧ (∀ j, j ∈ used → j ∈ used') ∧ (∀ j, j ∈ used' → j ∈ used ∨ ∃ sz xs, st.obj j = .row sz xs []) ∧
          ∃ Fs : Nat → Nat → Prop, (∀ (k : Nat) (d : C) (v : Value), (c :: cs)[k]? = some d → CR w I β d v → ∃ n, ns[k]? = some n ∧ Own w I n v (Fs k)) ∧
            (∀ k b, Fs k b → ∃ j, j ∈ used' ∧ j ∉ used ∧ S j b) ∧ (∀ k k' b, Fs k b → Fs k' b → k = k') := by
        intro x p hx hp he
        simp only [Prod.mk.injEq] at he
        obtain ⟨rfl, rfl⟩ := he
        obtain ⟨h1, h2, h3, Fs, h4, h5, h6⟩ := ih hp
        refine ⟨by simp [h1], h2, h3, fun k b => match k with | 0 => False | k + 1 => Fs k b, ?_, ?_, ?_⟩
        · intro k d v hd hv
          cases k with
          | zero => simp at hd; subst hd; exact ⟨x, rfl, hx v hv⟩
          | succ k => exact h4 k d v (by simpa using hd) hv
        · intro k b hb
          cases k with
          | zero => exact hb.elim
          | succ k => exact h5 k b hb
        · intro k k' b hb hb'
          cases k with
          | zero => exact hb.elim
          | succ k => cases k' with
            | zero => exact hb'.elim
            | succ k' => rw [h6 k k' b hb hb']
      unfold inlN at h
      split at h
      · rename_i hz hc; simp at hz
      · rename_i z' zs' j cs' hz hc
        simp only [List.cons.injEq] at hz hc
        obtain ⟨rfl, rfl⟩ := hz
        obtain ⟨rfl, rfl⟩ := hc
        split at h
        · cases h
        · rename_i hu
          have hu' : j ∉ used := by simpa using hu
          split at h
          · rename_i sz xs hobj
            simp only [Option.map_eq_some_iff] at h
            obtain ⟨p, hp, he⟩ := h
            simp only [Prod.mk.injEq] at he
            obtain ⟨rfl, rfl⟩ := he
            obtain ⟨h1, h2, h3, Fs, h4, h5, h6⟩ := ih hp
            refine ⟨by simp [h1], fun k hk => h2 k (by simp [hk]), fun k hk => ?_, fun k b => match k with | 0 => S j b | k + 1 => Fs k b, ?_, ?_, ?_⟩
            · rcases h3 k hk with h | h
              · simp only [List.mem_cons] at h
                rcases h with rfl | h
                · exact .inr ⟨sz, xs, hobj⟩
                · exact .inl h
              · exact .inr h
            · intro k d v hd hv
              cases k with
              | zero =>
                simp at hd
                subst hd
                exact ⟨_, rfl, RowR.own (hr.hdr (i := j) hv hobj (by simp))⟩
              | succ k => exact h4 k d v (by simpa using hd) hv
            · intro k b hb
              cases k with
              | zero => exact ⟨j, h2 j (by simp), hu', hb⟩
              | succ k =>
                obtain ⟨j', q1, q2, q3⟩ := h5 k b hb
                exact ⟨j', q1, fun h => q2 (by simp [h]), q3⟩
            · intro k k' b hb hb'
              cases k with
              | zero => cases k' with
                | zero => rfl
                | succ k' =>
                  obtain ⟨j', q1, q2, q3⟩ := h5 k' b hb'
                  exact absurd (by simp [hr.sdis j' j b q3 hb]) q2
              | succ k => cases k' with
                | zero =>
                  obtain ⟨j', q1, q2, q3⟩ := h5 k b hb
                  exact absurd (by simp [hr.sdis j' j b q3 hb']) q2
                | succ k' => rw [h6 k k' b hb hb']
          · rename_i sz xs hobj
            simp only [Option.map_eq_some_iff] at h
            obtain ⟨p, hp, he⟩ := h
            exact flat (x := .im (.sl sz xs)) (fun v hv => Own.im (hr.hdr (i := j) hv hobj (by simp))) hp he
          · cases h
      · rename_i z' zs' c' cs' hne hz hc
        simp only [List.cons.injEq] at hz hc
        obtain ⟨rfl, rfl⟩ := hz
        obtain ⟨rfl, rfl⟩ := hc
        split at h
        · rename_i x hx
          simp only [Option.map_eq_some_iff] at h
          obtain ⟨p, hp, he⟩ := h
          exact flat (fun v hv => flatN_sound hx hv _) hp he
        · cases h
      · cases h

end
end Go.Al
