import Derived.Test.YtbpicgilplnmoaaAl14
set_option linter.unusedVariables false
set_option linter.unusedSimpArgs false
set_option linter.constructorNameAsVariable false
namespace Go.Al

/-! ### 18. Operations that write -/
def consume (i : Nat) : List Nat → List Ob → List Ob
  | [], obs => obs
  | j :: r, obs => consume i r (if j = i then obs else obs.set j .none)

def storeK (P : Program) (st : St) (t : TypeId) (addr av : AV) (K : St → Prop) : Prop :=
  (tyOf P t).ok = true ∧ is (partCs av) fun new => new.length = (tyOf P t).size ∧ (match addr with
    | .c (.p i off) => match st.obj i with
      | .box cs => off + new.length ≤ cs.length ∧ K { st with obs := st.obs.set i (.box (setAt cs off new)) }
      | _ => False
    | .ea i sz idx f => match st.obj i with
      | .row sz' xs [] => sz = sz' ∧ idx < xs.n ∧ f + new.length ≤ (xs.g idx).length ∧ is (inlN st [i] (tyOf P t).zs new) fun p =>
          K { st with obs := consume i p.2 (st.obs.set i (.row sz (xs.set idx (setAt (xs.g idx) f p.1)) [])) }
      | _ => False
    | _ => False)

def roN : N → N
  | .sl sz xs => .im (.sl sz xs)
  | x => x

/-- What is appended: its elements, and the object that is used up. -/
def srcOf (st : St) : AV → Option (Rw N × Option Nat)
  | .c (.n (.sl _ ys)) => some (ys.map roN, Option.none)
  | .c .z => some (Rw.nil, Option.none)
  | .c (.h j) => match st.obj j with
    | .row _ ys [] => some (ys, some j)
    | .fro _ ys => some (ys.map roN, Option.none)
    | _ => Option.none
  | _ => Option.none
/-- Its elements' size; none where there are no elements. -/
def srcSz (st : St) : AV → Option Nat
  | .c (.n (.sl sz _)) => some sz
  | .c (.h j) => match st.obj j with
    | .row sz _ [] => some sz
    | .fro sz _ => some sz
    | _ => Option.none
  | _ => Option.none

def appendK (P : Program) (st : St) (t : TypeId) (s x : AV) (dst : Option Nat) (K : St → Prop) : Prop :=
  is (tyOf P t).sl fun e => (tyOf P e).ok = true ∧ 0 < (tyOf P e).size ∧ is (srcOf st x) fun p => (match srcSz st x with | some z => z = (tyOf P e).size | Option.none => True) ∧ (match s with
    | .c (.h i) => match st.obj i with
      | .row sz xs [] => sz = (tyOf P e).size ∧ kb st.ks i = false ∧ p.2 ≠ some i ∧ (xs.n + p.1.n) * ((tyOf P e).bytes + 1) ≤ maxN ∧
          K ((({ st with obs := consume i p.2.toList (st.obs.set i (.row sz (xs.app p.1) [])) } : St).kill (fun k => k == i)).put dst (.c (.h i)))
      | _ => False
    | .c .z => p.1.n * ((tyOf P e).bytes + 1) ≤ maxN ∧
        K ((({ st with obs := consume st.obs.length p.2.toList st.obs } : St).new [.row (tyOf P e).size p.1 []]).put dst (.c (.h st.obs.length)))
    | _ => False)

section
variable {P : Program} {st : St} {a : Act} {w : World} {I : Nat → Prop} {β : List Value} {S : Nat → Nat → Prop} {c : Cx}

theorem consume_length (i : Nat) : ∀ (l : List Nat) (obs : List Ob), (consume i l obs).length = obs.length
  | [], _ => rfl
  | j :: r, obs => by rw [consume, consume_length i r]; split <;> simp
theorem consume_get (i : Nat) : ∀ (l : List Nat) (obs : List Ob) (k : Nat), (consume i l obs)[k]? = if k ∈ l ∧ k ≠ i ∧ k < obs.length then some .none else obs[k]?
  | [], obs, k => by simp [consume]
  | j :: r, obs, k => by
    rw [consume, consume_get i r]
    by_cases hj : j = i
    · subst hj
      simp only [if_true, List.mem_cons]
      by_cases h : k ∈ r ∧ k ≠ j ∧ k < obs.length
      · rw [if_pos h, if_pos ⟨.inr h.1, h.2⟩]
      · rw [if_neg h, if_neg (fun ⟨h1, h2, h3⟩ => h ⟨h1.resolve_left h2, h2, h3⟩)]
    · simp only [hj, if_false, List.length_set, List.mem_cons, List.getElem?_set]
      by_cases hk : j = k
      · subst hk
        simp only [true_or, true_and, hj, ne_eq, not_false_eq_true]
        by_cases h : j < obs.length
        · simp [h]
        · simp [h, List.getElem?_eq_none (Nat.le_of_not_lt h)]
      · have hk' : ¬ k = j := fun h => hk h.symm
        simp only [hk, hk', if_false, false_or]

/-- A variable is written. -/
theorem store_box (hr : RelV st a w I β S) (hc : RelC c st a w I β S) {t : TypeId} (hok : (tyOf P t).ok = true) {i off : Nat} {av : AV} {v u : Value} {new cs : List C}
    (hv : AVR w I β (.c (.p i off)) v) (hu : AVR w I β av u) (hp : partCs av = some new) (hs : new.length = (tyOf P t).size) (hobj : st.obj i = .box cs) (hle : off + new.length ≤ cs.length) :
    ∃ w', (Instr.storeAt t v u).run P w = .ok () w' ∧ Rel c { st with obs := st.obs.set i (.box (setAt cs off new)) } a w' := by
  obtain ⟨g, hg, rfl⟩ := hv
  obtain ⟨g', cur, e, hb, hS, hh, hcs⟩ := hr.box hobj
  rw [hg] at hb
  obtain rfl : g = g' := by simpa using hb
  have hn := partCs_sound hu hp
  have hi : i < st.obs.length := (hr.slt i g hS).1
  have h1 : ∀ x ∈ u.cells.toList, x.oneCell' = true := by
    intro x hx
    obtain ⟨k, hk⟩ := List.mem_iff_getElem?.1 hx
    have hk' : u.cells[k]? = some x := by simpa using hk
    have hlt : k < new.length := by rw [← hn.1]; exact (Array.getElem?_eq_some_iff.1 hk').1
    exact (hn.2 k _ x (List.getElem?_eq_getElem hlt) hk').one
  have hfit : off + u.cells.toList.length ≤ cur.size := by rw [hcs.1]; simp [hn.1]; omega
  have hrun := run_storeVar' (P := P) (w := w) hok (o := off) hh (.inr (Nat.le_refl 0)) (by rw [hn.1, hs]) (by simpa using hfit) h1
  refine ⟨_, by simp only [Instr.storeAt, Instr.sureAddr, Sem.run_bind, Sem.run_pure, Result.andThen_ok]; exact hrun, I, β, S, ?_, ?_⟩
  · have hsame : ∀ q, q ≠ g → (w.setRow g (putCells cur off u.cells.toList)).heap[q]? = w.heap[q]? := fun q hq => setRow_other w g q _ hq
    have hIw : ∀ q, I q → (w.setRow g (putCells cur off u.cells.toList)).heap[q]? = w.heap[q]? := fun q hq => hsame q (by rintro rfl; exact (hr.slt i _ hS).2.2 hq)
    have hz : (w.setRow g (putCells cur off u.cells.toList)).heap.size = w.heap.size := by simp [World.setRow]
    refine ⟨hr.sz, by simpa using hr.bl, fun t x y hx hy => (hr.slot t x y hx hy).mono (fun _ h => h) hIw (fun _ _ h => h), ?_, hr.sdis, fun j q hq => ?_, hr.il.mono (fun _ h => h) hIw (fun q hq => by rw [hz]; exact hr.ilt q hq)⟩
    · intro j o b ho hb
      simp only [List.getElem?_set] at ho
      by_cases hj : i = j
      · subst hj
        simp only [hi, if_true, Option.some.injEq] at ho
        subst ho
        rw [hg] at hb
        obtain rfl := Option.some.inj hb
        refine ⟨g, _, e, rfl, hS, setRow_heap w g cur _ e _ hh, ?_⟩
        refine CsR.mono (w := w) (I := I) (β := β) (fun _ h => h) hIw (fun _ _ h => h) ⟨by rw [putCells_size, setAt_length hle]; exact hcs.1, fun k x y hx hy => ?_⟩
        rw [putCells_get _ _ _ _ hfit] at hy
        rw [setAt_get hle] at hx
        have hlen : u.cells.toList.length = new.length := by simp [hn.1]
        rw [hlen] at hy
        split at hx
        · rename_i hk
          rw [if_pos hk] at hy
          exact hn.2 _ x y hx (by simpa using hy)
        · rename_i hk
          rw [if_neg hk] at hy
          exact hcs.2 k x y hx hy
      · simp only [hj, if_false] at ho
        exact (hr.ob j o b ho hb).mono (fun _ h => h) hIw (fun _ _ h => h) (fun q hq => hsame q (by rintro rfl; exact hj (hr.sdis i j _ hS hq))) (fun _ h => h)
    · obtain ⟨h1, h2, h3⟩ := hr.slt j q hq
      exact ⟨by simpa using h1, by rw [hz]; exact h2, h3⟩
  · refine ⟨hc.own, hc.isub, hc.iinv, hc.frame.trans (Fr.setRow (X := fun q => q = g) rfl) ?_, hc.keep, hc.defers⟩
    rintro x rfl
    exact (hc.own i _ hS).symm

/-- Cells of an owned row are written; what is owned is handed over. -/
theorem store_row (hr : RelV st a w I β S) (hc : RelC c st a w I β S) {t : TypeId} (hok : (tyOf P t).ok = true) {i sz idx f : Nat} {av : AV} {v u : Value} {new : List C} {xs : Rw N} {e ns : List N} {used : List Nat}
    (hv : AVR w I β (.ea i sz idx f) v) (hu : AVR w I β av u) (hp : partCs av = some new) (hs : new.length = (tyOf P t).size) (hobj : st.obj i = .row sz xs []) (hidx : idx < xs.n) (he : xs.g idx = e) (hle : f + new.length ≤ e.length)
    (hin : inlN st [i] (tyOf P t).zs new = some (ns, used)) :
    ∃ w', (Instr.storeAt t v u).run P w = .ok () w' ∧ Rel c { st with obs := consume i used (st.obs.set i (.row sz (xs.set idx (setAt e f ns)) [])) } a w' := by
  obtain ⟨g, n, cap, hg, rfl⟩ := hv
  obtain ⟨b, hb, hrow⟩ := hr.obj hobj (by simp)
  rw [hg] at hb
  obtain rfl := Option.some.inj hb
  have hn := partCs_sound hu hp
  obtain ⟨hl, hu1, hu2, Fs, hF1, hF2, hF3⟩ := inlN_sound hr hin
  have hvl : u.cells.toList.length = ns.length := by simp [hn.1, hl]
  have hfit0 : f + ns.length ≤ e.length := by rw [hl]; exact hle
  have hFs : ∀ k b, Fs k b → ∃ j, j ∈ used ∧ j ≠ i ∧ S j b := by
    intro k b hb
    obtain ⟨j, h1, h2, h3⟩ := hF2 k b hb
    exact ⟨j, h1, by simpa using h2, h3⟩
  obtain ⟨g', cap', cur, el, fr, hbe, hgS, hh, hfr, hroom, hres⟩ := RowR.store (w := w) (I := I) (β := β) (T' := fun q => S i q ∨ ∃ j, j ∈ used ∧ j ≠ i ∧ S j q) hrow hidx he (ns := ns) (vs := u.cells.toList) (Fs := Fs) hvl hfit0
    (fun k x y hx hy => by
      have hlt : k < new.length := by rw [← hl]; exact (List.getElem?_eq_some_iff.1 hx).1
      have hcr := hn.2 k _ y (List.getElem?_eq_getElem hlt) (by simpa using hy)
      obtain ⟨x', hx', ho⟩ := hF1 k _ y (List.getElem?_eq_getElem hlt) hcr
      rw [hx] at hx'
      obtain rfl := Option.some.inj hx'
      exact ho) hF3 (fun k q hq hT => by obtain ⟨j, -, h2, h3⟩ := hFs k q hq; exact h2 (hr.sdis j i q h3 hT)) (fun _ h => .inl h) (fun k q hq => .inr (hFs k q hq)) (fun q hq => (hr.slt i q hq).2.2)
  simp only [Value.slice.injEq, Option.some.injEq, Addr.mk.injEq] at hbe
  obtain ⟨⟨rfl, -⟩, hnl, rfl⟩ := hbe
  have h1 : ∀ x ∈ u.cells.toList, x.oneCell' = true := by
    intro x hx
    obtain ⟨k, hk⟩ := List.mem_iff_getElem?.1 hx
    have hk' : u.cells[k]? = some x := by simpa using hk
    have hlt : k < new.length := by rw [← hn.1]; exact (Array.getElem?_eq_some_iff.1 hk').1
    exact (hn.2 k _ x (List.getElem?_eq_getElem hlt) hk').one
  have hrun := run_storeVar' (P := P) (w := w) hok (o := idx * sz + f) hh hfr (by rw [hn.1, hs]) (by simpa using hroom) h1
  have hi : i < st.obs.length := (hr.slt i g hgS).1
  refine ⟨_, by simp only [Instr.storeAt, Instr.sureAddr, Sem.run_bind, Sem.run_pure, Result.andThen_ok]; exact hrun, I, β, fun k q => if k = i then S i q ∨ ∃ j, j ∈ used ∧ j ≠ i ∧ S j q else S k q ∧ k ∉ used, ?_, ?_⟩
  · have hsame : ∀ q, q ≠ g → (w.setRow g (putCells cur (idx * sz + f) u.cells.toList)).heap[q]? = w.heap[q]? := fun q hq => setRow_other w g q _ hq
    have hIw : ∀ q, I q → (w.setRow g (putCells cur (idx * sz + f) u.cells.toList)).heap[q]? = w.heap[q]? := fun q hq => hsame q (by rintro rfl; exact (hr.slt i _ hgS).2.2 hq)
    have hz : (w.setRow g (putCells cur (idx * sz + f) u.cells.toList)).heap.size = w.heap.size := by simp [World.setRow]
    refine ⟨hr.sz, by simpa [consume_length] using hr.bl, fun t x y hx hy => (hr.slot t x y hx hy).mono (fun _ h => h) hIw (fun _ _ h => h), ?_, ?_, fun j q hq => ?_, hr.il.mono (fun _ h => h) hIw (fun q hq => by rw [hz]; exact hr.ilt q hq)⟩
    · intro j o b ho hb
      simp only [consume_get, List.length_set] at ho
      by_cases hj : i = j
      · subst hj
        simp only [ne_eq, not_true_eq_false, false_and, and_false, if_false, List.getElem?_set, if_true, hi, Option.some.injEq] at ho
        subst ho
        rw [hg] at hb
        obtain rfl := Option.some.inj hb
        simp only [if_true]
        exact hres
      · have hj' : ¬ j = i := fun h => hj h.symm
        simp only [hj', if_false]
        split at ho
        · simp only [Option.some.injEq] at ho
          subst ho
          trivial
        · rename_i hnu
          rw [List.getElem?_set, if_neg hj] at ho
          have hlt : j < st.obs.length := (List.getElem?_eq_some_iff.1 ho).1
          exact (hr.ob j o b ho hb).mono (fun _ h => h) hIw (fun _ _ h => h) (fun q hq => hsame q (by rintro rfl; exact hj (hr.sdis i j _ hgS hq))) (fun q hq => ⟨hq, fun h => hnu ⟨h, hj', hlt⟩⟩)
    · intro j k q hq hq'
      split at hq <;> split at hq'
      · omega
      · rename_i h1 h2
        rcases hq with hq | ⟨m, hm1, hm2, hm3⟩
        · exact absurd (hr.sdis i k q hq hq'.1).symm h2
        · have := hr.sdis m k q hm3 hq'.1
          subst this
          exact absurd hm1 hq'.2
      · rename_i h1 h2
        rcases hq' with hq' | ⟨m, hm1, hm2, hm3⟩
        · exact absurd (hr.sdis i j q hq' hq.1).symm h1
        · have := hr.sdis m j q hm3 hq.1
          subst this
          exact absurd hm1 hq.2
      · exact hr.sdis j k q hq.1 hq'.1
    · have key : ∃ m, S m q ∧ j < st.obs.length := by
        split at hq
        · rename_i h1
          subst h1
          rcases hq with hq | ⟨m, -, -, hm⟩
          · exact ⟨_, hq, hi⟩
          · exact ⟨m, hm, hi⟩
        · exact ⟨j, hq.1, (hr.slt j q hq.1).1⟩
      obtain ⟨m, hm, hlt⟩ := key
      obtain ⟨-, h2, h3⟩ := hr.slt m q hm
      exact ⟨by simpa [consume_length] using hlt, by rw [hz]; exact h2, h3⟩
  · refine ⟨fun j q hq => ?_, hc.isub, hc.iinv, hc.frame.trans (Fr.setRow (X := fun q => q = g) rfl) ?_, hc.keep, hc.defers⟩
    · split at hq
      · rcases hq with hq | ⟨m, -, -, hm⟩
        · exact hc.own _ q hq
        · exact hc.own m q hm
      · exact hc.own j q hq.1
    · rintro x rfl
      exact (hc.own i _ hgS).symm

end
end Go.Al
