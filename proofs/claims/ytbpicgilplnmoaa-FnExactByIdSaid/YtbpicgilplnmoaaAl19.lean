import Derived.Test.YtbpicgilplnmoaaAl18
set_option linter.unusedVariables false
set_option linter.unusedSimpArgs false
namespace Go.Al

/-! ### 22. Operations, in the text's order -/
def callS (P : Program) (st : St) (f : AV) (args : List AV) (dst : Option Nat) (K : St → Prop) : Prop :=
  ∀ (c : Cx) (a : Act) (w : World) (I : Nat → Prop) (β : List Value) (S : Nat → Nat → Prop) (fv : Value) (vals : List Value), RelV st a w I β S → RelC c st a w I β S → AVR w I β f fv →
    vals.length = args.length → (∀ (t : Nat) (v : AV) (c : Value), args[t]? = some v → vals[t]? = some c → AVR w I β v c) →
    ∃ g caps, fv = .func (.func g) #[] caps ∧ Goes P g (vals.toArray ++ caps) w (fun v w' => ∃ st', K st' ∧ Rel c st' (a.put dst v) w')

def skipAV : AV := .tup []

def vcOp (P : Program) (o : Oper) (st : St) (K : St → Prop) : Prop :=
  match o.op with
  | .store t a x => storeK P st t (st.ev a) (st.ev x) fun st' => K (st'.put o.dst skipAV)
  | .buildSlice t len parts => buildOwnK P st t len (parts.toList.map fun p => (p.1, st.ev p.2)) o.dst K
  | .call { callee := .builtin .append, args, argTypes } => match args.toList, argTypes.toList with
    | [s, x], [t, t'] => t = t' ∧ appendK P st t (st.ev s) (st.ev x) o.dst K
    | _, _ => False
  | .call { callee := .value f, args, .. } => callS P st (st.ev f) (args.toList.map st.ev) o.dst K
  | _ => vcQ P o st fun av news => K ((st.new news).put o.dst av)

def boolAV (b : Bool) : AV := .c (.n (.v (.bool b)))

def guard2 (x : AV) (want : Bool) (A B C : Prop) : Prop := match x with
  | .c (.n (.v (.bool b))) => match want with
    | true => bcase b A B
    | false => bcase b B A
  | .tup _ => C
  | _ => False

def guardK (st : St) (ops : Array Oper) (g : Option (Nat × Bool)) (K : Bool → St → Prop) : Prop :=
  match g with
  | Option.none => K true st
  | some (j, want) => match (ops[j]?).bind (·.dst) with
    | some t => guard2 (st.get t) want (K true (st.put (some t) (boolAV want))) (K false (st.put (some t) (boolAV !want))) (K false st)
    | Option.none => False

def vcL (P : Program) (ops : Array Oper) : List Oper → St → (St → Prop) → Prop
  | [], st, K => K st
  | o :: rest, st, K => guardK st ops o.guard fun b st => match b with
    | true => vcOp P o st fun st' => vcL P ops rest st' K
    | false => vcL P ops rest (st.put o.dst skipAV) K

section
variable {P : Program} {st : St} {a : Act} {w : World} {c : Cx}

theorem args_sound {I : Nat → Prop} {β : List Value} {S : Nat → Nat → Prop} (hr : RelV st a w I β S) (args : List Operand) :
    ∀ (t : Nat) (v : AV) (c : Value), (args.map st.ev)[t]? = some v → (args.map a.eval)[t]? = some c → AVR w I β v c := by
  intro t v c hv hc
  simp only [List.getElem?_map, Option.map_eq_some_iff] at hv hc
  obtain ⟨x, hx, rfl⟩ := hv
  obtain ⟨y, hy, rfl⟩ := hc
  rw [hx] at hy
  obtain rfl := Option.some.inj hy
  exact ev_sound hr x

theorem put_skip (hrel : Rel c st a w) (dst : Option Nat) : Rel c (st.put dst skipAV) (a.put dst undef) w := by
  obtain ⟨I, β, S, hr, hc⟩ := hrel
  exact ⟨I, β, S, hr.put dst ⟨#[], rfl, rfl, by simp⟩, hc.put dst _ _⟩

/-- An operation does what the calculus says. -/
theorem vcOp_sound (hrel : Rel c st a w) {o : Oper} {K : St → Prop} (h : vcOp P o st K) {next : Act → World → Prop} {Q : Exit → Act → World → Prop}
    (hn : ∀ st' a' w', K st' → Rel c st' a' w' → next a' w') : o.wp P a w next Q := by
  obtain ⟨I, β, S, hr, hc⟩ := hrel
  obtain ⟨dst, op, ty, pos, after, guard⟩ := o
  unfold Oper.wp
  unfold vcOp at h
  split at h
  · -- store
    rename_i t x y hop
    simp only at hop
    subst hop
    obtain ⟨hok, h⟩ := h
    obtain ⟨new, hnew, hs, h⟩ := is_iff h
    have key : ∃ w' st', (Instr.storeAt t (a.eval x) (a.eval y)).run P w = .ok () w' ∧ K (st'.put dst skipAV) ∧ Rel c st' a w' := by
      have hx := ev_sound hr x
      have hy := ev_sound hr y
      split at h
      · rename_i i off hax
        rw [hax] at hx
        split at h
        · rename_i cs hobj
          obtain ⟨hle, hK⟩ := h
          obtain ⟨w', hrun, hrel⟩ := store_box hr hc hok hx hy hnew hs hobj hle
          exact ⟨w', _, hrun, hK, hrel⟩
        · exact h.elim
      · rename_i i sz idx f hax
        rw [hax] at hx
        split at h
        · rename_i sz' xs hobj
          obtain ⟨rfl, hidx, hle, h⟩ := h
          obtain ⟨p, hp, hK⟩ := is_iff h
          obtain ⟨w', hrun, hrel⟩ := store_row hr hc hok hx hy hnew hs hobj hidx rfl hle hp
          exact ⟨w', _, hrun, hK, hrel⟩
        · exact h.elim
      · exact h.elim
    obtain ⟨w', st', hrun, hK, hrel⟩ := key
    simp only [execOp, Sem.run_bind, hrun, Result.andThen_ok, Sem.run_pure]
    exact hn _ _ _ hK (put_skip hrel dst)
  · -- buildSlice
    rename_i t len parts hop
    simp only at hop
    subst hop
    obtain ⟨v, w', st', hrun, hK, hrel⟩ := buildOwn_sound hr hc h
    simp only [execOp, Sem.run_bind]
    rw [hrun]
    simp only [Result.andThen_ok, Sem.run_pure]
    exact hn _ _ _ hK hrel
  · -- append
    rename_i args ts hop
    simp only at hop
    subst hop
    split at h
    · rename_i s x t t' hs ht
      obtain ⟨rfl, h⟩ := h
      have e1 : args = #[s, x] := by rw [← Array.toArray_toList (xs := args), hs]
      have e2 : ts = #[t, t] := by rw [← Array.toArray_toList (xs := ts), ht]
      subst e1; subst e2
      obtain ⟨v, w', st', hrun, hK, hrel⟩ := append_sound (ty := ty) hr hc (ev_sound hr s) (ev_sound hr x) h
      simp only [execOp, resolve, invoke, builtin, Sem.run_bind, Sem.run_pure, Result.andThen_ok, List.map_toArray, List.map_cons, List.map_nil]
      rw [hrun]
      exact hn _ _ _ hK hrel
    · exact h.elim
  · -- a call
    rename_i f args ts hop
    simp only at hop
    subst hop
    obtain ⟨g, caps, hfv, hg⟩ := h c a w I β S (a.eval f) (args.toList.map a.eval) hr hc (ev_sound hr f) (by simp) (args_sound hr _)
    have e : (args.toList.map a.eval).toArray = args.map a.eval := by apply Array.ext'; simp only [Array.toList_map]
    rw [e] at hg
    simp only [execOp, resolve, hfv, Deferred.ofValue, invoke, Sem.run_bind, Sem.run_pure, Result.andThen_ok, Array.empty_append]
    rcases hg with ⟨w1, h1, h2⟩ | ⟨v, w', h1, st', h2, h3⟩
    · rw [h1]
      refine h2.mono ?_
      rintro e w' ⟨v, rfl, st', h3, h4⟩
      exact hn _ _ _ h3 h4
    · rw [h1]
      exact hn _ _ _ h2 h3
  · -- effect-free
    obtain ⟨v, w', av, news, hrun, hK, hq⟩ := vcQ_sound hr h
    rw [hrun]
    exact hn _ _ _ hK (step_quiet hr hc hq dst)

theorem guard_sound (hrel : Rel c st a w) {ops : Array Oper} {o : Oper} {K : Bool → St → Prop} (h : guardK st ops o.guard K) :
    ∃ b st', Region.wanted o (yielded ops a.tmps) = b ∧ K b st' ∧ Rel c st' a w := by
  unfold guardK at h
  unfold Region.wanted
  split at h
  · rename_i hg
    exact ⟨true, st, by simp [hg], h, hrel⟩
  · rename_i j want hg
    simp only [hg]
    split at h
    · rename_i t ht
      obtain ⟨I, β, S, hr, hc⟩ := hrel
      have key : ∀ av, st.get t = av → av ≠ .dead → ∃ v, a.tmps[t]? = some v ∧ AVR w I β av v ∧ st.slots[t]? = some av := by
        intro av he hne
        rw [St.get_eq] at he
        cases hs : st.slots[t]? with
        | none => simp [hs] at he; exact absurd he.symm hne
        | some x =>
          simp [hs] at he
          subst he
          have hlt : t < a.tmps.size := by rw [hr.sz]; exact (Sl.some_iff.1 hs).1
          exact ⟨a.tmps[t], by simp [hlt], hr.slot t x _ hs (by simp [hlt]), rfl⟩
      unfold guard2 at h
      split at h
      · rename_i b hb
        obtain ⟨v, hv, hav, hst⟩ := key _ hb (by simp)
        obtain ⟨rfl, -⟩ := hav.val
        have hy : yielded ops a.tmps j = some b := by simp [yielded, ht, hv]
        have same : ∀ b', b = b' → Rel c (st.put (some t) (boolAV b')) a w := by
          rintro b' rfl
          have : st.put (some t) (boolAV b) = st := by
            obtain ⟨hlt, he⟩ := Sl.some_iff.1 hst
            show ({ st with slots := st.slots.set t (boolAV b) } : St) = st
            unfold boolAV
            rw [← he, Sl.set_self]
          rw [this]
          exact ⟨I, β, S, hr, hc⟩
        by_cases hw : b = want
        · exact ⟨true, _, by simp [hy, hw], by subst hw; cases b <;> exact h, same _ hw⟩
        · have hw' : b = !want := by cases b <;> cases want <;> simp_all
          exact ⟨false, _, by simp [hy, hw], by subst hw'; cases want <;> exact h, same _ hw'⟩
      · rename_i vs hb
        obtain ⟨v, hv, hav, -⟩ := key _ hb (by simp)
        obtain ⟨arr, rfl, -⟩ := hav
        exact ⟨false, st, by simp [yielded, ht, hv], h, ⟨I, β, S, hr, hc⟩⟩
      · exact h.elim
    · exact h.elim

/-- A region in the text's order. -/
theorem vcL_sound {ops : Array Oper} {Q : Exit → Act → World → Prop} {K : St → Prop} (hK : ∀ st' a' w', K st' → Rel c st' a' w' → Q .normal a' w') :
    ∀ (l : List Oper) (st : St) (a : Act) (w : World), Rel c st a w → vcL P ops l st K → wpList P ops Q l a w
  | [], st, a, w, hrel, h => hK _ _ _ h hrel
  | o :: rest, st, a, w, hrel, h => by
    obtain ⟨b, st', hb, h, hrel'⟩ := guard_sound hrel h
    unfold wpList
    cases b with
    | true =>
      rw [if_pos hb]
      exact .inl (vcOp_sound hrel' h fun st2 a2 w2 h2 hr2 => vcL_sound hK rest st2 a2 w2 hr2 h2)
    | false =>
      rw [if_neg (by simp [hb])]
      exact vcL_sound hK rest _ _ _ (put_skip hrel' o.dst) h

end
end Go.Al
