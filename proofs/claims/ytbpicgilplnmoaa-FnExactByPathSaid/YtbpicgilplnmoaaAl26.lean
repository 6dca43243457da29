import Derived.Test.YtbpicgilplnmoaaAl25
set_option linter.unusedVariables false
set_option linter.unusedSimpArgs false
namespace Go.Al

/-! ### 32. Calls that write nothing old -/
def fixC (z : Option ZE) : C → C
  | .z => match z with
    | some z => .n z.nil
    | Option.none => .z
  | x => x
def fixCs : List (Option ZE) → List C → List C
  | z :: zs, x :: xs => fixC z x :: fixCs zs xs
  | _, xs => xs
/-- An argument: an empty slice gets its elements' size. -/
def fixZ (P : Program) (t : TypeId) : AV → AV
  | .c x => match (tyOf P t).zs with
    | [z] => .c (fixC z x)
    | _ => .c x
  | .a cs => .a (fixCs (tyOf P t).zs cs)
  | x => x
def fixZs (P : Program) : List TypeId → List AV → List AV
  | t :: ts, x :: xs => fixZ P t x :: fixZs P ts xs
  | _, xs => xs
/-- What is immutable already. -/
def lendIC (st : St) : C → C
  | .n x => .n x
  | .h i => match st.obj i with
    | .fro sz xs => .n (.sl sz xs)
    | _ => .u
  | .z => .z
  | _ => .u
def lendI (st : St) : AV → AV
  | .c x => .c (lendIC st x)
  | .a cs => .a (cs.map (lendIC st))
  | .fn f cs => .fn f (cs.map (lendIC st))
  | .ra cs => .ra cs
  | _ => .dead

section
variable {P : Program} {w : World} {J : Nat → Prop}
theorem fixC_sound {z : Option ZE} {x : C} {v : Value} (h : CR w J [] x v) : CR w J [] (fixC z x) v := by
  unfold fixC
  split
  · split
    · obtain ⟨A, rfl⟩ := h
      exact Im.zero rfl A
    · exact h
  · exact h
theorem fixCs_sound : ∀ {zs : List (Option ZE)} {cs : List C} {arr : List Value}, arr.length = cs.length → (∀ (j : Nat) (x : C) (v : Value), cs[j]? = some x → arr[j]? = some v → CR w J [] x v) →
    (fixCs zs cs).length = cs.length ∧ ∀ (j : Nat) (x : C) (v : Value), (fixCs zs cs)[j]? = some x → arr[j]? = some v → CR w J [] x v
  | [], cs, arr, _, h => ⟨by simp [fixCs], by simpa [fixCs] using h⟩
  | z :: zs, [], arr, _, h => ⟨by simp [fixCs], by simp [fixCs]⟩
  | z :: zs, x :: cs, [], hl, h => by simp at hl
  | z :: zs, x :: cs, v :: arr, hl, h => by
    obtain ⟨e, ih⟩ := fixCs_sound (zs := zs) (cs := cs) (arr := arr) (by simpa using hl) (fun j x v hx hv => h (j + 1) x v (by simpa using hx) (by simpa using hv))
    refine ⟨by simp [fixCs, e], fun j y u hy hu => ?_⟩
    cases j with
    | zero =>
      simp [fixCs] at hy hu
      subst hy; subst hu
      exact fixC_sound (h 0 x _ rfl rfl)
    | succ j => exact ih j y u (by simpa [fixCs] using hy) (by simpa using hu)
theorem fixZ_sound {t : TypeId} {x : AV} {v : Value} (h : AVR w J [] x v) : AVR w J [] (fixZ P t x) v := by
  unfold fixZ
  split
  · split
    · exact fixC_sound h
    · exact h
  · obtain ⟨arr, rfl, hs, h⟩ := h
    obtain ⟨e, h'⟩ := fixCs_sound (zs := (tyOf P t).zs) (arr := arr.toList) (by simpa using hs) (fun j x v hx hv => h j x v hx (by simpa using hv))
    exact ⟨arr, rfl, by rw [hs, e], fun j x v hx hv => h' j x v hx (by simpa using hv)⟩
  · exact h
theorem fixZs_sound : ∀ {ts : List TypeId} {xs : List AV} {vs : List Value}, vs.length = xs.length → (∀ (j : Nat) (x : AV) (v : Value), xs[j]? = some x → vs[j]? = some v → AVR w J [] x v) →
    (fixZs P ts xs).length = xs.length ∧ ∀ (j : Nat) (x : AV) (v : Value), (fixZs P ts xs)[j]? = some x → vs[j]? = some v → AVR w J [] x v
  | [], xs, vs, _, h => ⟨by simp [fixZs], by simpa [fixZs] using h⟩
  | t :: ts, [], vs, _, h => ⟨by simp [fixZs], by simp [fixZs]⟩
  | t :: ts, x :: xs, [], hl, h => by simp at hl
  | t :: ts, x :: xs, v :: vs, hl, h => by
    obtain ⟨e, ih⟩ := fixZs_sound (ts := ts) (xs := xs) (vs := vs) (by simpa using hl) (fun j x v hx hv => h (j + 1) x v (by simpa using hx) (by simpa using hv))
    refine ⟨by simp [fixZs, e], fun j y u hy hu => ?_⟩
    cases j with
    | zero =>
      simp [fixZs] at hy hu
      subst hy; subst hu
      exact fixZ_sound (h 0 x _ rfl rfl)
    | succ j => exact ih j y u (by simpa [fixZs] using hy) (by simpa using hu)
end

section
variable {P : Program} {st : St} {a : Act} {w : World} {I : Nat → Prop} {β : List Value} {S : Nat → Nat → Prop} {c : Cx}
theorem lendIC_sound (hr : RelV st a w I β S) {x : C} {v : Value} (h : CR w I β x v) : CR w I [] (lendIC st x) v := by
  have h1 := CR.one h
  unfold lendIC
  split
  · exact h
  · split
    · rename_i ho
      exact (hr.hdr (v := v) h ho (by simp))
    · exact h1
  · exact h
  · exact h1
theorem lendI_sound (hr : RelV st a w I β S) {x : AV} {v : Value} (h : AVR w I β x v) : AVR w I [] (lendI st x) v := by
  have key : ∀ {cs : List C} {arr : Array Value}, CsR w I β cs arr → CsR w I [] (cs.map (lendIC st)) arr := fun h => ⟨by simpa using h.1, fun j x v hx hv => by
    simp only [List.getElem?_map, Option.map_eq_some_iff] at hx
    obtain ⟨y, hy, rfl⟩ := hx
    exact lendIC_sound hr (h.2 j y v hy hv)⟩
  unfold lendI
  split
  · exact lendIC_sound hr h
  · obtain ⟨arr, rfl, h⟩ := h; exact ⟨arr, rfl, key h⟩
  · obtain ⟨arr, rfl, h⟩ := h; exact ⟨arr, rfl, key h⟩
  · exact h
  · trivial

/-- A call by contract that writes nothing old. -/
theorem call_quiet (hr : RelV st a w I β S) {f : FuncId} {args' : List AV} {vals : List Value} {sh : Bool} {R : AV → List Ob → Prop} {I0 : Nat → Prop} (hac : AC P f args' [] sh [] R)
    (hsh : sh = true → ∀ b, I0 b → I b) (hI0 : IL w I0) (hl : args'.length = vals.length) (hv : ∀ (t : Nat) (v : AV) (c : Value), args'[t]? = some v → vals[t]? = some c → AVR w I0 [] v c) :
    Goes P f vals.toArray w fun v w' => ∃ rv obs, R rv obs ∧ QPost st w I β S (rv.map (· + st.obs.length)) (obs.map (Ob.map (· + st.obs.length))) v w' := by
  have hrel : RelV ⟨Sl.of args', [], []⟩ ⟨vals.toArray, []⟩ w I0 [] (fun _ _ => False) :=
    ⟨by simp [hl], rfl, fun t v c hv' hc' => hv t v c (by simpa using hv') (by simpa using hc'), by simp, by simp, by simp, hI0⟩
  refine (hac w _ _ _ _ hrel).mono ?_
  rintro v w' ⟨rv, obs, v', I', β', S', hvv, hR, -, hav, hbl, hob, hsd, hslt, hI', -, hfr⟩
  obtain rfl : v = v' := by injection hvv
  have hfr' : Fr (fun _ => False) w w' := hfr.mono (by rintro x ⟨j, hj⟩; exact hj)
  have hfresh : ∀ b, I' b → I b ∨ w.heap.size ≤ b := fun b hb => by
    rcases (hI' b hb).2 with ⟨h1, h2⟩ | h | ⟨j, hj⟩
    · exact .inl (hsh h1 b h2)
    · exact .inr h
    · exact hj.elim
  have hσ : ∀ (i : Nat) (b : Value), β'[i]? = some b → (β ++ β')[i + st.obs.length]? = some b := by
    intro i b hb
    rw [List.getElem?_append_right (by rw [hr.bl]; omega), hr.bl]
    simpa using hb
  have hm : ∀ {x : AV} {u : Value}, AVR w' I' β' x u → AVR w' (fun b => I b ∨ I' b) β' x u := fun h => h.mono (fun _ h => .inr h) (fun _ _ => rfl) (fun _ _ h => h)
  refine ⟨rv, obs, hR, fun b => I b ∨ I' b, β', S', hfr', fun _ h => .inl h, ?_, ?_, by simp [hbl], (hm hav).map hσ, ?_, ?_, hsd⟩
  · rintro b (hb | hb)
    · exact .inl hb
    · exact hfresh b hb
  · rintro b (hb | hb)
    · exact Nat.lt_of_lt_of_le (hr.ilt b hb) hfr.size
    · exact (hI' b hb).1
  · intro k o b ho hb
    simp only [List.getElem?_map, Option.map_eq_some_iff] at ho
    obtain ⟨o', ho', rfl⟩ := ho
    exact ObR.map hσ ((hob k o' b ho' hb).mono (fun _ h => .inr h) (fun _ _ => rfl) (fun _ _ h => h) (fun _ _ => rfl) (fun _ h => h))
  · intro k b hb
    obtain ⟨h1, h2, h3, h4⟩ := hslt k b hb
    have h5 : w.heap.size ≤ b := h4.elim id (by rintro ⟨j, hj⟩; exact hj.elim)
    refine ⟨by simpa using h1, h5, h2, ?_⟩
    rintro (hI | hI)
    · have := hr.ilt b hI; omega
    · exact h3 hI
end

/-- What calls do, told by the one who uses the calculus: kind 0: quiet, what comes back shares nothing; 1: quiet, over immutable memory, of which what comes back may hold parts; others: calls with effects. -/
structure Orc where
  kd : FuncId → Nat
  q : (ρ : Type) → FuncId → List AV → (AV → List Ob → Option ρ) → Option ρ
  e : (ρ : Type) → FuncId → St → List AV → Option Nat → (St → Option ρ) → Option ρ
structure Orc.ok (P : Program) (G : Orc) : Prop where
  q : ∀ (ρ : Type) (f : FuncId) (args : List AV) (K : AV → List Ob → Option ρ) (r : ρ), G.q ρ f args K = some r → AC P f args [] (decide (G.kd f ≠ 0)) [] fun rv obs => K rv obs = some r
  nat : ∀ (ρ : Type) (f : FuncId) (args : List AV) (K : AV → List Ob → Option ρ), G.q ρ f args K = (G.q (AV × List Ob) f args fun a n => some (a, n)).bind fun p => K p.1 p.2
  e : ∀ (ρ : Type) (f : FuncId) (st : St) (caps : List C) (args : List AV) (dst : Option Nat) (K : St → Option ρ) (r : ρ),
    G.e ρ f st (args ++ caps.map .c) dst K = some r → callS P st (.fn f caps) args dst fun st' => K st' = some r

def qArgs (P : Program) (k : Nat) (st : St) (ts : List TypeId) (args : List AV) : List AV := fixZs P ts (args.map (match k with | 0 => lendAV st | _ => lendI st))
def qcall {ρ : Type} (P : Program) (G : Orc) (st : St) (f : AV) (args : List AV) (ts : List TypeId) (K : AV → List Ob → Option ρ) : Option ρ :=
  match f with
  | .fn g caps => chk (decide (G.kd g < 2)) (G.q ρ g (qArgs P (G.kd g) st ts (args ++ caps.map .c)) fun rv obs => K (rv.map (· + st.obs.length)).unb ((obs.map (Ob.map (· + st.obs.length))).map Ob.unb))
  | _ => Option.none

/-- A step that writes nothing old. -/
def stepQ {ρ : Type} (P : Program) (G : Orc) (o : Oper) (st : St) (K : AV → List Ob → Option ρ) : Option ρ :=
  match o.op with
  | .store _ _ _ | .buildSlice _ _ _ => Option.none
  | .call { callee := .builtin .append, .. } => Option.none
  | .call { callee := .value f, args, argTypes } => qcall P G st (st.ev f) (args.toList.map st.ev) argTypes.toList K
  | _ => qB P o st K

section
variable {P : Program} {G : Orc} {st : St} {a : Act} {w : World} {I : Nat → Prop} {β : List Value} {S : Nat → Nat → Prop} {c : Cx} {ρ : Type} {r : ρ}
theorem AB_args {J : Nat → Prop} (hr : RelV st a w I β S) (hb : BorR st a w J) (args : List Operand) :
    ∀ (t : Nat) (v : AV) (c : Value), (args.map st.ev)[t]? = some v → (args.map a.eval)[t]? = some c → AB w J v c := by
  intro t v c hv hc
  simp only [List.getElem?_map, Option.map_eq_some_iff] at hv hc
  obtain ⟨x, hx, rfl⟩ := hv
  obtain ⟨y, hy, rfl⟩ := hc
  rw [hx] at hy
  obtain rfl := Option.some.inj hy
  exact ev_bor hb hr x

/-- Behind a quiet step: its run, or its call. -/
def GoesQ (P : Program) (o : Oper) (a : Act) (w : World) (Φ : Value → World → Prop) : Prop :=
  (∃ v w', (execOp a.eval o).run P w = .ok (.value v) w' ∧ Φ v w') ∨
  ∃ g args w1, (execOp a.eval o).run P w = .ok (.enter g args) w1 ∧ Calls P g args w1 fun e w' => ∃ v, e = .returned v ∧ Φ v w'
theorem GoesQ.wp {o : Oper} {Φ : Value → World → Prop} (h : GoesQ P o a w Φ) {next : Act → World → Prop} {Q : Exit → Act → World → Prop} (hn : ∀ v w', Φ v w' → next (a.put o.dst v) w') : o.wp P a w next Q := by
  unfold Oper.wp
  rcases h with ⟨v, w', h1, h2⟩ | ⟨g, args, w1, h1, h2⟩
  · rw [h1]; exact hn _ _ h2
  · rw [h1]
    refine h2.mono ?_
    rintro e w' ⟨v, rfl, h⟩
    exact hn _ _ h

theorem stepQ_sound (hG : G.ok P) (hr : RelV st a w I β S) {J : Nat → Prop} (hJ : ∀ b, (I b ∨ ∃ i, S i b) → J b) (hJl : IL w J) (hb : BorR st a w J) {o : Oper} {K : AV → List Ob → Option ρ} (h : stepQ P G o st K = some r) :
    GoesQ P o a w fun v w' => ∃ av news, K av news = some r ∧ QPB J w I β av news v w' := by
  unfold stepQ at h
  split at h
  · cases h
  · cases h
  · cases h
  · rename_i f args ts hop
    unfold qcall at h
    split at h
    · rename_i g caps hf
      obtain ⟨hk, h⟩ := chk_dec h
      have hfv := ev_sound hr f
      have hfb := ev_bor hb hr f
      rw [hf] at hfv hfb
      obtain ⟨arr, hfe, harr⟩ := hfv
      have hcb := hfb arr hfe
      obtain ⟨dst, op, ty, pos, after, guard⟩ := o
      simp only at hop
      subst hop
      let vals := args.toList.map a.eval ++ arr.toList
      have hlen : (args.toList.map st.ev ++ caps.map AV.c).length = vals.length := by simp [vals, harr.1]
      have hargs : ∀ (t : Nat) (v : AV) (c : Value), (args.toList.map st.ev ++ caps.map AV.c)[t]? = some v → vals[t]? = some c → AVR w I β v c ∧ AB w J v c := by
        intro t v c hv' hc'
        rcases Nat.lt_or_ge t (args.toList.map st.ev).length with ht | ht
        · rw [List.getElem?_append_left ht] at hv'
          rw [List.getElem?_append_left (by simpa using ht)] at hc'
          exact ⟨args_sound hr _ t v c hv' hc', AB_args hr hb _ t v c hv' hc'⟩
        · rw [List.getElem?_append_right ht] at hv'
          rw [List.getElem?_append_right (by simpa using ht)] at hc'
          simp only [List.getElem?_map, Option.map_eq_some_iff] at hv'
          obtain ⟨y, hy, rfl⟩ := hv'
          have hc'' : arr[t - (args.toList.map st.ev).length]? = some c := by simpa using hc'
          exact ⟨harr.2 _ y c hy hc'', hcb _ y c hy hc''⟩
      have hac := hG.q _ _ _ _ _ h
      have hgo : Goes P g vals.toArray w fun v w' => ∃ av news, K av news = some r ∧ QPB J w I β av news v w' := by
        by_cases hk0 : G.kd g = 0
        · rw [hk0] at hac
          have hac' : AC P g (fixZs P ts.toList ((args.toList.map st.ev ++ caps.map AV.c).map (lendAV st))) [] false [] fun rv obs => K (rv.map (· + st.obs.length)).unb ((obs.map (Ob.map (· + st.obs.length))).map Ob.unb) = some r := hac
          obtain ⟨e, hs⟩ := fixZs_sound (P := P) (w := w) (J := J) (ts := ts.toList) (xs := (args.toList.map st.ev ++ caps.map AV.c).map (lendAV st)) (vs := vals) (by rw [List.length_map]; exact hlen.symm) (fun j x v hx hv => by
            simp only [List.getElem?_map, Option.map_eq_some_iff] at hx
            obtain ⟨y, hy, rfl⟩ := hx
            exact lendAV_sound hr hJ (hargs j y v hy hv).1 (hargs j y v hy hv).2)
          refine (call_quiet (vals := vals) hr hac' (I0 := J) (by simp) hJl ?_ hs).mono ?_
          · show (fixZs P ts.toList _).length = _
            rw [e, List.length_map]; exact hlen
          · rintro v w' ⟨rv, obs, hK, hq⟩
            exact ⟨_, _, hK, QPB.of hq J⟩
        · have hm : qArgs P (G.kd g) st ts.toList (args.toList.map st.ev ++ caps.map AV.c) = fixZs P ts.toList ((args.toList.map st.ev ++ caps.map AV.c).map (lendI st)) := by
            unfold qArgs
            split
            · rename_i h0; exact absurd h0 hk0
            · rfl
          rw [hm] at hac
          obtain ⟨e, hs⟩ := fixZs_sound (P := P) (w := w) (J := I) (ts := ts.toList) (xs := (args.toList.map st.ev ++ caps.map AV.c).map (lendI st)) (vs := vals) (by rw [List.length_map]; exact hlen.symm) (fun j x v hx hv => by
            simp only [List.getElem?_map, Option.map_eq_some_iff] at hx
            obtain ⟨y, hy, rfl⟩ := hx
            exact lendI_sound hr (hargs j y v hy hv).1)
          refine (call_quiet (vals := vals) hr hac (I0 := I) (fun _ b h => h) hr.il ?_ hs).mono ?_
          · rw [e, List.length_map]; exact hlen
          · rintro v w' ⟨rv, obs, hK, hq⟩
            exact ⟨_, _, hK, QPB.of hq J⟩
      have e : vals.toArray = args.map a.eval ++ arr := by
        apply Array.ext'
        simp [vals]
      rw [e] at hgo
      unfold GoesQ
      simp only [execOp, resolve, hfe, Deferred.ofValue, invoke, Sem.run_bind, Sem.run_pure, Result.andThen_ok, Array.empty_append]
      rcases hgo with ⟨w1, h1, h2⟩ | ⟨v, w', h1, h2⟩
      · exact .inr ⟨_, _, _, h1, h2⟩
      · exact .inl ⟨_, _, h1, h2⟩
    · cases h
  · obtain ⟨v, w', av, news, h1, h2, h3⟩ := qB_sound hr hJ hJl hb h
    exact .inl ⟨v, w', h1, av, news, h2, h3⟩
end

end Go.Al
