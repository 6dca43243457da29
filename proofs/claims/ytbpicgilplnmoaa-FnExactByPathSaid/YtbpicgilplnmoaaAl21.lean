import Derived.Test.YtbpicgilplnmoaaAl20
set_option linter.unusedVariables false
set_option linter.unusedSimpArgs false
namespace Go.Al

/-! ### 25. A function's contract out of its body -/
inductive N.Flat : N → Prop
  | v (x : Value) : N.Flat (.v x)
  | sl {sz : Nat} {xs : Rw N} (h : ∀ i, i < xs.n → ∀ x ∈ xs.g i, N.Flat x) : N.Flat (.sl sz xs)
def C.Flat : C → Prop
  | .n (.v _) => True
  | .n _ => False
  | _ => True
def K.Flat : K → Prop
  | .c x => x.Flat
  | .a cs => ∀ x ∈ cs, x.Flat
def AV.Flat : AV → Prop
  | .c x => x.Flat
  | .a cs => ∀ x ∈ cs, x.Flat
  | .tup vs => ∀ x ∈ vs, x.Flat
  | .fn _ cs => ∀ x ∈ cs, x.Flat
  | .ra _ => False
  | _ => True
def Ob.Flat : Ob → Prop
  | .row _ xs _ => ∀ i, i < xs.n → ∀ x ∈ xs.g i, N.Flat x
  | .box cs => ∀ x ∈ cs, x.Flat
  | .fro _ _ => False
  | .none => True

section
variable {w : World} {I I' : Nat → Prop} {β : List Value}
theorem at2_mem {α : Type} {xs : Rw α} {i j : Nat} {x : α} (h : at2 xs i j = some x) : i < xs.n ∧ x ∈ xs.g i :=
  ⟨(at2_pos h).1, List.mem_of_getElem? (at2_pos h).2⟩

theorem Own.flat {x : N} {c : Value} {S : Nat → Prop} (h : Own w I x c S) : N.Flat x → Own w I' x c S := by
  induction h with
  | v h => exact fun _ => .v h
  | im h => exact fun hf => nomatch hf
  | nil A h0 => exact fun _ => .nil A h0
  | sl g cap e cur fr c F hu hn hcap hm hg hb hfr hs hc H hF hD ih =>
    intro hf
    cases hf with
    | sl hf =>
      exact .sl g cap e cur fr c F hu hn hcap hm hg hb hfr hs hc (fun i j x hx => ih i j x hx (by obtain ⟨h1, h2⟩ := at2_mem hx; exact hf i h1 x h2)) hF hD
theorem CR.flat {x : C} {v : Value} (h : CR w I β x v) (hf : x.Flat) : CR w I' β x v := by
  cases x with
  | n x =>
    cases x with
    | v x => cases h with | v h => exact Im.v h
    | _ => exact hf.elim
  | _ => exact h
theorem CsR.flat {cs : List C} {a : Array Value} (h : CsR w I β cs a) (hf : ∀ x ∈ cs, x.Flat) : CsR w I' β cs a :=
  ⟨h.1, fun j x v hx hv => (h.2 j x v hx hv).flat (hf x (List.mem_of_getElem? hx))⟩
theorem KR.flat {x : K} {v : Value} (h : KR w I β x v) (hf : x.Flat) : KR w I' β x v := by
  cases x with
  | c x => exact CR.flat h hf
  | a cs => obtain ⟨a, rfl, h⟩ := h; exact ⟨a, rfl, h.flat hf⟩
theorem AVR.flat {x : AV} {v : Value} (h : AVR w I β x v) (hf : x.Flat) : AVR w I' β x v := by
  cases x with
  | c x => exact CR.flat h hf
  | a cs => obtain ⟨a, rfl, h⟩ := h; exact ⟨a, rfl, h.flat hf⟩
  | tup vs => obtain ⟨a, rfl, hl, h⟩ := h; exact ⟨a, rfl, hl, fun j x v hx hv => (h j x v hx hv).flat (hf x (List.mem_of_getElem? hx))⟩
  | fn f cs => obtain ⟨a, rfl, h⟩ := h; exact ⟨a, rfl, h.flat hf⟩
  | ea i sz idx f => exact h
  | ra cs => exact hf.elim
  | rb cs loc => trivial
  | dead => trivial
theorem ObR.flat {b : Value} {S : Nat → Prop} {o : Ob} (h : ObR w I β b S o) (hf : o.Flat) : ObR w I' β b S o := by
  cases o with
  | row sz xs hole =>
    rcases h with h | ⟨g, cap, e, cur, fr, c, F, h1, h2, h3, h4, h5, h6, h7, h8, h9, h10, H, hk, hF, hD⟩
    · exact .inl h
    · exact .inr ⟨g, cap, e, cur, fr, c, F, h1, h2, h3, h4, h5, h6, h7, h8, h9, h10, fun i j x hx hh => (H i j x hx hh).flat (by obtain ⟨h1, h2⟩ := at2_mem hx; exact hf i h1 x h2), hk, hF, hD⟩
  | box cs => obtain ⟨g, cur, e, rfl, hg, hb, H⟩ := h; exact ⟨g, cur, e, rfl, hg, hb, H.flat hf⟩
  | fro sz xs => exact hf.elim
  | none => trivial
end

def toK : AV → Option K
  | .c x => some (.c x)
  | .a cs => some (.a cs)
  | _ => Option.none
def resK (P : Program) (st : St) : ResultVar → Option K
  | .tmp t => toK (st.get t)
  | .cell a t => match st.get a with
    | .c (.p i off) => match st.obj i with
      | .box cs => (loadC (tyOf P t) (cs.drop off)).bind toK
      | _ => Option.none
    | _ => Option.none
def unK : List K → AV
  | [x] => K2AV x
  | l => .tup l
def resAV (P : Program) (st : St) (l : List ResultVar) : Option AV := (allSome (l.map (resK P st))).map unK

/-- What is given back: a value over the objects handed in and some of the others (ids tells which). -/
def retK (P : Program) (rs : List ResultVar) (m : Nat) (sh : Bool) (ks : List Bool) (R : AV → List Ob → Prop) (st : St) : Prop :=
  (∀ i, kb ks i = true → kb st.ks i = true) ∧ is (resAV P st rs) fun rv0 => ∃ (ids : List Nat) (rv : AV) (obs : List Ob), ids.Nodup ∧ (∀ i ∈ ids, i < st.obs.length) ∧ ids.take m = List.range m ∧
    obs.map (Ob.map (sig ids st.obs.length)) = ids.map st.obj ∧ rv.map (sig ids st.obs.length) = rv0 ∧ (sh = true ∨ (rv.Flat ∧ ∀ o ∈ obs, o.Flat)) ∧ R rv obs
def finK (P : Program) (rs : List ResultVar) (m : Nat) (sh : Bool) (ks : List Bool) (R : AV → List Ob → Prop) : Exit → St → Prop
  | .normal, st => retK P rs m sh ks R st
  | .ret, st => retK P rs m sh ks R st
  | _, _ => False

def entry (n : Nat) (args : List AV) (hin : List Ob) (ks : List Bool) : St := ⟨⟨args.length + (n - args.length), Sl.ofF args⟩, hin, ks⟩

section
variable {P : Program} {st : St} {a : Act} {w : World} {I : Nat → Prop} {β : List Value} {S : Nat → Nat → Prop} {c : Cx}

theorem toK_sound {x : AV} {k : K} {v : Value} (h : toK x = some k) (hv : AVR w I β x v) : KR w I β k v := by
  unfold toK at h
  split at h
  · simp only [Option.some.injEq] at h; subst h; exact hv
  · simp only [Option.some.injEq] at h; subst h; exact hv
  · cases h

def rdR (tmps : Array Value) : ResultVar → Sem Value
  | .tmp t => pure (tmps.getD t undef)
  | .cell p t => do loadVar t (← asAddr (tmps.getD p undef))

theorem resK_sound (hr : RelV st a w I β S) {x : ResultVar} {k : K} (h : resK P st x = some k) :
    ∃ v, (rdR a.tmps x).run P w = .ok v w ∧ KR w I β k v := by
  have hg : ∀ t, AVR w I β (st.get t) (a.tmps.getD t undef) := fun t => ev_sound hr (.tmp t)
  cases x with
  | tmp t => exact ⟨_, rfl, toK_sound h (hg t)⟩
  | cell p t =>
    simp only [resK] at h
    split at h
    · rename_i i off hp
      split at h
      · rename_i cs hobj
        cases hl : loadC (tyOf P t) (cs.drop off) with
        | none => simp [hl] at h
        | some av =>
          simp only [hl, Option.bind_some] at h
          have h1 := hg p
          rw [hp] at h1
          obtain ⟨v, av', hrun, hK, hav⟩ := load_sound (P := P) (t := t) hr (av := .c (.p i off)) h1 (K := fun x _ => x = av) (by
            simp only [loadK, hobj, hl, is_some])
          subst hK
          obtain ⟨g, hg1, hg2⟩ := h1
          refine ⟨v, ?_, toK_sound h hav⟩
          simp only [rdR]
          rw [hg2] at hrun ⊢
          simpa [Instr.loadAt, Instr.sureAddr, asAddr] using hrun
      · cases h
    · cases h

theorem resL_sound (hr : RelV st a w I β S) : ∀ {l : List ResultVar} {ks : List K}, allSome (l.map (resK P st)) = some ks →
    ∃ vs : List Value, (l.mapM (rdR a.tmps)).run P w = .ok vs w ∧
      vs.length = ks.length ∧ ∀ (j : Nat) (k : K) (v : Value), ks[j]? = some k → vs[j]? = some v → KR w I β k v
  | [], ks, h => by
    simp only [List.map_nil, allSome, Option.some.injEq] at h
    subst h
    exact ⟨[], rfl, rfl, by simp⟩
  | x :: l, ks, h => by
    simp only [List.map_cons] at h
    cases hx : resK P st x with
    | none => rw [hx] at h; cases h
    | some k =>
      rw [hx] at h
      simp only [allSome, Option.map_eq_some_iff] at h
      obtain ⟨ks', h', rfl⟩ := h
      obtain ⟨v, hv, hk⟩ := resK_sound (P := P) hr hx
      obtain ⟨vs, hvs, hl, hks⟩ := resL_sound hr h'
      refine ⟨v :: vs, ?_, by simp [hl], fun j k' v' hk' hv' => ?_⟩
      · rw [List.mapM_cons, Sem.run_bind, hv]
        simp only [Result.andThen_ok, Sem.run_bind, hvs, Sem.run_pure]
      · cases j with
        | zero => simp at hk' hv'; subst hk'; subst hv'; exact hk
        | succ j => exact hks j k' v' (by simpa using hk') (by simpa using hv')

theorem KR.av {k : K} {v : Value} (h : KR w I β k v) : AVR w I β (K2AV k) v := by
  cases k with
  | c x => exact h
  | a cs => exact h

theorem res_sound (hr : RelV st a w I β S) {fn : Func} {rv : AV} (h : resAV P st fn.results.toList = some rv) :
    ∃ v, (results fn a.tmps).run P w = .ok v w ∧ AVR w I β rv v := by
  simp only [resAV, Option.map_eq_some_iff] at h
  obtain ⟨ks, hks, rfl⟩ := h
  obtain ⟨vs, hrun, hlen, hk⟩ := resL_sound hr hks
  have harr : fn.results = fn.results.toList.toArray := by simp
  have hm : (fn.results.mapM (rdR a.tmps)).run P w = .ok vs.toArray w := by
    rw [harr, List.mapM_toArray]
    have e : (List.toArray <$> List.mapM (rdR a.tmps) fn.results.toList : Sem (Array Value)) = (List.mapM (rdR a.tmps) fn.results.toList >>= fun l => pure l.toArray) := rfl
    rw [e, Sem.run_bind, hrun]
    rfl
  refine ⟨if h : vs.toArray.size = 1 then vs.toArray[0] else .tuple vs.toArray, ?_, ?_⟩
  · have e : results fn a.tmps = (do let vs ← fn.results.mapM (rdR a.tmps); pure (if h : vs.size = 1 then vs[0] else .tuple vs)) := rfl
    rw [e, Sem.run_bind, hm]
    simp only [Result.andThen_ok, Sem.run_pure]
  · match ks, vs, hlen, hk with
    | [], [], _, _ => exact ⟨#[], rfl, rfl, by simp⟩
    | [k], [v], _, hk => exact (hk 0 k v rfl rfl).av
    | k :: k2 :: ks, v :: v2 :: vs, hl, hk =>
      have hne : ¬ ((v :: v2 :: vs).toArray.size = 1) := by simp
      rw [dif_neg hne]
      exact ⟨_, rfl, by simpa using hl, fun j x u hx hu => hk j x u hx (by simpa using hu)⟩

theorem ret_sound {args : List AV} {hin : List Ob} {sh : Bool} {ks : List Bool} {R : AV → List Ob → Prop} {fn : Func} {w0 : World} {I0 : Nat → Prop} {β0 : List Value} {S0 : Nat → Nat → Prop} (hb0 : β0.length = hin.length)
    (hrel : Rel ⟨w0, I0, fun b => ∃ j, S0 j b, β0⟩ st a w) (h : retK P fn.results.toList hin.length sh ks R st) :
    ∃ v, (results fn a.tmps).run P w = .ok v w ∧ CPost hin sh ks R w0 I0 β0 S0 (.returned v) w := by
  obtain ⟨I, β, S, hr, hc⟩ := hrel
  obtain ⟨hks, h⟩ := h
  obtain ⟨rv0, hrv0, ids, rv, obs, hnd, hlt, htk, hobs, hrv, hfl, hR⟩ := is_iff h
  obtain ⟨v, hrun, hav⟩ := res_sound (P := P) hr hrv0
  refine ⟨v, hrun, ?_⟩
  have hlen : obs.length = ids.length := by simpa using congrArg List.length hobs
  have hm : hin.length ≤ ids.length := by
    have := congrArg List.length htk
    simp at this
    omega
  have hid : ∀ i, i < hin.length → ids[i]? = some i := by
    intro i hi
    have := congrArg (·[i]?) htk
    simp only [List.getElem?_take_of_lt hi] at this
    rw [this]
    simp [hi]
  let β' : List Value := ids.map fun i => (β[i]?).getD undef
  have hβ'len : β'.length = ids.length := by simp [β']
  have hβ' : ∀ (k i : Nat), ids[k]? = some i → β'[k]? = β[i]? := by
    intro k i h
    have hi : i < β.length := by rw [hr.bl]; exact hlt i (List.mem_of_getElem? h)
    simp [β', h, List.getElem?_eq_getElem hi]
  have hσin : ∀ (i : Nat) (b : Value), β[sig ids st.obs.length i]? = some b → β'[i]? = some b := by
    intro i b hb
    cases h : ids[i]? with
    | some j => rw [sig_in h] at hb; rw [hβ' i j h]; exact hb
    | none =>
      rw [sig_out (by simpa using h)] at hb
      rw [List.getElem?_eq_none (by rw [hr.bl]; omega)] at hb
      cases hb
  have hav1 : AVR w I β' rv v := by
    rw [← hrv] at hav
    exact AVR.unmap hσin hav
  have hob1 : ∀ (k : Nat) (o : Ob) (b : Value), obs[k]? = some o → β'[k]? = some b → ObR w I β' b (fun b => ∃ i, ids[k]? = some i ∧ S i b) o := by
    intro k o b ho hb
    have hk : k < ids.length := by rw [← hlen]; exact (List.getElem?_eq_some_iff.1 ho).1
    have hi := List.getElem?_eq_getElem hk
    have hoi : o.map (sig ids st.obs.length) = st.obj ids[k] := by
      have := congrArg (·[k]?) hobs
      simpa [ho, hi] using this
    have hil := hlt _ (List.getElem_mem hk)
    have hob : st.obs[ids[k]]? = some (o.map (sig ids st.obs.length)) := by
      rw [hoi, St.obj, List.getElem?_eq_getElem hil]; rfl
    have hbi : β[ids[k]]? = some b := by rw [← hβ' k _ hi]; exact hb
    exact ObR.unmap hσin ((hr.ob _ _ _ hob hbi).mono (fun _ h => h) (fun _ _ => rfl) (fun _ _ h => h) (fun _ _ => rfl) (fun q hq => ⟨_, hi, hq⟩))
  refine ⟨rv, obs, v, fun b => sh = true ∧ I b, β', fun k b => ∃ i, ids[k]? = some i ∧ S i b, rfl, hR, by omega, ?_, by rw [hβ'len, hlen], ?_, ?_, ?_, ?_, ?_, hc.frame⟩
  · rcases hfl with rfl | hfl
    · exact hav1.mono (fun _ h => ⟨rfl, h⟩) (fun _ _ => rfl) (fun _ _ h => h)
    · exact hav1.flat hfl.1
  · intro k o b ho hb
    rcases hfl with rfl | hfl
    · exact (hob1 k o b ho hb).mono (fun _ h => ⟨rfl, h⟩) (fun _ _ => rfl) (fun _ _ h => h) (fun _ _ => rfl) (fun _ h => h)
    · exact (hob1 k o b ho hb).flat (hfl.2 o (List.mem_of_getElem? ho))
  · rintro j k b ⟨i, h1, h2⟩ ⟨i', h3, h4⟩
    have := hr.sdis i i' b h2 h4
    subst this
    have e1 := (List.getElem?_eq_some_iff.1 h1).2
    have e2 := (List.getElem?_eq_some_iff.1 h3).2
    exact (List.getElem_inj hnd).1 (e1.trans e2.symm)
  · rintro k b ⟨i, h1, h2⟩
    obtain ⟨q1, q2, q3⟩ := hr.slt i b h2
    exact ⟨by rw [hlen]; exact (List.getElem?_eq_some_iff.1 h1).1, q2, fun h => q3 h.2, hc.own i b h2⟩
  · rintro b ⟨h1, h2⟩
    refine ⟨hr.ilt b h2, ?_⟩
    rcases hc.iinv b h2 with h | h | h
    · exact .inl ⟨h1, h⟩
    · exact .inr (.inl h)
    · exact .inr (.inr h)
  · intro i hi hk
    rw [hβ' i i (hid i hi)]
    exact hc.keep i (by rw [hb0]; exact hi) (hks i hk)

/-- A contract of a call that is entered. -/
def ACc (P : Program) (f : FuncId) (args : List AV) (hin : List Ob) (sh : Bool) (ks : List Bool) (R : AV → List Ob → Prop) : Prop :=
  ∀ (w : World) (vals : Array Value) (I : Nat → Prop) (β : List Value) (S : Nat → Nat → Prop),
    RelV ⟨Sl.of args, hin, ks⟩ ⟨vals, []⟩ w I β S → Calls P f vals w fun e w' => ∃ v, e = .returned v ∧ CPost hin sh ks R w I β S (.returned v) w'
theorem ACc.ac {f : FuncId} {fn : Func} {body : Code} {args : List AV} {hin : List Ob} {sh : Bool} {ks : List Bool} {R : AV → List Ob → Prop} (hf : P.funcs[f]? = some fn) (hn : (fn.name == "runtime.NumGoroutine") = false) (hb : fn.body = some body)
    (h : ACc P f args hin sh ks R) : AC P f args hin sh ks R := fun w vals I β S hr => Goes.of_calls hf hn (by rw [hb]; rfl) (h w vals I β S hr)
/-- **A function's contract, out of the calculus.** -/
theorem ACc_intro {f : FuncId} {fn : Func} {body : Code} {args : List AV} {hin : List Ob} {sh : Bool} {ks : List Bool} {R : AV → List Ob → Prop} (hf : P.funcs[f]? = some fn) (hn : (fn.name == "runtime.NumGoroutine") = false) (hb : fn.body = some body)
    (h : AW P body (entry fn.ntmps args hin ks) (finK P fn.results.toList hin.length sh ks R)) : ACc P f args hin sh ks R := by
  intro w vals I β S hr
  refine calls_of_wp hf hb ?_
  have hsz : vals.size = args.length := hr.sz
  have hrel : Rel ⟨w, I, fun b => ∃ j, S j b, β⟩ (entry fn.ntmps args hin ks) ⟨vals ++ Array.replicate (fn.ntmps - vals.size) undef, []⟩ w := by
    refine ⟨I, β, S, ⟨by simp [entry, hsz], hr.bl, fun t v u hv hu => ?_, hr.ob, hr.sdis, hr.slt, hr.il⟩, ⟨fun i b hb => .inr ⟨i, hb⟩, fun _ h => h, fun _ h => .inl h, Fr.refl _ _, fun _ _ _ => rfl, rfl⟩⟩
    simp only [entry] at hv
    obtain ⟨hlt, he⟩ := Sl.some_iff.1 hv
    rcases Nat.lt_or_ge t args.length with ht | ht
    · rw [Array.getElem?_append_left (by omega)] at hu
      refine hr.slot t v u ?_ hu
      rw [Sl.getElem?_of, ← Sl.ofF_get args t ht]
      exact congrArg some he
    · simp only [Sl.ofF_ge args t ht] at he
      subst he
      trivial
  refine wp_mono (h _ _ _ hrel) ?_
  rintro e a' w' ⟨st', h1, h2⟩
  have key : retK P fn.results.toList hin.length sh ks R st' → a'.defers = [] ∧ ∃ v, (results fn a'.tmps).run P w' = .ok v w' ∧ ∃ v', Ending.returned v = .returned v' ∧ CPost hin sh ks R w I β S (.returned v') w' := by
    intro hret
    obtain ⟨v, hrun, hpost⟩ := ret_sound (args := args) (P := P) hr.bl h2 hret
    obtain ⟨I1, β1, S1, -, hc⟩ := h2
    exact ⟨hc.defers, v, hrun, v, rfl, hpost⟩
  cases e with
  | normal => exact key h1
  | ret => exact key h1
  | _ => exact h1.elim

/-- A call by contract, in the calculus. -/
theorem callS_of {f : FuncId} {caps : List C} {args args' : List AV} {hin : List Ob} {sh : Bool} {ks : List Bool} {R : AV → List Ob → Prop} (hac : AC P f args' hin sh ks R) (ids : List Nat) (lend : Bool)
    (hl : lend = true → sh = false) (hnd : ids.Nodup) (hlt : ∀ i, i ∈ ids → i < st.obs.length)
    (hin_eq : hin.map (Ob.map (sig ids st.obs.length)) = ids.map st.obj) (hks : ∀ i, badIds ids ks i = true → kb st.ks i = false)
    (hp : gAs st ids lend (args ++ caps.map .c) args') {dst : Option Nat} {K : St → Prop} (hK : ∀ rv obs, R rv obs → K ((st.after ids ks obs).put dst (rv.map (sig ids st.obs.length)))) :
    callS P st (.fn f caps) args dst K := by
  intro c a w I β S fv vals hr hc hfv hvl hv
  obtain ⟨arr, rfl, harr⟩ := hfv
  refine ⟨f, arr, rfl, ?_⟩
  have hargs : ∀ (t : Nat) (v : AV) (c : Value), (args ++ caps.map AV.c)[t]? = some v → (vals ++ arr.toList)[t]? = some c → AVR w I β v c := by
    intro t v c hv' hc'
    rcases Nat.lt_or_ge t args.length with ht | ht
    · rw [List.getElem?_append_left ht] at hv'
      rw [List.getElem?_append_left (by omega)] at hc'
      exact hv t v c hv' hc'
    · rw [List.getElem?_append_right ht] at hv'
      rw [List.getElem?_append_right (by omega), hvl] at hc'
      simp only [List.getElem?_map, Option.map_eq_some_iff] at hv'
      obtain ⟨y, hy, rfl⟩ := hv'
      exact harr.2 _ y c hy (by simpa using hc')
  have := call_sound (vals := vals ++ arr.toList) hr hc hac hl hnd hlt hin_eq hks hp (by simp [hvl, harr.1]) hargs hK
  have e : (vals ++ arr.toList).toArray = vals.toArray ++ arr := by simp
  rw [e] at this
  exact this

theorem AfterNil {ks : List Bool} : st.after [] ks [] = st := by
  have hC : ∀ (x : C), x.kill (fun _ => false) = x := by intro x; cases x <;> simp [C.kill]
  have hCs : ∀ (cs : List C), cs.map (C.kill fun _ => false) = cs := fun cs => by
    conv => rhs; rw [← List.map_id cs]
    exact List.map_congr_left fun x _ => hC x
  have hK : ∀ (x : K), x.kill (fun _ => false) = x := by intro x; cases x <;> simp [K.kill, hC, hCs]
  have hA : ∀ (x : AV), x.kill (fun _ => false) = x := by
    intro x
    cases x with
    | tup vs =>
      simp only [AV.kill]
      congr 1
      conv => rhs; rw [← List.map_id vs]
      exact List.map_congr_left fun x _ => hK x
    | _ => simp [AV.kill, hC, hCs]
  have hO : ∀ (x : Ob), x.kill (fun _ => false) = x := by
    intro x
    cases x with
    | row sz xs hole =>
      simp only [Ob.kill]
      congr 1
      conv => rhs; rw [← List.map_id hole]
      refine List.map_congr_left fun x _ => ?_
      obtain ⟨i, j, _ | k⟩ := x <;> simp
    | box cs => simp [Ob.kill, hCs]
    | _ => rfl
  have hb : badIds [] ks = fun _ => false := by funext i; simp [badIds]
  have h1 : st.slots.map (AV.kill fun _ => false) = st.slots := Sl.map_id' _ hA
  have h2 : st.obs.map (Ob.kill fun _ => false) = st.obs := by
    conv => rhs; rw [← List.map_id st.obs]
    exact List.map_congr_left fun x _ => hO x
  simp only [St.after, St.kill, hb, h1, h2, updAt, List.take_nil, List.drop_nil, List.map_nil, List.append_nil]

/-- A call by contract that hands nothing in and gives one value back, without objects. -/
theorem callS_val {f : FuncId} {caps : List C} {args args' : List AV} {sh : Bool} {ks : List Bool} {rv : AV} (hac : AC P f args' [] sh ks (fun r o => r = rv ∧ o = [])) (lend : Bool) (hl : lend = true → sh = false)
    (hp : gAs st [] lend (args ++ caps.map .c) args') {dst : Option Nat} {K : St → Prop} (hK : K (st.put dst (rv.map (sig [] st.obs.length)))) : callS P st (.fn f caps) args dst K := by
  refine callS_of hac [] lend hl (by simp) (by simp) rfl (by simp [badIds]) hp ?_
  rintro r o ⟨rfl, rfl⟩
  rw [AfterNil]
  exact hK

end
end Go.Al
