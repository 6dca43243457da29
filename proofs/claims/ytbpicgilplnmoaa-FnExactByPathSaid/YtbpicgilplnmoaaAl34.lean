import Derived.Test.YtbpicgilplnmoaaAl33
set_option linter.unusedVariables false
set_option linter.unusedSimpArgs false
namespace Go.Al

/-! ### 45. Renaming and back -/
def C.within (ids : List Nat) : C → Bool
  | .h i => ids.contains i
  | .p i _ => ids.contains i
  | .b _ _ => false
  | _ => true
def K.within (ids : List Nat) : K → Bool
  | .c x => x.within ids
  | .a cs => cs.all (C.within ids)
def AV.within (ids : List Nat) : AV → Bool
  | .c x => x.within ids
  | .a cs => cs.all (C.within ids)
  | .tup vs => vs.all (K.within ids)
  | .fn _ cs => cs.all (C.within ids)
  | .ra _ => true
  | .dead => true
  | _ => false
def Ob.within (ids : List Nat) : Ob → Bool
  | .row _ _ hole => hole.all fun h => match h.2.2 with
    | some k => ids.contains k
    | Option.none => true
  | .box cs => cs.all (C.within ids)
  | _ => true

theorem pos_of : ∀ {ids : List Nat} {i : Nat}, ids.contains i = true → ∃ k, pos ids i = some k
  | [], i, h => by simp at h
  | j :: js, i, h => by
    unfold pos
    split
    · exact ⟨0, rfl⟩
    · rename_i hne
      have : js.contains i = true := by
        simp only [List.contains_cons, Bool.or_eq_true, beq_iff_eq] at h
        rcases h with h | h
        · subst h; simp at hne
        · exact h
      obtain ⟨k, hk⟩ := pos_of this
      exact ⟨k + 1, by rw [hk]; rfl⟩
theorem sig_pos {ids : List Nat} {i k n : Nat} (h : pos ids i = some k) : sig ids n k = i := sig_in (pos_get h)

section
variable {ids : List Nat} {n : Nat}
theorem C.ren_map {x : C} (h : x.within ids = true) : (x.ren ids).map (sig ids n) = x := by
  cases x with
  | h i => obtain ⟨k, hk⟩ := pos_of h; simp only [C.ren, hk, C.map, sig_pos hk]
  | p i off => obtain ⟨k, hk⟩ := pos_of h; simp only [C.ren, hk, C.map, sig_pos hk]
  | b x loc => cases h
  | _ => rfl
theorem Cs.ren_map {cs : List C} (h : cs.all (C.within ids) = true) : (cs.map (C.ren ids)).map (C.map (sig ids n)) = cs := by
  rw [List.map_map]
  conv => rhs; rw [← List.map_id cs]
  exact List.map_congr_left fun x hx => C.ren_map (List.all_eq_true.1 h x hx)
theorem AV.ren_map {x : AV} (h : x.within ids = true) : (x.ren ids).map (sig ids n) = x := by
  cases x with
  | c x => simp only [AV.ren, AV.map]; rw [C.ren_map h]
  | a cs => simp only [AV.ren, AV.map]; rw [Cs.ren_map h]
  | tup vs =>
    simp only [AV.ren, AV.map, List.map_map]
    congr 1
    conv => rhs; rw [← List.map_id vs]
    refine List.map_congr_left fun k hk => ?_
    have hw := List.all_eq_true.1 h k hk
    cases k with
    | c x => simp only [Function.comp, K.ren, K.map, id]; rw [C.ren_map hw]
    | a cs => simp only [Function.comp, K.ren, K.map, id]; rw [Cs.ren_map hw]
  | fn f cs => simp only [AV.ren, AV.map]; rw [Cs.ren_map h]
  | ea i sz idx f => cases h
  | rb cs loc => cases h
  | _ => rfl
theorem Ob.ren_map {o : Ob} (h : o.within ids = true) : (o.ren ids).map (sig ids n) = o := by
  cases o with
  | row sz xs hole =>
    simp only [Ob.ren, Ob.map, List.map_map]
    congr 1
    conv => rhs; rw [← List.map_id hole]
    refine List.map_congr_left fun x hx => ?_
    have hw := List.all_eq_true.1 h x hx
    obtain ⟨i, j, k⟩ := x
    cases k with
    | none => rfl
    | some k =>
      obtain ⟨q, hq⟩ := pos_of hw
      simp [hq, sig_pos hq]
  | box cs => simp only [Ob.ren, Ob.map]; rw [Cs.ren_map h]
  | _ => rfl
end

/-! ### 46. What a function gives back -/
def retI {ρ : Type} (m : Nat) (ks : List Bool) (st : St) (rv0 : AV) (K : AV → List Ob → Option ρ) (ids : List Nat) : Option ρ :=
  chk (decide (ids.take m = List.range m)) (chk (ids.all fun i => decide (i < st.obs.length)) (chk ((List.range ks.length).all fun i => !(kb ks i) || kb st.ks i)
    (chk (rv0.within ids) (chk (ids.all fun i => (st.obj i).within ids) (K (rv0.ren ids) (ids.map fun i => (st.obj i).ren ids))))))
def retO {ρ : Type} (P : Program) (rs : List ResultVar) (m : Nat) (ks : List Bool) (cmds : List Cmd) (st : St) (K : AV → List Ob → Option ρ) : Option ρ :=
  (resAV P (runAll P cmds st) rs).bind fun rv0 => retI m ks (runAll P cmds st) rv0 K (idsOf (runAll P cmds st) m rv0.hs)
def finO {ρ : Type} (P : Program) (rs : List ResultVar) (m : Nat) (ks : List Bool) (cmds : List Cmd) (K : AV → List Ob → Option ρ) : Exit → St → Option ρ
  | .normal, st => retO P rs m ks cmds st K
  | .ret, st => retO P rs m ks cmds st K
  | _, _ => Option.none

section
variable {P : Program} {G : Orc} {L : Lor} {jn : List Nat}
theorem retO_vc {ρ : Type} {rs : List ResultVar} {m : Nat} {ks : List Bool} {cmds : List Cmd} {st : St} {K : AV → List Ob → Option ρ} {r : ρ} (h : retO P rs m ks cmds st K = some r) :
    ∃ st', StLe st st' ∧ retK P rs m true ks (fun rv obs => K rv obs = some r) st' := by
  refine ⟨runAll P cmds st, runAll_le P cmds st, ?_⟩
  unfold retO at h
  obtain ⟨rv0, hrv, h⟩ := is_iff (bind_some h)
  have hnd := idsOf_nodup (runAll P cmds st) m rv0.hs
  unfold retI at h
  obtain ⟨h1, h⟩ := chk_dec h
  obtain ⟨h2, h⟩ := chk_some h
  obtain ⟨h3, h⟩ := chk_some h
  obtain ⟨h4, h⟩ := chk_some h
  obtain ⟨h5, h⟩ := chk_some h
  refine ⟨fun i hi => ?_, ?_⟩
  · have := List.all_eq_true.1 h3 i (List.mem_range.2 (kb_lt hi))
    simpa [hi] using this
  · rw [hrv]
    refine ⟨_, _, _, hnd, fun i hi => by simpa using List.all_eq_true.1 h2 i hi, h1, ?_, AV.ren_map h4, .inl rfl, h⟩
    rw [List.map_map]
    exact List.map_congr_left fun i hi => Ob.ren_map (List.all_eq_true.1 h5 i hi)

theorem AC.flat {f : FuncId} {args : List AV} {hin : List Ob} {ks : List Bool} {R : AV → List Ob → Prop} (h : AC P f args hin true ks R) (hR : ∀ rv obs, R rv obs → rv.Flat ∧ ∀ o ∈ obs, o.Flat) : AC P f args hin false ks R := by
  intro w vals I β S hr
  refine (h w vals I β S hr).mono ?_
  rintro v w' ⟨rv, obs, v', I', β', S', h1, hRR, h2, h3, h4, h5, h6, h7, h8, h9, h10⟩
  obtain ⟨f1, f2⟩ := hR rv obs hRR
  exact ⟨rv, obs, v', fun _ => False, β', S', h1, hRR, h2, h3.flat f1, h4, fun i o b ho hb => (h5 i o b ho hb).flat (f2 o (List.mem_of_getElem? ho)), h6,
    fun i b hb => by obtain ⟨q1, q2, q3, q4⟩ := h7 i b hb; exact ⟨q1, q2, fun h => h, q4⟩, fun b hb => hb.elim, h9, h10⟩

/-- **A function's contract, over typed data.** -/
theorem fun_okc (hG : G.ok P) (hm : P.follows .mixedOrders = true) {f : FuncId} {fn : Func} {body : Code} (hf : P.funcs[f]? = some fn) (hn : (fn.name == "runtime.NumGoroutine") = false) (hb : fn.body = some body)
    (hL : L.ok P (atomsL jn 0 body)) {R : Type} {encR : R → AV × List Ob} {args : List AV} {hin : List Ob} {ks : List Bool} {cmds : List Cmd} {F : Option R}
    (hmain : exC P G L jn 0 body (entry fn.ntmps args hin ks) (finO P fn.results.toList hin.length ks cmds fun rv obs => ofC encR some (rv, obs)) = F) {x : R} (h : F = some x) :
    ACc P f args hin true ks fun rv obs => (rv, obs) = encR x := by
  refine ACc_intro hf hn hb ?_
  refine (exC_sound hG hm body 0 _ _ hL (hmain.trans h)).post ?_
  have key : ∀ st', retO P fn.results.toList hin.length ks cmds st' (fun rv obs => ofC encR some (rv, obs)) = some x → ∃ st'', StLe st' st'' ∧ retK P fn.results.toList hin.length true ks (fun rv obs => (rv, obs) = encR x) st'' := by
    intro st' h
    obtain ⟨st'', h1, h2⟩ := retO_vc h
    refine ⟨st'', h1, h2.1, is_mono h2.2 ?_⟩
    rintro rv0 ⟨ids, rv, obs, q1, q2, q3, q4, q5, q6, q7⟩
    obtain ⟨t, ht, he⟩ := ofC_some q7
    simp only [Option.some.injEq] at he
    subst he
    exact ⟨ids, rv, obs, q1, q2, q3, q4, q5, q6, ht.symm⟩
  intro e st' he
  cases e with
  | normal => exact key st' he
  | ret => exact key st' he
  | _ => cases he
theorem fun_ok (hG : G.ok P) (hm : P.follows .mixedOrders = true) {f : FuncId} {fn : Func} {body : Code} (hf : P.funcs[f]? = some fn) (hn : (fn.name == "runtime.NumGoroutine") = false) (hb : fn.body = some body)
    (hL : L.ok P (atomsL jn 0 body)) {R : Type} {encR : R → AV × List Ob} {args : List AV} {hin : List Ob} {ks : List Bool} {cmds : List Cmd} {F : Option R}
    (hmain : exC P G L jn 0 body (entry fn.ntmps args hin ks) (finO P fn.results.toList hin.length ks cmds fun rv obs => ofC encR some (rv, obs)) = F) {x : R} (h : F = some x) :
    AC P f args hin true ks fun rv obs => (rv, obs) = encR x := (fun_okc hG hm hf hn hb hL hmain h).ac hf hn hb
end

/-! ### 47. Calls that write what is handed in -/
def gO (st : St) (ids : List Nat) (lend : Bool) (z : Option ZE) : C → Option C
  | .n x => some (.n x)
  | .z => match z with
    | some z => some (.n z.nil)
    | Option.none => some .z
  | .h i => match pos ids i with
    | some k => some (.h k)
    | Option.none => match st.obj i with
      | .row sz xs [] => match lend with
        | true => some (.n (.sl sz xs))
        | false => Option.none
      | .fro sz xs => some (.n (.sl sz xs))
      | _ => Option.none
  | .p i off => (pos ids i).map fun k => .p k off
  | _ => Option.none
def gOs (st : St) (ids : List Nat) (lend : Bool) : List (Option ZE) → List C → Option (List C)
  | _, [] => some []
  | zs, x :: xs => match gO st ids lend (zs.head?.getD Option.none) x with
    | some y => (gOs st ids lend zs.tail xs).map (y :: ·)
    | Option.none => Option.none
def toN : C → Option N
  | .n x => some x
  | _ => Option.none
def gOA (st : St) (ids : List Nat) (lend : Bool) (zs : List (Option ZE)) : AV → Option AV
  | .c (.p i off) => match pos ids i with
    | some k => some (.c (.p k off))
    | Option.none => match st.obj i, lend with
      | .box bs, true => (gOs st ids true [] (bs.drop off)).bind fun cs => (allSome (cs.map toN)).map .ra
      | _, _ => Option.none
  | .c x => (gO st ids lend (zs.head?.getD Option.none) x).map .c
  | .a xs => (gOs st ids lend zs xs).map .a
  | .fn f xs => (gOs st ids lend [] xs).map (.fn f)
  | .ra cs => some (.ra cs)
  | _ => Option.none
def gOAs (P : Program) (st : St) (ids : List Nat) (lend : Bool) : List TypeId → List AV → Option (List AV)
  | _, [] => some []
  | ts, x :: xs => match gOA st ids lend (match ts with | t :: _ => (tyOf P t).zs | [] => []) x with
    | some y => (gOAs P st ids lend ts.tail xs).map (y :: ·)
    | Option.none => Option.none

section
variable {st : St} {ids : List Nat} {lend : Bool}
theorem pos_none {i : Nat} (h : pos ids i = Option.none) : ids.contains i = false := by
  cases hc : ids.contains i with
  | false => rfl
  | true => obtain ⟨k, hk⟩ := pos_of hc; rw [hk] at h; cases h
theorem gO_sound {z : Option ZE} {x y : C} (h : gO st ids lend z x = some y) : gC st ids lend x y := by
  unfold gO at h
  split at h
  · simp only [Option.some.injEq] at h; subst h; rfl
  · split at h
    · simp only [Option.some.injEq] at h; subst h; rfl
    · simp only [Option.some.injEq] at h; subst h; trivial
  · split at h
    · rename_i k hk
      simp only [Option.some.injEq] at h; subst h
      exact pos_get hk
    · rename_i hk
      split at h
      · rename_i ho
        split at h
        · simp only [Option.some.injEq] at h; subst h; exact ⟨pos_none hk, .inl ⟨rfl, ho⟩⟩
        · cases h
      · rename_i ho
        simp only [Option.some.injEq] at h; subst h
        exact ⟨pos_none hk, .inr ho⟩
      · cases h
  · simp only [Option.map_eq_some_iff] at h
    obtain ⟨k, hk, rfl⟩ := h
    exact ⟨pos_get hk, rfl⟩
  · cases h
theorem gOs_sound : ∀ {zs : List (Option ZE)} {xs ys : List C}, gOs st ids lend zs xs = some ys → gCs st ids lend xs ys
  | zs, [], ys, h => by simp [gOs] at h; subst h; trivial
  | zs, x :: xs, ys, h => by
    unfold gOs at h
    split at h
    · rename_i y hy
      simp only [Option.map_eq_some_iff] at h
      obtain ⟨ys', h', rfl⟩ := h
      exact ⟨gO_sound hy, gOs_sound h'⟩
    · cases h
theorem allSome_toN : ∀ {cs : List C} {ns : List N}, allSome (cs.map toN) = some ns → cs = ns.map .n
  | [], ns, h => by simp [allSome] at h; subst h; rfl
  | x :: cs, ns, h => by
    simp only [List.map_cons] at h
    cases hx : toN x with
    | none => rw [hx] at h; cases h
    | some y =>
      rw [hx] at h
      simp only [allSome, Option.map_eq_some_iff] at h
      obtain ⟨ns', h', rfl⟩ := h
      unfold toN at hx
      split at hx
      · simp only [Option.some.injEq] at hx
        subst hx
        rw [List.map_cons, ← allSome_toN h']
      · cases hx
theorem gOA_sound {zs : List (Option ZE)} {x y : AV} (h : gOA st ids lend zs x = some y) : gA st ids lend x y := by
  unfold gOA at h
  split at h
  · split at h
    · rename_i k hk
      simp only [Option.some.injEq] at h; subst h
      exact ⟨pos_get hk, rfl⟩
    · rename_i hk
      split at h
      · rename_i bs ho
        obtain ⟨cs, hcs, h⟩ := is_iff (bind_some h)
        simp only [Option.map_eq_some_iff] at h
        obtain ⟨ns, hns, rfl⟩ := h
        refine ⟨pos_none hk, rfl, ?_⟩
        rw [ho]
        rw [allSome_toN hns] at hcs
        exact gOs_sound hcs
      · cases h
  · simp only [Option.map_eq_some_iff] at h
    obtain ⟨q, hz, rfl⟩ := h
    rename_i x' _
    cases x' <;> exact gO_sound hz
  · simp only [Option.map_eq_some_iff] at h
    obtain ⟨q, hz, rfl⟩ := h
    exact gOs_sound hz
  · simp only [Option.map_eq_some_iff] at h
    obtain ⟨q, hz, rfl⟩ := h
    exact ⟨rfl, gOs_sound hz⟩
  · simp only [Option.some.injEq] at h; subst h; rfl
  · cases h
theorem gOAs_sound {P : Program} : ∀ {ts : List TypeId} {xs ys : List AV}, gOAs P st ids lend ts xs = some ys → gAs st ids lend xs ys
  | ts, [], ys, h => by simp [gOAs] at h; subst h; trivial
  | ts, x :: xs, ys, h => by
    unfold gOAs at h
    split at h
    · rename_i y hy
      simp only [Option.map_eq_some_iff] at h
      obtain ⟨ys', h', rfl⟩ := h
      exact ⟨gOA_sound hy, gOAs_sound h'⟩
    · cases h
end

def handed : List Bool → List AV → List Nat
  | true :: md, x :: xs => x.hs ++ handed md xs
  | _ :: md, _ :: xs => handed md xs
  | _, _ => []
def paramsOf (P : Program) (f : FuncId) : List TypeId := match P.funcs[f]? with
  | some fn => fn.params.toList
  | Option.none => []
def callI {ρ R : Type} (P : Program) (f : FuncId) (lend : Bool) (ks : List Bool) (encR : R → AV × List Ob) (F : List AV → List Ob → Option R) (st : St) (args : List AV) (dst : Option Nat) (K : St → Option ρ) (ids : List Nat) : Option ρ :=
  chk (ids.all fun i => decide (i < st.obs.length)) (chk ((List.range st.ks.length).all fun i => !(kb st.ks i) || !(badIds ids ks i)) (chk (ids.all fun i => (st.obj i).within ids)
    ((gOAs P st ids lend (paramsOf P f) args).bind fun args' => (F args' (ids.map fun i => (st.obj i).ren ids)).bind fun x =>
      K ((st.after ids ks (encR x).2).put dst ((encR x).1.map (sig ids st.obs.length))))))
/-- A call that is handed the objects that the marked arguments reach. -/
def callE {ρ R : Type} (P : Program) (f : FuncId) (md : List Bool) (lend : Bool) (ks : List Bool) (encR : R → AV × List Ob) (F : List AV → List Ob → Option R) (st : St) (args : List AV) (dst : Option Nat) (K : St → Option ρ) : Option ρ :=
  callI P f lend ks encR F st args dst K (idsOf st 0 (handed md args))

theorem callE_ok {ρ R : Type} {P : Program} {f : FuncId} {md : List Bool} {lend sh : Bool} {ks : List Bool} {encR : R → AV × List Ob} {F : List AV → List Ob → Option R} (hl : lend = true → sh = false)
    (hac : ∀ args hin x, F args hin = some x → AC P f args hin sh ks fun rv obs => (rv, obs) = encR x) {st : St} {caps : List C} {args : List AV} {dst : Option Nat} {K : St → Option ρ} {r : ρ}
    (h : callE P f md lend ks encR F st (args ++ caps.map .c) dst K = some r) : callS P st (.fn f caps) args dst fun st' => K st' = some r := by
  unfold callE at h
  have hnd := idsOf_nodup st 0 (handed md (args ++ caps.map .c))
  generalize idsOf st 0 (handed md (args ++ caps.map .c)) = ids at h hnd
  unfold callI at h
  obtain ⟨h1, h⟩ := chk_some h
  obtain ⟨h2, h⟩ := chk_some h
  obtain ⟨h3, h⟩ := chk_some h
  obtain ⟨args', hargs, h⟩ := is_iff (bind_some h)
  obtain ⟨x, hx, h⟩ := is_iff (bind_some h)
  refine callS_of (hac _ _ x hx) ids lend hl hnd (fun i hi => by simpa using List.all_eq_true.1 h1 i hi) ?_ (fun i hi => ?_) (gOAs_sound hargs) (fun rv obs e => ?_)
  · rw [List.map_map]
    exact List.map_congr_left fun i hi => Ob.ren_map (List.all_eq_true.1 h3 i hi)
  · cases hk : kb st.ks i with
    | false => rfl
    | true =>
      have := List.all_eq_true.1 h2 i (List.mem_range.2 (kb_lt hk))
      simp [hk, hi] at this
  · obtain rfl : rv = (encR x).1 := by rw [← e]
    obtain rfl : obs = (encR x).2 := by rw [← e]
    exact h

/-- A quiet function, as an oracle tells it. -/
def qEntry {ρ R : Type} (encR : R → AV × List Ob) (F : List AV → Option R) (args : List AV) (K : AV → List Ob → Option ρ) : Option ρ := (F args).bind fun x => K (encR x).1 (encR x).2
theorem qEntry_ok {ρ R : Type} {P : Program} {f : FuncId} {sh : Bool} {encR : R → AV × List Ob} {F : List AV → Option R} (hac : ∀ args x, F args = some x → AC P f args [] sh [] fun rv obs => (rv, obs) = encR x)
    {args : List AV} {K : AV → List Ob → Option ρ} {r : ρ} (h : qEntry encR F args K = some r) : AC P f args [] sh [] fun rv obs => K rv obs = some r := by
  obtain ⟨x, hx, h⟩ := is_iff (bind_some h)
  refine (hac args x hx).mono fun rv obs e => ?_
  obtain rfl : rv = (encR x).1 := by rw [← e]
  obtain rfl : obs = (encR x).2 := by rw [← e]
  exact h
theorem qEntry_nat {ρ R : Type} {encR : R → AV × List Ob} {F : List AV → Option R} (args : List AV) (K : AV → List Ob → Option ρ) :
    qEntry encR F args K = (qEntry encR F args fun a n => some (a, n)).bind fun p => K p.1 p.2 := by
  unfold qEntry
  rw [bind_bind]
  rfl

end Go.Al
