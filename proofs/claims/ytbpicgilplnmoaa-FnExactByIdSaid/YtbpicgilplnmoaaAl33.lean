import Derived.Test.YtbpicgilplnmoaaAl32
set_option linter.unusedVariables false
set_option linter.unusedSimpArgs false
namespace Go.Al

/-! ### 42. A state's cut -/
def C.hs : C → List Nat
  | .h i => [i]
  | .p i _ => [i]
  | _ => []
def K.hs : K → List Nat
  | .c x => x.hs
  | .a cs => cs.flatMap C.hs
def AV.hs : AV → List Nat
  | .c x => x.hs
  | .a cs => cs.flatMap C.hs
  | .tup vs => vs.flatMap K.hs
  | .fn _ cs => cs.flatMap C.hs
  | .ea i _ _ _ => [i]
  | _ => []
def Ob.hs : Ob → List Nat
  | .box cs => cs.flatMap C.hs
  | .row _ _ hole => hole.filterMap fun h => h.2.2
  | _ => []
def addAll : List Nat → List Nat → List Nat
  | ids, [] => ids
  | ids, i :: is => match ids.contains i with
    | true => addAll ids is
    | false => addAll (ids ++ [i]) is
def grow (st : St) : Nat → List Nat → List Nat
  | 0, ids => ids
  | k + 1, ids => grow st k (addAll ids (ids.flatMap fun i => (st.obj i).hs))
theorem addAll_nodup : ∀ (is ids : List Nat), ids.Nodup → (addAll ids is).Nodup
  | [], ids, h => h
  | i :: is, ids, h => by
    unfold addAll
    split
    · exact addAll_nodup is ids h
    · rename_i hc
      refine addAll_nodup is _ (List.nodup_append.2 ⟨h, by simp, fun a ha b hb => ?_⟩)
      simp only [List.mem_singleton] at hb
      subst hb
      rintro rfl
      rw [← List.contains_iff_mem, hc] at ha
      cases ha
theorem grow_nodup (st : St) : ∀ (k : Nat) (ids : List Nat), ids.Nodup → (grow st k ids).Nodup
  | 0, ids, h => h
  | k + 1, ids, h => grow_nodup st k _ (addAll_nodup _ _ h)
/-- The objects that some slots reach, behind the first m. -/
def idsOf (st : St) (m : Nat) (hs : List Nat) : List Nat := grow st 3 (addAll (List.range m) hs)
theorem idsOf_nodup (st : St) (m : Nat) (hs : List Nat) : (idsOf st m hs).Nodup := grow_nodup _ _ _ (addAll_nodup _ _ List.nodup_range)

def runAll (P : Program) : List Cmd → St → St
  | [], st => st
  | c :: cs, st => runAll P cs (c.run P st)
theorem runAll_le (P : Program) : ∀ (cs : List Cmd) (st : St), StLe st (runAll P cs st)
  | [], st => StLe.refl st
  | c :: cs, st => (Cmd.le P st c).trans (runAll_le P cs _)

/-- The state at a cut: the slots that live, the objects that these reach. -/
def mkF : List Nat → List AV → Nat → AV
  | i :: is, x :: xs => fun t => sel (Nat.beq t i) x (mkF is xs t)
  | _, _ => fun _ => .dead
def mkS (n : Nat) (live : List Nat) (avs : List AV) (obs : List Ob) (ks : List Bool) : St := ⟨⟨n, mkF live avs⟩, obs, ks⟩
def cutI {ρ : Type} (n : Nat) (live : List Nat) (m : Nat) (ks : List Bool) (st : St) (F : List AV → List Ob → Option ρ) (ids : List Nat) : Option ρ :=
  chk (decide (st.slots.length = n)) (chk (decide (st.ks = ks)) (chk (ids.all fun i => decide (i < st.obs.length)) (chk ((List.range ks.length).all fun i => decide (ids[i]? = some i))
    (F (live.map fun t => (st.get t).ren ids) (ids.map fun i => (st.obj i).ren ids)))))
def cutO {ρ : Type} (P : Program) (n : Nat) (live : List Nat) (m : Nat) (ks : List Bool) (cmds : List Cmd) (st : St) (F : List AV → List Ob → Option ρ) : Option ρ :=
  cutI n live m ks (runAll P cmds st) F (idsOf (runAll P cmds st) m (live.flatMap fun t => ((runAll P cmds st).get t).hs))

theorem mkF_map (f : Nat → AV) : ∀ (live : List Nat) (t : Nat), mkF live (live.map f) t = f t ∨ mkF live (live.map f) t = .dead
  | [], t => .inr rfl
  | i :: live, t => by
    simp only [List.map_cons, mkF, Sl.sel_beq]
    split
    · rename_i h; subst h; exact .inl rfl
    · exact mkF_map f live t
theorem maskO_refl : ∀ (xs : List Ob), maskO xs xs
  | [] => trivial
  | x :: xs => ⟨.inr rfl, maskO_refl xs⟩
theorem kb_lt {ks : List Bool} {i : Nat} (h : kb ks i = true) : i < ks.length := by
  unfold kb at h
  rcases Nat.lt_or_ge i ks.length with hi | hi
  · exact hi
  · rw [List.getElem?_eq_none hi] at h
    cases h

theorem cutO_le {ρ : Type} {P : Program} {n : Nat} {live : List Nat} {m : Nat} {ks : List Bool} {cmds : List Cmd} {st : St} {F : List AV → List Ob → Option ρ} {r : ρ} (h : cutO P n live m ks cmds st F = some r) :
    ∃ avs obs, StLe st (mkS n live avs obs ks) ∧ F avs obs = some r := by
  unfold cutO at h
  have hle := runAll_le P cmds st
  generalize runAll P cmds st = st1 at h hle
  have hnd := idsOf_nodup st1 m (live.flatMap fun t => (st1.get t).hs)
  generalize idsOf st1 m (live.flatMap fun t => (st1.get t).hs) = ids at h hnd
  unfold cutI at h
  obtain ⟨h1, h⟩ := chk_dec h
  obtain ⟨h2, h⟩ := chk_dec h
  obtain ⟨h3, h⟩ := chk_some h
  obtain ⟨h4, h5⟩ := chk_some h
  subst h2
  refine ⟨_, _, (hle.trans (StLe.pick hnd (fun i hi => ?_) fun i hi => ?_)).trans (StLe.mask (by simpa [St.pick, mkS] using h1) (fun t y hy => ?_) (maskO_refl _) fun _ h => h), h5⟩
  · have := List.all_eq_true.1 h3 i hi
    simpa using this
  · have := List.all_eq_true.1 h4 i (List.mem_range.2 (kb_lt hi))
    simpa using this
  · obtain ⟨hlt, he⟩ := Sl.some_iff.1 hy
    have hlt' : t < st1.slots.length := by rw [h1]; exact hlt
    have he' : mkF live (live.map fun t => (st1.get t).ren ids) t = y := he
    rcases mkF_map (fun t => (st1.get t).ren ids) live t with h | h
    · right
      rw [h] at he'
      simp only [St.pick, Sl.getElem?_map, Sl.get_lt hlt', Option.map_some]
      rw [← he', St.get_eq, Sl.get_lt hlt']
      rfl
    · left
      rw [h] at he'
      exact he'.symm

/-! ### 43. Code as a function -/
abbrev Lor : Type 1 := (ρ : Type) → Nat → St → (Exit → St → Option ρ) → Option ρ
def thenO {ρ : Type} (K : St → Option ρ) (Φ : Exit → St → Option ρ) : Exit → St → Option ρ
  | .normal, st => K st
  | e, st => Φ e st
def blockO {ρ : Type} (id : Nat) (Φ : Exit → St → Option ρ) : Exit → St → Option ρ
  | .exit i, st => sel (decide (i = id)) (Φ .normal st) (Φ (.exit i) st)
  | e, st => Φ e st
def condO {ρ : Type} (st : St) (x : Operand) (K : Bool → St → Option ρ) : Option ρ :=
  match x with
  | .tmp t => pickO (st.get t) (K true (st.put (some t) (boolAV true))) (K false (st.put (some t) (boolAV false)))
  | .const (.bool b) => K b st
  | _ => Option.none

/-- The loops of a code: how many there are. -/
def atoms : Code → Nat
  | .seq x y => atoms x + atoms y
  | .cond _ t f => atoms t + atoms f
  | .block _ c => atoms c
  | .loop c => atoms c + 1
  | _ => 0
/-- Where paths may be joined: the number of the region that a code begins with. -/
def headR : Code → Option Nat
  | .seq x _ => headR x
  | .region id _ _ => some id
  | _ => Option.none
def joinAt (jn : List Nat) (y : Code) : Option Nat := match headR y with
  | some id => match jn.contains id with
    | true => some id
    | false => Option.none
  | Option.none => Option.none

def exC {ρ : Type} (P : Program) (G : Orc) (L : Lor) (jn : List Nat) : Nat → Code → St → (Exit → St → Option ρ) → Option ρ
  | _, .skip, st, K => K .normal st
  | j, .seq x y, st, K => exC P G L jn j x st (thenO (fun st' => match joinAt jn y with
    | some id => L ρ (1000 + id) st' K
    | Option.none => exC P G L jn (j + atoms x) y st' K) K)
  | j, .cond x t f, st, K => condO st x fun b st' => match b with
    | true => exC P G L jn j t st' K
    | false => exC P G L jn (j + atoms t) f st' K
  | j, .block id c, st, K => exC P G L jn j c st (blockO id K)
  | _, .exit id, st, K => K (.exit id) st
  | _, .ret, st, K => K .ret st
  | _, .region _ ops false, st, K => st.cleanK fun st => exL P G ops ops.toList st (K .normal)
  | _, .region _ ops true, st, K => st.cleanK fun st => exR P G ops st (K .normal)
  | j, .loop _, st, K => L ρ j st K
  | _, _, _, _ => Option.none

/-- The loops and joins that a code has, with their numbers (those inside of them are not told). -/
def atomsL (jn : List Nat) : Nat → Code → List (Nat × Nat × Code)
  | j, .seq x y => atomsL jn j x ++ (match joinAt jn y with
    | some id => [(1000 + id, j + atoms x, y)]
    | Option.none => atomsL jn (j + atoms x) y)
  | j, .cond _ t f => atomsL jn j t ++ atomsL jn (j + atoms t) f
  | j, .block _ c => atomsL jn j c
  | j, .loop c => [(j, j, .loop c)]
  | _, _ => []
def atomN (jn : List Nat) (j : Nat) (c : Code) (i : Nat) : Code := ((atomsL jn j c)[i]?.getD (0, 0, .skip)).2.2
def loopC : Code → Code
  | .loop c => c
  | c => c
def Lor.ok (P : Program) (L : Lor) (l : List (Nat × Nat × Code)) : Prop := ∀ p ∈ l, ∀ (ρ : Type) (st : St) (K : Exit → St → Option ρ) (r : ρ), L ρ p.1 st K = some r → AW P p.2.2 st fun e st' => K e st' = some r
theorem Lor.ok_nil (P : Program) (L : Lor) : Lor.ok P L [] := fun p hp => by simp at hp
theorem Lor.ok_cons {P : Program} {L : Lor} {i j : Nat} {c : Code} {l : List (Nat × Nat × Code)} (h : ∀ (ρ : Type) (st : St) (K : Exit → St → Option ρ) (r : ρ), L ρ i st K = some r → AW P c st fun e st' => K e st' = some r)
    (hl : Lor.ok P L l) : Lor.ok P L ((i, j, c) :: l) := by
  intro p hp
  rcases List.mem_cons.1 hp with rfl | hp
  · exact h
  · exact hl p hp

section
variable {ρ : Type} {P : Program} {G : Orc} {r : ρ}
theorem AW.unb {c : Code} {st : St} {Φ : Exit → St → Prop} (h : ∀ (cx : Cx) (a : Act) (w : World), RelB cx st.unb a w → c.wp P (fun e a' w' => ∃ st', Φ e st' ∧ Rel cx st' a' w') a w) : AW P c st Φ :=
  fun cx a w hr => h cx a w hr.relB

/-- **The calculus as a function is sound.** -/
theorem exC_sound (hG : G.ok P) (hm : P.follows .mixedOrders = true) {L : Lor} {jn : List Nat} : ∀ (c : Code) (j : Nat) (st : St) (K : Exit → St → Option ρ), L.ok P (atomsL jn j c) → exC P G L jn j c st K = some r → AW P c st fun e st' => K e st' = some r := by
  intro c
  induction c with
  | skip => exact fun j st K _ h cx a w hr => wp_skip ⟨st, h, hr⟩
  | seq x y ihx ihy =>
    intro j st K hL h cx a w hr
    simp only [atomsL] at hL
    refine wp_seq (wp_mono (ihx j st _ (fun p hp => hL p (List.mem_append.2 (.inl hp))) h cx a w hr) ?_)
    rintro e a' w' ⟨st', h1, h2⟩
    cases e with
    | normal =>
      simp only [thenO] at h1
      cases hj : joinAt jn y with
      | none =>
        simp only [hj] at h1
        exact ihy _ st' K (fun p hp => hL p (List.mem_append.2 (.inr (by rw [hj]; exact hp)))) h1 cx a' w' h2
      | some id =>
        simp only [hj] at h1
        exact hL (1000 + id, j + atoms x, y) (List.mem_append.2 (.inr (by rw [hj]; exact List.mem_singleton.2 rfl))) ρ st' K r h1 cx a' w' h2
    | _ => exact ⟨st', h1, h2⟩
  | cond x t f iht ihf =>
    intro j st K hL h cx a w hr
    simp only [exC, condO] at h
    split at h
    · rename_i t'
      unfold pickO at h
      split at h
      · rename_i b hb
        have hput : ∀ b', b = b' → st.put (some t') (boolAV b') = st := by
          rintro b' rfl
          exact put_same hb (by simp [boolAV])
        have hv : a.eval (.tmp t') = .bool b := by
          obtain ⟨I, β, S, hrv, -⟩ := hr
          have := ev_sound hrv (.tmp t')
          simp only [St.ev, hb] at this
          exact this.val.1
        cases b with
        | true =>
          have h1 : exC P G L jn j t (st.put (some t') (boolAV true)) K = some r := h
          rw [hput true rfl] at h1
          exact wp_cond_true hv (iht j st K (fun p hp => hL p (List.mem_append.2 (.inl hp))) h1 cx a w hr)
        | false =>
          have h1 : exC P G L jn (j + atoms t) f (st.put (some t') (boolAV false)) K = some r := h
          rw [hput false rfl] at h1
          exact wp_cond_false hv (ihf _ st K (fun p hp => hL p (List.mem_append.2 (.inr hp))) h1 cx a w hr)
      · cases h
    · rename_i b
      cases b with
      | true => exact wp_cond_true rfl (iht j st K (fun p hp => hL p (List.mem_append.2 (.inl hp))) h cx a w hr)
      | false => exact wp_cond_false rfl (ihf _ st K (fun p hp => hL p (List.mem_append.2 (.inr hp))) h cx a w hr)
    · cases h
  | block id c ih =>
    intro j st K hL h cx a w hr
    refine wp_block (wp_mono (ih j st _ hL h cx a w hr) ?_)
    rintro e a' w' ⟨st', h1, h2⟩
    cases e with
    | exit i =>
      simp only [blockO] at h1
      simp only [Exit.inBlock]
      by_cases he : i = id
      · rw [if_pos he]
        simp only [he, decide_true, sel] at h1
        exact ⟨st', h1, h2⟩
      · rw [if_neg he]
        simp only [he, decide_false, sel] at h1
        exact ⟨st', h1, h2⟩
    | _ => exact ⟨st', h1, h2⟩
  | exit id => exact fun j st K _ h cx a w hr => wp_exit ⟨st, h, hr⟩
  | ret => exact fun j st K _ h cx a w hr => wp_ret ⟨st, h, hr⟩
  | region id ops d =>
    intro j st K hL h
    cases d with
    | false =>
      simp only [exC, St.cleanK_eq] at h
      exact AW.unb fun cx a w hr => wp_region_list (exL_sound hG (fun st' a' w' h1 h2 => ⟨st', h1, h2⟩) _ _ _ _ hr h)
    | true =>
      simp only [exC, St.cleanK_eq] at h
      exact AW.unb fun cx a w hr => exR_sound hG hm h hr fun st' a' w' h1 h2 => ⟨st', h1, h2⟩
  | loop c ih =>
    intro j st K hL h
    exact hL (j, j, .loop c) (List.mem_singleton.2 rfl) ρ st K r h
  | _ => exact fun j st K _ h => by cases h
end

/-! ### 44. Loops and joins, over typed data -/
open Classical in
/-- A function of typed data, taken over their codes. -/
noncomputable def ofC {T U : Type} (enc : T → U) {R : Type} (F : T → Option R) (u : U) : Option R := if h : ∃ t, enc t = u then F (Classical.choose h) else Option.none
theorem ofC_enc {T U : Type} {enc : T → U} (inj : ∀ a b, enc a = enc b → a = b) {R : Type} (F : T → Option R) (t : T) : ofC enc F (enc t) = F t := by
  have h : ∃ t', enc t' = enc t := ⟨t, rfl⟩
  unfold ofC
  rw [dif_pos h]
  exact congrArg F (inj _ _ (Classical.choose_spec h))
theorem ofC_some {T U : Type} {enc : T → U} {R : Type} {F : T → Option R} {u : U} {r : R} (h : ofC enc F u = some r) : ∃ t, enc t = u ∧ F t = some r := by
  unfold ofC at h
  split at h
  · rename_i h1
    exact ⟨_, Classical.choose_spec h1, h⟩
  · cases h

/-- What stands at a loop's end: the next round's cut; an exit's cut. -/
structure Cut where
  live : List Nat
  cmds : List Cmd
def bodyK {ρ : Type} (P : Program) (n m : Nat) (ks : List Bool) (ct : Cut) (F : List AV → List Ob → Option ρ) (lv : Exit → Cut) (K : Exit → St → Option ρ) : Exit → St → Option ρ
  | .normal, st => cutO P n ct.live m ks ct.cmds st F
  | e, st => cutO P n (lv e).live m ks (lv e).cmds st fun avs obs => K e (mkS n (lv e).live avs obs ks)
/-- What stands behind a join: exits' cuts. -/
def joinK {ρ : Type} (P : Program) (n m : Nat) (ks : List Bool) (lv : Exit → Cut) (K : Exit → St → Option ρ) (e : Exit) (st : St) : Option ρ :=
  cutO P n (lv e).live m ks (lv e).cmds st fun avs obs => K e (mkS n (lv e).live avs obs ks)

theorem AW.post {P : Program} {c : Code} {st : St} {Φ Ψ : Exit → St → Prop} (h : AW P c st Φ) (hk : ∀ e st', Φ e st' → ∃ st'', StLe st' st'' ∧ Ψ e st'') : AW P c st Ψ :=
  fun cx a w hr => wp_mono (h cx a w hr) fun e a' w' ⟨st', h1, h2⟩ => by
    obtain ⟨st'', h3, h4⟩ := hk _ _ h1
    exact ⟨st'', h4, h3 cx a' w' h2⟩

section
variable {P : Program} {G : Orc} {L : Lor} {jn : List Nat} {ρ : Type} (hG : G.ok P) (hm : P.follows .mixedOrders = true)
include hG hm
/-- **A loop, over typed data, with fuel.** -/
theorem loop_ok {c : Code} {j n m : Nat} {ks : List Bool} {ct : Cut} {lv : Exit → Cut} {K : Exit → St → Option ρ} (hL : L.ok P (atomsL jn (j + 1) c)) {T : Type} {enc : T → List AV × List Ob} (inj : ∀ a b, enc a = enc b → a = b)
    (F : Nat → T → Option ρ) (h0 : ∀ t, F 0 t = Option.none)
    (hstep : ∀ k t, exC P G L jn (j + 1) c (mkS n ct.live (enc t).1 (enc t).2 ks) (bodyK P n m ks ct (fun avs obs => ofC enc (F k) (avs, obs)) lv K) = F (k + 1) t)
    (fuel : T → Nat) {st : St} {r : ρ} (h : cutO P n ct.live m ks ct.cmds st (fun avs obs => ofC enc (fun t => F (fuel t) t) (avs, obs)) = some r) : AW P (.loop c) st fun e st' => K e st' = some r := by
  obtain ⟨avs, obs, hle, h'⟩ := cutO_le h
  obtain ⟨t, he, h5⟩ := ofC_some h'
  have e1 : avs = (enc t).1 := by rw [he]
  have e2 : obs = (enc t).2 := by rw [he]
  subst e1; subst e2
  refine AW.le hle ?_
  refine AW_loop (ι := { p : Nat × T // F p.1 p.2 = some r }) (fun p => mkS n ct.live (enc p.1.2).1 (enc p.1.2).2 ks) (fun p => p.1.1) ⟨(fuel t, t), h5⟩ (StLe.refl _) ?_
  rintro ⟨⟨k, t⟩, h⟩
  cases k with
  | zero => rw [h0] at h; cases h
  | succ k =>
    refine (exC_sound hG hm c (j + 1) _ _ hL ((hstep k t).trans h)).post ?_
    rintro e st' he
    cases e with
    | normal =>
      obtain ⟨avs, obs, h1, h2⟩ := cutO_le (show cutO P n ct.live m ks ct.cmds st' _ = some r from he)
      obtain ⟨t', ht', h6⟩ := ofC_some h2
      have e1 : avs = (enc t').1 := by rw [ht']
      have e2 : obs = (enc t').2 := by rw [ht']
      subst e1; subst e2
      exact ⟨st', StLe.refl _, ⟨(k, t'), h6⟩, Nat.lt_succ_self k, h1⟩
    | _ =>
      obtain ⟨avs, obs, h1, h2⟩ := cutO_le (show cutO P n _ m ks _ st' _ = some r from he)
      exact ⟨_, h1, h2⟩

/-- A join, over typed data. -/
theorem join_ok {c : Code} {j n m : Nat} {ks : List Bool} {ct : Cut} {lv : Exit → Cut} {K : Exit → St → Option ρ} (hL : L.ok P (atomsL jn j c)) {T : Type} {enc : T → List AV × List Ob}
    (F : T → Option ρ) (hstep : ∀ t, exC P G L jn j c (mkS n ct.live (enc t).1 (enc t).2 ks) (joinK P n m ks lv K) = F t)
    {st : St} {r : ρ} (h : cutO P n ct.live m ks ct.cmds st (fun avs obs => ofC enc F (avs, obs)) = some r) : AW P c st fun e st' => K e st' = some r := by
  obtain ⟨avs, obs, hle, h'⟩ := cutO_le h
  obtain ⟨t, he, h5⟩ := ofC_some h'
  have e1 : avs = (enc t).1 := by rw [he]
  have e2 : obs = (enc t).2 := by rw [he]
  subst e1; subst e2
  refine AW.le hle ((exC_sound hG hm c j _ _ hL ((hstep t).trans h5)).post ?_)
  rintro e st' he
  obtain ⟨avs, obs, h1, h2⟩ := cutO_le he
  exact ⟨_, h1, h2⟩
end

end Go.Al
