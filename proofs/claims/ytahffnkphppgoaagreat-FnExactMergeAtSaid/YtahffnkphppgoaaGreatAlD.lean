import Derived.Test.YtahffnkphppgoaaGreatAlC
import Derived.KernelRfl
import Derived.SizedLaws
import Derived.Carry
import Derived.ChangeArms
import Derived.ChangeOld
import Derived.WideShapes
import Derived.OpenShut
import Derived.ShutString
set_option linter.unusedVariables false
set_option linter.unusedSimpArgs false
set_option linter.constructorNameAsVariable false
set_option linter.unusedSectionVars false
namespace Go.Al
def pos : List Nat → Nat → Option Nat
  | [], _ => Option.none
  | j :: js, i => match j == i with
    | true => some 0
    | false => (pos js i).map (· + 1)
theorem pos_get : ∀ {ids : List Nat} {i k : Nat}, pos ids i = some k → ids[k]? = some i
  | [], _, _, h => by simp [pos] at h
  | j :: js, i, k, h => by
    unfold pos at h
    split at h
    · rename_i he
      simp only [Option.some.injEq] at h
      subst h
      simpa using he
    · simp only [Option.map_eq_some_iff] at h
      obtain ⟨k', hk', rfl⟩ := h
      simpa using pos_get hk'
def C.ren (ids : List Nat) : C → C
  | .n x => .n x
  | .h i => match pos ids i with
    | some k => .h k
    | Option.none => .u
  | .p i off => match pos ids i with
    | some k => .p k off
    | Option.none => .u
  | .z => .z
  | _ => .u
def K.ren (ids : List Nat) : K → K
  | .c x => .c (x.ren ids)
  | .a cs => .a (cs.map (C.ren ids))
def AV.ren (ids : List Nat) : AV → AV
  | .c x => .c (x.ren ids)
  | .a cs => .a (cs.map (C.ren ids))
  | .tup vs => .tup (vs.map (K.ren ids))
  | .fn f cs => .fn f (cs.map (C.ren ids))
  | .ea i sz idx f => match pos ids i with
    | some k => .ea k sz idx f
    | Option.none => .dead
  | .ra cs => .ra cs
  | _ => .dead
def Ob.ren (ids : List Nat) : Ob → Ob
  | .row sz xs hole => .row sz xs (hole.map fun h => (h.1, h.2.1, h.2.2.bind (pos ids)))
  | .box cs => .box (cs.map (C.ren ids))
  | .fro sz xs => .fro sz xs
  | .none => .none
section
variable {w : World} {I : Nat → Prop} {β β' : List Value} {ids : List Nat} (hβ : ∀ (i k : Nat) (b : Value), pos ids i = some k → β[i]? = some b → β'[k]? = some b)
include hβ
theorem CR.ren {x : C} {v : Value} (h : CR w I β x v) : CR w I β' (x.ren ids) v := by
  have h1 := CR.one h
  cases x with
  | n x => exact h
  | h i =>
    simp only [C.ren]
    split
    · exact ⟨hβ _ _ _ ‹_› h.1, h.2⟩
    · exact h1
  | p i off =>
    simp only [C.ren]
    split
    · obtain ⟨g, h2, h3⟩ := h; exact ⟨g, hβ _ _ _ ‹_› h2, h3⟩
    · exact h1
  | z => exact h
  | _ => exact h1
theorem CsR.ren {cs : List C} {a : Array Value} (h : CsR w I β cs a) : CsR w I β' (cs.map (C.ren ids)) a :=
  ⟨by simpa using h.1, fun j x v hx hv => by
    simp only [List.getElem?_map, Option.map_eq_some_iff] at hx
    obtain ⟨y, hy, rfl⟩ := hx
    exact CR.ren hβ (h.2 j y v hy hv)⟩
theorem AVR.ren {x : AV} {v : Value} (h : AVR w I β x v) : AVR w I β' (x.ren ids) v := by
  cases x with
  | c x => exact CR.ren hβ h
  | a cs => obtain ⟨a, rfl, h⟩ := h; exact ⟨a, rfl, CsR.ren hβ h⟩
  | tup vs =>
    obtain ⟨a, rfl, hl, h⟩ := h
    refine ⟨a, rfl, by simpa using hl, fun j x v hx hv => ?_⟩
    simp only [List.getElem?_map, Option.map_eq_some_iff] at hx
    obtain ⟨y, hy, rfl⟩ := hx
    have := h j y v hy hv
    cases y with
    | c y => exact CR.ren hβ this
    | a cs => obtain ⟨a, rfl, h⟩ := this; exact ⟨a, rfl, CsR.ren hβ h⟩
  | fn f cs => obtain ⟨a, rfl, h⟩ := h; exact ⟨a, rfl, CsR.ren hβ h⟩
  | ea i sz idx f =>
    simp only [AV.ren]
    split
    · obtain ⟨g, n, cap, h, rfl⟩ := h; exact ⟨g, n, cap, hβ _ _ _ ‹_› h, rfl⟩
    · trivial
  | ra cs => obtain ⟨ad, c, rfl, hI, h1, h2⟩ := h; exact ⟨ad, c, rfl, hI, h1, h2⟩
  | _ => trivial
theorem ObR.ren {b : Value} {S : Nat → Prop} {o : Ob} (h : ObR w I β b S o) : ObR w I β' b S (o.ren ids) := by
  cases o with
  | row sz xs hole =>
    rcases h with h | ⟨g, cap, e, cur, fr, c, F, h1, h2, h3, h4, h5, h6, h7, h8, h9, h10, H, hk, hF, hD⟩
    · exact .inl h
    · refine .inr ⟨g, cap, e, cur, fr, c, F, h1, h2, h3, h4, h5, h6, h7, h8, h9, h10, fun i j x hx hh => H i j x hx (fun ⟨k, hk⟩ => hh ⟨_, List.mem_map.2 ⟨_, hk, rfl⟩⟩), fun i j k h => ?_, hF, hD⟩
      obtain ⟨⟨i', j', k'⟩, hm, he⟩ := List.mem_map.1 h
      simp only [Prod.mk.injEq] at he
      obtain ⟨rfl, rfl, he⟩ := he
      cases k' with
      | none => cases he
      | some k' => exact ⟨hβ _ _ _ (by simpa using he) (hk _ _ _ hm).1, (hk _ _ _ hm).2⟩
  | box cs => obtain ⟨g, cur, e, rfl, hg, hb, H⟩ := h; exact ⟨g, cur, e, rfl, hg, hb, CsR.ren hβ H⟩
  | fro sz xs => exact h
  | none => trivial
end
def St.pick (st : St) (ids : List Nat) : St := ⟨st.slots.map (AV.ren ids), ids.map fun i => (st.obj i).ren ids, st.ks⟩
theorem StLe.pick {st : St} {ids : List Nat} (hnd : ids.Nodup) (hlt : ∀ i ∈ ids, i < st.obs.length) (hks : ∀ i, kb st.ks i = true → ids[i]? = some i) : StLe st (st.pick ids) := by
  rintro cx a w ⟨I, β, S, hr, hc⟩
  have hβ' : ∀ (k i : Nat), ids[k]? = some i → (ids.map fun i => (β[i]?).getD undef)[k]? = β[i]? := by
    intro k i h
    have hi : i < β.length := by rw [hr.bl]; exact hlt i (List.mem_of_getElem? h)
    simp [h, List.getElem?_eq_getElem hi]
  have hβ : ∀ (i k : Nat) (b : Value), pos ids i = some k → β[i]? = some b → (ids.map fun i => (β[i]?).getD undef)[k]? = some b := fun i k b h hb => by rw [hβ' k i (pos_get h)]; exact hb
  refine ⟨I, ids.map fun i => (β[i]?).getD undef, fun k b => ∃ i, ids[k]? = some i ∧ S i b, ⟨by simpa [St.pick] using hr.sz, by simp [St.pick], fun t v u hv hu => ?_, fun k o b ho hb => ?_, ?_, fun k b hb => ?_, hr.il⟩,
    ⟨fun k b hb => ?_, hc.isub, hc.iinv, hc.frame, fun i hi hki => ?_, hc.defers⟩⟩
  · simp only [St.pick, Sl.getElem?_map, Option.map_eq_some_iff] at hv
    obtain ⟨v', hv', rfl⟩ := hv
    exact AVR.ren hβ (hr.slot t v' u hv' hu)
  · simp only [St.pick, List.getElem?_map, Option.map_eq_some_iff] at ho
    obtain ⟨i, hi, rfl⟩ := ho
    rw [hβ' k i hi] at hb
    have hil : i < st.obs.length := hlt i (List.mem_of_getElem? hi)
    have hoi : st.obs[i]? = some (st.obj i) := by rw [St.obj, List.getElem?_eq_getElem hil]; rfl
    exact (ObR.ren hβ (hr.ob i _ b hoi hb)).mono (fun _ h => h) (fun _ _ => rfl) (fun _ _ h => h) (fun _ _ => rfl) (fun q hq => ⟨i, hi, hq⟩)
  · rintro j k b ⟨i, h1, h2⟩ ⟨i', h3, h4⟩
    have := hr.sdis i i' b h2 h4
    subst this
    have e1 := (List.getElem?_eq_some_iff.1 h1).2
    have e2 := (List.getElem?_eq_some_iff.1 h3).2
    exact (List.getElem_inj hnd).1 (e1.trans e2.symm)
  · obtain ⟨i, h1, h2⟩ := hb
    obtain ⟨q1, q2, q3⟩ := hr.slt i b h2
    exact ⟨by simpa [St.pick] using (List.getElem?_eq_some_iff.1 h1).1, q2, q3⟩
  · obtain ⟨i, -, h2⟩ := hb
    exact hc.own i b h2
  · rw [hβ' i i (hks i hki)]
    exact hc.keep i hi hki
inductive Cmd where
  | ad (l : Loc) (ty : TypeId)
  | th (l : Loc) (ty : TypeId)
  | fr (l : Loc)
  | ai (l : Loc) (ty : TypeId) (ms : List Bool)
  | ti (l : Loc) (ty : TypeId) (ms : List Bool)
def imZ : List Bool → List N → List N
  | true :: ms, x :: l => .im x :: imZ ms l
  | false :: ms, x :: l => x :: imZ ms l
  | _, l => l
def zeOf (P : Program) (t : TypeId) : Option ZE := match (tyOf P t).zs with
  | [some z] => some z
  | _ => Option.none
def Cmd.run (P : Program) (st : St) : Cmd → St
  | .ad l ty => match st.getC l with
    | some .z => match zeOf P ty with
      | some z => St.setC { st with obs := st.obs ++ [.row z.1 ⟨0, fun _ => z.2⟩ []] } (.h st.obs.length) l
      | Option.none => st
    | _ => st
  | .th l ty => match st.getC l with
    | some .z => match zeOf P ty with
      | some z => st.setC (.n z.nil) l
      | Option.none => st
    | _ => st
  | .ai l ty ms => match st.getC l with
    | some .z => match zeOf P ty with
      | some z => St.setC { st with obs := st.obs ++ [.row z.1 ⟨0, fun _ => imZ ms z.2⟩ []] } (.h st.obs.length) l
      | Option.none => st
    | _ => st
  | .ti l ty ms => match st.getC l with
    | some .z => match zeOf P ty with
      | some z => st.setC (.n (.sl z.1 ⟨0, fun _ => imZ ms z.2⟩)) l
      | Option.none => st
    | _ => st
  | .fr l => match st.getC l with
    | some (.h i) => match st.obj i with
      | .row sz xs [] => St.setC { st with obs := st.obs.set i (.fro sz xs) } (.n (.sl sz xs)) l
      | .fro sz xs => st.setC (.n (.sl sz xs)) l
      | _ => st
    | _ => st
theorem setC_ks (st : St) (y : C) (l : Loc) : (st.setC y l).ks = st.ks := by
  cases l <;> simp only [St.setC] <;> (try split) <;> (try split) <;> rfl
theorem RelC.ks {c : Cx} {st st' : St} {a : Act} {w : World} {I : Nat → Prop} {β : List Value} {S : Nat → Nat → Prop} (h : RelC c st a w I β S) (e : st'.ks = st.ks) : RelC c st' a w I β S :=
  ⟨h.own, h.isub, h.iinv, h.frame, by rw [e]; exact h.keep, h.defers⟩
theorem Cmd.le (P : Program) (st : St) (cmd : Cmd) : StLe st (cmd.run P st) := by
  rintro cx a w ⟨I, β, S, hr, hc⟩
  cases cmd with
  | ad l ty =>
    simp only [Cmd.run]
    split
    · rename_i hz
      split
      · rename_i z hzz
        obtain ⟨v, hv, hset⟩ := hr.cell hz
        obtain ⟨A, rfl⟩ := hv
        have hβ : ∀ (i : Nat) (b : Value), β[i]? = some b → (β ++ [.slice A 0 0])[i]? = some b := fun i b hb => by rw [List.getElem?_append_left (List.getElem?_eq_some_iff.1 hb).1]; exact hb
        refine ⟨I, β ++ [.slice A 0 0], S, hset _ I _ S (.h st.obs.length) (hr.ext_nil rfl A) rfl (fun i cs h => ?_) hβ ⟨by rw [← hr.bl]; simp, rfl⟩, RelC.ks ⟨hc.own, hc.isub, hc.iinv, hc.frame, fun i hi hki => ?_, hc.defers⟩ (setC_ks _ _ _)⟩
        · have hio := obj_some h (by simp)
          unfold St.obj
          rw [List.getElem?_append_left (List.getElem?_eq_some_iff.1 hio).1, hio]
          rfl
        · have := hc.klt hi hki
          rw [List.getElem?_append_left this]
          exact hc.keep i hi hki
      · exact ⟨I, β, S, hr, hc⟩
    · exact ⟨I, β, S, hr, hc⟩
  | th l ty =>
    simp only [Cmd.run]
    split
    · rename_i hz
      split
      · rename_i z hzz
        obtain ⟨v, hv, hset⟩ := hr.cell hz
        obtain ⟨A, rfl⟩ := hv
        exact ⟨I, β, S, hset st I β S _ hr rfl (fun _ _ h => h) (fun _ _ h => h) (Im.zero rfl A), hc.ks (setC_ks _ _ _)⟩
      · exact ⟨I, β, S, hr, hc⟩
    · exact ⟨I, β, S, hr, hc⟩
  | ai l ty ms =>
    simp only [Cmd.run]
    split
    · rename_i hz
      split
      · rename_i z hzz
        obtain ⟨v, hv, hset⟩ := hr.cell hz
        obtain ⟨A, rfl⟩ := hv
        have hβ : ∀ (i : Nat) (b : Value), β[i]? = some b → (β ++ [.slice A 0 0])[i]? = some b := fun i b hb => by rw [List.getElem?_append_left (List.getElem?_eq_some_iff.1 hb).1]; exact hb
        refine ⟨I, β ++ [.slice A 0 0], S, hset _ I _ S (.h st.obs.length) (hr.ext_nil rfl A) rfl (fun i cs h => ?_) hβ ⟨by rw [← hr.bl]; simp, rfl⟩, RelC.ks ⟨hc.own, hc.isub, hc.iinv, hc.frame, fun i hi hki => ?_, hc.defers⟩ (setC_ks _ _ _)⟩
        · have hio := obj_some h (by simp)
          unfold St.obj
          rw [List.getElem?_append_left (List.getElem?_eq_some_iff.1 hio).1, hio]
          rfl
        · have := hc.klt hi hki
          rw [List.getElem?_append_left this]
          exact hc.keep i hi hki
      · exact ⟨I, β, S, hr, hc⟩
    · exact ⟨I, β, S, hr, hc⟩
  | ti l ty ms =>
    simp only [Cmd.run]
    split
    · rename_i hz
      split
      · rename_i z hzz
        obtain ⟨v, hv, hset⟩ := hr.cell hz
        obtain ⟨A, rfl⟩ := hv
        exact ⟨I, β, S, hset st I β S _ hr rfl (fun _ _ h => h) (fun _ _ h => h) (Im.zero rfl A), hc.ks (setC_ks _ _ _)⟩
      · exact ⟨I, β, S, hr, hc⟩
    · exact ⟨I, β, S, hr, hc⟩
  | fr l =>
    simp only [Cmd.run]
    split
    · rename_i i hz
      obtain ⟨v, hv, hset⟩ := hr.cell hz
      split
      · rename_i sz xs hobj
        have hle := StLe.freeze st i
        unfold St.freeze at hle
        rw [hobj] at hle
        -- the frozen state
        have hio := obj_some hobj (by simp)
        have hi : i < st.obs.length := (List.getElem?_eq_some_iff.1 hio).1
        have hrow := hr.hdr (i := i) (v := v) hv hobj (by simp)
        have hr2 : RelV { st with obs := st.obs.set i (.fro sz xs) } a w (fun b => I b ∨ S i b) β (fun k b => k ≠ i ∧ S k b) := by
          refine ⟨hr.sz, by simpa using hr.bl, fun t v u hv hu => (hr.slot t v u hv hu).mono (fun _ h => .inl h) (fun _ _ => rfl) (fun _ _ h => h), fun k o b ho hb => ?_,
            fun k j b hk hj => hr.sdis k j b hk.2 hj.2, fun k b hb => ?_, hr.il.mono (fun _ h => .inl h) (fun _ _ => rfl) fun b hb => ?_⟩
          · rw [List.getElem?_set] at ho
            split at ho
            · rename_i he
              subst he
              simp only [hi, if_true, Option.some.injEq] at ho
              subst ho
              exact (RowR.own (hr.ob i _ b hio hb)).lend (fun _ h => .inl h) (fun _ h => .inr h)
            · rename_i hne
              exact (hr.ob k o b ho hb).mono (fun _ h => .inl h) (fun _ _ => rfl) (fun _ _ h => h) (fun _ _ => rfl) (fun q hq => ⟨fun h => hne h.symm, hq⟩)
          · obtain ⟨h1, h2, h3⟩ := hr.slt k b hb.2
            refine ⟨by simpa using h1, h2, ?_⟩
            rintro (h | h)
            · exact h3 h
            · exact hb.1 (hr.sdis k i b hb.2 h)
          · rcases hb with hb | hb
            · exact hr.ilt b hb
            · exact (hr.slt i b hb).2.1
        have hc2 : RelC cx { st with obs := st.obs.set i (.fro sz xs) } a w (fun b => I b ∨ S i b) β (fun k b => k ≠ i ∧ S k b) :=
          ⟨fun k b hb => hc.own k b hb.2, fun b hb => .inl (hc.isub b hb), fun b hb => hb.elim (hc.iinv b) (fun h => .inr (hc.own i b h)), hc.frame, hc.keep, hc.defers⟩
        refine ⟨_, _, _, hset _ _ β _ _ hr2 rfl (fun j cs h => ?_) (fun _ _ h => h) ((RowR.own hrow).lend (fun _ h => .inl h) (fun _ h => .inr h)), hc2.ks (setC_ks _ _ _)⟩
        have hne : i ≠ j := by rintro rfl; rw [hobj] at h; cases h
        have hjo := obj_some h (by simp)
        unfold St.obj
        simp only
        rw [List.getElem?_set_ne hne, hjo]
        rfl
      · rename_i sz xs hobj
        exact ⟨I, β, S, hset st I β S _ hr rfl (fun _ _ h => h) (fun _ _ h => h) (hr.hdr (i := i) (v := v) hv hobj (by simp)), hc.ks (setC_ks _ _ _)⟩
      · exact ⟨I, β, S, hr, hc⟩
    · exact ⟨I, β, S, hr, hc⟩
def C.hs : C → List Nat
  | .h i => [i]
  | .p i _ => [i]
  | _ => []
def K.hs : K → List Nat
  | .c x => x.hs
  | .a cs => cs.flatMap C.hs
def AV.hs : AV → List Nat
  | .c x => x.hs
  | .a cs => cs.flatMap C.hs
  | .tup vs => vs.flatMap K.hs
  | .fn _ cs => cs.flatMap C.hs
  | .ea i _ _ _ => [i]
  | _ => []
def Ob.hs : Ob → List Nat
  | .box cs => cs.flatMap C.hs
  | .row _ _ hole => hole.filterMap fun h => h.2.2
  | _ => []
def addAll : List Nat → List Nat → List Nat
  | ids, [] => ids
  | ids, i :: is => match ids.contains i with
    | true => addAll ids is
    | false => addAll (ids ++ [i]) is
def grow (st : St) : Nat → List Nat → List Nat
  | 0, ids => ids
  | k + 1, ids => grow st k (addAll ids (ids.flatMap fun i => (st.obj i).hs))
theorem addAll_nodup : ∀ (is ids : List Nat), ids.Nodup → (addAll ids is).Nodup
  | [], ids, h => h
  | i :: is, ids, h => by
    unfold addAll
    split
    · exact addAll_nodup is ids h
    · rename_i hc
      refine addAll_nodup is _ (List.nodup_append.2 ⟨h, by simp, fun a ha b hb => ?_⟩)
      simp only [List.mem_singleton] at hb
      subst hb
      rintro rfl
      rw [← List.contains_iff_mem, hc] at ha
      cases ha
theorem grow_nodup (st : St) : ∀ (k : Nat) (ids : List Nat), ids.Nodup → (grow st k ids).Nodup
  | 0, ids, h => h
  | k + 1, ids, h => grow_nodup st k _ (addAll_nodup _ _ h)
def idsOf (st : St) (m : Nat) (hs : List Nat) : List Nat := grow st 3 (addAll (List.range m) hs)
theorem idsOf_nodup (st : St) (m : Nat) (hs : List Nat) : (idsOf st m hs).Nodup := grow_nodup _ _ _ (addAll_nodup _ _ List.nodup_range)
def runAll (P : Program) : List Cmd → St → St
  | [], st => st
  | c :: cs, st => runAll P cs (c.run P st)
theorem runAll_le (P : Program) : ∀ (cs : List Cmd) (st : St), StLe st (runAll P cs st)
  | [], st => StLe.refl st
  | c :: cs, st => (Cmd.le P st c).trans (runAll_le P cs _)
def mkF : List Nat → List AV → Nat → AV
  | i :: is, x :: xs => fun t => sel (Nat.beq t i) x (mkF is xs t)
  | _, _ => fun _ => .dead
def mkS (n : Nat) (live : List Nat) (avs : List AV) (obs : List Ob) (ks : List Bool) : St := ⟨⟨n, mkF live avs⟩, obs, ks⟩
def cutI {ρ : Type} (n : Nat) (live : List Nat) (m : Nat) (ks : List Bool) (st : St) (F : List AV → List Ob → Option ρ) (ids : List Nat) : Option ρ :=
  chk (decide (st.slots.length = n)) (chk (decide (st.ks = ks)) (chk (ids.all fun i => decide (i < st.obs.length)) (chk ((List.range ks.length).all fun i => decide (ids[i]? = some i))
    (F (live.map fun t => (st.get t).ren ids) (ids.map fun i => (st.obj i).ren ids)))))
def cutO {ρ : Type} (P : Program) (n : Nat) (live : List Nat) (m : Nat) (ks : List Bool) (cmds : List Cmd) (st : St) (F : List AV → List Ob → Option ρ) : Option ρ :=
  cutI n live m ks (runAll P cmds st) F (idsOf (runAll P cmds st) m (live.flatMap fun t => ((runAll P cmds st).get t).hs))
theorem mkF_map (f : Nat → AV) : ∀ (live : List Nat) (t : Nat), mkF live (live.map f) t = f t ∨ mkF live (live.map f) t = .dead
  | [], t => .inr rfl
  | i :: live, t => by
    simp only [List.map_cons, mkF, Sl.sel_beq]
    split
    · rename_i h; subst h; exact .inl rfl
    · exact mkF_map f live t
theorem maskO_refl : ∀ (xs : List Ob), maskO xs xs
  | [] => trivial
  | x :: xs => ⟨.inr rfl, maskO_refl xs⟩
theorem kb_lt {ks : List Bool} {i : Nat} (h : kb ks i = true) : i < ks.length := by
  unfold kb at h
  rcases Nat.lt_or_ge i ks.length with hi | hi
  · exact hi
  · rw [List.getElem?_eq_none hi] at h
    cases h
theorem cutO_le {ρ : Type} {P : Program} {n : Nat} {live : List Nat} {m : Nat} {ks : List Bool} {cmds : List Cmd} {st : St} {F : List AV → List Ob → Option ρ} {r : ρ} (h : cutO P n live m ks cmds st F = some r) :
    ∃ avs obs, StLe st (mkS n live avs obs ks) ∧ F avs obs = some r := by
  unfold cutO at h
  have hle := runAll_le P cmds st
  generalize runAll P cmds st = st1 at h hle
  have hnd := idsOf_nodup st1 m (live.flatMap fun t => (st1.get t).hs)
  generalize idsOf st1 m (live.flatMap fun t => (st1.get t).hs) = ids at h hnd
  unfold cutI at h
  obtain ⟨h1, h⟩ := zO h
  obtain ⟨h2, h⟩ := zO h
  obtain ⟨h3, h⟩ := zM h
  obtain ⟨h4, h5⟩ := zM h
  subst h2
  refine ⟨_, _, (hle.trans (StLe.pick hnd (fun i hi => ?_) fun i hi => ?_)).trans (StLe.mask (by simpa [St.pick, mkS] using h1) (fun t y hy => ?_) (maskO_refl _) fun _ h => h), h5⟩
  · have := List.all_eq_true.1 h3 i hi
    simpa using this
  · have := List.all_eq_true.1 h4 i (List.mem_range.2 (kb_lt hi))
    simpa using this
  · obtain ⟨hlt, he⟩ := Sl.some_iff.1 hy
    have hlt' : t < st1.slots.length := by rw [h1]; exact hlt
    have he' : mkF live (live.map fun t => (st1.get t).ren ids) t = y := he
    rcases mkF_map (fun t => (st1.get t).ren ids) live t with h | h
    · right
      rw [h] at he'
      simp only [St.pick, Sl.getElem?_map, Sl.get_lt hlt', Option.map_some]
      rw [← he', St.get_eq, Sl.get_lt hlt']
      rfl
    · left
      rw [h] at he'
      exact he'.symm
abbrev Lor : Type 1 := (ρ : Type) → Nat → St → (Exit → St → Option ρ) → Option ρ
def thenO {ρ : Type} (K : St → Option ρ) (Φ : Exit → St → Option ρ) : Exit → St → Option ρ
  | .normal, st => K st
  | e, st => Φ e st
def blockO {ρ : Type} (id : Nat) (Φ : Exit → St → Option ρ) : Exit → St → Option ρ
  | .exit i, st => sel (decide (i = id)) (Φ .normal st) (Φ (.exit i) st)
  | e, st => Φ e st
def condO {ρ : Type} (st : St) (x : Operand) (K : Bool → St → Option ρ) : Option ρ :=
  match x with
  | .tmp t => pickO (st.get t) (K true (st.put (some t) (zY true))) (K false (st.put (some t) (zY false)))
  | .const (.bool b) => K b st
  | _ => Option.none
def atoms : Code → Nat
  | .seq x y => atoms x + atoms y
  | .cond _ t f => atoms t + atoms f
  | .block _ c => atoms c
  | .loop c => atoms c + 1
  | _ => 0
def headR : Code → Option Nat
  | .seq x _ => headR x
  | .region id _ _ => some id
  | _ => Option.none
def joinAt (jn : List Nat) (y : Code) : Option Nat := match headR y with
  | some id => match jn.contains id with
    | true => some id
    | false => Option.none
  | Option.none => Option.none
noncomputable def exC {ρ : Type} (P : Program) (G : Orc) (L : Lor) (jn : List Nat) : Nat → Code → St → (Exit → St → Option ρ) → Option ρ
  | _, .skip, st, K => K .normal st
  | j, .seq x y, st, K => exC P G L jn j x st (thenO (fun st' => match joinAt jn y with
    | some id => L ρ (1000 + id) st' K
    | Option.none => exC P G L jn (j + atoms x) y st' K) K)
  | j, .cond x t f, st, K => condO st x fun b st' => match b with
    | true => exC P G L jn j t st' K
    | false => exC P G L jn (j + atoms t) f st' K
  | j, .block id c, st, K => exC P G L jn j c st (blockO id K)
  | _, .exit id, st, K => K (.exit id) st
  | _, .ret, st, K => K .ret st
  | _, .region _ ops false, st, K => st.cleanK fun st => exL P G ops ops.toList st (K .normal)
  | _, .region _ ops true, st, K => st.cleanK fun st => exR P G ops st (K .normal)
  | j, .loop _, st, K => L ρ j st K
  | _, _, _, _ => Option.none
def zE (jn : List Nat) : Nat → Code → List (Nat × Nat × Code)
  | j, .seq x y => zE jn j x ++ (match joinAt jn y with
    | some id => [(1000 + id, j + atoms x, y)]
    | Option.none => zE jn (j + atoms x) y)
  | j, .cond _ t f => zE jn j t ++ zE jn (j + atoms t) f
  | j, .block _ c => zE jn j c
  | j, .loop c => [(j, j, .loop c)]
  | _, _ => []
def atomN (jn : List Nat) (j : Nat) (c : Code) (i : Nat) : Code := ((zE jn j c)[i]?.getD (0, 0, .skip)).2.2
def loopC : Code → Code
  | .loop c => c
  | c => c
def Lor.ok (P : Program) (L : Lor) (l : List (Nat × Nat × Code)) : Prop := ∀ p ∈ l, ∀ (ρ : Type) (st : St) (K : Exit → St → Option ρ) (r : ρ), L ρ p.1 st K = some r → AW P p.2.2 st fun e st' => K e st' = some r
theorem Lor.zF (P : Program) (L : Lor) : Lor.ok P L [] := fun p hp => by simp at hp
theorem Lor.zI {P : Program} {L : Lor} {i j : Nat} {c : Code} {l : List (Nat × Nat × Code)} (h : ∀ (ρ : Type) (st : St) (K : Exit → St → Option ρ) (r : ρ), L ρ i st K = some r → AW P c st fun e st' => K e st' = some r)
    (hl : Lor.ok P L l) : Lor.ok P L ((i, j, c) :: l) := by
  intro p hp
  rcases List.mem_cons.1 hp with rfl | hp
  · exact h
  · exact hl p hp
section
variable {ρ : Type} {P : Program} {G : Orc} {r : ρ}
theorem AW.unb {c : Code} {st : St} {Φ : Exit → St → Prop} (h : ∀ (cx : Cx) (a : Act) (w : World), RelB cx st.unb a w → c.wp P (fun e a' w' => ∃ st', Φ e st' ∧ Rel cx st' a' w') a w) : AW P c st Φ :=
  fun cx a w hr => h cx a w hr.relB
theorem exC_sound (hG : G.ok P) (hm : P.follows .mixedOrders = true) {L : Lor} {jn : List Nat} : ∀ (c : Code) (j : Nat) (st : St) (K : Exit → St → Option ρ), L.ok P (zE jn j c) → exC P G L jn j c st K = some r → AW P c st fun e st' => K e st' = some r := by
  intro c
  induction c with
  | skip => exact fun j st K _ h cx a w hr => wp_skip ⟨st, h, hr⟩
  | seq x y ihx ihy =>
    intro j st K hL h cx a w hr
    simp only [zE] at hL
    refine wp_seq (wp_mono (ihx j st _ (fun p hp => hL p (List.mem_append.2 (.inl hp))) h cx a w hr) ?_)
    rintro e a' w' ⟨st', h1, h2⟩
    cases e with
    | normal =>
      simp only [thenO] at h1
      cases hj : joinAt jn y with
      | none =>
        simp only [hj] at h1
        exact ihy _ st' K (fun p hp => hL p (List.mem_append.2 (.inr (by rw [hj]; exact hp)))) h1 cx a' w' h2
      | some id =>
        simp only [hj] at h1
        exact hL (1000 + id, j + atoms x, y) (List.mem_append.2 (.inr (by rw [hj]; exact List.mem_singleton.2 rfl))) ρ st' K r h1 cx a' w' h2
    | _ => exact ⟨st', h1, h2⟩
  | cond x t f iht ihf =>
    intro j st K hL h cx a w hr
    simp only [exC, condO] at h
    split at h
    · rename_i t'
      unfold pickO at h
      split at h
      · rename_i b hb
        have hput : ∀ b', b = b' → st.put (some t') (zY b') = st := by
          rintro b' rfl
          exact put_same hb (by simp [zY])
        have hv : a.eval (.tmp t') = .bool b := by
          obtain ⟨I, β, S, hrv, -⟩ := hr
          have := zL hrv (.tmp t')
          simp only [St.ev, hb] at this
          exact this.val.1
        cases b with
        | true =>
          have h1 : exC P G L jn j t (st.put (some t') (zY true)) K = some r := h
          rw [hput true rfl] at h1
          exact wp_cond_true hv (iht j st K (fun p hp => hL p (List.mem_append.2 (.inl hp))) h1 cx a w hr)
        | false =>
          have h1 : exC P G L jn (j + atoms t) f (st.put (some t') (zY false)) K = some r := h
          rw [hput false rfl] at h1
          exact wp_cond_false hv (ihf _ st K (fun p hp => hL p (List.mem_append.2 (.inr hp))) h1 cx a w hr)
      · cases h
    · rename_i b
      cases b with
      | true => exact wp_cond_true rfl (iht j st K (fun p hp => hL p (List.mem_append.2 (.inl hp))) h cx a w hr)
      | false => exact wp_cond_false rfl (ihf _ st K (fun p hp => hL p (List.mem_append.2 (.inr hp))) h cx a w hr)
    · cases h
  | block id c ih =>
    intro j st K hL h cx a w hr
    refine wp_block (wp_mono (ih j st _ hL h cx a w hr) ?_)
    rintro e a' w' ⟨st', h1, h2⟩
    cases e with
    | exit i =>
      simp only [blockO] at h1
      simp only [Exit.inBlock]
      by_cases he : i = id
      · rw [if_pos he]
        simp only [he, decide_true, sel] at h1
        exact ⟨st', h1, h2⟩
      · rw [if_neg he]
        simp only [he, decide_false, sel] at h1
        exact ⟨st', h1, h2⟩
    | _ => exact ⟨st', h1, h2⟩
  | exit id => exact fun j st K _ h cx a w hr => wp_exit ⟨st, h, hr⟩
  | ret => exact fun j st K _ h cx a w hr => wp_ret ⟨st, h, hr⟩
  | region id ops d =>
    intro j st K hL h
    cases d with
    | false =>
      simp only [exC, St.zX] at h
      exact AW.unb fun cx a w hr => wp_region_list (exL_sound hG (fun st' a' w' h1 h2 => ⟨st', h1, h2⟩) _ _ _ _ hr h)
    | true =>
      simp only [exC, St.zX] at h
      exact AW.unb fun cx a w hr => exR_sound hG hm h hr fun st' a' w' h1 h2 => ⟨st', h1, h2⟩
  | loop c ih =>
    intro j st K hL h
    exact hL (j, j, .loop c) (List.mem_singleton.2 rfl) ρ st K r h
  | _ => exact fun j st K _ h => by cases h
end
open Classical in
noncomputable def ofC {T U : Type} (enc : T → U) {R : Type} (F : T → Option R) (u : U) : Option R := if h : ∃ t, enc t = u then F (Classical.choose h) else Option.none
theorem zD {T U : Type} {enc : T → U} (inj : ∀ a b, enc a = enc b → a = b) {R : Type} (F : T → Option R) (t : T) : ofC enc F (enc t) = F t := by
  have h : ∃ t', enc t' = enc t := ⟨t, rfl⟩
  unfold ofC
  rw [dif_pos h]
  exact congrArg F (inj _ _ (Classical.choose_spec h))
theorem ZF {T U : Type} {enc : T → U} {R : Type} {F : T → Option R} {u : U} {r : R} (h : ofC enc F u = some r) : ∃ t, enc t = u ∧ F t = some r := by
  unfold ofC at h
  split at h
  · rename_i h1
    exact ⟨_, Classical.choose_spec h1, h⟩
  · cases h
structure Cut where
  live : List Nat
  cmds : List Cmd
def bodyK {ρ : Type} (P : Program) (n m : Nat) (ks : List Bool) (ct : Cut) (F : List AV → List Ob → Option ρ) (lv : Exit → Cut) (K : Exit → St → Option ρ) : Exit → St → Option ρ
  | .normal, st => cutO P n ct.live m ks ct.cmds st F
  | e, st => cutO P n (lv e).live m ks (lv e).cmds st fun avs obs => K e (mkS n (lv e).live avs obs ks)
theorem AW.post {P : Program} {c : Code} {st : St} {Φ Ψ : Exit → St → Prop} (h : AW P c st Φ) (hk : ∀ e st', Φ e st' → ∃ st'', StLe st' st'' ∧ Ψ e st'') : AW P c st Ψ :=
  fun cx a w hr => wp_mono (h cx a w hr) fun e a' w' ⟨st', h1, h2⟩ => by
    obtain ⟨st'', h3, h4⟩ := hk _ _ h1
    exact ⟨st'', h4, h3 cx a' w' h2⟩
section
variable {P : Program} {G : Orc} {L : Lor} {jn : List Nat} {ρ : Type} (hG : G.ok P) (hm : P.follows .mixedOrders = true)
include hG hm
theorem zJ {c : Code} {j n m : Nat} {ks : List Bool} {ct : Cut} {lv : Exit → Cut} {K : Exit → St → Option ρ} (hL : L.ok P (zE jn (j + 1) c)) {T : Type} {enc : T → List AV × List Ob} (inj : ∀ a b, enc a = enc b → a = b)
    (F : Nat → T → Option ρ) (h0 : ∀ t, F 0 t = Option.none)
    (hstep : ∀ k t, exC P G L jn (j + 1) c (mkS n ct.live (enc t).1 (enc t).2 ks) (bodyK P n m ks ct (fun avs obs => ofC enc (F k) (avs, obs)) lv K) = F (k + 1) t)
    (fuel : T → Nat) {st : St} {r : ρ} (h : cutO P n ct.live m ks ct.cmds st (fun avs obs => ofC enc (fun t => F (fuel t) t) (avs, obs)) = some r) : AW P (.loop c) st fun e st' => K e st' = some r := by
  obtain ⟨avs, obs, hle, h'⟩ := cutO_le h
  obtain ⟨t, he, h5⟩ := ZF h'
  have e1 : avs = (enc t).1 := by rw [he]
  have e2 : obs = (enc t).2 := by rw [he]
  subst e1; subst e2
  refine AW.le hle ?_
  refine AW_loop (ι := { p : Nat × T // F p.1 p.2 = some r }) (fun p => mkS n ct.live (enc p.1.2).1 (enc p.1.2).2 ks) (fun p => p.1.1) ⟨(fuel t, t), h5⟩ (StLe.refl _) ?_
  rintro ⟨⟨k, t⟩, h⟩
  cases k with
  | zero => rw [h0] at h; cases h
  | succ k =>
    refine (exC_sound hG hm c (j + 1) _ _ hL ((hstep k t).trans h)).post ?_
    rintro e st' he
    cases e with
    | normal =>
      obtain ⟨avs, obs, h1, h2⟩ := cutO_le (show cutO P n ct.live m ks ct.cmds st' _ = some r from he)
      obtain ⟨t', ht', h6⟩ := ZF h2
      have e1 : avs = (enc t').1 := by rw [ht']
      have e2 : obs = (enc t').2 := by rw [ht']
      subst e1; subst e2
      exact ⟨st', StLe.refl _, ⟨(k, t'), h6⟩, Nat.lt_succ_self k, h1⟩
    | _ =>
      obtain ⟨avs, obs, h1, h2⟩ := cutO_le (show cutO P n _ m ks _ st' _ = some r from he)
      exact ⟨_, h1, h2⟩
end
def C.within (ids : List Nat) : C → Bool
  | .h i => ids.contains i
  | .p i _ => ids.contains i
  | .b _ _ => false
  | _ => true
def K.within (ids : List Nat) : K → Bool
  | .c x => x.within ids
  | .a cs => cs.all (C.within ids)
def AV.within (ids : List Nat) : AV → Bool
  | .c x => x.within ids
  | .a cs => cs.all (C.within ids)
  | .tup vs => vs.all (K.within ids)
  | .fn _ cs => cs.all (C.within ids)
  | .ra _ => true
  | .dead => true
  | _ => false
def Ob.within (ids : List Nat) : Ob → Bool
  | .row _ _ hole => hole.all fun h => match h.2.2 with
    | some k => ids.contains k
    | Option.none => true
  | .box cs => cs.all (C.within ids)
  | _ => true
theorem pos_of : ∀ {ids : List Nat} {i : Nat}, ids.contains i = true → ∃ k, pos ids i = some k
  | [], i, h => by simp at h
  | j :: js, i, h => by
    unfold pos
    split
    · exact ⟨0, rfl⟩
    · rename_i hne
      have : js.contains i = true := by
        simp only [List.contains_cons, Bool.or_eq_true, beq_iff_eq] at h
        rcases h with h | h
        · subst h; simp at hne
        · exact h
      obtain ⟨k, hk⟩ := pos_of this
      exact ⟨k + 1, by rw [hk]; rfl⟩
theorem sig_pos {ids : List Nat} {i k n : Nat} (h : pos ids i = some k) : sig ids n k = i := sig_in (pos_get h)
section
variable {ids : List Nat} {n : Nat}
theorem C.ren_map {x : C} (h : x.within ids = true) : (x.ren ids).map (sig ids n) = x := by
  cases x with
  | h i => obtain ⟨k, hk⟩ := pos_of h; simp only [C.ren, hk, C.map, sig_pos hk]
  | p i off => obtain ⟨k, hk⟩ := pos_of h; simp only [C.ren, hk, C.map, sig_pos hk]
  | b x loc => cases h
  | _ => rfl
theorem Cs.ren_map {cs : List C} (h : cs.all (C.within ids) = true) : (cs.map (C.ren ids)).map (C.map (sig ids n)) = cs := by
  rw [List.map_map]
  conv => rhs; rw [← List.map_id cs]
  exact List.map_congr_left fun x hx => C.ren_map (List.all_eq_true.1 h x hx)
theorem AV.ren_map {x : AV} (h : x.within ids = true) : (x.ren ids).map (sig ids n) = x := by
  cases x with
  | c x => simp only [AV.ren, AV.map]; rw [C.ren_map h]
  | a cs => simp only [AV.ren, AV.map]; rw [Cs.ren_map h]
  | tup vs =>
    simp only [AV.ren, AV.map, List.map_map]
    congr 1
    conv => rhs; rw [← List.map_id vs]
    refine List.map_congr_left fun k hk => ?_
    have hw := List.all_eq_true.1 h k hk
    cases k with
    | c x => simp only [Function.comp, K.ren, K.map, id]; rw [C.ren_map hw]
    | a cs => simp only [Function.comp, K.ren, K.map, id]; rw [Cs.ren_map hw]
  | fn f cs => simp only [AV.ren, AV.map]; rw [Cs.ren_map h]
  | ea i sz idx f => cases h
  | rb cs loc => cases h
  | _ => rfl
theorem Ob.ren_map {o : Ob} (h : o.within ids = true) : (o.ren ids).map (sig ids n) = o := by
  cases o with
  | row sz xs hole =>
    simp only [Ob.ren, Ob.map, List.map_map]
    congr 1
    conv => rhs; rw [← List.map_id hole]
    refine List.map_congr_left fun x hx => ?_
    have hw := List.all_eq_true.1 h x hx
    obtain ⟨i, j, k⟩ := x
    cases k with
    | none => rfl
    | some k =>
      obtain ⟨q, hq⟩ := pos_of hw
      simp [hq, sig_pos hq]
  | box cs => simp only [Ob.ren, Ob.map]; rw [Cs.ren_map h]
  | _ => rfl
end
def retI {ρ : Type} (m : Nat) (ks : List Bool) (st : St) (rv0 : AV) (K : AV → List Ob → Option ρ) (ids : List Nat) : Option ρ :=
  chk (decide (ids.take m = List.range m)) (chk (ids.all fun i => decide (i < st.obs.length)) (chk ((List.range ks.length).all fun i => !(kb ks i) || kb st.ks i)
    (chk (rv0.within ids) (chk (ids.all fun i => (st.obj i).within ids) (K (rv0.ren ids) (ids.map fun i => (st.obj i).ren ids))))))
def retO {ρ : Type} (P : Program) (rs : List ResultVar) (m : Nat) (ks : List Bool) (cmds : List Cmd) (st : St) (K : AV → List Ob → Option ρ) : Option ρ :=
  (resAV P (runAll P cmds st) rs).bind fun rv0 => retI m ks (runAll P cmds st) rv0 K (idsOf (runAll P cmds st) m rv0.hs)
def finO {ρ : Type} (P : Program) (rs : List ResultVar) (m : Nat) (ks : List Bool) (cmds : List Cmd) (K : AV → List Ob → Option ρ) : Exit → St → Option ρ
  | .normal, st => retO P rs m ks cmds st K
  | .ret, st => retO P rs m ks cmds st K
  | _, _ => Option.none
section
variable {P : Program} {G : Orc} {L : Lor} {jn : List Nat}
theorem retO_vc {ρ : Type} {rs : List ResultVar} {m : Nat} {ks : List Bool} {cmds : List Cmd} {st : St} {K : AV → List Ob → Option ρ} {r : ρ} (h : retO P rs m ks cmds st K = some r) :
    ∃ st', StLe st st' ∧ retK P rs m true ks (fun rv obs => K rv obs = some r) st' := by
  refine ⟨runAll P cmds st, runAll_le P cmds st, ?_⟩
  unfold retO at h
  obtain ⟨rv0, hrv, h⟩ := is_iff (bind_some h)
  have hnd := idsOf_nodup (runAll P cmds st) m rv0.hs
  unfold retI at h
  obtain ⟨h1, h⟩ := zO h
  obtain ⟨h2, h⟩ := zM h
  obtain ⟨h3, h⟩ := zM h
  obtain ⟨h4, h⟩ := zM h
  obtain ⟨h5, h⟩ := zM h
  refine ⟨fun i hi => ?_, ?_⟩
  · have := List.all_eq_true.1 h3 i (List.mem_range.2 (kb_lt hi))
    simpa [hi] using this
  · rw [hrv]
    refine ⟨_, _, _, hnd, fun i hi => by simpa using List.all_eq_true.1 h2 i hi, h1, ?_, AV.ren_map h4, .inl rfl, h⟩
    rw [List.map_map]
    exact List.map_congr_left fun i hi => Ob.ren_map (List.all_eq_true.1 h5 i hi)
theorem AC.flat {f : FuncId} {args : List AV} {hin : List Ob} {ks : List Bool} {R : AV → List Ob → Prop} (h : AC P f args hin true ks R) (hR : ∀ rv obs, R rv obs → rv.Flat ∧ ∀ o ∈ obs, o.Flat) : AC P f args hin false ks R := by
  intro w vals I β S hr
  refine (h w vals I β S hr).mono ?_
  rintro v w' ⟨rv, obs, v', I', β', S', h1, hRR, h2, h3, h4, h5, h6, h7, h8, h9, h10⟩
  obtain ⟨f1, f2⟩ := hR rv obs hRR
  exact ⟨rv, obs, v', fun _ => False, β', S', h1, hRR, h2, h3.flat f1, h4, fun i o b ho hb => (h5 i o b ho hb).flat (f2 o (List.mem_of_getElem? ho)), h6,
    fun i b hb => by obtain ⟨q1, q2, q3, q4⟩ := h7 i b hb; exact ⟨q1, q2, fun h => h, q4⟩, fun b hb => hb.elim, h9, h10⟩
theorem fun_okc (hG : G.ok P) (hm : P.follows .mixedOrders = true) {f : FuncId} {fn : Func} {body : Code} (hf : P.funcs[f]? = some fn) (hn : (fn.name == "runtime.NumGoroutine") = false) (hb : fn.body = some body)
    (hL : L.ok P (zE jn 0 body)) {R : Type} {encR : R → AV × List Ob} {args : List AV} {hin : List Ob} {ks : List Bool} {cmds : List Cmd} {F : Option R}
    (hmain : exC P G L jn 0 body (entry fn.ntmps args hin ks) (finO P fn.results.toList hin.length ks cmds fun rv obs => ofC encR some (rv, obs)) = F) {x : R} (h : F = some x) :
    ACc P f args hin true ks fun rv obs => (rv, obs) = encR x := by
  refine ACc_intro hf hn hb ?_
  refine (exC_sound hG hm body 0 _ _ hL (hmain.trans h)).post ?_
  have key : ∀ st', retO P fn.results.toList hin.length ks cmds st' (fun rv obs => ofC encR some (rv, obs)) = some x → ∃ st'', StLe st' st'' ∧ retK P fn.results.toList hin.length true ks (fun rv obs => (rv, obs) = encR x) st'' := by
    intro st' h
    obtain ⟨st'', h1, h2⟩ := retO_vc h
    refine ⟨st'', h1, h2.1, ZK h2.2 ?_⟩
    rintro rv0 ⟨ids, rv, obs, q1, q2, q3, q4, q5, q6, q7⟩
    obtain ⟨t, ht, he⟩ := ZF q7
    simp only [Option.some.injEq] at he
    subst he
    exact ⟨ids, rv, obs, q1, q2, q3, q4, q5, q6, ht.symm⟩
  intro e st' he
  cases e with
  | normal => exact key st' he
  | ret => exact key st' he
  | _ => cases he
end
def gO (st : St) (ids : List Nat) (lend : Bool) (z : Option ZE) : C → Option C
  | .n x => some (.n x)
  | .z => match z with
    | some z => some (.n z.nil)
    | Option.none => some .z
  | .h i => match pos ids i with
    | some k => some (.h k)
    | Option.none => match st.obj i with
      | .row sz xs [] => match lend with
        | true => some (.n (.sl sz xs))
        | false => Option.none
      | .fro sz xs => some (.n (.sl sz xs))
      | _ => Option.none
  | .p i off => (pos ids i).map fun k => .p k off
  | _ => Option.none
def gOs (st : St) (ids : List Nat) (lend : Bool) : List (Option ZE) → List C → Option (List C)
  | _, [] => some []
  | zs, x :: xs => match gO st ids lend (zs.head?.getD Option.none) x with
    | some y => (gOs st ids lend zs.tail xs).map (y :: ·)
    | Option.none => Option.none
def toN : C → Option N
  | .n x => some x
  | _ => Option.none
def gOA (st : St) (ids : List Nat) (lend : Bool) (zs : List (Option ZE)) : AV → Option AV
  | .c (.p i off) => match pos ids i with
    | some k => some (.c (.p k off))
    | Option.none => match st.obj i, lend with
      | .box bs, true => (gOs st ids true [] (bs.drop off)).bind fun cs => (zS (cs.map toN)).map .ra
      | _, _ => Option.none
  | .c x => (gO st ids lend (zs.head?.getD Option.none) x).map .c
  | .a xs => (gOs st ids lend zs xs).map .a
  | .fn f xs => (gOs st ids lend [] xs).map (.fn f)
  | .ra cs => some (.ra cs)
  | _ => Option.none
def gOAs (P : Program) (st : St) (ids : List Nat) (lend : Bool) : List TypeId → List AV → Option (List AV)
  | _, [] => some []
  | ts, x :: xs => match gOA st ids lend (match ts with | t :: _ => (tyOf P t).zs | [] => []) x with
    | some y => (gOAs P st ids lend ts.tail xs).map (y :: ·)
    | Option.none => Option.none
section
variable {st : St} {ids : List Nat} {lend : Bool}
theorem pos_none {i : Nat} (h : pos ids i = Option.none) : ids.contains i = false := by
  cases hc : ids.contains i with
  | false => rfl
  | true => obtain ⟨k, hk⟩ := pos_of hc; rw [hk] at h; cases h
theorem gO_sound {z : Option ZE} {x y : C} (h : gO st ids lend z x = some y) : gC st ids lend x y := by
  unfold gO at h
  split at h
  · simp only [Option.some.injEq] at h; subst h; rfl
  · split at h
    · simp only [Option.some.injEq] at h; subst h; rfl
    · simp only [Option.some.injEq] at h; subst h; trivial
  · split at h
    · rename_i k hk
      simp only [Option.some.injEq] at h; subst h
      exact pos_get hk
    · rename_i hk
      split at h
      · rename_i ho
        split at h
        · simp only [Option.some.injEq] at h; subst h; exact ⟨pos_none hk, .inl ⟨rfl, ho⟩⟩
        · cases h
      · rename_i ho
        simp only [Option.some.injEq] at h; subst h
        exact ⟨pos_none hk, .inr ho⟩
      · cases h
  · simp only [Option.map_eq_some_iff] at h
    obtain ⟨k, hk, rfl⟩ := h
    exact ⟨pos_get hk, rfl⟩
  · cases h
theorem gOs_sound : ∀ {zs : List (Option ZE)} {xs ys : List C}, gOs st ids lend zs xs = some ys → gCs st ids lend xs ys
  | zs, [], ys, h => by simp [gOs] at h; subst h; trivial
  | zs, x :: xs, ys, h => by
    unfold gOs at h
    split at h
    · rename_i y hy
      simp only [Option.map_eq_some_iff] at h
      obtain ⟨ys', h', rfl⟩ := h
      exact ⟨gO_sound hy, gOs_sound h'⟩
    · cases h
theorem allSome_toN : ∀ {cs : List C} {ns : List N}, zS (cs.map toN) = some ns → cs = ns.map .n
  | [], ns, h => by simp [zS] at h; subst h; rfl
  | x :: cs, ns, h => by
    simp only [List.map_cons] at h
    cases hx : toN x with
    | none => rw [hx] at h; cases h
    | some y =>
      rw [hx] at h
      simp only [zS, Option.map_eq_some_iff] at h
      obtain ⟨ns', h', rfl⟩ := h
      unfold toN at hx
      split at hx
      · simp only [Option.some.injEq] at hx
        subst hx
        rw [List.map_cons, ← allSome_toN h']
      · cases hx
theorem gOA_sound {zs : List (Option ZE)} {x y : AV} (h : gOA st ids lend zs x = some y) : gA st ids lend x y := by
  unfold gOA at h
  split at h
  · split at h
    · rename_i k hk
      simp only [Option.some.injEq] at h; subst h
      exact ⟨pos_get hk, rfl⟩
    · rename_i hk
      split at h
      · rename_i bs ho
        obtain ⟨cs, hcs, h⟩ := is_iff (bind_some h)
        simp only [Option.map_eq_some_iff] at h
        obtain ⟨ns, hns, rfl⟩ := h
        refine ⟨pos_none hk, rfl, ?_⟩
        rw [ho]
        rw [allSome_toN hns] at hcs
        exact gOs_sound hcs
      · cases h
  · simp only [Option.map_eq_some_iff] at h
    obtain ⟨q, hz, rfl⟩ := h
    rename_i x' _
    cases x' <;> exact gO_sound hz
  · simp only [Option.map_eq_some_iff] at h
    obtain ⟨q, hz, rfl⟩ := h
    exact gOs_sound hz
  · simp only [Option.map_eq_some_iff] at h
    obtain ⟨q, hz, rfl⟩ := h
    exact ⟨rfl, gOs_sound hz⟩
  · simp only [Option.some.injEq] at h; subst h; rfl
  · cases h
theorem gOAs_sound {P : Program} : ∀ {ts : List TypeId} {xs ys : List AV}, gOAs P st ids lend ts xs = some ys → gAs st ids lend xs ys
  | ts, [], ys, h => by simp [gOAs] at h; subst h; trivial
  | ts, x :: xs, ys, h => by
    unfold gOAs at h
    split at h
    · rename_i y hy
      simp only [Option.map_eq_some_iff] at h
      obtain ⟨ys', h', rfl⟩ := h
      exact ⟨gOA_sound hy, gOAs_sound h'⟩
    · cases h
end
def handed : List Bool → List AV → List Nat
  | true :: md, x :: xs => x.hs ++ handed md xs
  | _ :: md, _ :: xs => handed md xs
  | _, _ => []
def paramsOf (P : Program) (f : FuncId) : List TypeId := match P.funcs[f]? with
  | some fn => fn.params.toList
  | Option.none => []
def callI {ρ R : Type} (P : Program) (f : FuncId) (lend : Bool) (ks : List Bool) (encR : R → AV × List Ob) (F : List AV → List Ob → Option R) (st : St) (args : List AV) (dst : Option Nat) (K : St → Option ρ) (ids : List Nat) : Option ρ :=
  chk (ids.all fun i => decide (i < st.obs.length)) (chk ((List.range st.ks.length).all fun i => !(kb st.ks i) || !(badIds ids ks i)) (chk (ids.all fun i => (st.obj i).within ids)
    ((gOAs P st ids lend (paramsOf P f) args).bind fun args' => (F args' (ids.map fun i => (st.obj i).ren ids)).bind fun x =>
      K ((st.after ids ks (encR x).2).put dst ((encR x).1.map (sig ids st.obs.length))))))
def callE {ρ R : Type} (P : Program) (f : FuncId) (md : List Bool) (lend : Bool) (ks : List Bool) (encR : R → AV × List Ob) (F : List AV → List Ob → Option R) (st : St) (args : List AV) (dst : Option Nat) (K : St → Option ρ) : Option ρ :=
  callI P f lend ks encR F st args dst K (idsOf st 0 (handed md args))
theorem callE_ok {ρ R : Type} {P : Program} {f : FuncId} {md : List Bool} {lend sh : Bool} {ks : List Bool} {encR : R → AV × List Ob} {F : List AV → List Ob → Option R} (hl : lend = true → sh = false)
    (hac : ∀ args hin x, F args hin = some x → AC P f args hin sh ks fun rv obs => (rv, obs) = encR x) {st : St} {caps : List C} {args : List AV} {dst : Option Nat} {K : St → Option ρ} {r : ρ}
    (h : callE P f md lend ks encR F st (args ++ caps.map .c) dst K = some r) : callS P st (.fn f caps) args dst fun st' => K st' = some r := by
  unfold callE at h
  have hnd := idsOf_nodup st 0 (handed md (args ++ caps.map .c))
  generalize idsOf st 0 (handed md (args ++ caps.map .c)) = ids at h hnd
  unfold callI at h
  obtain ⟨h1, h⟩ := zM h
  obtain ⟨h2, h⟩ := zM h
  obtain ⟨h3, h⟩ := zM h
  obtain ⟨args', hargs, h⟩ := is_iff (bind_some h)
  obtain ⟨x, hx, h⟩ := is_iff (bind_some h)
  refine callS_of (hac _ _ x hx) ids lend hl hnd (fun i hi => by simpa using List.all_eq_true.1 h1 i hi) ?_ (fun i hi => ?_) (gOAs_sound hargs) (fun rv obs e => ?_)
  · rw [List.map_map]
    exact List.map_congr_left fun i hi => Ob.ren_map (List.all_eq_true.1 h3 i hi)
  · cases hk : kb st.ks i with
    | false => rfl
    | true =>
      have := List.all_eq_true.1 h2 i (List.mem_range.2 (kb_lt hk))
      simp [hk, hi] at this
  · obtain rfl : rv = (encR x).1 := by rw [← e]
    obtain rfl : obs = (encR x).2 := by rw [← e]
    exact h
def qEntry {ρ R : Type} (encR : R → AV × List Ob) (F : List AV → Option R) (args : List AV) (K : AV → List Ob → Option ρ) : Option ρ := (F args).bind fun x => K (encR x).1 (encR x).2
theorem qEntry_ok {ρ R : Type} {P : Program} {f : FuncId} {sh : Bool} {encR : R → AV × List Ob} {F : List AV → Option R} (hac : ∀ args x, F args = some x → AC P f args [] sh [] fun rv obs => (rv, obs) = encR x)
    {args : List AV} {K : AV → List Ob → Option ρ} {r : ρ} (h : qEntry encR F args K = some r) : AC P f args [] sh [] fun rv obs => K rv obs = some r := by
  obtain ⟨x, hx, h⟩ := is_iff (bind_some h)
  refine (hac args x hx).mono fun rv obs e => ?_
  obtain rfl : rv = (encR x).1 := by rw [← e]
  obtain rfl : obs = (encR x).2 := by rw [← e]
  exact h
theorem qEntry_nat {ρ R : Type} {encR : R → AV × List Ob} {F : List AV → Option R} (args : List AV) (K : AV → List Ob → Option ρ) :
    qEntry encR F args K = (qEntry encR F args fun a n => some (a, n)).bind fun p => K p.1 p.2 := by
  unfold qEntry
  rw [bind_bind]
  rfl
structure Vec (A : Type) where
  n : Nat
  g : Nat → A
structure IVec (A : Type) where
  v : Vec A
structure IK (k : IntKind) where
  v : Int
class Enc (A : Type) where
  sz : Nat
  enc : A → List N
  zero : A
  mrg : Bool → A → A → A
  inj : ∀ a b, enc a = enc b → a = b
  mrg_eq : ∀ b x y, mrg b x y = sel b x y
  len : ∀ a, (enc a).length = sz
class EncF (A : Type) [Enc A] : Prop where
  flat : ∀ (a : A), ∀ x ∈ Enc.enc a, N.Flat x
instance : Enc Int where
  sz := 1
  enc x := [.v (.int .i64 x)]
  zero := 0
  mrg := sel
  inj a b h := by simpa using h
  mrg_eq _ _ _ := rfl
  len _ := rfl
instance {k : IntKind} : Enc (IK k) where
  sz := 1
  enc x := [.v (.int k x.v)]
  zero := ⟨0⟩
  mrg b x y := ⟨sel b x.v y.v⟩
  inj a b h := by
    simp at h
    cases a; cases b; simp at h; rw [h]
  mrg_eq b x y := by cases b <;> rfl
  len _ := rfl
instance : Enc Bool where
  sz := 1
  enc x := [.v (.bool x)]
  zero := false
  mrg := sel
  inj a b h := by simpa using h
  mrg_eq _ _ _ := rfl
  len _ := rfl
instance : Enc ByteArray where
  sz := 1
  enc x := [.v (.string x)]
  zero := ByteArray.empty
  mrg := sel
  inj a b h := by simpa using h
  mrg_eq _ _ _ := rfl
  len _ := rfl
section
variable {A : Type} [Enc A]
def encRw (v : Vec A) : Rw N := ⟨v.n, fun i => Enc.enc (v.g i)⟩
theorem encRw_inj {v w : Vec A} (h : encRw v = encRw w) : v = w := by
  obtain ⟨n, g⟩ := v
  obtain ⟨m, f⟩ := w
  unfold encRw at h
  simp only [Rw.mk.injEq] at h
  obtain ⟨rfl, h⟩ := h
  congr 1
  funext i
  exact Enc.inj _ _ (congrFun h i)
end
def Vec.mrg {A : Type} [Enc A] (b : Bool) (x y : Vec A) : Vec A := ⟨sel b x.n y.n, fun i => Enc.mrg b (x.g i) (y.g i)⟩
theorem Vec.mrg_eq {A : Type} [Enc A] (b : Bool) (x y : Vec A) : Vec.mrg b x y = sel b x y := by
  unfold Vec.mrg
  simp only [Enc.mrg_eq]
  cases b <;> rfl
instance {A : Type} [Enc A] : Enc (Vec A) where
  sz := 1
  enc v := [.sl (Enc.sz A) (encRw v)]
  zero := ⟨0, fun _ => Enc.zero⟩
  mrg := Vec.mrg
  inj a b h := by
    simp only [List.cons.injEq, N.sl.injEq, true_and, and_true] at h
    exact encRw_inj h
  mrg_eq := Vec.mrg_eq
  len _ := rfl
instance {A : Type} [Enc A] : Enc (IVec A) where
  sz := 1
  enc v := [.im (.sl (Enc.sz A) (encRw v.v))]
  zero := ⟨⟨0, fun _ => Enc.zero⟩⟩
  mrg b x y := ⟨Vec.mrg b x.v y.v⟩
  inj a b h := by
    simp only [List.cons.injEq, N.im.injEq, N.sl.injEq, true_and, and_true] at h
    obtain ⟨v⟩ := a
    obtain ⟨w⟩ := b
    exact congrArg IVec.mk (encRw_inj h)
  mrg_eq b x y := by rw [Vec.mrg_eq]; cases b <;> rfl
  len _ := rfl
instance {A B : Type} [Enc A] [Enc B] : Enc (A × B) where
  sz := Enc.sz A + Enc.sz B
  enc p := Enc.enc p.1 ++ Enc.enc p.2
  zero := (Enc.zero, Enc.zero)
  mrg b x y := (Enc.mrg b x.1 y.1, Enc.mrg b x.2 y.2)
  inj a b h := by
    have hl : (Enc.enc a.1).length = (Enc.enc b.1).length := by rw [Enc.len, Enc.len]
    obtain ⟨h1, h2⟩ := List.append_inj h hl
    exact Prod.ext (Enc.inj _ _ h1) (Enc.inj _ _ h2)
  mrg_eq b x y := by simp only [Enc.mrg_eq]; cases b <;> rfl
  len p := by simp [Enc.len]
instance : EncF Int where flat a x hx := by simp [Enc.enc] at hx; subst hx; exact .v _
instance {k : IntKind} : EncF (IK k) where flat a x hx := by simp [Enc.enc] at hx; subst hx; exact .v _
instance : EncF Bool where flat a x hx := by simp [Enc.enc] at hx; subst hx; exact .v _
instance : EncF ByteArray where flat a x hx := by simp [Enc.enc] at hx; subst hx; exact .v _
instance {A : Type} [Enc A] [EncF A] : EncF (Vec A) where
  flat a x hx := by
    simp [Enc.enc] at hx
    subst hx
    exact .sl fun i _ y hy => EncF.flat _ _ hy
instance {A B : Type} [Enc A] [Enc B] [EncF A] [EncF B] : EncF (A × B) where
  flat a x hx := by
    simp only [Enc.enc, List.mem_append] at hx
    rcases hx with hx | hx
    · exact EncF.flat _ _ hx
    · exact EncF.flat _ _ hx
section
variable {A : Type} [Enc A]
def Vec.nil : Vec A := ⟨0, fun _ => Enc.zero⟩
def Vec.app (v w : Vec A) : Vec A := ⟨v.n + w.n, fun i => Enc.mrg (decide (i < v.n)) (v.g i) (w.g (i - v.n))⟩
def Vec.set (v : Vec A) (k : Nat) (x : A) : Vec A := ⟨v.n, fun i => Enc.mrg (decide (i = k)) x (v.g i)⟩
def Vec.litG : List A → Nat → A
  | [], _ => Enc.zero
  | [x], _ => x
  | x :: y :: xs, i => Enc.mrg (decide (i = 0)) x (Vec.litG (y :: xs) (i - 1))
def Vec.lit (l : List A) : Vec A := ⟨l.length, Vec.litG l⟩
end
def Vec.rep {A : Type} (n : Nat) (x : A) : Vec A := ⟨n, fun _ => x⟩
def Vec.sub {A : Type} (v : Vec A) (l h : Nat) : Vec A := ⟨h - l, fun i => v.g (l + i)⟩
def toBytes (v : Vec (IK .u8)) : ByteArray := ⟨((List.range v.n).map fun i => UInt8.ofNat (v.g i).v.toNat).toArray⟩
def byteAt (s : ByteArray) (i : Nat) : Int := (s.data.toList.getD i 0).toNat
theorem enc_flat1 {A : Type} [Enc A] [EncF A] (v : Vec A) : Ob.Flat (.row (Enc.sz A) (encRw v) []) := fun i _ x hx => EncF.flat _ _ hx
abbrev vi (x : Int) : AV := .c (.n (.v (.int .i64 x)))
abbrev vk (k : IntKind) (x : Int) : AV := .c (.n (.v (.int k x)))
abbrev vb (x : Bool) : AV := .c (.n (.v (.bool x)))
abbrev vs (x : ByteArray) : AV := .c (.n (.v (.string x)))
abbrev vl {A : Type} [Enc A] (x : Vec A) : AV := .c (.n (.sl (Enc.sz A) (encRw x)))
abbrev ci (x : Int) : C := .n (.v (.int .i64 x))
abbrev cb (x : Bool) : C := .n (.v (.bool x))
abbrev cs (x : ByteArray) : C := .n (.v (.string x))
abbrev cl {A : Type} [Enc A] (x : Vec A) : C := .n (.sl (Enc.sz A) (encRw x))
abbrev rw {A : Type} [Enc A] (x : Vec A) : Ob := .row (Enc.sz A) (encRw x) []
abbrev ro {A : Type} [Enc A] (x : Vec A) : Ob := .row (Enc.sz A) (encRw x) []
abbrev nl {A : Type} [Enc A] (x : Vec A) : N := .sl (Enc.sz A) (encRw x)
abbrev wr (x : Int) : Int := IntKind.i64.wrap x
theorem zA {A : Type} [Enc A] {a b : Vec A} : encRw a = encRw b ↔ a = b := ⟨encRw_inj, fun h => by rw [h]⟩
def fuelN : Nat := 4611686018427387904
def mkOk (l : Int) (b : Nat) : Bool := decide (l * (b + 1) ≤ maxN)
def okBytes (v : Vec (IK .u8)) : Bool := decide (∀ i, i < (encRw v).n → isB ((encRw v).g i) = true)
def bAnd (k : IntKind) (a b : Int) : Int := k.wrap (BitVec.ofInt k.bits a &&& BitVec.ofInt k.bits b).toNat
def bOr (k : IntKind) (a b : Int) : Int := k.wrap (BitVec.ofInt k.bits a ||| BitVec.ofInt k.bits b).toNat
def bShl (k : IntKind) (a b : Int) : Int := k.wrap (a * 2 ^ (min b.toNat k.bits))
def bShr (k : IntKind) (a b : Int) : Int := a.fdiv (2 ^ (min b.toNat k.bits))
def zB (f : Func) : Code := f.body.getD .skip
theorem sel_cases {ρ : Type} {b : Bool} {x y : Option ρ} {r : ρ} (h : sel b x y = some r) : (b = true ∧ x = some r) ∨ (b = false ∧ y = some r) := by
  cases b with
  | true => exact .inl ⟨rfl, h⟩
  | false => exact .inr ⟨rfl, h⟩
theorem beq_nat {a b : Nat} (h : Nat.beq a b = true) : a = b := Nat.eq_of_beq_eq_true h
theorem zN {A : Type} [Enc A] [EncF A] {n : Nat} (h : n = Enc.sz A) (v : Vec A) : Ob.Flat (.row n (encRw v) []) := enc_flat1 v
open Go.WideShapes
class Bnd (A : Type) where
  bnd : A → Prop
def bN : Nat := 140737488351232
instance : Bnd Int := ⟨fun x => -9223372036854775808 ≤ x ∧ x ≤ 9223372036854775807⟩
instance {k : IntKind} : Bnd (IK k) := ⟨fun x => k.min ≤ x.v ∧ x.v ≤ k.max⟩
instance : Bnd Bool := ⟨fun _ => True⟩
instance : Bnd ByteArray := ⟨fun s => s.size ≤ bN⟩
instance {A : Type} [Bnd A] : Bnd (Vec A) := ⟨fun v => v.n ≤ bN ∧ ∀ i, i < v.n → Bnd.bnd (v.g i)⟩
instance {A B : Type} [Bnd A] [Bnd B] : Bnd (A × B) := ⟨fun p => Bnd.bnd p.1 ∧ Bnd.bnd p.2⟩
def ImL (w : World) (I : Nat → Prop) (ns : List N) (cs : List Value) : Prop := ns.length = cs.length ∧ ∀ (j : Nat) (x : N) (v : Value), ns[j]? = some x → cs[j]? = some v → Im w I x v
theorem ImL.one {w : World} {I : Nat → Prop} {x : N} {v : Value} (h : Im w I x v) : ImL w I [x] [v] := ⟨rfl, fun j a b ha hb => by
  cases j with
  | zero => simp at ha hb; subst ha; subst hb; exact h
  | succ j => simp at ha⟩
def Opens (P : Program) (t : TypeId) (A : Type) [Enc A] [Bnd A] : Prop :=
  ∀ (H : Type) (enc : TypeId × Value → H) (w : World) (fuel : Nat) (cs : List Value) (x : DataW H × List MemPlace), DataW.trod enc P w 0 (fun _ => true) true fuel t cs = some x →
    (∀ n ∈ x.1.weights P t, n ≤ reachBytes) → ∃ a : A, ImL w (fun b => b < w.heap.size) (Enc.enc a) cs ∧ Bnd.bnd a
section
variable {P : Program}
theorem opens_int {t : TypeId} (ht : P.underlying t = some (.int .i64)) : Opens P t Int := by
  intro H enc w fuel cs x h _
  obtain ⟨n, rfl, -, hw⟩ := DataW.trod_int ht h
  refine ⟨n, ImL.one (.v rfl), ?_⟩
  simp only [Lit.wf, Bool.and_eq_true, decide_eq_true_eq] at hw
  exact hw
theorem opens_string {t : TypeId} (ht : P.underlying t = some .string) : Opens P t ByteArray := by
  intro H enc w fuel cs x h hw
  obtain ⟨s, rfl, rfl, hs⟩ := DataW.trod_string ht h
  refine ⟨s, ImL.one (.v rfl), ?_⟩
  have := hw s.data.toList.length (by simp [DataW.weights])
  exact this
theorem opens_slice {t e : TypeId} {A : Type} [Enc A] [Bnd A] (ht : P.underlying t = some (.slice e)) (hsz : P.cellsOf e = Enc.sz A) (h0 : 0 < Enc.sz A) (hb : 0 < P.bytesOf e) (ho : Opens P e A) : Opens P t (Vec A) := by
  intro H enc w fuel cs x h hw
  rcases DataW.trod_slice ht h with ⟨rfl, rfl⟩ | ⟨ad, len, cap, elems, rest, n, rfl, rfl, rfl, -, hlc, hcm, hel, hE, hR, -⟩
  · exact ⟨⟨0, fun _ => Enc.zero⟩, ImL.one (Im.zero rfl none), ⟨Nat.zero_le _, fun i hi => absurd hi (Nat.not_lt_zero i)⟩⟩
  · simp only [DataW.weights, ht, List.mem_cons, List.mem_append] at hw
    have hlen : len ≤ bN := by
      have h1 := hw _ (.inl rfl)
      have h2 : len * 1 ≤ ((elems.map (·.1)).length + (rest.map (·.1)).length) * P.bytesOf e := Nat.mul_le_mul (by simp [hel]) hb
      have h3 : reachBytes = bN := rfl
      omega
    have hone : ∀ i, i < len → ∃ a : A, ∃ cs', w.cells? 0 (ad.add (i * P.cellsOf e)) (P.cellsOf e) = some cs' ∧ ImL w (fun b => b < w.heap.size) (Enc.enc a) cs' ∧ Bnd.bnd a := by
      intro i hi
      have h1 := hE i hi
      have hie : i < elems.length := by omega
      rw [List.getElem?_eq_getElem hie] at h1
      simp only [Option.bind_eq_some_iff] at h1
      obtain ⟨cs', hc, ht'⟩ := h1
      have hmem : elems[i].1 ∈ elems.map (·.1) := List.mem_map.2 ⟨_, List.getElem_mem hie, rfl⟩
      have key : ∀ (l : List (DataW H)) (d : DataW H), d ∈ l → ∀ n ∈ d.weights P e, n ∈ DataW.weightsAll P e l := by
        intro l
        induction l with
        | nil => intro d hd; simp at hd
        | cons d' r ih =>
          intro d hd n hn
          simp only [DataW.weightsAll, List.mem_append]
          rcases List.mem_cons.1 hd with rfl | h
          · exact Or.inl hn
          · exact Or.inr (ih d h n hn)
      obtain ⟨a, h2, h3⟩ := ho H enc w n cs' _ ht' (fun m hm => hw m (.inr (.inl (key _ _ hmem m hm))))
      exact ⟨a, cs', hc, h2, h3⟩
    classical
    let g : Nat → A := fun i => if h : i < len then Classical.choose (hone i h) else Enc.zero
    have hg : ∀ i, i < len → ∃ cs', w.cells? 0 (ad.add (i * P.cellsOf e)) (P.cellsOf e) = some cs' ∧ ImL w (fun b => b < w.heap.size) (Enc.enc (g i)) cs' ∧ Bnd.bnd (g i) := by
      intro i hi
      simp only [g, dif_pos hi]
      exact Classical.choose_spec (hone i hi)
    have hcell : ∀ i j x, at2 (encRw (⟨len, g⟩ : Vec A)) i j = some x → w.cell? (ad.add (i * Enc.sz A + j)) = some ((w.cell? (ad.add (i * Enc.sz A + j))).getD undef) ∧ Im w (fun b => b < w.heap.size) x ((w.cell? (ad.add (i * Enc.sz A + j))).getD undef) := by
      intro i j x hx
      obtain ⟨hi, hx⟩ := at2_pos hx
      obtain ⟨cs', hc, him, -⟩ := hg i hi
      obtain ⟨-, hcl, hcc⟩ := World.cells?_some hc
      have hj : j < (Enc.enc (g i)).length := (List.getElem?_eq_some_iff.1 hx).1
      have hj' : j < cs'.length := by rw [← him.1]; exact hj
      have h1 := hcc j (by rw [← hcl]; exact hj')
      rw [add_add, hsz] at h1
      rw [h1, List.getElem?_eq_getElem hj']
      exact ⟨rfl, him.2 j x _ hx (List.getElem?_eq_getElem hj')⟩
    refine ⟨⟨len, g⟩, ImL.one ?_, hlen, fun i hi => ?_⟩
    · refine Im.sl (xs := encRw (⟨len, g⟩ : Vec A)) (some ad) cap ad (fun i j => (w.cell? (ad.add (i * Enc.sz A + j))).getD undef) (fun i _ => Enc.len _) (Nat.le_trans hlen (by decide)) hlc (fun hne => ⟨rfl, ?_⟩) (fun i j x hx => (hcell i j x hx).1) (fun i j x hx => (hcell i j x hx).2)
      have hpos : 0 < len := Nat.pos_of_ne_zero hne
      obtain ⟨cs', hc, -⟩ := hg 0 hpos
      have := World.cells?_block hc (by rw [hsz]; exact h0)
      rwa [add_block] at this
    · obtain ⟨-, -, -, h⟩ := hg i hi
      exact h
def OpensF (P : Program) (fs : List Field) (off : Nat) (A : Type) [Enc A] [Bnd A] : Prop :=
  ∀ (H : Type) (enc : TypeId × Value → H) (w : World) (n : Nat) (cs : List Value) (xs : List (DataW H × List MemPlace)), xs.length = fs.length →
    (∀ (i : Nat) (f : Field), fs[i]? = some f → DataW.trod enc P w 0 (fun _ => true) true n f.type ((cs.drop f.offset).take (P.cellsOf f.type)) = xs[i]?) →
    (∀ n ∈ DataW.weightsEach P (fs.map (·.type)) (xs.map (·.1)), n ≤ reachBytes) → off + Enc.sz A ≤ cs.length → ∃ a : A, ImL w (fun b => b < w.heap.size) (Enc.enc a) ((cs.drop off).take (Enc.sz A)) ∧ Bnd.bnd a
theorem opensF_one {f : Field} {off : Nat} {A : Type} [Enc A] [Bnd A] (hoff : f.offset = off) (hsz : P.cellsOf f.type = Enc.sz A) (ho : Opens P f.type A) : OpensF P [f] off A := by
  intro H enc w n cs xs hl hx hw hlen
  match xs, hl with
  | [x], _ =>
    have h1 := hx 0 f rfl
    rw [hoff, hsz] at h1
    exact ho H enc w n _ x h1 fun m hm => hw m (by simpa [DataW.weightsEach] using hm)
theorem opensF_cons {f : Field} {fs : List Field} {off : Nat} {A B : Type} [Enc A] [Bnd A] [Enc B] [Bnd B] (hoff : f.offset = off) (hsz : P.cellsOf f.type = Enc.sz A) (ho : Opens P f.type A) (hr : OpensF P fs (off + Enc.sz A) B) : OpensF P (f :: fs) off (A × B) := by
  intro H enc w n cs xs hl hx hw hlen
  match xs, hl with
  | x :: xs, hl =>
    have h1 := hx 0 f rfl
    rw [hoff, hsz] at h1
    have hlen' : off + (Enc.sz A + Enc.sz B) ≤ cs.length := hlen
    obtain ⟨a, ha, hba⟩ := ho H enc w n _ x h1 fun m hm => hw m (by simp only [List.map_cons, DataW.weightsEach, List.mem_append]; exact .inl hm)
    obtain ⟨b, hb, hbb⟩ := hr H enc w n cs xs (by simpa using hl) (fun i f hf => hx (i + 1) f (by simpa using hf)) (fun m hm => hw m (by simp only [List.map_cons, DataW.weightsEach, List.mem_append]; exact .inr hm)) (by omega)
    refine ⟨(a, b), ?_, hba, hbb⟩
    have e : (cs.drop off).take (Enc.sz (A × B)) = (cs.drop off).take (Enc.sz A) ++ (cs.drop (off + Enc.sz A)).take (Enc.sz B) := by
      show (cs.drop off).take (Enc.sz A + Enc.sz B) = _
      rw [List.take_add, List.drop_drop]
    rw [e]
    have hla : ((cs.drop off).take (Enc.sz A)).length = Enc.sz A := by simp; omega
    refine ⟨by simp only [Enc.enc, List.length_append]; rw [ha.1, hb.1], fun j y v hy hv => ?_⟩
    simp only [Enc.enc] at hy
    rw [List.getElem?_append] at hy hv
    rw [Enc.len] at hy
    rw [hla] at hv
    split at hy
    · rename_i hj
      rw [if_pos hj] at hv
      exact ha.2 j y v hy hv
    · rename_i hj
      rw [if_neg hj] at hv
      exact hb.2 _ y v hy hv
theorem opens_struct {t : TypeId} {fs : Array Field} {A : Type} [Enc A] [Bnd A] (ht : P.underlying t = some (.struct fs)) (hsz : P.cellsOf t = Enc.sz A) (ho : OpensF P fs.toList 0 A) : Opens P t A := by
  intro H enc w fuel cs x h hw
  obtain ⟨xs, n, -, rfl, hl, hxl, hx⟩ := DataW.trod_struct ht h
  obtain ⟨a, ha, hb⟩ := ho H enc w n cs xs (by simpa using hxl) (fun i f hf => hx i f (by simpa using hf)) (fun m hm => hw m (by simpa [DataW.weights, ht] using hm)) (by rw [hl, hsz]; omega)
  refine ⟨a, ?_, hb⟩
  rwa [List.drop_zero, List.take_of_length_le (by rw [hl, hsz]; exact Nat.le_refl _)] at ha
theorem AVR_of_one {w : World} {I : Nat → Prop} {x : N} {v : Value} (h : ImL w I [x] [v]) : AVR w I [] (.c (.n x)) v := h.2 0 x v rfl rfl
theorem AVR_of_agg {w : World} {I : Nat → Prop} {ns : List N} {arr : Array Value} (h : ImL w I ns arr.toList) : AVR w I [] (.a (ns.map .n)) (.agg arr) :=
  ⟨arr, rfl, by simpa using h.1.symm, fun j x v hx hv => by
    simp only [List.getElem?_map, Option.map_eq_some_iff] at hx
    obtain ⟨y, hy, rfl⟩ := hx
    exact h.2 j y v hy (by simpa using hv)⟩
section
variable {H : Type} {enc : TypeId × Value → H} {w : World} {v : Value} {d : DataW H} {ps : List MemPlace} {base : Nat}
theorem open_i {t : TypeId} (ht : P.underlying t = some (.int .i64)) (hv : Value.okWide P w .any base t v) (h : DataW.Trod enc P w 0 (fun _ => true) true t v d ps) (hw : ∀ n ∈ d.weights P t, n ≤ reachBytes) :
    ∃ a : Int, AVR w (fun b => b < w.heap.size) [] (vi a) v ∧ Bnd.bnd a := by
  obtain ⟨n, rfl⟩ := okWide_int ht hv
  obtain ⟨fuel, h⟩ := h
  obtain ⟨a, ha, hb⟩ := opens_int ht H enc w fuel _ _ h hw
  exact ⟨a, AVR_of_one ha, hb⟩
theorem open_s {t : TypeId} (ht : P.underlying t = some .string) (hv : Value.okWide P w .any base t v) (h : DataW.Trod enc P w 0 (fun _ => true) true t v d ps) (hw : ∀ n ∈ d.weights P t, n ≤ reachBytes) :
    ∃ a : ByteArray, AVR w (fun b => b < w.heap.size) [] (vs a) v ∧ Bnd.bnd a := by
  obtain ⟨n, rfl⟩ := okWide_string ht hv
  obtain ⟨fuel, h⟩ := h
  obtain ⟨a, ha, hb⟩ := opens_string ht H enc w fuel _ _ h hw
  exact ⟨a, AVR_of_one ha, hb⟩
theorem open_st {t : TypeId} {fs : Array Field} {A : Type} [Enc A] [Bnd A] (ht : P.underlying t = some (.struct fs)) (ho : Opens P t A) (hv : Value.okWide P w .any base t v)
    (h : DataW.Trod enc P w 0 (fun _ => true) true t v d ps) (hw : ∀ n ∈ d.weights P t, n ≤ reachBytes) : ∃ a : A, AVR w (fun b => b < w.heap.size) [] (.a ((Enc.enc a).map .n)) v ∧ Bnd.bnd a := by
  obtain ⟨cs, rfl, -⟩ := okWide_struct ht hv
  obtain ⟨fuel, h⟩ := h
  obtain ⟨a, ha, hb⟩ := ho H enc w fuel _ _ h hw
  exact ⟨a, AVR_of_agg ha, hb⟩
theorem cell_lt {w : World} {a : Addr} {v : Value} (h : w.cell? a = some v) : a.block < w.heap.size := by
  apply Classical.byContradiction
  intro hn
  have e : w.heap[a.block]? = none := Array.getElem?_eq_none (by omega)
  simp [World.cell?, e] at h
theorem amb_of {w : World} (h : ∀ g, ambG = some g → ∃ m, w.cell? ⟨g, 0, none⟩ = some (.int .i64 m)) : IL w (fun b => b < w.heap.size) :=
  ⟨fun _ h => h, fun g hg => by
    obtain ⟨m, hm⟩ := h g hg
    exact ⟨cell_lt hm, m, hm⟩⟩
theorem args_rel {args : List AV} {vals : Array Value} (hamb : ∀ g, ambG = some g → ∃ m, w.cell? ⟨g, 0, none⟩ = some (.int .i64 m)) (hl : vals.size = args.length) (h : ∀ (j : Nat) (x : AV) (v : Value), args[j]? = some x → vals[j]? = some v → AVR w (fun b => b < w.heap.size) [] x v) :
    RelV ⟨Sl.of args, [], []⟩ ⟨vals, []⟩ w (fun b => b < w.heap.size) [] (fun _ _ => False) :=
  ⟨by simpa using hl, rfl, fun t v c hv hc => h t v c (by simpa using hv) hc, by simp, by simp, by simp, amb_of hamb⟩
theorem Fr.below {w w' : World} (h : Fr (fun _ => ∃ _ : Nat, False) w w') : RowKit.Below w.heap.size w w' :=
  ⟨h.os, h.tape, h.output, h.size, fun k hk => h.block k hk (fun ⟨_, hf⟩ => hf)⟩
theorem trodAll_below {w w' : World} (hb : RowKit.Below w.heap.size w w') (hl : laidOutB P = true) : ∀ {ts : List TypeId} {vs : List Value} {ds : List (DataW H)} {ps : List MemPlace}, (∀ t ∈ ts, P.readableRec t = true ∧ t < P.types.size) → (∀ x ∈ ps, x.block < w.heap.size) →
    DataW.TrodAll enc P w 0 (fun _ => true) true ts vs ds ps → DataW.TrodAll enc P w' 0 (fun b => decide (b < w.heap.size)) true ts vs ds ps
  | [], vs, ds, ps, _, _, h => by
    obtain ⟨rfl, rfl, rfl⟩ := ChangeShapes.trodAll_nil h
    exact ChangeShapes.trodAll_mk0
  | t :: ts, vs, ds, ps, hr, hlt, h => by
    obtain ⟨v, vs', d, ds', p, q, rfl, rfl, rfl, h1, h2⟩ := ChangeShapes.trodAll_cons h
    exact ⟨p, q, RowKit.Below.trod hl (hr t List.mem_cons_self).1 (hr t List.mem_cons_self).2 h1 hb (fun x hx => hlt x (List.mem_append.2 (.inl hx))),
      trodAll_below hb hl (fun t ht => hr t (List.mem_cons_of_mem _ ht)) (fun x hx => hlt x (List.mem_append.2 (.inr hx))) h2, rfl⟩
end
end
theorem selb {α : Type} (b : Bool) (x y : α) : sel b x y = if b = true then x else y := by cases b <;> rfl
theorem chkb {α : Type} (b : Bool) (x : Option α) : chk b x = if b = true then x else none := by cases b <;> rfl
theorem chk_true {α : Type} {b : Bool} {x : Option α} (h : b = true) : chk b x = x := by subst h; rfl
theorem wr_id {x : Int} (h1 : -9223372036854775808 ≤ x) (h2 : x ≤ 9223372036854775807) : wr x = x := by
  simp [IntKind.wrap, IntKind.signed, IntKind.bits] <;> (try split) <;> omega
theorem zK {i : Nat} (h : i < 4611686018427387904) : wr ((i : Int) + 1) = ((i + 1 : Nat) : Int) := by
  rw [wr_id (by omega) (by omega)]; rfl
theorem wr_pred {i : Nat} (h0 : 0 < i) (h : i < 4611686018427387904) : wr ((i : Int) - 1) = ((i - 1 : Nat) : Int) := by
  rw [wr_id (by omega) (by omega)]; omega
section
variable {A : Type} [Enc A]
@[simp] theorem Vec.set_n (v : Vec A) (k : Nat) (x : A) : (Vec.set v k x).n = v.n := rfl
@[simp] theorem Vec.set_g (v : Vec A) (k : Nat) (x : A) (i : Nat) : (Vec.set v k x).g i = if i = k then x else v.g i := by
  simp only [Vec.set, Enc.mrg_eq, selb, decide_eq_true_eq]
@[simp] theorem Vec.app_n (v w : Vec A) : (Vec.app v w).n = v.n + w.n := rfl
@[simp] theorem Vec.app_g (v w : Vec A) (i : Nat) : (Vec.app v w).g i = if i < v.n then v.g i else w.g (i - v.n) := by
  simp only [Vec.app, Enc.mrg_eq, selb, decide_eq_true_eq]
@[simp] theorem Vec.rep_n (n : Nat) (x : A) : (Vec.rep n x).n = n := rfl
@[simp] theorem Vec.rep_g (n : Nat) (x : A) (i : Nat) : (Vec.rep n x).g i = x := rfl
@[simp] theorem Vec.sub_n (v : Vec A) (l h : Nat) : (Vec.sub v l h).n = h - l := rfl
@[simp] theorem Vec.sub_g (v : Vec A) (l h i : Nat) : (Vec.sub v l h).g i = v.g (l + i) := rfl
@[simp] theorem Vec.nil_n : (Vec.nil : Vec A).n = 0 := rfl
@[simp] theorem Vec.lit_n (l : List A) : (Vec.lit l).n = l.length := rfl
end
def Vec.toL {A : Type} (v : Vec A) : List A := (List.range v.n).map v.g
@[simp] theorem Vec.toL_length {A : Type} (v : Vec A) : v.toL.length = v.n := by simp [Vec.toL]
theorem Vec.toL_get {A : Type} (v : Vec A) (i : Nat) (h : i < v.n) : v.toL[i]? = some (v.g i) := by simp [Vec.toL, h]
theorem Vec.toL_ext {A : Type} {v w : Vec A} (h : v.n = w.n) (h2 : ∀ i, i < v.n → v.g i = w.g i) : v.toL = w.toL := by
  unfold Vec.toL
  rw [← h]
  exact List.map_congr_left fun i hi => h2 i (List.mem_range.1 hi)
theorem Vec.of_toL {A : Type} {v w : Vec A} (h : v.toL = w.toL) : v.n = w.n ∧ ∀ i, i < v.n → v.g i = w.g i := by
  have hn : v.n = w.n := by have := congrArg List.length h; simpa using this
  refine ⟨hn, fun i hi => ?_⟩
  have := congrArg (·[i]?) h
  simp only [Vec.toL_get v i hi, Vec.toL_get w i (hn ▸ hi)] at this
  simpa using this
def Vec.Same {A : Type} (v w : Vec A) : Prop := v.n = w.n ∧ ∀ i, i < v.n → v.g i = w.g i
theorem zP {σ : Type} {τ : Type} (m : σ → Nat) (Inv : σ → Prop) (Post : σ → τ → Prop) (F : Nat → σ → τ)
    (hstep : ∀ k s, Inv s → (∀ s', Inv s' → m s' < m s → Post s' (F k s')) → Post s (F (k + 1) s)) : ∀ k s, m s < k → Inv s → Post s (F k s) := by
  intro k
  induction k with
  | zero => intro s h; omega
  | succ k ih => exact fun s hm hi => hstep k s hi fun s' hi' hm' => ih s' (by omega) hi'
theorem law_calls {P : Program} {f : FuncId} {args : List AV} {vals : Array Value} {W : World} (h : ACc P f args [] true [] fun rv obs => (rv, obs) = (vb true, [])) (hamb : ∀ g, ambG = some g → ∃ m, W.cell? ⟨g, 0, none⟩ = some (.int .i64 m))
    (hl : vals.size = args.length) (hv : ∀ (j : Nat) (x : AV) (v : Value), args[j]? = some x → vals[j]? = some v → AVR W (fun b => b < W.heap.size) [] x v) :
    Calls P f vals W fun e W' => e = .returned (.bool true) ∧ RowKit.Below W.heap.size W W' := by
  refine (h W vals _ [] _ (args_rel hamb hl hv)).mono fun e W' ⟨v, he, hp⟩ => ?_
  obtain ⟨rv, obs, v', I', β', S', h1, h2, -, h4, h5, -, -, -, -, -, hfr⟩ := hp
  obtain ⟨rfl, rfl⟩ : rv = vb true ∧ obs = [] := ⟨congrArg Prod.fst h2, congrArg Prod.snd h2⟩
  obtain rfl : v = v' := by injection h1
  have hb : v = .bool true := by cases h4; rfl
  subst he
  exact ⟨by rw [hb], Fr.below hfr⟩
theorem weights_of {H : Type} {P : Program} {ts : List TypeId} {ds : List (DataW H)} (h : (DataW.weightsEach P ts ds).all (· ≤ reachBytes) = true) {j : Nat} {t : TypeId} {d : DataW H} (ht : ts[j]? = some t) (hd : ds[j]? = some d) :
    ∀ n ∈ d.weights P t, n ≤ reachBytes := fun n hn => by simpa using List.all_eq_true.1 h _ (DataW.weights_mem_each ht hd n hn)
theorem Vec.Same.symm {A : Type} {v w : Vec A} (h : Vec.Same v w) : Vec.Same w v := ⟨h.1.symm, fun i hi => (h.2 i (h.1.symm ▸ hi)).symm⟩
theorem Vec.Same.trans {A : Type} {u v w : Vec A} (h : Vec.Same u v) (h2 : Vec.Same v w) : Vec.Same u w := ⟨h.1.trans h2.1, fun i hi => (h.2 i hi).trans (h2.2 i (h.1 ▸ hi))⟩
theorem AC_same {P : Program} {f : FuncId} {fn : Func} {body : Code} (hf : P.funcs[f]? = some fn) (hn : (fn.name == "runtime.NumGoroutine") = false) (hb : fn.body = some body) {args : List AV} {x : Value} (hx : x.oneCell' = true)
    (h : ∀ (w : World) (vals : Array Value) (I : Nat → Prop) (β : List Value), Amb w I → vals.size = args.length → (∀ (j : Nat) (y : AV) (v : Value), args[j]? = some y → vals[j]? = some v → AVR w I β y v) →
      Calls P f vals w fun e w' => e = .returned x ∧ w' = w) : AC P f args [] false [] fun rv obs => (rv, obs) = (.c (.n (.v x)), []) := by
  intro w vals I β S hr
  refine Goes.of_calls hf hn (by rw [hb]; rfl) ((h w vals I β hr.il.am (by simpa using hr.sz) (fun j y v hy hv => hr.slot j y v (by simpa using hy) hv)).mono ?_)
  rintro e w' ⟨rfl, rfl⟩
  exact ⟨x, rfl, .c (.n (.v x)), [], x, fun _ => False, [], fun _ _ => False, rfl, rfl, Nat.zero_le _, (Im.v hx : Im _ (fun _ => False) (.v x) x), rfl, by simp, by simp, by simp, by simp, by simp, Fr.refl _ _⟩
def bLt (a b : ByteArray) : Prop := a.toList < b.toList
def sN : Nat := 1048576
class Sml (A : Type) where
  sml : A → Prop
instance : Sml Int := ⟨fun x => -9223372036854775808 ≤ x ∧ x ≤ 9223372036854775807⟩
instance {k : IntKind} : Sml (IK k) := ⟨fun x => k.min ≤ x.v ∧ x.v ≤ k.max⟩
instance : Sml Bool := ⟨fun _ => True⟩
instance : Sml ByteArray := ⟨fun s => s.size ≤ sN⟩
instance {A : Type} [Sml A] : Sml (Vec A) := ⟨fun v => v.n ≤ sN ∧ ∀ i, i < v.n → Sml.sml (v.g i)⟩
instance {A B : Type} [Sml A] [Sml B] : Sml (A × B) := ⟨fun p => Sml.sml p.1 ∧ Sml.sml p.2⟩
class Free (A : Type) [Bnd A] [Sml A] : Prop where
  free : ∀ a : A, Bnd.bnd a → Sml.sml a
instance : Free Int := ⟨fun _ h => h⟩
instance {k : IntKind} : Free (IK k) := ⟨fun _ h => h⟩
instance : Free Bool := ⟨fun _ _ => trivial⟩
instance {A B : Type} [Bnd A] [Sml A] [Bnd B] [Sml B] [Free A] [Free B] : Free (A × B) := ⟨fun a h => ⟨Free.free _ h.1, Free.free _ h.2⟩⟩
def SzOk {A : Type} [Bnd A] [Sml A] (F : A → Int → Option Int) : Prop := ∀ (a : A) (s : Int), Bnd.bnd a → 0 ≤ s → s ≤ 1048576 → ∃ r, F a s = some r ∧ (0 ≤ r → r ≤ s ∧ Sml.sml a)
def ToOk {A : Type} [Sml A] (F : A → Option A) : Prop := ∀ a : A, Sml.sml a → ∃ b, F a = some b ∧ Sml.sml b
section
variable {A : Type} [Enc A] [Bnd A] [Sml A]
theorem sz_str (a : ByteArray) (s : Int) (ha : Bnd.bnd a) (h0 : 0 ≤ s) (h1 : s ≤ 1048576) : wr (s - (a.size : Int)) = s - a.size ∧ (0 ≤ s - (a.size : Int) → s - (a.size : Int) ≤ s ∧ Sml.sml a) := by
  have hb : bN = 140737488351232 := rfl
  have ha' : a.size ≤ bN := ha
  exact ⟨wr_id (by omega) (by omega), fun h => ⟨by omega, show a.size ≤ sN by unfold sN; omega⟩⟩
theorem szS_free [Free A] {F : Vec A → Int → Option Int} (hF : ∀ v s, F v s = sel (decide ((wr (s - (v.n : Int))) < (0 : Int))) (some (-1)) (some (wr (s - (v.n : Int))))) : SzOk F := by
  have hb : bN = 140737488351232 := rfl
  rintro v s ⟨hn, hg⟩ h0 h1
  rw [hF, wr_id (by omega) (by omega), selb]
  simp only [decide_eq_true_eq]
  split
  · exact ⟨_, rfl, by omega⟩
  · exact ⟨_, rfl, fun h => ⟨by omega, by unfold sN; omega, fun i hi => Free.free _ (hg i hi)⟩⟩
theorem szS {C : A → Int → Option Int} (hC : SzOk C) {F : Vec A → Int → Option Int} {F0 : Nat → Vec A → Int → Int → (Int → Option Int) → (Int → Option Int) → Option Int}
    (h0 : ∀ k v s i K0 Kr, F0 (k + 1) v s i K0 Kr = sel (decide (i < (v.n : Int))) (chk (decide (0 ≤ i ∧ i < (v.n : Int))) ((C (v.g i.toNat) s).bind fun r => sel (decide (r < (0 : Int))) (Kr (-1)) (F0 k v r (wr (i + 1)) K0 Kr))) (K0 s))
    (hF : ∀ v s, F v s = sel (decide ((wr (s - (v.n : Int))) < (0 : Int))) (some (-1)) (F0 fuelN v (wr (s - (v.n : Int))) 0 some some)) : SzOk F := by
  have hb : bN = 140737488351232 := rfl
  rintro v s ⟨hn, hg⟩ hs0 hs1
  rw [hF, wr_id (by omega) (by omega), selb]
  simp only [decide_eq_true_eq]
  split
  · exact ⟨_, rfl, by omega⟩
  · rename_i hneg
    have key : ∃ r, F0 fuelN v (s - (v.n : Int)) 0 some some = some r ∧ (0 ≤ r → r ≤ s - (v.n : Int) ∧ ∀ i, i < v.n → Sml.sml (v.g i)) := by
      refine zP (σ := Nat × Int) (fun p => v.n - p.1) (fun p => p.1 ≤ v.n ∧ (∀ j, j < p.1 → Sml.sml (v.g j)) ∧ 0 ≤ p.2 ∧ p.2 ≤ s - (v.n : Int)) (fun _ x => ∃ r, x = some r ∧ (0 ≤ r → r ≤ s - (v.n : Int) ∧ ∀ i, i < v.n → Sml.sml (v.g i)))
        (fun k p => F0 k v p.2 (p.1 : Int) some some) ?_ fuelN (0, s - (v.n : Int)) (by unfold fuelN; omega) ⟨Nat.zero_le _, fun j hj => by omega, by omega, by omega⟩
      rintro k ⟨i, q⟩ ⟨h1, h2, h3, h4⟩ ih
      simp only at h1 h2 h3 h4
      simp only [h0, selb, chkb, decide_eq_true_eq, Int.toNat_natCast, Int.ofNat_lt, Int.natCast_nonneg, true_and]
      by_cases hi : i < v.n
      · obtain ⟨r, hr, hr2⟩ := hC (v.g i) q (hg i hi) h3 (by omega)
        simp only [hi, if_true, hr, Option.bind_some, zK (i := i) (by omega)]
        split
        · exact ⟨_, rfl, by omega⟩
        · have hr3 := hr2 (by omega)
          refine ih (i + 1, r) ⟨hi, fun j hj => ?_, by omega, ?_⟩ (by simp only; omega)
          · rcases Nat.lt_or_ge j i with h5 | h5
            · exact h2 j h5
            · obtain rfl : j = i := by omega
              exact hr3.2
          · have := hr3.1; simp only; omega
      · rw [if_neg hi]
        exact ⟨q, rfl, fun h => ⟨h4, fun j hj => h2 j (by omega)⟩⟩
    obtain ⟨r, hr, hr2⟩ := key
    exact ⟨r, hr, fun h => ⟨by have := (hr2 h).1; omega, by unfold sN; omega, (hr2 h).2⟩⟩
theorem toS {B : Int → Bool} (hB : ∀ n : Nat, n ≤ sN → B n = true) {C : A → Option A} (hC : ToOk C) {z : A} {F : Vec A → Option (Vec A)} {F0 : Nat → Vec A → Int → Vec A → (Vec A → Option (Vec A)) → Option (Vec A)}
    (h0 : ∀ k v i u K0, F0 (k + 1) v i u K0 = sel (decide (i < (v.n : Int))) (chk (decide (0 ≤ i ∧ i < (v.n : Int))) ((C (v.g i.toNat)).bind fun r => chk (decide (0 ≤ i ∧ i < (u.n : Int))) (chk (decide (i.toNat < u.n)) (F0 k v (wr (i + 1)) (Vec.set u i.toNat r) K0)))) (K0 u))
    (hF : ∀ v, F v = chk (decide ((v.n : Int) = (v.n : Int) ∧ 0 ≤ (v.n : Int))) (chk (B (v.n : Int)) (F0 fuelN v 0 (Vec.rep v.n z) some))) : ToOk F := by
  have hs : sN = 1048576 := rfl
  rintro v ⟨hn, hg⟩
  rw [hF, chkb, if_pos (by simp), chkb, if_pos (hB _ hn)]
  refine zP (σ := Nat × Vec A) (fun p => v.n - p.1) (fun p => p.1 ≤ v.n ∧ p.2.n = v.n ∧ ∀ j, j < p.1 → Sml.sml (p.2.g j)) (fun _ x => ∃ b, x = some b ∧ Sml.sml b)
    (fun k p => F0 k v (p.1 : Int) p.2 some) ?_ fuelN (0, Vec.rep v.n z) (by unfold fuelN; omega) ⟨Nat.zero_le _, rfl, fun j hj => by omega⟩
  rintro k ⟨i, u⟩ ⟨h1, h2, h3⟩ ih
  simp only at h1 h2 h3
  simp only [h0, selb, chkb, decide_eq_true_eq, Int.toNat_natCast, Int.ofNat_lt, Int.natCast_nonneg, true_and, h2]
  by_cases hi : i < v.n
  · obtain ⟨b, hb, hb2⟩ := hC (v.g i) (hg i hi)
    simp only [hi, if_true, hb, Option.bind_some, zK (i := i) (by omega)]
    refine ih (i + 1, Vec.set u i b) ⟨hi, h2, fun j hj => ?_⟩ (by simp only; omega)
    show Sml.sml ((Vec.set u i b).g j)
    rw [Vec.set_g]
    split
    · exact hb2
    · exact h3 j (by simp only at hj; omega)
  · rw [if_neg hi]
    exact ⟨u, rfl, show u.n ≤ sN by rw [h2]; exact hn, fun j hj => h3 j (by omega)⟩
end
theorem mk_small {b : Nat} (hb : b ≤ 1000000) (n : Nat) (h : n ≤ sN) : mkOk (n : Int) b = true := by
  have hs : sN = 1048576 := rfl
  have hm : maxN = 140737488355328 := rfl
  unfold mkOk
  rw [decide_eq_true_eq]
  have : n * (b + 1) ≤ 1048576 * 1000001 := Nat.mul_le_mul (by omega) (by omega)
  have e : ((n : Int) * ((b : Int) + 1)) = ((n * (b + 1) : Nat) : Int) := by simp
  show (n : Int) * ((b : Int) + 1) ≤ (maxN : Int)
  rw [e]
  omega
theorem to_id {A : Type} [Sml A] {F : A → Option A} (h : ∀ a, F a = some a) : ToOk F := fun a ha => ⟨a, h a, ha⟩
def IsFirst (p : Nat → Prop) (n : Nat) (r : Int) : Prop := (r = -1 ∧ ∀ j, j < n → ¬ p j) ∨ ∃ i : Nat, r = i ∧ i < n ∧ p i ∧ ∀ j, j < i → ¬ p j
theorem IsFirst.one {p : Nat → Prop} {n : Nat} {r q : Int} (h : IsFirst p n r) (k : IsFirst p n q) : r = q := by
  rcases h with ⟨rfl, h⟩ | ⟨i, rfl, h1, h2, h3⟩ <;> rcases k with ⟨rfl, k⟩ | ⟨j, rfl, k1, k2, k3⟩
  · rfl
  · exact absurd k2 (h j k1)
  · exact absurd h2 (k i h1)
  · rcases Nat.lt_trichotomy i j with hlt | rfl | hlt
    · exact absurd h2 (k3 i hlt)
    · rfl
    · exact absurd k2 (h3 j hlt)
theorem ZH {τ : Type} {p : Nat → Prop} {n : Nat} (hn : n ≤ bN) (G : Nat → Int → τ) (a : τ) (b : Int → τ)
    (h : ∀ k (i : Nat), (i < n → p i → G (k + 1) i = b i) ∧ (i < n → ¬ p i → G (k + 1) i = G k ((i + 1 : Nat) : Int)) ∧ (¬ i < n → G (k + 1) i = a)) :
    ((∀ j, j < n → ¬ p j) ∧ G fuelN 0 = a) ∨ ∃ i : Nat, i < n ∧ p i ∧ (∀ j, j < i → ¬ p j) ∧ G fuelN 0 = b i := by
  have hb : bN = 140737488351232 := rfl
  refine zP (σ := Nat) (fun i => n - i) (fun i => i ≤ n ∧ ∀ j, j < i → ¬ p j)
    (fun _ x => ((∀ j, j < n → ¬ p j) ∧ x = a) ∨ ∃ i : Nat, i < n ∧ p i ∧ (∀ j, j < i → ¬ p j) ∧ x = b i) (fun k i => G k (i : Int)) ?_ fuelN 0 (by unfold fuelN; omega) ⟨Nat.zero_le _, fun j hj => by omega⟩
  intro k i ⟨hi, hg⟩ ih
  obtain ⟨h1, h2, h3⟩ := h k i
  by_cases hi2 : i < n
  · by_cases hp : p i
    · exact .inr ⟨i, hi2, hp, hg, h1 hi2 hp⟩
    · rw [h2 hi2 hp]
      refine ih (i + 1) ⟨hi2, fun j hj => ?_⟩ (by omega)
      rcases Nat.lt_or_ge j i with h5 | h5
      · exact hg j h5
      · obtain rfl : j = i := by omega
        exact hp
  · exact .inl ⟨fun j hj => hg j (by omega), h3 hi2⟩
end Go.Al
