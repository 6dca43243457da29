import Derived.Test.YtbpicgilplnmoaaAl31
set_option linter.unusedVariables false
set_option linter.unusedSimpArgs false
namespace Go.Al

/-! ### 40. Objects picked and put in order -/
def pos : List Nat → Nat → Option Nat
  | [], _ => Option.none
  | j :: js, i => match j == i with
    | true => some 0
    | false => (pos js i).map (· + 1)
theorem pos_get : ∀ {ids : List Nat} {i k : Nat}, pos ids i = some k → ids[k]? = some i
  | [], _, _, h => by simp [pos] at h
  | j :: js, i, k, h => by
    unfold pos at h
    split at h
    · rename_i he
      simp only [Option.some.injEq] at h
      subst h
      simpa using he
    · simp only [Option.map_eq_some_iff] at h
      obtain ⟨k', hk', rfl⟩ := h
      simpa using pos_get hk'
def C.ren (ids : List Nat) : C → C
  | .n x => .n x
  | .h i => match pos ids i with
    | some k => .h k
    | Option.none => .u
  | .p i off => match pos ids i with
    | some k => .p k off
    | Option.none => .u
  | .z => .z
  | _ => .u
def K.ren (ids : List Nat) : K → K
  | .c x => .c (x.ren ids)
  | .a cs => .a (cs.map (C.ren ids))
def AV.ren (ids : List Nat) : AV → AV
  | .c x => .c (x.ren ids)
  | .a cs => .a (cs.map (C.ren ids))
  | .tup vs => .tup (vs.map (K.ren ids))
  | .fn f cs => .fn f (cs.map (C.ren ids))
  | .ea i sz idx f => match pos ids i with
    | some k => .ea k sz idx f
    | Option.none => .dead
  | .ra cs => .ra cs
  | _ => .dead
def Ob.ren (ids : List Nat) : Ob → Ob
  | .row sz xs hole => .row sz xs (hole.map fun h => (h.1, h.2.1, h.2.2.bind (pos ids)))
  | .box cs => .box (cs.map (C.ren ids))
  | .fro sz xs => .fro sz xs
  | .none => .none

section
variable {w : World} {I : Nat → Prop} {β β' : List Value} {ids : List Nat} (hβ : ∀ (i k : Nat) (b : Value), pos ids i = some k → β[i]? = some b → β'[k]? = some b)
include hβ
theorem CR.ren {x : C} {v : Value} (h : CR w I β x v) : CR w I β' (x.ren ids) v := by
  have h1 := CR.one h
  cases x with
  | n x => exact h
  | h i =>
    simp only [C.ren]
    split
    · exact ⟨hβ _ _ _ ‹_› h.1, h.2⟩
    · exact h1
  | p i off =>
    simp only [C.ren]
    split
    · obtain ⟨g, h2, h3⟩ := h; exact ⟨g, hβ _ _ _ ‹_› h2, h3⟩
    · exact h1
  | z => exact h
  | _ => exact h1
theorem CsR.ren {cs : List C} {a : Array Value} (h : CsR w I β cs a) : CsR w I β' (cs.map (C.ren ids)) a :=
  ⟨by simpa using h.1, fun j x v hx hv => by
    simp only [List.getElem?_map, Option.map_eq_some_iff] at hx
    obtain ⟨y, hy, rfl⟩ := hx
    exact CR.ren hβ (h.2 j y v hy hv)⟩
theorem AVR.ren {x : AV} {v : Value} (h : AVR w I β x v) : AVR w I β' (x.ren ids) v := by
  cases x with
  | c x => exact CR.ren hβ h
  | a cs => obtain ⟨a, rfl, h⟩ := h; exact ⟨a, rfl, CsR.ren hβ h⟩
  | tup vs =>
    obtain ⟨a, rfl, hl, h⟩ := h
    refine ⟨a, rfl, by simpa using hl, fun j x v hx hv => ?_⟩
    simp only [List.getElem?_map, Option.map_eq_some_iff] at hx
    obtain ⟨y, hy, rfl⟩ := hx
    have := h j y v hy hv
    cases y with
    | c y => exact CR.ren hβ this
    | a cs => obtain ⟨a, rfl, h⟩ := this; exact ⟨a, rfl, CsR.ren hβ h⟩
  | fn f cs => obtain ⟨a, rfl, h⟩ := h; exact ⟨a, rfl, CsR.ren hβ h⟩
  | ea i sz idx f =>
    simp only [AV.ren]
    split
    · obtain ⟨g, n, cap, h, rfl⟩ := h; exact ⟨g, n, cap, hβ _ _ _ ‹_› h, rfl⟩
    · trivial
  | ra cs => obtain ⟨ad, c, rfl, hI, h1, h2⟩ := h; exact ⟨ad, c, rfl, hI, h1, h2⟩
  | _ => trivial
theorem ObR.ren {b : Value} {S : Nat → Prop} {o : Ob} (h : ObR w I β b S o) : ObR w I β' b S (o.ren ids) := by
  cases o with
  | row sz xs hole =>
    rcases h with h | ⟨g, cap, e, cur, fr, c, F, h1, h2, h3, h4, h5, h6, h7, h8, h9, h10, H, hk, hF, hD⟩
    · exact .inl h
    · refine .inr ⟨g, cap, e, cur, fr, c, F, h1, h2, h3, h4, h5, h6, h7, h8, h9, h10, fun i j x hx hh => H i j x hx (fun ⟨k, hk⟩ => hh ⟨_, List.mem_map.2 ⟨_, hk, rfl⟩⟩), fun i j k h => ?_, hF, hD⟩
      obtain ⟨⟨i', j', k'⟩, hm, he⟩ := List.mem_map.1 h
      simp only [Prod.mk.injEq] at he
      obtain ⟨rfl, rfl, he⟩ := he
      cases k' with
      | none => cases he
      | some k' => exact hβ _ _ _ (by simpa using he) (hk _ _ _ hm)
  | box cs => obtain ⟨g, cur, e, rfl, hg, hb, H⟩ := h; exact ⟨g, cur, e, rfl, hg, hb, CsR.ren hβ H⟩
  | fro sz xs => exact h
  | none => trivial
end

def St.pick (st : St) (ids : List Nat) : St := ⟨st.slots.map (AV.ren ids), ids.map fun i => (st.obj i).ren ids, st.ks⟩
theorem StLe.pick {st : St} {ids : List Nat} (hnd : ids.Nodup) (hlt : ∀ i ∈ ids, i < st.obs.length) (hks : ∀ i, kb st.ks i = true → ids[i]? = some i) : StLe st (st.pick ids) := by
  rintro cx a w ⟨I, β, S, hr, hc⟩
  have hβ' : ∀ (k i : Nat), ids[k]? = some i → (ids.map fun i => (β[i]?).getD undef)[k]? = β[i]? := by
    intro k i h
    have hi : i < β.length := by rw [hr.bl]; exact hlt i (List.mem_of_getElem? h)
    simp [h, List.getElem?_eq_getElem hi]
  have hβ : ∀ (i k : Nat) (b : Value), pos ids i = some k → β[i]? = some b → (ids.map fun i => (β[i]?).getD undef)[k]? = some b := fun i k b h hb => by rw [hβ' k i (pos_get h)]; exact hb
  refine ⟨I, ids.map fun i => (β[i]?).getD undef, fun k b => ∃ i, ids[k]? = some i ∧ S i b, ⟨by simpa [St.pick] using hr.sz, by simp [St.pick], fun t v u hv hu => ?_, fun k o b ho hb => ?_, ?_, fun k b hb => ?_, hr.il⟩,
    ⟨fun k b hb => ?_, hc.isub, hc.iinv, hc.frame, fun i hi hki => ?_, hc.defers⟩⟩
  · simp only [St.pick, Sl.getElem?_map, Option.map_eq_some_iff] at hv
    obtain ⟨v', hv', rfl⟩ := hv
    exact AVR.ren hβ (hr.slot t v' u hv' hu)
  · simp only [St.pick, List.getElem?_map, Option.map_eq_some_iff] at ho
    obtain ⟨i, hi, rfl⟩ := ho
    rw [hβ' k i hi] at hb
    have hil : i < st.obs.length := hlt i (List.mem_of_getElem? hi)
    have hoi : st.obs[i]? = some (st.obj i) := by rw [St.obj, List.getElem?_eq_getElem hil]; rfl
    exact (ObR.ren hβ (hr.ob i _ b hoi hb)).mono (fun _ h => h) (fun _ _ => rfl) (fun _ _ h => h) (fun _ _ => rfl) (fun q hq => ⟨i, hi, hq⟩)
  · rintro j k b ⟨i, h1, h2⟩ ⟨i', h3, h4⟩
    have := hr.sdis i i' b h2 h4
    subst this
    have e1 := (List.getElem?_eq_some_iff.1 h1).2
    have e2 := (List.getElem?_eq_some_iff.1 h3).2
    exact (List.getElem_inj hnd).1 (e1.trans e2.symm)
  · obtain ⟨i, h1, h2⟩ := hb
    obtain ⟨q1, q2, q3⟩ := hr.slt i b h2
    exact ⟨by simpa [St.pick] using (List.getElem?_eq_some_iff.1 h1).1, q2, q3⟩
  · obtain ⟨i, -, h2⟩ := hb
    exact hc.own i b h2
  · rw [hβ' i i (hks i hki)]
    exact hc.keep i hi hki

/-! ### 41. Empty slices become objects, rows become immutable -/
inductive Loc where
  | s (t : Nat)
  | a (t j : Nat)
  | p (t j : Nat)
def St.getC (st : St) : Loc → Option C
  | .s t => match st.get t with
    | .c x => some x
    | _ => Option.none
  | .a t j => match st.get t with
    | .a cs => cs[j]?
    | _ => Option.none
  | .p t j => match st.get t with
    | .c (.p i off) => match st.obj i with
      | .box cs => cs[off + j]?
      | _ => Option.none
    | _ => Option.none
def St.setC (st : St) (y : C) : Loc → St
  | .s t => { st with slots := st.slots.set t (.c y) }
  | .a t j => match st.get t with
    | .a cs => { st with slots := st.slots.set t (.a (cs.set j y)) }
    | _ => st
  | .p t j => match st.get t with
    | .c (.p i off) => match st.obj i with
      | .box cs => { st with obs := st.obs.set i (.box (cs.set (off + j) y)) }
      | _ => st
    | _ => st

section
variable {st : St} {a : Act} {w : World} {I : Nat → Prop} {β : List Value} {S : Nat → Nat → Prop}
theorem CsR.set1 {cs : List C} {arr : Array Value} (h : CsR w I β cs arr) {j : Nat} {y : C} (hy : ∀ v, arr[j]? = some v → CR w I β y v) : CsR w I β (cs.set j y) arr := by
  refine ⟨by simpa using h.1, fun k x v hx hv => ?_⟩
  rw [List.getElem?_set] at hx
  split at hx
  · rename_i e
    subst e
    split at hx
    · simp only [Option.some.injEq] at hx
      subst hx
      exact hy v hv
    · cases hx
  · exact h.2 k x v hx hv
theorem get_slot {t : Nat} {av : AV} (h : st.get t = av) (hne : av ≠ .dead) : st.slots[t]? = some av := by
  rw [St.get_eq] at h
  cases hs : st.slots[t]? with
  | none => simp [hs] at h; exact absurd h.symm hne
  | some x => simp [hs] at h; rw [h]
theorem RelV.setSlot (hr : RelV st a w I β S) {t : Nat} {y : AV} (hy : ∀ v, a.tmps[t]? = some v → AVR w I β y v) : RelV { st with slots := st.slots.set t y } a w I β S := by
  refine ⟨by simpa using hr.sz, hr.bl, fun t' v u hv hu => ?_, hr.ob, hr.sdis, hr.slt, hr.il⟩
  replace hv : (st.slots.set t y)[t']? = some v := hv
  rw [Sl.getElem?_set] at hv
  split at hv
  · rename_i e
    subst e
    split at hv
    · simp only [Option.some.injEq] at hv
      subst hv
      exact hy u hu
    · cases hv
  · exact hr.slot t' v u hv hu

/-- A cell of the state: what it holds may be told in other words. -/
theorem RelV.cell (hr : RelV st a w I β S) {l : Loc} {x : C} (h : st.getC l = some x) : ∃ v, CR w I β x v ∧ ∀ (st' : St) (I' : Nat → Prop) (β' : List Value) (S' : Nat → Nat → Prop) (y : C),
    RelV st' a w I' β' S' → st'.slots = st.slots → (∀ (i : Nat) (cs : List C), st.obj i = .box cs → st'.obj i = .box cs) → (∀ (i : Nat) (b : Value), β[i]? = some b → β'[i]? = some b) → CR w I' β' y v → RelV (st'.setC y l) a w I' β' S' := by
  cases l with
  | s t =>
    simp only [St.getC] at h
    split at h
    · rename_i x' hx
      simp only [Option.some.injEq] at h
      subst h
      have hs := get_slot hx (by simp)
      have hlt : t < a.tmps.size := by rw [hr.sz]; exact (Sl.some_iff.1 hs).1
      refine ⟨a.tmps[t], hr.slot t _ _ hs (by simp [hlt]), fun st' I' β' S' y hr' e1 e2 _ hy => ?_⟩
      refine hr'.setSlot fun v hv => ?_
      rw [Array.getElem?_eq_getElem hlt] at hv
      obtain rfl := Option.some.inj hv
      exact hy
    · cases h
  | a t j =>
    simp only [St.getC] at h
    split at h
    · rename_i cs hx
      have hs := get_slot hx (by simp)
      have hlt : t < a.tmps.size := by rw [hr.sz]; exact (Sl.some_iff.1 hs).1
      obtain ⟨arr, hv, hcs⟩ := hr.slot t _ _ hs (by simp [hlt] : a.tmps[t]? = some a.tmps[t])
      have hj : j < arr.size := by rw [hcs.1]; exact (List.getElem?_eq_some_iff.1 h).1
      refine ⟨arr[j], hcs.2 j x _ h (by simp [hj]), fun st' I' β' S' y hr' e1 e2 _ hy => ?_⟩
      have hg : st'.get t = .a cs := by unfold St.get; rw [e1]; exact hx
      simp only [St.setC, hg]
      refine hr'.setSlot fun v hv' => ?_
      rw [Array.getElem?_eq_getElem hlt] at hv'
      obtain rfl := Option.some.inj hv'
      have hs' := get_slot hg (by simp)
      obtain ⟨arr', hv2, hcs'⟩ := hr'.slot t _ _ hs' (by simp [hlt] : a.tmps[t]? = some a.tmps[t])
      have e : arr' = arr := by rw [hv] at hv2; injection hv2 with h; exact h.symm
      subst e
      exact ⟨_, hv, hcs'.set1 fun v hv => by
        rw [Array.getElem?_eq_getElem hj] at hv
        obtain rfl := Option.some.inj hv
        exact hy⟩
    · cases h
  | p t j =>
    simp only [St.getC] at h
    split at h
    · rename_i i off hx
      split at h
      · rename_i cs hobj
        obtain ⟨g, cur, e, hb, hg, hh, hcs⟩ := hr.box hobj
        have hj : off + j < cur.size := by rw [hcs.1]; exact (List.getElem?_eq_some_iff.1 h).1
        refine ⟨cur[off + j], hcs.2 _ x _ h (by simp [hj]), fun st' I' β' S' y hr' e1 e2 e3 hy => ?_⟩
        have hgt : st'.get t = .c (.p i off) := by unfold St.get; rw [e1]; exact hx
        have hobj' := e2 i cs hobj
        simp only [St.setC, hgt, hobj']
        refine ⟨hr'.sz, by simpa using hr'.bl, hr'.slot, fun k o b ho hb' => ?_, hr'.sdis, fun k b hb' => by simpa using hr'.slt k b hb', hr'.il⟩
        rw [List.getElem?_set] at ho
        split at ho
        · rename_i he
          subst he
          split at ho
          · simp only [Option.some.injEq] at ho
            subst ho
            obtain ⟨b2, hb2, g', cur', e', hbv, hg', hh', hcs'⟩ := hr'.obj hobj' (by simp)
            rw [hb'] at hb2
            obtain rfl := Option.some.inj hb2
            have hbb := e3 i _ hb
            rw [hb'] at hbb
            have hbb' := Option.some.inj hbb
            rw [hbv] at hbb'
            have hgg : g' = g := by simpa using hbb'
            subst hgg
            rw [hh] at hh'
            have hcc : cur' = cur := by
              have := Option.some.inj hh'
              injection this with h1 _ _
              exact h1.symm
            subst hcc
            refine ⟨g', cur', e, hbv, hg', hh, hcs'.set1 fun v hv => ?_⟩
            rw [Array.getElem?_eq_getElem hj] at hv
            obtain rfl := Option.some.inj hv
            exact hy
          · cases ho
        · exact hr'.ob k o b ho hb'
      · cases h
    · cases h

theorem RelV.ext_nil (hr : RelV st a w I β S) {sz : Nat} {xs : Rw N} (h0 : xs.n = 0) (A : Option Addr) : RelV { st with obs := st.obs ++ [.row sz xs []] } a w I (β ++ [.slice A 0 0]) S := by
  have hβ : ∀ (i : Nat) (b : Value), β[i]? = some b → (β ++ [.slice A 0 0])[i]? = some b := fun i b hb => by rw [List.getElem?_append_left (List.getElem?_eq_some_iff.1 hb).1]; exact hb
  refine ⟨hr.sz, by simp [hr.bl], fun t v u hv hu => (hr.slot t v u hv hu).mono (fun _ h => h) (fun _ _ => rfl) hβ, fun i o b ho hb => ?_, hr.sdis, fun i b hb => ?_, hr.il⟩
  · rcases Nat.lt_or_ge i st.obs.length with hl | hge
    · rw [List.getElem?_append_left hl] at ho
      rw [List.getElem?_append_left (by rw [hr.bl]; exact hl)] at hb
      exact (hr.ob i o b ho hb).mono (fun _ h => h) (fun _ _ => rfl) hβ (fun _ _ => rfl) (fun _ h => h)
    · rw [List.getElem?_append_right hge] at ho
      rw [List.getElem?_append_right (by rw [hr.bl]; exact hge), hr.bl] at hb
      have hk0 : i - st.obs.length = 0 := by
        by_cases h : i - st.obs.length = 0
        · exact h
        · rw [show i - st.obs.length = (i - st.obs.length - 1) + 1 by omega] at ho
          simp at ho
      rw [hk0] at ho hb
      simp at ho hb
      subst ho; subst hb
      exact .inl ⟨h0, A, rfl⟩
  · obtain ⟨h1, h2, h3⟩ := hr.slt i b hb
    exact ⟨by simp; omega, h2, h3⟩
end

inductive Cmd where
  | ad (l : Loc) (ty : TypeId)
  | th (l : Loc) (ty : TypeId)
  | fr (l : Loc)
def zeOf (P : Program) (t : TypeId) : Option ZE := match (tyOf P t).zs with
  | [some z] => some z
  | _ => Option.none
def Cmd.run (P : Program) (st : St) : Cmd → St
  | .ad l ty => match st.getC l with
    | some .z => match zeOf P ty with
      | some z => St.setC { st with obs := st.obs ++ [.row z.1 ⟨0, fun _ => z.2⟩ []] } (.h st.obs.length) l
      | Option.none => st
    | _ => st
  | .th l ty => match st.getC l with
    | some .z => match zeOf P ty with
      | some z => st.setC (.n z.nil) l
      | Option.none => st
    | _ => st
  | .fr l => match st.getC l with
    | some (.h i) => match st.obj i with
      | .row sz xs [] => St.setC { st with obs := st.obs.set i (.fro sz xs) } (.n (.sl sz xs)) l
      | .fro sz xs => st.setC (.n (.sl sz xs)) l
      | _ => st
    | _ => st

theorem setC_ks (st : St) (y : C) (l : Loc) : (st.setC y l).ks = st.ks := by
  cases l <;> simp only [St.setC] <;> (try split) <;> (try split) <;> rfl
theorem RelC.ks {c : Cx} {st st' : St} {a : Act} {w : World} {I : Nat → Prop} {β : List Value} {S : Nat → Nat → Prop} (h : RelC c st a w I β S) (e : st'.ks = st.ks) : RelC c st' a w I β S :=
  ⟨h.own, h.isub, h.iinv, h.frame, by rw [e]; exact h.keep, h.defers⟩

theorem Cmd.le (P : Program) (st : St) (cmd : Cmd) : StLe st (cmd.run P st) := by
  rintro cx a w ⟨I, β, S, hr, hc⟩
  cases cmd with
  | ad l ty =>
    simp only [Cmd.run]
    split
    · rename_i hz
      split
      · rename_i z hzz
        obtain ⟨v, hv, hset⟩ := hr.cell hz
        obtain ⟨A, rfl⟩ := hv
        have hβ : ∀ (i : Nat) (b : Value), β[i]? = some b → (β ++ [.slice A 0 0])[i]? = some b := fun i b hb => by rw [List.getElem?_append_left (List.getElem?_eq_some_iff.1 hb).1]; exact hb
        refine ⟨I, β ++ [.slice A 0 0], S, hset _ I _ S (.h st.obs.length) (hr.ext_nil rfl A) rfl (fun i cs h => ?_) hβ ⟨by rw [← hr.bl]; simp, rfl⟩, RelC.ks ⟨hc.own, hc.isub, hc.iinv, hc.frame, fun i hi hki => ?_, hc.defers⟩ (setC_ks _ _ _)⟩
        · have hio := obj_some h (by simp)
          unfold St.obj
          rw [List.getElem?_append_left (List.getElem?_eq_some_iff.1 hio).1, hio]
          rfl
        · have := hc.klt hi hki
          rw [List.getElem?_append_left this]
          exact hc.keep i hi hki
      · exact ⟨I, β, S, hr, hc⟩
    · exact ⟨I, β, S, hr, hc⟩
  | th l ty =>
    simp only [Cmd.run]
    split
    · rename_i hz
      split
      · rename_i z hzz
        obtain ⟨v, hv, hset⟩ := hr.cell hz
        obtain ⟨A, rfl⟩ := hv
        exact ⟨I, β, S, hset st I β S _ hr rfl (fun _ _ h => h) (fun _ _ h => h) (Im.zero rfl A), hc.ks (setC_ks _ _ _)⟩
      · exact ⟨I, β, S, hr, hc⟩
    · exact ⟨I, β, S, hr, hc⟩
  | fr l =>
    simp only [Cmd.run]
    split
    · rename_i i hz
      obtain ⟨v, hv, hset⟩ := hr.cell hz
      split
      · rename_i sz xs hobj
        have hle := StLe.freeze st i
        unfold St.freeze at hle
        rw [hobj] at hle
        -- the frozen state
        have hio := obj_some hobj (by simp)
        have hi : i < st.obs.length := (List.getElem?_eq_some_iff.1 hio).1
        have hrow := hr.hdr (i := i) (v := v) hv hobj (by simp)
        have hr2 : RelV { st with obs := st.obs.set i (.fro sz xs) } a w (fun b => I b ∨ S i b) β (fun k b => k ≠ i ∧ S k b) := by
          refine ⟨hr.sz, by simpa using hr.bl, fun t v u hv hu => (hr.slot t v u hv hu).mono (fun _ h => .inl h) (fun _ _ => rfl) (fun _ _ h => h), fun k o b ho hb => ?_,
            fun k j b hk hj => hr.sdis k j b hk.2 hj.2, fun k b hb => ?_, hr.il.mono (fun _ h => .inl h) (fun _ _ => rfl) fun b hb => ?_⟩
          · rw [List.getElem?_set] at ho
            split at ho
            · rename_i he
              subst he
              simp only [hi, if_true, Option.some.injEq] at ho
              subst ho
              exact (RowR.own (hr.ob i _ b hio hb)).lend (fun _ h => .inl h) (fun _ h => .inr h)
            · rename_i hne
              exact (hr.ob k o b ho hb).mono (fun _ h => .inl h) (fun _ _ => rfl) (fun _ _ h => h) (fun _ _ => rfl) (fun q hq => ⟨fun h => hne h.symm, hq⟩)
          · obtain ⟨h1, h2, h3⟩ := hr.slt k b hb.2
            refine ⟨by simpa using h1, h2, ?_⟩
            rintro (h | h)
            · exact h3 h
            · exact hb.1 (hr.sdis k i b hb.2 h)
          · rcases hb with hb | hb
            · exact hr.ilt b hb
            · exact (hr.slt i b hb).2.1
        have hc2 : RelC cx { st with obs := st.obs.set i (.fro sz xs) } a w (fun b => I b ∨ S i b) β (fun k b => k ≠ i ∧ S k b) :=
          ⟨fun k b hb => hc.own k b hb.2, fun b hb => .inl (hc.isub b hb), fun b hb => hb.elim (hc.iinv b) (fun h => .inr (hc.own i b h)), hc.frame, hc.keep, hc.defers⟩
        refine ⟨_, _, _, hset _ _ β _ _ hr2 rfl (fun j cs h => ?_) (fun _ _ h => h) ((RowR.own hrow).lend (fun _ h => .inl h) (fun _ h => .inr h)), hc2.ks (setC_ks _ _ _)⟩
        have hne : i ≠ j := by rintro rfl; rw [hobj] at h; cases h
        have hjo := obj_some h (by simp)
        unfold St.obj
        simp only
        rw [List.getElem?_set_ne hne, hjo]
        rfl
      · rename_i sz xs hobj
        exact ⟨I, β, S, hset st I β S _ hr rfl (fun _ _ h => h) (fun _ _ h => h) (hr.hdr (i := i) (v := v) hv hobj (by simp)), hc.ks (setC_ks _ _ _)⟩
      · exact ⟨I, β, S, hr, hc⟩
    · exact ⟨I, β, S, hr, hc⟩

end Go.Al
