import Derived.Test.YtbpicgilplnmoaaAl24
set_option linter.unusedVariables false
set_option linter.unusedSimpArgs false
namespace Go.Al

/-! ### 29. What is borrowed: it may be read as long as nothing is written -/
def C.unb : C → C
  | .b _ _ => .u
  | x => x
def K.unb : K → K
  | .c x => .c x.unb
  | .a cs => .a (cs.map C.unb)
def AV.unb : AV → AV
  | .c x => .c x.unb
  | .a cs => .a (cs.map C.unb)
  | .tup vs => .tup (vs.map K.unb)
  | .fn f cs => .fn f (cs.map C.unb)
  | .rb _ _ => .dead
  | x => x
def Ob.unb : Ob → Ob
  | .box cs => .box (cs.map C.unb)
  | o => o
def St.unb (st : St) : St := { st with slots := st.slots.map AV.unb }

def CB (w : World) (J : Nat → Prop) : C → Value → Prop
  | .b x _, v => Im w J x v
  | _, _ => True
def CsB (w : World) (J : Nat → Prop) (cs : List C) (a : Array Value) : Prop := ∀ (j : Nat) (x : C) (v : Value), cs[j]? = some x → a[j]? = some v → CB w J x v
def AB (w : World) (J : Nat → Prop) : AV → Value → Prop
  | .c x, v => CB w J x v
  | .a cs, v => ∀ arr, v = .agg arr → CsB w J cs arr
  | .fn f cs, v => ∀ arr, v = .func (.func f) #[] arr → CsB w J cs arr
  | .rb cs _, v => AVR w J [] (.ra cs) v
  | _, _ => True
def BorR (st : St) (a : Act) (w : World) (J : Nat → Prop) : Prop := ∀ (t : Nat) (av : AV) (v : Value), st.slots[t]? = some av → a.tmps[t]? = some v → AB w J av v
def RelB (c : Cx) (st : St) (a : Act) (w : World) : Prop := ∃ I β S, RelV st a w I β S ∧ RelC c st a w I β S ∧ BorR st a w (fun b => I b ∨ ∃ i, S i b)

section
variable {w w' : World} {I J J' : Nat → Prop} {β : List Value}
theorem CR.unb {x : C} {v : Value} (h : CR w I β x v) : CR w I β x.unb v := by cases x <;> exact h
theorem CsR.unb {cs : List C} {a : Array Value} (h : CsR w I β cs a) : CsR w I β (cs.map C.unb) a :=
  ⟨by simpa using h.1, fun j x v hx hv => by
    simp only [List.getElem?_map, Option.map_eq_some_iff] at hx
    obtain ⟨y, hy, rfl⟩ := hx
    exact (h.2 j y v hy hv).unb⟩
theorem KR.unb {x : K} {v : Value} (h : KR w I β x v) : KR w I β x.unb v := by
  cases x with
  | c x => exact CR.unb h
  | a cs => obtain ⟨a, rfl, h⟩ := h; exact ⟨a, rfl, h.unb⟩
theorem AVR.unb {x : AV} {v : Value} (h : AVR w I β x v) : AVR w I β x.unb v := by
  cases x with
  | c x => exact CR.unb h
  | a cs => obtain ⟨a, rfl, h⟩ := h; exact ⟨a, rfl, h.unb⟩
  | tup vs =>
    obtain ⟨a, rfl, hl, h⟩ := h
    refine ⟨a, rfl, by simpa using hl, fun j x v hx hv => ?_⟩
    simp only [List.getElem?_map, Option.map_eq_some_iff] at hx
    obtain ⟨y, hy, rfl⟩ := hx
    exact (h j y v hy hv).unb
  | fn f cs => obtain ⟨a, rfl, h⟩ := h; exact ⟨a, rfl, h.unb⟩
  | _ => first | exact h | trivial
theorem ObR.unb {b : Value} {S : Nat → Prop} {o : Ob} (h : ObR w I β b S o) : ObR w I β b S o.unb := by
  cases o with
  | box cs => obtain ⟨g, cur, e, rfl, hg, hb, H⟩ := h; exact ⟨g, cur, e, rfl, hg, hb, H.unb⟩
  | _ => exact h
theorem CB_unb (x : C) (v : Value) : CB w J x.unb v := by cases x <;> trivial
theorem CsB_unb (cs : List C) (a : Array Value) : CsB w J (cs.map C.unb) a := fun j x v hx hv => by
  simp only [List.getElem?_map, Option.map_eq_some_iff] at hx
  obtain ⟨y, hy, rfl⟩ := hx
  exact CB_unb _ _
theorem AB_unb (x : AV) (v : Value) : AB w J x.unb v := by
  cases x with
  | c x => exact CB_unb x v
  | a cs => exact fun arr _ => CsB_unb cs arr
  | fn f cs => exact fun arr _ => CsB_unb cs arr
  | _ => trivial
theorem CB.mono (hJ : ∀ b, J b → J' b) (hw : ∀ b, J b → w'.heap[b]? = w.heap[b]?) {x : C} {v : Value} (h : CB w J x v) : CB w' J' x v := by
  cases x with
  | b x loc => exact Im.mono hJ hw h
  | _ => trivial
theorem AB.mono (hJ : ∀ b, J b → J' b) (hw : ∀ b, J b → w'.heap[b]? = w.heap[b]?) {x : AV} {v : Value} (h : AB w J x v) : AB w' J' x v := by
  cases x with
  | c x => exact CB.mono hJ hw h
  | a cs => exact fun arr e j x v hx hv => CB.mono hJ hw (h arr e j x v hx hv)
  | fn f cs => exact fun arr e j x v hx hv => CB.mono hJ hw (h arr e j x v hx hv)
  | rb cs loc => exact AVR.mono (x := .ra cs) (β := []) (β' := []) hJ hw (fun _ _ h => h) h
  | _ => trivial
end

/-! ### 30. All is lent -/
def lendC (st : St) (bor : Bool) : C → Option N
  | .n x => some x
  | .b x _ => if bor = true then some x else Option.none
  | .h i => match st.obj i with
    | .row sz xs [] => some (.sl sz xs)
    | .fro sz xs => some (.sl sz xs)
    | _ => Option.none
  | _ => Option.none
def lendCC (st : St) : C → C
  | .z => .z
  | x => match lendC st true x with
    | some y => .n y
    | Option.none => .u
def lendAV (st : St) : AV → AV
  | .c (.p i off) => match st.obj i with
    | .box bs => match allSome ((bs.drop off).map (lendC st false)) with
      | some ns => .ra ns
      | Option.none => .dead
    | _ => .dead
  | .c x => .c (lendCC st x)
  | .a cs => .a (cs.map (lendCC st))
  | .fn f cs => .fn f (cs.map (lendCC st))
  | .ra cs => .ra cs
  | .rb cs _ => .ra cs
  | _ => .dead
def St.lend (st : St) : St := ⟨st.slots.map (lendAV st), [], []⟩

section
variable {st : St} {a : Act} {w : World} {I : Nat → Prop} {β : List Value} {S : Nat → Nat → Prop}
theorem lendC_false {x : C} {y : N} (h : lendC st false x = some y) : passC st x (.n y) := by
  unfold lendC at h
  split at h
  · simp only [Option.some.injEq] at h; subst h; rfl
  · simp at h
  · split at h
    · rename_i ho; simp only [Option.some.injEq] at h; subst h; exact .inl ho
    · rename_i ho; simp only [Option.some.injEq] at h; subst h; exact .inr ho
    · cases h
  · cases h
theorem lendC_true {x : C} {y : N} (h : lendC st true x = some y) : passC st x (.n y) ∨ ∃ loc, x = .b y loc := by
  unfold lendC at h
  split at h
  · simp only [Option.some.injEq] at h; subst h; exact .inl rfl
  · simp only [if_true, Option.some.injEq] at h; subst h; exact .inr ⟨_, rfl⟩
  · split at h
    · rename_i ho; simp only [Option.some.injEq] at h; subst h; exact .inl (.inl ho)
    · rename_i ho; simp only [Option.some.injEq] at h; subst h; exact .inl (.inr ho)
    · cases h
  · cases h

theorem lendCs_pass : ∀ {bs : List C} {ns : List N}, allSome (bs.map (lendC st false)) = some ns → passCs st bs (ns.map .n)
  | [], ns, h => by simp [allSome] at h; subst h; trivial
  | x :: bs, ns, h => by
    simp only [List.map_cons] at h
    cases hx : lendC st false x with
    | none => rw [hx] at h; cases h
    | some y =>
      rw [hx] at h
      simp only [allSome, Option.map_eq_some_iff] at h
      obtain ⟨ns', h', rfl⟩ := h
      exact ⟨lendC_false hx, lendCs_pass h'⟩

variable (hr : RelV st a w I β S)
include hr
theorem lendCC_sound {J : Nat → Prop} (hJ : ∀ b, (I b ∨ ∃ i, S i b) → J b) {x : C} {v : Value} (h : CR w I β x v) (hb : CB w J x v) : CR w J [] (lendCC st x) v := by
  have h1 := CR.one h
  unfold lendCC
  split
  · exact h
  · split
    · rename_i y hy
      rcases lendC_true hy with hp | ⟨loc, rfl⟩
      · exact CR.mono (β := []) hJ (fun _ _ => rfl) (fun _ _ h => h) (passC_sound hr hp h)
      · exact hb
    · exact h1
theorem lendCs_sound {J : Nat → Prop} (hJ : ∀ b, (I b ∨ ∃ i, S i b) → J b) {cs : List C} {arr : Array Value} (h : CsR w I β cs arr) (hb : CsB w J cs arr) : CsR w J [] (cs.map (lendCC st)) arr :=
  ⟨by simpa using h.1, fun j x v hx hv => by
    simp only [List.getElem?_map, Option.map_eq_some_iff] at hx
    obtain ⟨y, hy, rfl⟩ := hx
    exact lendCC_sound hr hJ (h.2 j y v hy hv) (hb j y v hy hv)⟩
theorem lendAV_sound {J : Nat → Prop} (hJ : ∀ b, (I b ∨ ∃ i, S i b) → J b) {av : AV} {v : Value} (h : AVR w I β av v) (hb : AB w J av v) : AVR w J [] (lendAV st av) v := by
  unfold lendAV
  split
  · rename_i i off
    split
    · rename_i bs hobj
      split
      · rename_i ns hns
        exact AVR.mono (x := .ra ns) (β := []) hJ (fun _ _ => rfl) (fun _ _ h => h) (passA_sound (x := .c (.p i off)) (y := .ra ns) hr (by unfold passA; simp only [hobj]; exact lendCs_pass (by simpa using hns)) h)
      · trivial
    · trivial
  · exact lendCC_sound hr hJ h hb
  · obtain ⟨arr, rfl, h⟩ := h
    exact ⟨arr, rfl, lendCs_sound hr hJ h (hb arr rfl)⟩
  · obtain ⟨arr, rfl, h⟩ := h
    exact ⟨arr, rfl, lendCs_sound hr hJ h (hb arr rfl)⟩
  · exact AVR.mono (x := .ra _) (β := []) hJ (fun _ _ => rfl) (fun _ _ h => h) (passA_sound (x := .ra _) (y := .ra _) hr (by rfl) h)
  · exact hb
  · trivial

theorem lend_rel {J : Nat → Prop} (hJ : ∀ b, (I b ∨ ∃ i, S i b) → J b) (hJl : IL w J) (hb : BorR st a w J) : RelV st.lend a w J [] (fun _ _ => False) := by
  refine ⟨by simpa [St.lend] using hr.sz, rfl, fun t v u hv hu => ?_, by simp [St.lend], by simp, by simp, ?_⟩
  · simp only [St.lend, Sl.getElem?_map, Option.map_eq_some_iff] at hv
    obtain ⟨v', hv', rfl⟩ := hv
    exact lendAV_sound hr hJ (hr.slot t v' u hv' hu) (hb t v' u hv' hu)
  · exact hJl
end

/-! ### 31. Effect-free operations, over what is borrowed too -/
def C.toB : C → C
  | .n (.v x) => .n (.v x)
  | .n x => .b x Option.none
  | .b _ _ => .u
  | x => x
def AV.toB : AV → AV
  | .c x => .c x.toB
  | .a cs => .a (cs.map C.toB)
  | .fn f cs => .fn f (cs.map C.toB)
  | .ra cs => .rb cs Option.none
  | _ => .dead
section
variable {w : World} {I J : Nat → Prop} {β : List Value}
theorem C.toB_sound {x : C} {v : Value} (h : CR w J [] x v) : CR w I β x.toB v ∧ CB w J x.toB v := by
  have h1 := CR.one h
  cases x with
  | n x =>
    cases x with
    | v x => cases h with | v h => exact ⟨Im.v h, trivial⟩
    | _ => exact ⟨h1, h⟩
  | h i => simp [CR] at h
  | p i off => simp [CR] at h
  | _ => exact ⟨h, trivial⟩
theorem Cs.toB_sound {cs : List C} {arr : Array Value} (h : CsR w J [] cs arr) : CsR w I β (cs.map C.toB) arr ∧ CsB w J (cs.map C.toB) arr := by
  refine ⟨⟨by simpa using h.1, fun j x v hx hv => ?_⟩, fun j x v hx hv => ?_⟩
  · simp only [List.getElem?_map, Option.map_eq_some_iff] at hx
    obtain ⟨y, hy, rfl⟩ := hx
    exact (C.toB_sound (h.2 j y v hy hv)).1
  · simp only [List.getElem?_map, Option.map_eq_some_iff] at hx
    obtain ⟨y, hy, rfl⟩ := hx
    exact (C.toB_sound (I := I) (β := β) (h.2 j y v hy hv)).2
theorem AV.toB_sound {x : AV} {v : Value} (h : AVR w J [] x v) : AVR w I β x.toB v ∧ AB w J x.toB v := by
  cases x with
  | c x => exact C.toB_sound h
  | a cs => obtain ⟨arr, rfl, h⟩ := h; exact ⟨⟨arr, rfl, (Cs.toB_sound h).1⟩, fun arr' e => by cases e; exact (Cs.toB_sound (I := I) (β := β) h).2⟩
  | fn f cs => obtain ⟨arr, rfl, h⟩ := h; exact ⟨⟨arr, rfl, (Cs.toB_sound h).1⟩, fun arr' e => by cases e; exact (Cs.toB_sound (I := I) (β := β) h).2⟩
  | ra cs => exact ⟨trivial, h⟩
  | _ => exact ⟨trivial, trivial⟩
end

/-- Behind an effect-free operation. -/
def QPB (J : Nat → Prop) (w : World) (I : Nat → Prop) (β : List Value) (av : AV) (news : List Ob) (v : Value) (w' : World) : Prop :=
  ∃ (I' : Nat → Prop) (βn : List Value) (Sn : Nat → Nat → Prop),
    Fr (fun _ => False) w w' ∧ (∀ b, I b → I' b) ∧ (∀ b, I' b → I b ∨ w.heap.size ≤ b) ∧ (∀ b, I' b → b < w'.heap.size) ∧ βn.length = news.length ∧
    AVR w' I' (β ++ βn) av v ∧
    (∀ (k : Nat) (o : Ob) (b : Value), news[k]? = some o → βn[k]? = some b → ObR w' I' (β ++ βn) b (Sn k) o) ∧
    (∀ k b, Sn k b → k < news.length ∧ w.heap.size ≤ b ∧ b < w'.heap.size ∧ ¬ I' b) ∧ (∀ i j b, Sn i b → Sn j b → i = j) ∧
    AB w' (fun b => J b ∨ I' b) av v

section
variable {P : Program} {st : St} {a : Act} {w : World} {I : Nat → Prop} {β : List Value} {S : Nat → Nat → Prop} {c : Cx} {ρ : Type} {r : ρ}
theorem QPB.of {av : AV} {news : List Ob} {v : Value} {w' : World} (h : QPost st w I β S av news v w') (J : Nat → Prop) : QPB J w I β av.unb (news.map Ob.unb) v w' := by
  obtain ⟨I', βn, Sn, hfr, hI, hI2, hIl, hbn, hav, hob, hslt, hsd⟩ := h
  refine ⟨I', βn, Sn, hfr, hI, hI2, hIl, by simpa using hbn, hav.unb, fun k o b ho hb => ?_, fun k b hb => by simpa using hslt k b hb, hsd, AB_unb _ _⟩
  simp only [List.getElem?_map, Option.map_eq_some_iff] at ho
  obtain ⟨o', ho', rfl⟩ := ho
  exact (hob k o' b ho' hb).unb
theorem QPB.same (hr : RelV st a w I β S) {J : Nat → Prop} {av : AV} {v : Value} (h : AVR w I β av v) (hb : AB w J av v) : QPB J w I β av [] v w :=
  ⟨I, [], fun _ _ => False, Fr.refl _ _, fun _ h => h, fun _ h => .inl h, hr.ilt, rfl, by simpa using h, by simp, by simp, by simp, hb.mono (fun b hb => .inl hb) (fun _ _ => rfl)⟩

theorem ev_bor {J : Nat → Prop} (hb : BorR st a w J) (hr : RelV st a w I β S) (x : Operand) : AB w J (st.ev x) (a.eval x) := by
  cases x with
  | tmp t =>
    simp only [St.ev, St.get_eq, Act.eval]
    cases hs : st.slots[t]? with
    | none => trivial
    | some av =>
      have hlt : t < a.tmps.size := by rw [hr.sz]; exact (Sl.some_iff.1 hs).1
      have hc : a.tmps[t]? = some a.tmps[t] := Array.getElem?_eq_getElem hlt
      have := hb t av _ hs hc
      simpa [Array.getD, hlt] using this
  | const v =>
    simp only [St.ev]
    cases v with
    | agg cs =>
      simp only [constAV]
      split
      · intro arr e j x u hx hu
        simp only [List.getElem?_map, Option.map_eq_some_iff] at hx
        obtain ⟨y, hy, rfl⟩ := hx
        unfold zC
        split <;> trivial
      · trivial
    | tuple vs => trivial
    | slice A n c =>
      simp only [constAV, zC]
      split <;> trivial
    | _ => trivial
  | global g => trivial
  | func f => intro arr e j x u hx hu; simp at hx

/-- One step further. -/
theorem step_QPB (hr : RelV st a w I β S) (hc : RelC c st a w I β S) (hb : BorR st a w (fun b => I b ∨ ∃ i, S i b)) {av : AV} {news : List Ob} {v : Value} {w' : World} (hq : QPB (fun b => I b ∨ ∃ i, S i b) w I β av news v w') (d : Option Nat) :
    RelB c ((st.new news).put d av) (a.put d v) w' := by
  obtain ⟨I', βn, Sn, hfr, hI, hI2, hIl, hbn, hav, hob, hslt, hsd, hab⟩ := hq
  obtain ⟨h1, h2⟩ := step_core hr hc d hfr hI hI2 hIl hbn hav hob hslt hsd
  refine ⟨_, _, _, h1, h2, ?_⟩
  have hS : ∀ b, (∃ i, S i b) → ∃ i, (if i < st.obs.length then S i b else Sn (i - st.obs.length) b) := fun b ⟨i, hi⟩ => ⟨i, by rw [if_pos (hr.slt i b hi).1]; exact hi⟩
  have hJw : ∀ b, (I b ∨ ∃ i, S i b) → w'.heap[b]? = w.heap[b]? := by
    rintro b (hb | ⟨i, hb⟩)
    · exact hfr.block b (hr.ilt b hb) (fun h => h)
    · exact hfr.block b (hr.slt i b hb).2.1 (fun h => h)
  have hJ : ∀ b, (I b ∨ ∃ i, S i b) → (I' b ∨ ∃ i, (if i < st.obs.length then S i b else Sn (i - st.obs.length) b)) := by
    rintro b (hb | hb)
    · exact .inl (hI b hb)
    · exact .inr (hS b hb)
  have hn : AB w' (fun b => I' b ∨ ∃ i, (if i < st.obs.length then S i b else Sn (i - st.obs.length) b)) av v := by
    refine hab.mono ?_ (fun _ _ => rfl)
    rintro b (hb | hb)
    · exact hJ b hb
    · exact .inl hb
  intro t x u hx hu
  cases d with
  | none => exact (hb t x u hx hu).mono hJ hJw
  | some d =>
    have hx' : (st.slots.set d av)[t]? = some x := hx
    have hu' : (a.tmps.setIfInBounds d v)[t]? = some u := hu
    rw [Sl.getElem?_set] at hx'
    rw [Array.getElem?_setIfInBounds] at hu'
    split at hx'
    · rename_i he
      subst he
      rw [if_pos rfl] at hu'
      split at hx'
      · simp only [Option.some.injEq] at hx'
        subst hx'
        split at hu'
        · simp only [Option.some.injEq] at hu'
          subst hu'
          exact hn
        · cases hu'
      · cases hx'
    · rename_i he
      rw [if_neg he] at hu'
      exact (hb t x u hx' hu').mono hJ hJw

def isBor : AV → Bool
  | .c (.b _ _) => true
  | .rb _ _ => true
  | .a cs => cs.any fun c => match c with | .b _ _ => true | _ => false
  | _ => false
def N.isSl : N → Bool
  | .sl _ _ => true
  | _ => false
def rdArg : Op → Option Operand
  | .load _ x | .fieldAddr _ x _ | .field _ x _ | .indexAddr _ x _ | .nilCheck x | .slice _ x _ _ _ => some x
  | .call { callee := .builtin .len, args, .. } => args[0]?
  | _ => Option.none
def noNew {α : Type} : List α → Bool
  | [] => true
  | _ => false

def qBp {ρ : Type} (P : Program) (o : Oper) (st : St) (K : AV → List Ob → Option ρ) : Option ρ := qO P o st fun av news => K av.unb (news.map Ob.unb)
def qBl {ρ : Type} (P : Program) (o : Oper) (st : St) (K : AV → List Ob → Option ρ) : Option ρ := qO P o st.lend fun av news => chk (noNew news) (K av.toB [])
def loadE {ρ : Type} (P : Program) (o : Oper) (st : St) (t : TypeId) (x : AV) (K : AV → List Ob → Option ρ) : Option ρ :=
  match x with
  | .ea i sz idx f => match st.obj i with
    | .row sz' xs [] => sel ((((xs.g idx).drop f).take (tyOf P t).size).any N.isSl) (chk (decide (sz = sz')) (chk (decide (idx < xs.n)) ((loadC (tyOf P t) (((xs.g idx).drop f).map toC)).bind fun av => K av.toB []))) (qBp P o st K)
    | _ => Option.none
  | _ => qBp P o st K
def qB {ρ : Type} (P : Program) (o : Oper) (st : St) (K : AV → List Ob → Option ρ) : Option ρ :=
  match o.op with
  | .move x | .assign x => K (st.ev x) []
  | .pick c a b => pickO (st.ev c) (K (st.ev a) []) (K (st.ev b) [])
  | .load t x => sel (isBor (st.ev x)) (qBl P o st K) (loadE P o st t (st.ev x) K)
  | op => match rdArg op with
    | some x => sel (isBor (st.ev x)) (qBl P o st K) (qBp P o st K)
    | Option.none => qBp P o st K

theorem qBp_sound (hr : RelV st a w I β S) (J : Nat → Prop) {o : Oper} {K : AV → List Ob → Option ρ} (h : qBp P o st K = some r) :
    ∃ v w' av news, (execOp a.eval o).run P w = .ok (.value v) w' ∧ K av news = some r ∧ QPB J w I β av news v w' := by
  obtain ⟨v, w', av, news, h1, h2, h3⟩ := vcQ_sound hr (qO_vc h)
  exact ⟨v, w', _, _, h1, h2, QPB.of h3 J⟩
theorem qBl_sound (hr : RelV st a w I β S) {J : Nat → Prop} (hJ : ∀ b, (I b ∨ ∃ i, S i b) → J b) (hJl : IL w J) (hb : BorR st a w J) {o : Oper} {K : AV → List Ob → Option ρ} (h : qBl P o st K = some r) :
    ∃ v w' av news, (execOp a.eval o).run P w = .ok (.value v) w' ∧ K av news = some r ∧ QPB J w I β av news v w' := by
  obtain ⟨v, w', av, news, h1, h2, h3⟩ := vcQ_sound (lend_rel hr hJ hJl hb) (qO_vc h)
  obtain ⟨h4, h2⟩ := chk_some h2
  obtain rfl : news = [] := by
    unfold noNew at h4
    split at h4
    · rfl
    · cases h4
  refine ⟨v, w', _, _, h1, h2, ?_⟩
  obtain ⟨I', βn, Sn, hfr, hI, hI2, hIl, hbn, hav, -⟩ := h3
  obtain rfl : βn = [] := by simpa using hbn
  have hb' := AV.toB_sound (I := fun b => I b ∨ (I' b ∧ w.heap.size ≤ b)) (β := β ++ []) hav
  refine ⟨fun b => I b ∨ (I' b ∧ w.heap.size ≤ b), [], fun _ _ => False, hfr, fun _ h => .inl h, fun b h => h.imp_right (·.2), ?_, rfl, hb'.1, by simp, by simp, by simp, hb'.2.mono ?_ (fun _ _ => rfl)⟩
  · rintro b (hb | hb)
    · exact Nat.lt_of_lt_of_le (hr.ilt b hb) hfr.size
    · exact hIl b hb.1
  · intro b hb
    rcases hI2 b hb with h | h
    · exact .inl h
    · exact .inr (.inr ⟨hb, h⟩)

theorem loadE_sound (hr : RelV st a w I β S) {J : Nat → Prop} (hJ : ∀ b, (I b ∨ ∃ i, S i b) → J b) (hJl : IL w J) (hb : BorR st a w J) {o : Oper} {t : TypeId} {x : Operand} (ho : o.op = .load t x) {K : AV → List Ob → Option ρ} (h : loadE P o st t (st.ev x) K = some r) :
    ∃ v w' av news, (execOp a.eval o).run P w = .ok (.value v) w' ∧ K av news = some r ∧ QPB J w I β av news v w' := by
  unfold loadE at h
  split at h
  · rename_i i sz idx f hx
    split at h
    · rename_i sz' xs hobj
      cases hs : (((xs.g idx).drop f).take (tyOf P t).size).any N.isSl with
      | false => rw [hs] at h; exact qBp_sound hr J h
      | true =>
        rw [hs] at h
        obtain ⟨h1, h⟩ := chk_dec (show chk _ _ = some r from h)
        obtain ⟨h2, h⟩ := chk_dec h
        have hv := ev_sound hr x
        rw [hx] at hv
        have hra : AVR w J [] (.ra ((xs.g idx).drop f)) (a.eval x) := AVR.mono (x := .ra _) (β := []) hJ (fun _ _ => rfl) (fun _ _ h => h) <| passA_sound (x := .ea i sz idx f) (y := .ra _) hr (by unfold passA; simp only [hobj]; exact ⟨h1, h2, trivial⟩) hv
        have hrl := lend_rel hr hJ hJl hb
        obtain ⟨av', hl, hK⟩ := is_iff (bind_some h)
        obtain ⟨v', av2, hrun, hK2, hav⟩ := load_sound (P := P) (t := t) hrl (av := .ra ((xs.g idx).drop f)) hra (K := fun x _ => x = av') (by simp only [loadK, hl, is_some])
        subst hK2
        have hb' := AV.toB_sound (I := I) (β := β) hav
        refine ⟨v', w, _, _, ?_, hK, QPB.same hr hb'.1 hb'.2⟩
        obtain ⟨dst, op, ty, pos, after, guard⟩ := o
        simp only at ho
        subst ho
        simp only [execOp, Sem.run_bind, hrun, Result.andThen_ok, Sem.run_pure]
    · cases h
  · exact qBp_sound hr J h

/-- Every effect-free operation does what the calculus says, over what is borrowed too. -/
theorem qB_sound (hr : RelV st a w I β S) {J : Nat → Prop} (hJ : ∀ b, (I b ∨ ∃ i, S i b) → J b) (hJl : IL w J) (hb : BorR st a w J) {o : Oper} {K : AV → List Ob → Option ρ} (h : qB P o st K = some r) :
    ∃ v w' av news, (execOp a.eval o).run P w = .ok (.value v) w' ∧ K av news = some r ∧ QPB J w I β av news v w' := by
  unfold qB at h
  split at h
  · rename_i x hop
    refine ⟨_, w, _, _, ?_, h, QPB.same hr (ev_sound hr x) (ev_bor hb hr x)⟩
    obtain ⟨dst, op, ty, pos, after, guard⟩ := o
    simp only at hop
    subst hop
    rfl
  · rename_i x hop
    refine ⟨_, w, _, _, ?_, h, QPB.same hr (ev_sound hr x) (ev_bor hb hr x)⟩
    obtain ⟨dst, op, ty, pos, after, guard⟩ := o
    simp only at hop
    subst hop
    rfl
  · rename_i c x y hop
    obtain ⟨dst, op, ty, pos, after, guard⟩ := o
    simp only at hop
    subst hop
    unfold pickO at h
    split at h
    · rename_i b hc
      have h1 := ev_sound hr c
      rw [hc] at h1
      have hbv := h1.val.1
      cases b with
      | true => exact ⟨_, w, _, _, by simp [execOp, hbv, asBool], h, QPB.same hr (ev_sound hr x) (ev_bor hb hr x)⟩
      | false => exact ⟨_, w, _, _, by simp [execOp, hbv, asBool], h, QPB.same hr (ev_sound hr y) (ev_bor hb hr y)⟩
    · cases h
  · rename_i t x hop
    cases hs : isBor (st.ev x) with
    | true => rw [hs] at h; exact qBl_sound hr hJ hJl hb h
    | false => rw [hs] at h; exact loadE_sound hr hJ hJl hb hop h
  · split at h
    · rename_i x hx
      cases hs : isBor (st.ev x) with
      | true => rw [hs] at h; exact qBl_sound hr hJ hJl hb h
      | false => rw [hs] at h; exact qBp_sound hr J h
    · exact qBp_sound hr J h
end

end Go.Al
