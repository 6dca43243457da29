import Derived.Test.YtbpicgilplnmoaaAlG
import Derived.Calls
import Derived.Control
import Derived.Tactics
import Derived.Below
import Derived.Laws.AppendOwn
import Derived.Laws.Rows
import Derived.Laws.Entries
import Derived.Laws.Sem
import Derived.KernelRfl
set_option linter.unusedVariables false
set_option linter.unusedSimpArgs false
namespace Go.Al

/-! ### 1. Abstract things -/

/-- Rows: how many, and the cells of each. -/
structure Rw (α : Type) where
  n : Nat
  g : Nat → List α

/-- What a cell holds, abstractly: itself; a slice with its elements' cells; something immutable inside of owned memory. -/
inductive N where
  | v (x : Value)
  | sl (sz : Nat) (xs : Rw N)
  | im (x : N)

def maxN : Nat := 140737488355328

def Rw.nil {α : Type} : Rw α := ⟨0, fun _ => []⟩
def sel {α : Type} (b : Bool) (x y : α) : α := match b with
  | true => x
  | false => y
theorem sel_if {α : Type} {p : Prop} [Decidable p] (x y : α) : sel (decide p) x y = if p then x else y := by
  by_cases h : p <;> simp [h, sel]
/-- A choice between two cells, pushed down to where they part. -/
def mrgV (b : Bool) (x y : Value) : Value := match x, y with
  | .int k x, .int k' y => if k = k' then .int k (sel b x y) else sel b (.int k x) (.int k' y)
  | .bool x, .bool y => .bool (sel b x y)
  | .string x, .string y => .string (sel b x y)
  | x, y => sel b x y
def mrgL (f : N → N → N) (b : Bool) : List N → List N → List N
  | [], [] => []
  | x :: xs, y :: ys => f x y :: mrgL f b xs ys
  | xs, ys => sel b xs ys
def mrgN : Nat → Bool → N → N → N
  | 0, b, x, y => sel b x y
  | d + 1, b, x, y => match x, y with
    | .v x, .v y => .v (mrgV b x y)
    | .sl s xs, .sl s' ys => if s = s' then .sl s ⟨sel b xs.n ys.n, fun i => mrgL (mrgN d b) b (xs.g i) (ys.g i)⟩ else sel b (.sl s xs) (.sl s' ys)
    | .im x, .im y => .im (mrgN d b x y)
    | x, y => sel b x y
def mrgE (b : Bool) (x y : List N) : List N := mrgL (mrgN 8 b) b x y
theorem mrgV_eq (b : Bool) (x y : Value) : mrgV b x y = sel b x y := by
  unfold mrgV
  split
  · split
    · rename_i h; subst h; cases b <;> rfl
    · rfl
  · cases b <;> rfl
  · cases b <;> rfl
  · rfl
theorem mrgL_eq {f : N → N → N} {b : Bool} (hf : ∀ x y, f x y = sel b x y) : ∀ (x y : List N), mrgL f b x y = sel b x y
  | [], [] => by cases b <;> rfl
  | x :: xs, y :: ys => by rw [mrgL, hf, mrgL_eq hf xs ys]; cases b <;> rfl
  | [], _ :: _ => rfl
  | _ :: _, [] => rfl
theorem mrgN_eq : ∀ (d : Nat) (b : Bool) (x y : N), mrgN d b x y = sel b x y
  | 0, _, _, _ => rfl
  | d + 1, b, x, y => by
    unfold mrgN
    split
    · rw [mrgV_eq]; cases b <;> rfl
    · split
      · rename_i s xs s' ys h
        subst h
        have : (fun i => mrgL (mrgN d b) b (xs.g i) (ys.g i)) = sel b xs.g ys.g := by
          funext i
          rw [mrgL_eq (mrgN_eq d b)]
          cases b <;> rfl
        rw [this]
        cases b <;> rfl
      · rfl
    · rw [mrgN_eq d]; cases b <;> rfl
    · rfl
theorem mrgE_eq (b : Bool) (x y : List N) : mrgE b x y = sel b x y := mrgL_eq (mrgN_eq 8 b) x y
def Rw.app (xs ys : Rw N) : Rw N := ⟨xs.n + ys.n, fun i => mrgE (decide (i < xs.n)) (xs.g i) (ys.g (i - xs.n))⟩
def Rw.set (xs : Rw N) (k : Nat) (e : List N) : Rw N := ⟨xs.n, fun i => mrgE (decide (i = k)) e (xs.g i)⟩
theorem Rw.app_eq (xs ys : Rw N) : xs.app ys = ⟨xs.n + ys.n, fun i => if i < xs.n then xs.g i else ys.g (i - xs.n)⟩ := by simp only [Rw.app, mrgE_eq, sel_if]
theorem Rw.set_eq (xs : Rw N) (k : Nat) (e : List N) : xs.set k e = ⟨xs.n, fun i => if i = k then e else xs.g i⟩ := by simp only [Rw.set, mrgE_eq, sel_if]
def Rw.sub {α : Type} (xs : Rw α) (l h : Nat) : Rw α := ⟨h - l, fun i => xs.g (l + i)⟩
def Rw.map {α β : Type} (f : α → β) (xs : Rw α) : Rw β := ⟨xs.n, fun i => (xs.g i).map f⟩
def Rw.rep {α : Type} (n : Nat) (e : List α) : Rw α := ⟨n, fun _ => e⟩
def at2 {α : Type} (xs : Rw α) (i j : Nat) : Option α := if i < xs.n then (xs.g i)[j]? else none
def unif {α : Type} (sz : Nat) (xs : Rw α) : Prop := ∀ i, i < xs.n → (xs.g i).length = sz

theorem at2_lt {α : Type} {xs : Rw α} {i j sz : Nat} {x : α} (hu : unif sz xs) (h : at2 xs i j = some x) : i < xs.n ∧ j < sz := by
  unfold at2 at h
  split at h
  · rename_i hi
    exact ⟨hi, by rw [← hu i hi]; exact (List.getElem?_eq_some_iff.1 h).1⟩
  · cases h
theorem at2_of {α : Type} {xs : Rw α} {i : Nat} (hi : i < xs.n) (j : Nat) : at2 xs i j = (xs.g i)[j]? := if_pos hi
theorem at2_pos {α : Type} {xs : Rw α} {i j : Nat} {x : α} (h : at2 xs i j = some x) : i < xs.n ∧ (xs.g i)[j]? = some x := by
  unfold at2 at h
  split at h
  · exact ⟨‹_›, h⟩
  · cases h
theorem at2_zero {α : Type} {xs : Rw α} (h0 : xs.n = 0) (i j : Nat) : at2 xs i j = none := by simp [at2, h0]
theorem unif_zero {α : Type} {xs : Rw α} (h0 : xs.n = 0) (sz : Nat) : unif sz xs := fun i hi => by omega

/-- Immutable memory: the cell's value c is x, as long as the blocks of I are as they are. -/
inductive Im (w : World) (I : Nat → Prop) : N → Value → Prop
  | v {x : Value} (h : x.oneCell' = true) : Im w I (.v x) x
  | im {x : N} {c : Value} (h : Im w I x c) : Im w I (.im x) c
  | sl {sz : Nat} {xs : Rw N} (A : Option Addr) (cap : Nat) (ad : Addr) (c : Nat → Nat → Value)
      (hu : unif sz xs) (hn : xs.n ≤ maxN) (hcap : xs.n ≤ cap)
      (hA : xs.n ≠ 0 → A = some ad ∧ I ad.block)
      (hc : ∀ i j x, at2 xs i j = some x → w.cell? (ad.add (i * sz + j)) = some (c i j))
      (H : ∀ i j x, at2 xs i j = some x → Im w I x (c i j)) :
      Im w I (.sl sz xs) (.slice A xs.n cap)

theorem add_block (a : Addr) (n : Nat) : (a.add n).block = a.block := by unfold Addr.add; split <;> rfl

theorem cell_same {w w' : World} {a : Addr} (h : w'.heap[a.block]? = w.heap[a.block]?) : w'.cell? a = w.cell? a := by simp [World.cell?, h]
theorem frozen_same {w w' : World} {a : Addr} (h : w'.heap[a.block]? = w.heap[a.block]?) : w'.frozen? a = w.frozen? a := by simp [World.frozen?, h]

theorem Im.mono {w w' : World} {I I' : Nat → Prop} (hI : ∀ b, I b → I' b) (hw : ∀ b, I b → w'.heap[b]? = w.heap[b]?) :
    ∀ {x : N} {c : Value}, Im w I x c → Im w' I' x c := by
  intro x c h
  induction h with
  | v h => exact .v h
  | im _ ih => exact .im ih
  | sl A cap ad c hu hn hcap hA hc H ih =>
    refine .sl A cap ad c hu hn hcap (fun hne => ⟨(hA hne).1, hI _ (hA hne).2⟩) (fun i j x hx => ?_) ih
    rw [cell_same]
    · exact hc i j x hx
    · rw [add_block]
      refine hw _ (hA ?_).2
      have := (at2_pos hx).1
      omega

theorem Im.zero {w : World} {I : Nat → Prop} {sz : Nat} {xs : Rw N} (h0 : xs.n = 0) (A : Option Addr) : Im w I (.sl sz xs) (.slice A 0 0) := by
  have := Im.sl (w := w) (I := I) (sz := sz) (xs := xs) A 0 default (fun _ _ => undef) (unif_zero h0 sz) (by omega) (by omega) (fun h => absurd h0 h) (fun i j x hx => by rw [at2_zero h0] at hx; cases hx) (fun i j x hx => by rw [at2_zero h0] at hx; cases hx)
  rwa [h0] at this

theorem Im.one {w : World} {I : Nat → Prop} {x : N} {c : Value} (h : Im w I x c) : c.oneCell' = true := by
  induction h with
  | v h => exact h
  | im _ ih => exact ih
  | sl => rfl

/-- Owned memory: the value c is x, and all the blocks behind it lie in S, each met once. -/
inductive Own (w : World) (I : Nat → Prop) : N → Value → (Nat → Prop) → Prop
  | v {x : Value} {S : Nat → Prop} (h : x.oneCell' = true) : Own w I (.v x) x S
  | im {x : N} {c : Value} {S : Nat → Prop} (h : Im w I x c) : Own w I (.im x) c S
  | nil {sz : Nat} {xs : Rw N} {S : Nat → Prop} (A : Option Addr) (h0 : xs.n = 0) : Own w I (.sl sz xs) (.slice A 0 0) S
  | sl {sz : Nat} {xs : Rw N} {S : Nat → Prop} (g cap : Nat) (e : TypeId) (cur : Array Value) (fr : Nat × Nat) (c : Nat → Nat → Value) (F : Nat → Nat → Nat → Prop)
      (hu : unif sz xs) (hn : xs.n ≤ maxN) (hcap : xs.n ≤ cap) (hm : cap ≤ maxLen) (hg : S g)
      (hb : w.heap[g]? = some (.cells cur e fr)) (hfr : cur.size ≤ fr.1 ∨ fr.2 ≤ fr.1) (hs : cur.size = cap * sz)
      (hc : ∀ i j x, at2 xs i j = some x → cur[i * sz + j]? = some (c i j))
      (H : ∀ i j x, at2 xs i j = some x → Own w I x (c i j) (F i j))
      (hF : ∀ i j b, F i j b → S b ∧ b ≠ g)
      (hD : ∀ i j i' j' b, F i j b → F i' j' b → i = i' ∧ j = j') :
      Own w I (.sl sz xs) (.slice (some ⟨g, 0, none⟩) xs.n cap) S

theorem Own.one {w : World} {I : Nat → Prop} {x : N} {c : Value} {S : Nat → Prop} (h : Own w I x c S) : c.oneCell' = true := by
  cases h with
  | v h => exact h
  | im h => exact h.one
  | nil => rfl
  | sl => rfl

theorem Own.mono {w w' : World} {I I' : Nat → Prop} (hI : ∀ b, I b → I' b) (hw : ∀ b, I b → w'.heap[b]? = w.heap[b]?) :
    ∀ {x : N} {c : Value} {S : Nat → Prop}, Own w I x c S → (∀ b, S b → w'.heap[b]? = w.heap[b]?) → ∀ {S' : Nat → Prop}, (∀ b, S b → S' b) → Own w' I' x c S' := by
  intro x c S h
  induction h with
  | v h => exact fun _ _ _ => .v h
  | im h => exact fun _ _ _ => .im (h.mono hI hw)
  | nil A h0 => exact fun _ _ _ => .nil A h0
  | sl g cap e cur fr c F hu hn hcap hm hg hb hfr hs hc H hF hD ih =>
    intro hS S' hSS
    exact .sl g cap e cur fr c F hu hn hcap hm (hSS _ hg) ((hS _ hg).trans hb) hfr hs hc
      (fun i j x hx => ih i j x hx (fun b hb => hS _ (hF _ _ _ hb).1) (fun b hb => hb)) (fun i j b hb => ⟨hSS _ (hF i j b hb).1, (hF i j b hb).2⟩) hD

theorem cells_at {w : World} {g : Nat} {cur : Array Value} {e : TypeId} {fr : Nat × Nat} (hb : w.heap[g]? = some (.cells cur e fr)) (k : Nat) :
    w.cell? ⟨g, k, none⟩ = cur[k]? := by simp [World.cell?, hb]

theorem add0 (g k : Nat) : (⟨g, 0, none⟩ : Addr).add k = ⟨g, k, none⟩ := by unfold Addr.add; split <;> simp_all
theorem add00 (g o k : Nat) : (⟨g, o, none⟩ : Addr).add k = ⟨g, o + k, none⟩ := by unfold Addr.add; split <;> simp_all

/-- What is owned may be lent: nobody writes it meanwhile. -/
theorem Own.lend {w : World} {I : Nat → Prop} : ∀ {x : N} {c : Value} {S : Nat → Prop}, Own w I x c S → ∀ {J : Nat → Prop}, (∀ b, I b → J b) → (∀ b, S b → J b) → Im w J x c := by
  intro x c S h
  induction h with
  | v h => exact fun _ _ => .v h
  | im h => exact fun hI _ => .im (h.mono hI (fun _ _ => rfl))
  | nil A h0 => exact fun _ _ => Im.zero h0 A
  | sl g cap e cur fr c F hu hn hcap hm hg hb hfr hs hc H hF hD ih =>
    intro J hI hS
    refine .sl (some ⟨g, 0, none⟩) cap ⟨g, 0, none⟩ c hu hn hcap (fun _ => ⟨rfl, hS _ hg⟩) (fun i j x hx => ?_) (fun i j x hx => ih i j x hx hI (fun b hb => hS _ (hF i j b hb).1))
    rw [add0, cells_at hb]
    exact hc i j x hx

/-! ### 2. Slots, objects, states -/

/-- A cell of a variable, abstractly: an immutable thing; the slice of object i; a pointer into object i; a slice without length or capacity; something unknown. -/
inductive C where
  | n (x : N)
  | h (i : Nat)
  | p (i off : Nat)
  | z
  | u
  | b (x : N) (loc : Option (Nat × Nat × Nat))
/-- One result of several. -/
inductive K where
  | c (x : C)
  | a (cs : List C)
/-- A slot's value: one cell; a struct's cells; several results; a function with what it captured; the address of cell f of element idx in object i; an address of immutable cells; unknown. -/
inductive AV where
  | c (x : C)
  | a (cs : List C)
  | tup (vs : List K)
  | fn (f : FuncId) (cs : List C)
  | ea (i sz idx f : Nat)
  | ra (cs : List N)
  | rb (cs : List N) (loc : Option (Nat × Nat × Nat × Nat × Nat × Nat))
  | dead

section
variable (w : World) (I : Nat → Prop) (β : List Value)
def CR : C → Value → Prop
  | .n x, v => Im w I x v
  | .h i, v => β[i]? = some v ∧ v.oneCell' = true
  | .p i off, v => ∃ g, β[i]? = some (.pointer (some ⟨g, 0, none⟩)) ∧ v = .pointer (some ⟨g, off, none⟩)
  | .z, v => ∃ A, v = .slice A 0 0
  | .u, v => v.oneCell' = true
  | .b _ _, v => v.oneCell' = true
def CsR (cs : List C) (a : Array Value) : Prop := a.size = cs.length ∧ ∀ (j : Nat) (x : C) (v : Value), cs[j]? = some x → a[j]? = some v → CR w I β x v
def KR : K → Value → Prop
  | .c x, v => CR w I β x v
  | .a cs, v => ∃ a, v = .agg a ∧ CsR w I β cs a
def AVR : AV → Value → Prop
  | .c x, v => CR w I β x v
  | .a cs, v => ∃ a, v = .agg a ∧ CsR w I β cs a
  | .tup vs, v => ∃ a, v = .tuple a ∧ a.size = vs.length ∧ ∀ (j : Nat) (x : K) (v : Value), vs[j]? = some x → a[j]? = some v → KR w I β x v
  | .fn f cs, v => ∃ a, v = .func (.func f) #[] a ∧ CsR w I β cs a
  | .ea i sz idx f, v => ∃ g n cap, β[i]? = some (.slice (some ⟨g, 0, none⟩) n cap) ∧ v = .pointer (some ⟨g, idx * sz + f, none⟩)
  | .ra cs, v => ∃ (ad : Addr) (c : Nat → Value), v = .pointer (some ad) ∧ I ad.block ∧ (∀ (j : Nat) (x : N), cs[j]? = some x → w.cell? (ad.add j) = some (c j)) ∧ (∀ (j : Nat) (x : N), cs[j]? = some x → Im w I x (c j))
  | .rb _ _, _ => True
  | .dead, _ => True
end

section
variable {w w' : World} {I I' : Nat → Prop} {β β' : List Value}
theorem CR.mono (hI : ∀ b, I b → I' b) (hw : ∀ b, I b → w'.heap[b]? = w.heap[b]?) (hβ : ∀ (i : Nat) (b : Value), β[i]? = some b → β'[i]? = some b) {x : C} {v : Value} (h : CR w I β x v) : CR w' I' β' x v := by
  cases x with
  | n x => exact Im.mono hI hw h
  | h i => exact ⟨hβ _ _ h.1, h.2⟩
  | p i off => obtain ⟨g, h1, h2⟩ := h; exact ⟨g, hβ _ _ h1, h2⟩
  | z => exact h
  | u => exact h
  | b x loc => exact h
theorem CR.one {x : C} {v : Value} (h : CR w I β x v) : v.oneCell' = true := by
  cases x with
  | n x => exact Im.one h
  | h i => exact h.2
  | p i off => obtain ⟨g, h1, rfl⟩ := h; rfl
  | z => obtain ⟨A, rfl⟩ := h; rfl
  | u => exact h
  | b x loc => exact h
theorem CsR.mono (hI : ∀ b, I b → I' b) (hw : ∀ b, I b → w'.heap[b]? = w.heap[b]?) (hβ : ∀ (i : Nat) (b : Value), β[i]? = some b → β'[i]? = some b) {cs : List C} {a : Array Value} (h : CsR w I β cs a) : CsR w' I' β' cs a :=
  ⟨h.1, fun j x v hx hv => (h.2 j x v hx hv).mono hI hw hβ⟩
theorem KR.mono (hI : ∀ b, I b → I' b) (hw : ∀ b, I b → w'.heap[b]? = w.heap[b]?) (hβ : ∀ (i : Nat) (b : Value), β[i]? = some b → β'[i]? = some b) {x : K} {v : Value} (h : KR w I β x v) : KR w' I' β' x v := by
  cases x with
  | c x => exact CR.mono hI hw hβ h
  | a cs => obtain ⟨a, rfl, h⟩ := h; exact ⟨a, rfl, h.mono hI hw hβ⟩
theorem AVR.mono (hI : ∀ b, I b → I' b) (hw : ∀ b, I b → w'.heap[b]? = w.heap[b]?) (hβ : ∀ (i : Nat) (b : Value), β[i]? = some b → β'[i]? = some b) {x : AV} {v : Value} (h : AVR w I β x v) : AVR w' I' β' x v := by
  cases x with
  | c x => exact CR.mono hI hw hβ h
  | a cs => obtain ⟨a, rfl, h⟩ := h; exact ⟨a, rfl, h.mono hI hw hβ⟩
  | tup vs => obtain ⟨a, rfl, hl, h⟩ := h; exact ⟨a, rfl, hl, fun j x v hx hv => (h j x v hx hv).mono hI hw hβ⟩
  | fn f cs => obtain ⟨a, rfl, h⟩ := h; exact ⟨a, rfl, h.mono hI hw hβ⟩
  | ea i sz idx f => obtain ⟨g, n, cap, h, rfl⟩ := h; exact ⟨g, n, cap, hβ _ _ h, rfl⟩
  | ra cs =>
    obtain ⟨ad, c, rfl, hi, hc, H⟩ := h
    refine ⟨ad, c, rfl, hI _ hi, fun j x hx => ?_, fun j x hx => (H j x hx).mono hI hw⟩
    rw [cell_same]
    · exact hc j x hx
    · rw [add_block]; exact hw _ hi
  | rb cs loc => trivial
  | dead => trivial
end

/-- What a call owns: a row of elements (with a hole, perhaps: the cell (i, j) is that of object k, or of none); a variable; a row that has been made immutable; nothing any more. -/
inductive Ob where
  | row (sz : Nat) (xs : Rw N) (hole : List (Nat × Nat × Option Nat))
  | box (cs : List C)
  | fro (sz : Nat) (xs : Rw N)
  | none

def isHole (h : List (Nat × Nat × Option Nat)) (i j : Nat) : Prop := ∃ k, (i, j, k) ∈ h

/-- A row with a hole. -/
def RowR (w : World) (I : Nat → Prop) (β : List Value) (b : Value) (S : Nat → Prop) (sz : Nat) (xs : Rw N) (hole : List (Nat × Nat × Option Nat)) : Prop :=
  (xs.n = 0 ∧ ∃ A, b = .slice A 0 0) ∨
  ∃ (g cap : Nat) (e : TypeId) (cur : Array Value) (fr : Nat × Nat) (c : Nat → Nat → Value) (F : Nat → Nat → Nat → Prop),
    b = .slice (some ⟨g, 0, none⟩) xs.n cap ∧ unif sz xs ∧ xs.n ≤ maxN ∧ xs.n ≤ cap ∧ cap ≤ maxLen ∧ S g ∧
    w.heap[g]? = some (.cells cur e fr) ∧ (cur.size ≤ fr.1 ∨ fr.2 ≤ fr.1) ∧ cur.size = cap * sz ∧
    (∀ i j x, at2 xs i j = some x → cur[i * sz + j]? = some (c i j)) ∧
    (∀ i j x, at2 xs i j = some x → ¬ isHole hole i j → Own w I x (c i j) (F i j)) ∧
    (∀ (i j k : Nat), (i, j, some k) ∈ hole → β[k]? = some (c i j)) ∧
    (∀ i j b, F i j b → S b ∧ b ≠ g) ∧ (∀ i j i' j' b, F i j b → F i' j' b → i = i' ∧ j = j')

def ObR (w : World) (I : Nat → Prop) (β : List Value) (b : Value) (S : Nat → Prop) : Ob → Prop
  | .row sz xs hole => RowR w I β b S sz xs hole
  | .box cs => ∃ (g : Nat) (cur : Array Value) (e : TypeId), b = .pointer (some ⟨g, 0, none⟩) ∧ S g ∧ w.heap[g]? = some (.cells cur e (0, 0)) ∧ CsR w I β cs cur
  | .fro sz xs => Im w I (.sl sz xs) b
  | .none => True

section
variable {w w' : World} {I I' : Nat → Prop} {β β' : List Value}
theorem RowR.own {b : Value} {S : Nat → Prop} {sz : Nat} {xs : Rw N} (h : RowR w I β b S sz xs []) : Own w I (.sl sz xs) b S := by
  rcases h with ⟨h0, A, rfl⟩ | ⟨g, cap, e, cur, fr, c, F, rfl, hu, hn, hcap, hm, hg, hb, hfr, hs, hc, H, -, hF, hD⟩
  · exact .nil A h0
  · exact .sl g cap e cur fr c F hu hn hcap hm hg hb hfr hs hc (fun i j x hx => H i j x hx (by rintro ⟨k, hk⟩; cases hk)) hF hD

theorem RowR.of_own {b : Value} {S : Nat → Prop} {sz : Nat} {xs : Rw N} (h : Own w I (.sl sz xs) b S) : RowR w I β b S sz xs [] := by
  cases h with
  | nil A h0 => exact .inl ⟨h0, A, rfl⟩
  | sl g cap e cur fr c F hu hn hcap hm hg hb hfr hs hc H hF hD =>
    exact .inr ⟨g, cap, e, cur, fr, c, F, rfl, hu, hn, hcap, hm, hg, hb, hfr, hs, hc, fun i j x hx _ => H i j x hx, (by intro i j k h; cases h), hF, hD⟩

theorem ObR.mono (hI : ∀ b, I b → I' b) (hw : ∀ b, I b → w'.heap[b]? = w.heap[b]?) (hβ : ∀ (i : Nat) (b : Value), β[i]? = some b → β'[i]? = some b)
    {b : Value} {S S' : Nat → Prop} {o : Ob} (h : ObR w I β b S o) (hS : ∀ b, S b → w'.heap[b]? = w.heap[b]?) (hSS : ∀ b, S b → S' b) : ObR w' I' β' b S' o := by
  cases o with
  | row sz xs hole =>
    rcases h with ⟨h0, A, rfl⟩ | ⟨g, cap, e, cur, fr, c, F, rfl, hu, hn, hcap, hm, hg, hb, hfr, hs, hc, H, hk, hF, hD⟩
    · exact .inl ⟨h0, A, rfl⟩
    · exact .inr ⟨g, cap, e, cur, fr, c, F, rfl, hu, hn, hcap, hm, hSS _ hg, (hS _ hg).trans hb, hfr, hs, hc,
        fun i j x hx hh => (H i j x hx hh).mono hI hw (fun b hb => hS _ (hF i j b hb).1) (fun _ h => h), fun i j k h => hβ _ _ (hk i j k h),
        fun i j b hb => ⟨hSS _ (hF i j b hb).1, (hF i j b hb).2⟩, hD⟩
  | box cs =>
    obtain ⟨g, cur, e, rfl, hg, hb, H⟩ := h
    exact ⟨g, cur, e, rfl, hSS _ hg, (hS _ hg).trans hb, H.mono hI hw hβ⟩
  | fro sz xs => exact Im.mono hI hw h
  | none => trivial
end

def kb (l : List Bool) (i : Nat) : Bool := (l[i]?).getD false

/-- Slots: how many, and what each holds. -/
structure Sl where
  length : Nat
  f : Nat → AV
namespace Sl
def set (s : Sl) (d : Nat) (v : AV) : Sl := ⟨s.length, fun t => sel (Nat.beq t d) v (s.f t)⟩
def map (g : AV → AV) (s : Sl) : Sl := ⟨s.length, fun t => g (s.f t)⟩
def ofF : List AV → Nat → AV
  | [], _ => .dead
  | x :: xs, t => sel (Nat.beq t 0) x (ofF xs (t - 1))
def of (l : List AV) : Sl := ⟨l.length, ofF l⟩
end Sl
instance : GetElem? Sl Nat AV (fun s t => t < s.length) where
  getElem s t _ := s.f t
  getElem? s t := if t < s.length then some (s.f t) else Option.none
namespace Sl
theorem get_def (s : Sl) (t : Nat) : s[t]? = if t < s.length then some (s.f t) else Option.none := rfl
theorem sel_beq (t d : Nat) (x y : AV) : sel (Nat.beq t d) x y = if t = d then x else y := by
  by_cases h : t = d
  · subst h; simp [sel]
  · have : Nat.beq t d = false := by
      cases hb : Nat.beq t d with
      | false => rfl
      | true => exact absurd (Nat.eq_of_beq_eq_true hb) h
    simp [this, sel, h]
@[simp] theorem length_set (s : Sl) (d : Nat) (v : AV) : (s.set d v).length = s.length := rfl
@[simp] theorem length_map (s : Sl) (g : AV → AV) : (s.map g).length = s.length := rfl
@[simp] theorem getElem?_map (s : Sl) (g : AV → AV) (t : Nat) : (s.map g)[t]? = s[t]?.map g := by
  rw [get_def, get_def]
  by_cases h : t < s.length
  · rw [if_pos h, if_pos (show t < (s.map g).length from h)]; rfl
  · rw [if_neg h, if_neg (show ¬ t < (s.map g).length from h)]; rfl
theorem getElem?_set (s : Sl) (d t : Nat) (v : AV) : (s.set d v)[t]? = if d = t then (if d < s.length then some v else Option.none) else s[t]? := by
  simp only [get_def, length_set, set, sel_beq]
  by_cases h : d = t
  · subst h; simp
  · have h' : ¬ t = d := fun e => h e.symm
    simp [h, h']
theorem getElem?_set_ne (s : Sl) {d t : Nat} (h : d ≠ t) (v : AV) : (s.set d v)[t]? = s[t]? := by rw [getElem?_set, if_neg h]
theorem some_iff {s : Sl} {t : Nat} {v : AV} : s[t]? = some v ↔ t < s.length ∧ s.f t = v := by
  rw [get_def]
  split
  · rename_i h; simp [h]
  · rename_i h; simp [h]
theorem get_lt {s : Sl} {t : Nat} (h : t < s.length) : s[t]? = some (s.f t) := if_pos h
theorem get_ge {s : Sl} {t : Nat} (h : s.length ≤ t) : s[t]? = Option.none := if_neg (Nat.not_lt.2 h)
theorem set_self (s : Sl) (t : Nat) : s.set t (s.f t) = s := by
  obtain ⟨n, f⟩ := s
  simp only [set, sel_beq]
  congr 1
  funext x
  split
  · rename_i h; rw [h]
  · rfl
theorem ofF_get : ∀ (l : List AV) (t : Nat), t < l.length → some (ofF l t) = l[t]?
  | [], t, h => by simp at h
  | x :: xs, 0, _ => rfl
  | x :: xs, t + 1, h => by
    rw [ofF, sel_beq, if_neg (by omega), Nat.add_sub_cancel, ofF_get xs t (by simpa using h)]
    simp
theorem ofF_ge : ∀ (l : List AV) (t : Nat), l.length ≤ t → ofF l t = .dead
  | [], t, _ => rfl
  | x :: xs, 0, h => by simp at h
  | x :: xs, t + 1, h => by
    rw [ofF, sel_beq, if_neg (by omega), Nat.add_sub_cancel, ofF_ge xs t (by simpa using h)]
@[simp] theorem length_of (l : List AV) : (of l).length = l.length := rfl
@[simp] theorem getElem?_of (l : List AV) (t : Nat) : (of l)[t]? = l[t]? := by
  rw [get_def]
  split
  · rename_i h; exact ofF_get l t h
  · rename_i h; exact (List.getElem?_eq_none (Nat.not_lt.1 h)).symm
theorem map_id' (s : Sl) {g : AV → AV} (h : ∀ x, g x = x) : s.map g = s := by
  obtain ⟨n, f⟩ := s
  simp only [map, h]
end Sl

/-- The slots, the objects, and which of these (handed in) must keep their header. -/
structure St where
  slots : Sl
  obs : List Ob
  ks : List Bool

/-- What a call may change: the blocks of X, and new ones. -/
structure Fr (X : Nat → Prop) (w w' : World) : Prop where
  os : w'.os = w.os
  tape : w'.tape = w.tape
  output : w'.output = w.output
  size : w.heap.size ≤ w'.heap.size
  block : ∀ b, b < w.heap.size → ¬ X b → w'.heap[b]? = w.heap[b]?

theorem Fr.refl (X : Nat → Prop) (w : World) : Fr X w w := ⟨rfl, rfl, rfl, Nat.le_refl _, fun _ _ _ => rfl⟩
theorem Fr.trans {X Y : Nat → Prop} {a b c : World} (h : Fr X a b) (k : Fr Y b c) (hY : ∀ x, Y x → X x ∨ a.heap.size ≤ x) : Fr X a c :=
  ⟨k.os.trans h.os, k.tape.trans h.tape, k.output.trans h.output, Nat.le_trans h.size k.size, fun x hx hX => (k.block x (Nat.lt_of_lt_of_le hx h.size) (fun hy => (hY x hy).elim hX (by omega))).trans (h.block x hx hX)⟩
theorem Fr.mono {X Y : Nat → Prop} {a b : World} (h : Fr X a b) (hY : ∀ x, X x → Y x) : Fr Y a b := ⟨h.os, h.tape, h.output, h.size, fun x hx hy => h.block x hx (fun hX => hy (hY _ hX))⟩
theorem Fr.drew (X : Nat → Prop) (w : World) : Fr X w w.drew := ⟨rfl, rfl, rfl, Nat.le_refl _, fun _ _ _ => rfl⟩
theorem Fr.alloc (X : Nat → Prop) (w : World) (o : Obj) : Fr X w (w.alloc o) := ⟨rfl, rfl, rfl, by simp, fun b hb _ => heap_alloc_old w o b hb⟩
theorem Fr.setCell {X : Nat → Prop} {w : World} {a : Addr} {v : Value} (h : X a.block) : Fr X w (w.setCell a v) :=
  ⟨rfl, rfl, rfl, by simp [World.setCell], fun b hb hX => by
    simp only [World.setCell, Array.getElem?_modify]
    rw [if_neg (by rintro rfl; exact hX h)]⟩

/-- What the library's own variable holds: an int; its block is not written. -/
def Amb (w : World) (I : Nat → Prop) : Prop := ∀ g, ambG = some g → I g ∧ ∃ m, w.cell? ⟨g, 0, none⟩ = some (.int .i64 m)
structure IL (w : World) (I : Nat → Prop) : Prop where
  lt : ∀ b, I b → b < w.heap.size
  am : Amb w I
theorem IL.mono {w w' : World} {I I' : Nat → Prop} (h : IL w I) (hI : ∀ b, I b → I' b) (hw : ∀ b, I b → w'.heap[b]? = w.heap[b]?) (hlt : ∀ b, I' b → b < w'.heap.size) : IL w' I' :=
  ⟨hlt, fun g hg => by
    obtain ⟨h1, m, h2⟩ := h.am g hg
    refine ⟨hI g h1, m, ?_⟩
    rw [← h2]
    simp only [World.cell?]
    rw [hw g h1]⟩
/-- What a state says of slots and memory. -/
structure RelV (st : St) (a : Act) (w : World) (I : Nat → Prop) (β : List Value) (S : Nat → Nat → Prop) : Prop where
  sz : a.tmps.size = st.slots.length
  bl : β.length = st.obs.length
  slot : ∀ (t : Nat) (v : AV) (c : Value), st.slots[t]? = some v → a.tmps[t]? = some c → AVR w I β v c
  ob : ∀ (i : Nat) (o : Ob) (b : Value), st.obs[i]? = some o → β[i]? = some b → ObR w I β b (S i) o
  sdis : ∀ i j b, S i b → S j b → i = j
  slt : ∀ i b, S i b → i < st.obs.length ∧ b < w.heap.size ∧ ¬ I b
  il : IL w I

theorem RelV.ilt {st : St} {a : Act} {w : World} {I : Nat → Prop} {β : List Value} {S : Nat → Nat → Prop} (h : RelV st a w I β S) : ∀ b, I b → b < w.heap.size := h.il.lt

/-- A call: the world when it began, what was immutable, what it may write, the headers of what was handed in. -/
structure Cx where
  w0 : World
  I0 : Nat → Prop
  X : Nat → Prop
  β0 : List Value

structure RelC (c : Cx) (st : St) (a : Act) (w : World) (I : Nat → Prop) (β : List Value) (S : Nat → Nat → Prop) : Prop where
  own : ∀ i b, S i b → c.w0.heap.size ≤ b ∨ c.X b
  isub : ∀ b, c.I0 b → I b
  iinv : ∀ b, I b → c.I0 b ∨ c.w0.heap.size ≤ b ∨ c.X b
  frame : Fr c.X c.w0 w
  keep : ∀ i, i < c.β0.length → kb st.ks i = true → β[i]? = c.β0[i]?
  defers : a.defers = []

theorem RelC.klt {c : Cx} {st : St} {a : Act} {w : World} {I : Nat → Prop} {β : List Value} {S : Nat → Nat → Prop} (h : RelC c st a w I β S) {i : Nat} (hi : i < c.β0.length) (hk : kb st.ks i = true) : i < β.length := by
  have h1 := h.keep i hi hk
  rw [List.getElem?_eq_getElem hi] at h1
  exact (List.getElem?_eq_some_iff.1 h1).1

def Rel (c : Cx) (st : St) (a : Act) (w : World) : Prop := ∃ I β S, RelV st a w I β S ∧ RelC c st a w I β S

end Go.Al
