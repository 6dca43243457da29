import Derived.Test.YtahffnkphppgoaaGreatAlG
import Derived.Calls
import Derived.Control
import Derived.Tactics
import Derived.Below
import Derived.Laws.AppendOwn
import Derived.Laws.Rows
import Derived.Laws.Entries
import Derived.Laws.Sem
import Derived.KernelRfl
import Derived.ChangeKeysEq
import Derived.Laws.Cells
import Derived.Laws.CopyRow
import Derived.Laws.Tables
import Derived.Laws.Strings
import Derived.Laws.BytesArg
import Derived.Sort.Walk0
import Derived.WideShapes
import Derived.Laws.MakeOwn
import Derived.Lib.ConvBytes
import Derived.Laws.Append
set_option linter.unusedVariables false
set_option linter.unusedSimpArgs false
set_option linter.constructorNameAsVariable false
set_option linter.unusedSectionVars false
namespace Go.Al
structure Rw (α : Type) where
  n : Nat
  g : Nat → List α
inductive N where
  | v (x : Value)
  | sl (sz : Nat) (xs : Rw N)
  | im (x : N)
def maxN : Nat := 140737488355328
def Rw.nil {α : Type} : Rw α := ⟨0, fun _ => []⟩
def sel {α : Type} (b : Bool) (x y : α) : α := match b with
  | true => x
  | false => y
theorem sel_if {α : Type} {p : Prop} [Decidable p] (x y : α) : sel (decide p) x y = if p then x else y := by
  by_cases h : p <;> simp [h, sel]
def mrgV (b : Bool) (x y : Value) : Value := match x, y with
  | .int k x, .int k' y => if k = k' then .int k (sel b x y) else sel b (.int k x) (.int k' y)
  | .bool x, .bool y => .bool (sel b x y)
  | .string x, .string y => .string (sel b x y)
  | x, y => sel b x y
def mrgL (f : N → N → N) (b : Bool) : List N → List N → List N
  | [], [] => []
  | x :: xs, y :: ys => f x y :: mrgL f b xs ys
  | xs, ys => sel b xs ys
def mrgN : Nat → Bool → N → N → N
  | 0, b, x, y => sel b x y
  | d + 1, b, x, y => match x, y with
    | .v x, .v y => .v (mrgV b x y)
    | .sl s xs, .sl s' ys => if s = s' then .sl s ⟨sel b xs.n ys.n, fun i => mrgL (mrgN d b) b (xs.g i) (ys.g i)⟩ else sel b (.sl s xs) (.sl s' ys)
    | .im x, .im y => .im (mrgN d b x y)
    | x, y => sel b x y
def mrgE (b : Bool) (x y : List N) : List N := mrgL (mrgN 8 b) b x y
theorem mrgV_eq (b : Bool) (x y : Value) : mrgV b x y = sel b x y := by
  unfold mrgV
  split
  · split
    · rename_i h; subst h; cases b <;> rfl
    · rfl
  · cases b <;> rfl
  · cases b <;> rfl
  · rfl
theorem mrgL_eq {f : N → N → N} {b : Bool} (hf : ∀ x y, f x y = sel b x y) : ∀ (x y : List N), mrgL f b x y = sel b x y
  | [], [] => by cases b <;> rfl
  | x :: xs, y :: ys => by rw [mrgL, hf, mrgL_eq hf xs ys]; cases b <;> rfl
  | [], _ :: _ => rfl
  | _ :: _, [] => rfl
theorem mrgN_eq : ∀ (d : Nat) (b : Bool) (x y : N), mrgN d b x y = sel b x y
  | 0, _, _, _ => rfl
  | d + 1, b, x, y => by
    unfold mrgN
    split
    · rw [mrgV_eq]; cases b <;> rfl
    · split
      · rename_i s xs s' ys h
        subst h
        have : (fun i => mrgL (mrgN d b) b (xs.g i) (ys.g i)) = sel b xs.g ys.g := by
          funext i
          rw [mrgL_eq (mrgN_eq d b)]
          cases b <;> rfl
        rw [this]
        cases b <;> rfl
      · rfl
    · rw [mrgN_eq d]; cases b <;> rfl
    · rfl
theorem mrgE_eq (b : Bool) (x y : List N) : mrgE b x y = sel b x y := mrgL_eq (mrgN_eq 8 b) x y
def Rw.app (xs ys : Rw N) : Rw N := ⟨xs.n + ys.n, fun i => mrgE (decide (i < xs.n)) (xs.g i) (ys.g (i - xs.n))⟩
def Rw.set (xs : Rw N) (k : Nat) (e : List N) : Rw N := ⟨xs.n, fun i => mrgE (decide (i = k)) e (xs.g i)⟩
theorem Rw.app_eq (xs ys : Rw N) : xs.app ys = ⟨xs.n + ys.n, fun i => if i < xs.n then xs.g i else ys.g (i - xs.n)⟩ := by simp only [Rw.app, mrgE_eq, sel_if]
theorem Rw.set_eq (xs : Rw N) (k : Nat) (e : List N) : xs.set k e = ⟨xs.n, fun i => if i = k then e else xs.g i⟩ := by simp only [Rw.set, mrgE_eq, sel_if]
def Rw.sub {α : Type} (xs : Rw α) (l h : Nat) : Rw α := ⟨h - l, fun i => xs.g (l + i)⟩
def Rw.map {α β : Type} (f : α → β) (xs : Rw α) : Rw β := ⟨xs.n, fun i => (xs.g i).map f⟩
def Rw.rep {α : Type} (n : Nat) (e : List α) : Rw α := ⟨n, fun _ => e⟩
def at2 {α : Type} (xs : Rw α) (i j : Nat) : Option α := if i < xs.n then (xs.g i)[j]? else none
def unif {α : Type} (sz : Nat) (xs : Rw α) : Prop := ∀ i, i < xs.n → (xs.g i).length = sz
theorem at2_lt {α : Type} {xs : Rw α} {i j sz : Nat} {x : α} (hu : unif sz xs) (h : at2 xs i j = some x) : i < xs.n ∧ j < sz := by
  unfold at2 at h
  split at h
  · rename_i hi
    exact ⟨hi, by rw [← hu i hi]; exact (List.getElem?_eq_some_iff.1 h).1⟩
  · cases h
theorem at2_of {α : Type} {xs : Rw α} {i : Nat} (hi : i < xs.n) (j : Nat) : at2 xs i j = (xs.g i)[j]? := if_pos hi
theorem at2_pos {α : Type} {xs : Rw α} {i j : Nat} {x : α} (h : at2 xs i j = some x) : i < xs.n ∧ (xs.g i)[j]? = some x := by
  unfold at2 at h
  split at h
  · exact ⟨‹_›, h⟩
  · cases h
theorem at2_zero {α : Type} {xs : Rw α} (h0 : xs.n = 0) (i j : Nat) : at2 xs i j = none := by simp [at2, h0]
theorem unif_zero {α : Type} {xs : Rw α} (h0 : xs.n = 0) (sz : Nat) : unif sz xs := fun i hi => by omega
inductive Im (w : World) (I : Nat → Prop) : N → Value → Prop
  | v {x : Value} (h : x.oneCell' = true) : Im w I (.v x) x
  | im {x : N} {c : Value} (h : Im w I x c) : Im w I (.im x) c
  | sl {sz : Nat} {xs : Rw N} (A : Option Addr) (cap : Nat) (ad : Addr) (c : Nat → Nat → Value)
      (hu : unif sz xs) (hn : xs.n ≤ maxN) (hcap : xs.n ≤ cap)
      (hA : xs.n ≠ 0 → A = some ad ∧ I ad.block)
      (hc : ∀ i j x, at2 xs i j = some x → w.cell? (ad.add (i * sz + j)) = some (c i j))
      (H : ∀ i j x, at2 xs i j = some x → Im w I x (c i j)) :
      Im w I (.sl sz xs) (.slice A xs.n cap)
theorem add_block (a : Addr) (n : Nat) : (a.add n).block = a.block := by unfold Addr.add; split <;> rfl
theorem cell_same {w w' : World} {a : Addr} (h : w'.heap[a.block]? = w.heap[a.block]?) : w'.cell? a = w.cell? a := by simp [World.cell?, h]
theorem Im.mono {w w' : World} {I I' : Nat → Prop} (hI : ∀ b, I b → I' b) (hw : ∀ b, I b → w'.heap[b]? = w.heap[b]?) :
    ∀ {x : N} {c : Value}, Im w I x c → Im w' I' x c := by
  intro x c h
  induction h with
  | v h => exact .v h
  | im _ ih => exact .im ih
  | sl A cap ad c hu hn hcap hA hc H ih =>
    refine .sl A cap ad c hu hn hcap (fun hne => ⟨(hA hne).1, hI _ (hA hne).2⟩) (fun i j x hx => ?_) ih
    rw [cell_same]
    · exact hc i j x hx
    · rw [add_block]
      refine hw _ (hA ?_).2
      have := (at2_pos hx).1
      omega
theorem Im.zero {w : World} {I : Nat → Prop} {sz : Nat} {xs : Rw N} (h0 : xs.n = 0) (A : Option Addr) : Im w I (.sl sz xs) (.slice A 0 0) := by
  have := Im.sl (w := w) (I := I) (sz := sz) (xs := xs) A 0 default (fun _ _ => undef) (unif_zero h0 sz) (by omega) (by omega) (fun h => absurd h0 h) (fun i j x hx => by rw [at2_zero h0] at hx; cases hx) (fun i j x hx => by rw [at2_zero h0] at hx; cases hx)
  rwa [h0] at this
theorem Im.one {w : World} {I : Nat → Prop} {x : N} {c : Value} (h : Im w I x c) : c.oneCell' = true := by
  induction h with
  | v h => exact h
  | im _ ih => exact ih
  | sl => rfl
inductive Own (w : World) (I : Nat → Prop) : N → Value → (Nat → Prop) → Prop
  | v {x : Value} {S : Nat → Prop} (h : x.oneCell' = true) : Own w I (.v x) x S
  | im {x : N} {c : Value} {S : Nat → Prop} (h : Im w I x c) : Own w I (.im x) c S
  | nil {sz : Nat} {xs : Rw N} {S : Nat → Prop} (A : Option Addr) (h0 : xs.n = 0) : Own w I (.sl sz xs) (.slice A 0 0) S
  | sl {sz : Nat} {xs : Rw N} {S : Nat → Prop} (g cap : Nat) (e : TypeId) (cur : Array Value) (fr : Nat × Nat) (c : Nat → Nat → Value) (F : Nat → Nat → Nat → Prop)
      (hu : unif sz xs) (hn : xs.n ≤ maxN) (hcap : xs.n ≤ cap) (hm : cap ≤ maxLen) (hg : S g)
      (hb : w.heap[g]? = some (.cells cur e fr)) (hfr : (cur.size ≤ fr.1 ∧ sz = 1) ∨ fr.2 ≤ fr.1) (hs : cur.size = cap * sz)
      (hc : ∀ i j x, at2 xs i j = some x → cur[i * sz + j]? = some (c i j))
      (H : ∀ i j x, at2 xs i j = some x → Own w I x (c i j) (F i j))
      (hF : ∀ i j b, F i j b → S b ∧ b ≠ g)
      (hD : ∀ i j i' j' b, F i j b → F i' j' b → i = i' ∧ j = j') :
      Own w I (.sl sz xs) (.slice (some ⟨g, 0, none⟩) xs.n cap) S
theorem Own.one {w : World} {I : Nat → Prop} {x : N} {c : Value} {S : Nat → Prop} (h : Own w I x c S) : c.oneCell' = true := by
  cases h with
  | v h => exact h
  | im h => exact h.one
  | nil => rfl
  | sl => rfl
theorem Own.mono {w w' : World} {I I' : Nat → Prop} (hI : ∀ b, I b → I' b) (hw : ∀ b, I b → w'.heap[b]? = w.heap[b]?) :
    ∀ {x : N} {c : Value} {S : Nat → Prop}, Own w I x c S → (∀ b, S b → w'.heap[b]? = w.heap[b]?) → ∀ {S' : Nat → Prop}, (∀ b, S b → S' b) → Own w' I' x c S' := by
  intro x c S h
  induction h with
  | v h => exact fun _ _ _ => .v h
  | im h => exact fun _ _ _ => .im (h.mono hI hw)
  | nil A h0 => exact fun _ _ _ => .nil A h0
  | sl g cap e cur fr c F hu hn hcap hm hg hb hfr hs hc H hF hD ih =>
    intro hS S' hSS
    exact .sl g cap e cur fr c F hu hn hcap hm (hSS _ hg) ((hS _ hg).trans hb) hfr hs hc
      (fun i j x hx => ih i j x hx (fun b hb => hS _ (hF _ _ _ hb).1) (fun b hb => hb)) (fun i j b hb => ⟨hSS _ (hF i j b hb).1, (hF i j b hb).2⟩) hD
theorem ZG {w : World} {g : Nat} {cur : Array Value} {e : TypeId} {fr : Nat × Nat} (hb : w.heap[g]? = some (.cells cur e fr)) (k : Nat) :
    w.cell? ⟨g, k, none⟩ = cur[k]? := by simp [World.cell?, hb]
theorem add0 (g k : Nat) : (⟨g, 0, none⟩ : Addr).add k = ⟨g, k, none⟩ := by unfold Addr.add; split <;> simp_all
theorem add00 (g o k : Nat) : (⟨g, o, none⟩ : Addr).add k = ⟨g, o + k, none⟩ := by unfold Addr.add; split <;> simp_all
theorem Own.lend {w : World} {I : Nat → Prop} : ∀ {x : N} {c : Value} {S : Nat → Prop}, Own w I x c S → ∀ {J : Nat → Prop}, (∀ b, I b → J b) → (∀ b, S b → J b) → Im w J x c := by
  intro x c S h
  induction h with
  | v h => exact fun _ _ => .v h
  | im h => exact fun hI _ => .im (h.mono hI (fun _ _ => rfl))
  | nil A h0 => exact fun _ _ => Im.zero h0 A
  | sl g cap e cur fr c F hu hn hcap hm hg hb hfr hs hc H hF hD ih =>
    intro J hI hS
    refine .sl (some ⟨g, 0, none⟩) cap ⟨g, 0, none⟩ c hu hn hcap (fun _ => ⟨rfl, hS _ hg⟩) (fun i j x hx => ?_) (fun i j x hx => ih i j x hx hI (fun b hb => hS _ (hF i j b hb).1))
    rw [add0, ZG hb]
    exact hc i j x hx
inductive C where
  | n (x : N)
  | h (i : Nat)
  | p (i off : Nat)
  | z
  | u
  | b (x : N) (loc : Option (Nat × Nat × Nat))
inductive K where
  | c (x : C)
  | a (cs : List C)
inductive AV where
  | c (x : C)
  | a (cs : List C)
  | tup (vs : List K)
  | fn (f : FuncId) (cs : List C)
  | ea (i sz idx f : Nat)
  | ra (cs : List N)
  | rb (cs : List N) (loc : Option (Nat × Nat × Nat × Nat × Nat × Nat))
  | dead
section
variable (w : World) (I : Nat → Prop) (β : List Value)
def CR : C → Value → Prop
  | .n x, v => Im w I x v
  | .h i, v => β[i]? = some v ∧ v.oneCell' = true
  | .p i off, v => ∃ g, β[i]? = some (.pointer (some ⟨g, 0, none⟩)) ∧ v = .pointer (some ⟨g, off, none⟩)
  | .z, v => ∃ A, v = .slice A 0 0
  | .u, v => v.oneCell' = true
  | .b _ _, v => v.oneCell' = true
def CsR (cs : List C) (a : Array Value) : Prop := a.size = cs.length ∧ ∀ (j : Nat) (x : C) (v : Value), cs[j]? = some x → a[j]? = some v → CR w I β x v
def KR : K → Value → Prop
  | .c x, v => CR w I β x v
  | .a cs, v => ∃ a, v = .agg a ∧ CsR w I β cs a
def AVR : AV → Value → Prop
  | .c x, v => CR w I β x v
  | .a cs, v => ∃ a, v = .agg a ∧ CsR w I β cs a
  | .tup vs, v => ∃ a, v = .tuple a ∧ a.size = vs.length ∧ ∀ (j : Nat) (x : K) (v : Value), vs[j]? = some x → a[j]? = some v → KR w I β x v
  | .fn f cs, v => ∃ a, v = .func (.func f) #[] a ∧ CsR w I β cs a
  | .ea i sz idx f, v => ∃ g n cap, β[i]? = some (.slice (some ⟨g, 0, none⟩) n cap) ∧ v = .pointer (some ⟨g, idx * sz + f, none⟩)
  | .ra cs, v => ∃ (ad : Addr) (c : Nat → Value), v = .pointer (some ad) ∧ I ad.block ∧ (∀ (j : Nat) (x : N), cs[j]? = some x → w.cell? (ad.add j) = some (c j)) ∧ (∀ (j : Nat) (x : N), cs[j]? = some x → Im w I x (c j))
  | .rb _ _, _ => True
  | .dead, _ => True
end
section
variable {w w' : World} {I I' : Nat → Prop} {β β' : List Value}
theorem CR.mono2 (hI : ∀ b, I b → I' b) (hw : ∀ b, I b → w'.heap[b]? = w.heap[b]?) (hβ : ∀ (i : Nat) (b : Value), b.oneCell' = true → β[i]? = some b → β'[i]? = some b) {x : C} {v : Value} (h : CR w I β x v) : CR w' I' β' x v := by
  cases x with
  | n x => exact Im.mono hI hw h
  | h i => exact ⟨hβ _ _ h.2 h.1, h.2⟩
  | p i off => obtain ⟨g, h1, h2⟩ := h; exact ⟨g, hβ _ _ rfl h1, h2⟩
  | z => exact h
  | u => exact h
  | b x loc => exact h
theorem CR.mono (hI : ∀ b, I b → I' b) (hw : ∀ b, I b → w'.heap[b]? = w.heap[b]?) (hβ : ∀ (i : Nat) (b : Value), β[i]? = some b → β'[i]? = some b) {x : C} {v : Value} (h : CR w I β x v) : CR w' I' β' x v := h.mono2 hI hw (fun i b _ => hβ i b)
theorem CR.one {x : C} {v : Value} (h : CR w I β x v) : v.oneCell' = true := by
  cases x with
  | n x => exact Im.one h
  | h i => exact h.2
  | p i off => obtain ⟨g, h1, rfl⟩ := h; rfl
  | z => obtain ⟨A, rfl⟩ := h; rfl
  | u => exact h
  | b x loc => exact h
theorem CsR.mono2 (hI : ∀ b, I b → I' b) (hw : ∀ b, I b → w'.heap[b]? = w.heap[b]?) (hβ : ∀ (i : Nat) (b : Value), b.oneCell' = true → β[i]? = some b → β'[i]? = some b) {cs : List C} {a : Array Value} (h : CsR w I β cs a) : CsR w' I' β' cs a :=
  ⟨h.1, fun j x v hx hv => (h.2 j x v hx hv).mono2 hI hw hβ⟩
theorem KR.mono2 (hI : ∀ b, I b → I' b) (hw : ∀ b, I b → w'.heap[b]? = w.heap[b]?) (hβ : ∀ (i : Nat) (b : Value), b.oneCell' = true → β[i]? = some b → β'[i]? = some b) {x : K} {v : Value} (h : KR w I β x v) : KR w' I' β' x v := by
  cases x with
  | c x => exact CR.mono2 hI hw hβ h
  | a cs => obtain ⟨a, rfl, h⟩ := h; exact ⟨a, rfl, h.mono2 hI hw hβ⟩
theorem AVR.mono2 (hI : ∀ b, I b → I' b) (hw : ∀ b, I b → w'.heap[b]? = w.heap[b]?) (hβ : ∀ (i : Nat) (b : Value), b.oneCell' = true → β[i]? = some b → β'[i]? = some b) {x : AV} {v : Value} (h : AVR w I β x v) : AVR w' I' β' x v := by
  cases x with
  | c x => exact CR.mono2 hI hw hβ h
  | a cs => obtain ⟨a, rfl, h⟩ := h; exact ⟨a, rfl, h.mono2 hI hw hβ⟩
  | tup vs => obtain ⟨a, rfl, hl, h⟩ := h; exact ⟨a, rfl, hl, fun j x v hx hv => (h j x v hx hv).mono2 hI hw hβ⟩
  | fn f cs => obtain ⟨a, rfl, h⟩ := h; exact ⟨a, rfl, h.mono2 hI hw hβ⟩
  | ea i sz idx f => obtain ⟨g, n, cap, h, rfl⟩ := h; exact ⟨g, n, cap, hβ _ _ rfl h, rfl⟩
  | ra cs =>
    obtain ⟨ad, c, rfl, hi, hc, H⟩ := h
    refine ⟨ad, c, rfl, hI _ hi, fun j x hx => ?_, fun j x hx => (H j x hx).mono hI hw⟩
    rw [cell_same]
    · exact hc j x hx
    · rw [add_block]; exact hw _ hi
  | rb cs loc => trivial
  | dead => trivial
theorem CsR.mono (hI : ∀ b, I b → I' b) (hw : ∀ b, I b → w'.heap[b]? = w.heap[b]?) (hβ : ∀ (i : Nat) (b : Value), β[i]? = some b → β'[i]? = some b) {cs : List C} {a : Array Value} (h : CsR w I β cs a) : CsR w' I' β' cs a := h.mono2 hI hw (fun i b _ => hβ i b)
theorem KR.mono (hI : ∀ b, I b → I' b) (hw : ∀ b, I b → w'.heap[b]? = w.heap[b]?) (hβ : ∀ (i : Nat) (b : Value), β[i]? = some b → β'[i]? = some b) {x : K} {v : Value} (h : KR w I β x v) : KR w' I' β' x v := h.mono2 hI hw (fun i b _ => hβ i b)
theorem AVR.mono (hI : ∀ b, I b → I' b) (hw : ∀ b, I b → w'.heap[b]? = w.heap[b]?) (hβ : ∀ (i : Nat) (b : Value), β[i]? = some b → β'[i]? = some b) {x : AV} {v : Value} (h : AVR w I β x v) : AVR w' I' β' x v := h.mono2 hI hw (fun i b _ => hβ i b)
end
inductive Ob where
  | row (sz : Nat) (xs : Rw N) (hole : List (Nat × Nat × Option Nat))
  | box (cs : List C)
  | fro (sz : Nat) (xs : Rw N)
  | none
def isHole (h : List (Nat × Nat × Option Nat)) (i j : Nat) : Prop := ∃ k, (i, j, k) ∈ h
def RowR (w : World) (I : Nat → Prop) (β : List Value) (b : Value) (S : Nat → Prop) (sz : Nat) (xs : Rw N) (hole : List (Nat × Nat × Option Nat)) : Prop :=
  (xs.n = 0 ∧ ∃ A, b = .slice A 0 0) ∨
  ∃ (g cap : Nat) (e : TypeId) (cur : Array Value) (fr : Nat × Nat) (c : Nat → Nat → Value) (F : Nat → Nat → Nat → Prop),
    b = .slice (some ⟨g, 0, none⟩) xs.n cap ∧ unif sz xs ∧ xs.n ≤ maxN ∧ xs.n ≤ cap ∧ cap ≤ maxLen ∧ S g ∧
    w.heap[g]? = some (.cells cur e fr) ∧ ((cur.size ≤ fr.1 ∧ sz = 1) ∨ fr.2 ≤ fr.1) ∧ cur.size = cap * sz ∧
    (∀ i j x, at2 xs i j = some x → cur[i * sz + j]? = some (c i j)) ∧
    (∀ i j x, at2 xs i j = some x → ¬ isHole hole i j → Own w I x (c i j) (F i j)) ∧
    (∀ (i j k : Nat), (i, j, some k) ∈ hole → β[k]? = some (c i j) ∧ (c i j).oneCell' = true) ∧
    (∀ i j b, F i j b → S b ∧ b ≠ g) ∧ (∀ i j i' j' b, F i j b → F i' j' b → i = i' ∧ j = j')
def ObR (w : World) (I : Nat → Prop) (β : List Value) (b : Value) (S : Nat → Prop) : Ob → Prop
  | .row sz xs hole => RowR w I β b S sz xs hole
  | .box cs => ∃ (g : Nat) (cur : Array Value) (e : TypeId), b = .pointer (some ⟨g, 0, none⟩) ∧ S g ∧ w.heap[g]? = some (.cells cur e (0, 0)) ∧ CsR w I β cs cur
  | .fro sz xs => Im w I (.sl sz xs) b
  | .none => True
section
variable {w w' : World} {I I' : Nat → Prop} {β β' : List Value}
theorem RowR.own {b : Value} {S : Nat → Prop} {sz : Nat} {xs : Rw N} (h : RowR w I β b S sz xs []) : Own w I (.sl sz xs) b S := by
  rcases h with ⟨h0, A, rfl⟩ | ⟨g, cap, e, cur, fr, c, F, rfl, hu, hn, hcap, hm, hg, hb, hfr, hs, hc, H, -, hF, hD⟩
  · exact .nil A h0
  · exact .sl g cap e cur fr c F hu hn hcap hm hg hb hfr hs hc (fun i j x hx => H i j x hx (by rintro ⟨k, hk⟩; cases hk)) hF hD
theorem RowR.of_own {b : Value} {S : Nat → Prop} {sz : Nat} {xs : Rw N} (h : Own w I (.sl sz xs) b S) : RowR w I β b S sz xs [] := by
  cases h with
  | nil A h0 => exact .inl ⟨h0, A, rfl⟩
  | sl g cap e cur fr c F hu hn hcap hm hg hb hfr hs hc H hF hD =>
    exact .inr ⟨g, cap, e, cur, fr, c, F, rfl, hu, hn, hcap, hm, hg, hb, hfr, hs, hc, fun i j x hx _ => H i j x hx, (by intro i j k h; cases h), hF, hD⟩
theorem ObR.mono2 (hI : ∀ b, I b → I' b) (hw : ∀ b, I b → w'.heap[b]? = w.heap[b]?) (hβ : ∀ (i : Nat) (b : Value), b.oneCell' = true → β[i]? = some b → β'[i]? = some b)
    {b : Value} {S S' : Nat → Prop} {o : Ob} (h : ObR w I β b S o) (hS : ∀ b, S b → w'.heap[b]? = w.heap[b]?) (hSS : ∀ b, S b → S' b) : ObR w' I' β' b S' o := by
  cases o with
  | row sz xs hole =>
    rcases h with ⟨h0, A, rfl⟩ | ⟨g, cap, e, cur, fr, c, F, rfl, hu, hn, hcap, hm, hg, hb, hfr, hs, hc, H, hk, hF, hD⟩
    · exact .inl ⟨h0, A, rfl⟩
    · exact .inr ⟨g, cap, e, cur, fr, c, F, rfl, hu, hn, hcap, hm, hSS _ hg, (hS _ hg).trans hb, hfr, hs, hc,
        fun i j x hx hh => (H i j x hx hh).mono hI hw (fun b hb => hS _ (hF i j b hb).1) (fun _ h => h), fun i j k h => ⟨hβ _ _ (hk i j k h).2 (hk i j k h).1, (hk i j k h).2⟩,
        fun i j b hb => ⟨hSS _ (hF i j b hb).1, (hF i j b hb).2⟩, hD⟩
  | box cs =>
    obtain ⟨g, cur, e, rfl, hg, hb, H⟩ := h
    exact ⟨g, cur, e, rfl, hSS _ hg, (hS _ hg).trans hb, H.mono2 hI hw hβ⟩
  | fro sz xs => exact Im.mono hI hw h
  | none => trivial
theorem ObR.mono (hI : ∀ b, I b → I' b) (hw : ∀ b, I b → w'.heap[b]? = w.heap[b]?) (hβ : ∀ (i : Nat) (b : Value), β[i]? = some b → β'[i]? = some b)
    {b : Value} {S S' : Nat → Prop} {o : Ob} (h : ObR w I β b S o) (hS : ∀ b, S b → w'.heap[b]? = w.heap[b]?) (hSS : ∀ b, S b → S' b) : ObR w' I' β' b S' o := h.mono2 hI hw (fun i b _ => hβ i b) hS hSS
end
def kb (l : List Bool) (i : Nat) : Bool := (l[i]?).getD false
structure Sl where
  length : Nat
  f : Nat → AV
namespace Sl
def set (s : Sl) (d : Nat) (v : AV) : Sl := ⟨s.length, fun t => sel (Nat.beq t d) v (s.f t)⟩
def map (g : AV → AV) (s : Sl) : Sl := ⟨s.length, fun t => g (s.f t)⟩
def ofF : List AV → Nat → AV
  | [], _ => .dead
  | x :: xs, t => sel (Nat.beq t 0) x (ofF xs (t - 1))
def of (l : List AV) : Sl := ⟨l.length, ofF l⟩
end Sl
instance : GetElem? Sl Nat AV (fun s t => t < s.length) where
  getElem s t _ := s.f t
  getElem? s t := if t < s.length then some (s.f t) else Option.none
namespace Sl
theorem get_def (s : Sl) (t : Nat) : s[t]? = if t < s.length then some (s.f t) else Option.none := rfl
theorem sel_beq (t d : Nat) (x y : AV) : sel (Nat.beq t d) x y = if t = d then x else y := by
  by_cases h : t = d
  · subst h; simp [sel]
  · have : Nat.beq t d = false := by
      cases hb : Nat.beq t d with
      | false => rfl
      | true => exact absurd (Nat.eq_of_beq_eq_true hb) h
    simp [this, sel, h]
@[simp] theorem length_set (s : Sl) (d : Nat) (v : AV) : (s.set d v).length = s.length := rfl
@[simp] theorem length_map (s : Sl) (g : AV → AV) : (s.map g).length = s.length := rfl
@[simp] theorem getElem?_map (s : Sl) (g : AV → AV) (t : Nat) : (s.map g)[t]? = s[t]?.map g := by
  rw [get_def, get_def]
  by_cases h : t < s.length
  · rw [if_pos h, if_pos (show t < (s.map g).length from h)]; rfl
  · rw [if_neg h, if_neg (show ¬ t < (s.map g).length from h)]; rfl
theorem getElem?_set (s : Sl) (d t : Nat) (v : AV) : (s.set d v)[t]? = if d = t then (if d < s.length then some v else Option.none) else s[t]? := by
  simp only [get_def, length_set, set, sel_beq]
  by_cases h : d = t
  · subst h; simp
  · have h' : ¬ t = d := fun e => h e.symm
    simp [h, h']
theorem some_iff {s : Sl} {t : Nat} {v : AV} : s[t]? = some v ↔ t < s.length ∧ s.f t = v := by
  rw [get_def]
  split
  · rename_i h; simp [h]
  · rename_i h; simp [h]
theorem get_lt {s : Sl} {t : Nat} (h : t < s.length) : s[t]? = some (s.f t) := if_pos h
theorem set_self (s : Sl) (t : Nat) : s.set t (s.f t) = s := by
  obtain ⟨n, f⟩ := s
  simp only [set, sel_beq]
  congr 1
  funext x
  split
  · rename_i h; rw [h]
  · rfl
theorem ofF_get : ∀ (l : List AV) (t : Nat), t < l.length → some (ofF l t) = l[t]?
  | [], t, h => by simp at h
  | x :: xs, 0, _ => rfl
  | x :: xs, t + 1, h => by
    rw [ofF, sel_beq, if_neg (by omega), Nat.add_sub_cancel, ofF_get xs t (by simpa using h)]
    simp
theorem ofF_ge : ∀ (l : List AV) (t : Nat), l.length ≤ t → ofF l t = .dead
  | [], t, _ => rfl
  | x :: xs, 0, h => by simp at h
  | x :: xs, t + 1, h => by
    rw [ofF, sel_beq, if_neg (by omega), Nat.add_sub_cancel, ofF_ge xs t (by simpa using h)]
@[simp] theorem length_of (l : List AV) : (of l).length = l.length := rfl
@[simp] theorem getElem?_of (l : List AV) (t : Nat) : (of l)[t]? = l[t]? := by
  rw [get_def]
  split
  · rename_i h; exact ofF_get l t h
  · rename_i h; exact (List.getElem?_eq_none (Nat.not_lt.1 h)).symm
end Sl
structure St where
  slots : Sl
  obs : List Ob
  ks : List Bool
structure Fr (X : Nat → Prop) (w w' : World) : Prop where
  os : w'.os = w.os
  tape : w'.tape = w.tape
  output : w'.output = w.output
  size : w.heap.size ≤ w'.heap.size
  block : ∀ b, b < w.heap.size → ¬ X b → w'.heap[b]? = w.heap[b]?
theorem Fr.refl (X : Nat → Prop) (w : World) : Fr X w w := ⟨rfl, rfl, rfl, Nat.le_refl _, fun _ _ _ => rfl⟩
theorem Fr.trans {X Y : Nat → Prop} {a b c : World} (h : Fr X a b) (k : Fr Y b c) (hY : ∀ x, Y x → X x ∨ a.heap.size ≤ x) : Fr X a c :=
  ⟨k.os.trans h.os, k.tape.trans h.tape, k.output.trans h.output, Nat.le_trans h.size k.size, fun x hx hX => (k.block x (Nat.lt_of_lt_of_le hx h.size) (fun hy => (hY x hy).elim hX (by omega))).trans (h.block x hx hX)⟩
theorem Fr.mono {X Y : Nat → Prop} {a b : World} (h : Fr X a b) (hY : ∀ x, X x → Y x) : Fr Y a b := ⟨h.os, h.tape, h.output, h.size, fun x hx hy => h.block x hx (fun hX => hy (hY _ hX))⟩
theorem Fr.drew (X : Nat → Prop) (w : World) : Fr X w w.drew := ⟨rfl, rfl, rfl, Nat.le_refl _, fun _ _ _ => rfl⟩
theorem Fr.alloc (X : Nat → Prop) (w : World) (o : Obj) : Fr X w (w.alloc o) := ⟨rfl, rfl, rfl, by simp, fun b hb _ => heap_alloc_old w o b hb⟩
def Amb (w : World) (I : Nat → Prop) : Prop := ∀ g, ambG = some g → I g ∧ ∃ m, w.cell? ⟨g, 0, none⟩ = some (.int .i64 m)
structure IL (w : World) (I : Nat → Prop) : Prop where
  lt : ∀ b, I b → b < w.heap.size
  am : Amb w I
theorem IL.mono {w w' : World} {I I' : Nat → Prop} (h : IL w I) (hI : ∀ b, I b → I' b) (hw : ∀ b, I b → w'.heap[b]? = w.heap[b]?) (hlt : ∀ b, I' b → b < w'.heap.size) : IL w' I' :=
  ⟨hlt, fun g hg => by
    obtain ⟨h1, m, h2⟩ := h.am g hg
    refine ⟨hI g h1, m, ?_⟩
    rw [← h2]
    simp only [World.cell?]
    rw [hw g h1]⟩
structure RelV (st : St) (a : Act) (w : World) (I : Nat → Prop) (β : List Value) (S : Nat → Nat → Prop) : Prop where
  sz : a.tmps.size = st.slots.length
  bl : β.length = st.obs.length
  slot : ∀ (t : Nat) (v : AV) (c : Value), st.slots[t]? = some v → a.tmps[t]? = some c → AVR w I β v c
  ob : ∀ (i : Nat) (o : Ob) (b : Value), st.obs[i]? = some o → β[i]? = some b → ObR w I β b (S i) o
  sdis : ∀ i j b, S i b → S j b → i = j
  slt : ∀ i b, S i b → i < st.obs.length ∧ b < w.heap.size ∧ ¬ I b
  il : IL w I
theorem RelV.ilt {st : St} {a : Act} {w : World} {I : Nat → Prop} {β : List Value} {S : Nat → Nat → Prop} (h : RelV st a w I β S) : ∀ b, I b → b < w.heap.size := h.il.lt
structure Cx where
  w0 : World
  I0 : Nat → Prop
  X : Nat → Prop
  β0 : List Value
structure RelC (c : Cx) (st : St) (a : Act) (w : World) (I : Nat → Prop) (β : List Value) (S : Nat → Nat → Prop) : Prop where
  own : ∀ i b, S i b → c.w0.heap.size ≤ b ∨ c.X b
  isub : ∀ b, c.I0 b → I b
  iinv : ∀ b, I b → c.I0 b ∨ c.w0.heap.size ≤ b ∨ c.X b
  frame : Fr c.X c.w0 w
  keep : ∀ i, i < c.β0.length → kb st.ks i = true → β[i]? = c.β0[i]?
  defers : a.defers = []
theorem RelC.klt {c : Cx} {st : St} {a : Act} {w : World} {I : Nat → Prop} {β : List Value} {S : Nat → Nat → Prop} (h : RelC c st a w I β S) {i : Nat} (hi : i < c.β0.length) (hk : kb st.ks i = true) : i < β.length := by
  have h1 := h.keep i hi hk
  rw [List.getElem?_eq_getElem hi] at h1
  exact (List.getElem?_eq_some_iff.1 h1).1
def Rel (c : Cx) (st : St) (a : Act) (w : World) : Prop := ∃ I β S, RelV st a w I β S ∧ RelC c st a w I β S
structure TyI where
  ok : Bool
  agg : Bool
  size : Nat
  bytes : Nat
  zero : List Value
  sl : Option TypeId
  str : Bool
  bl : Bool
  st : Bool
  int : Option IntKind
  fields : List (Nat × TypeId)
  zs : List (Option (Nat × List N))
def isAggD : TypeDesc → Bool
  | .struct _ | .array _ _ => true
  | _ => false
def isStruct : TypeDesc → Bool
  | .struct _ => true
  | _ => false
abbrev ZE : Type := Nat × List N
def ZE.nil (z : ZE) : N := .sl z.1 ⟨0, fun _ => z.2⟩
def zeroN (z : Option ZE) (v : Value) : N :=
  match z with
  | some s => s.nil
  | Option.none => .v v
def zeroCs (P : Program) (t : TypeId) : List Value := match P.info? t with
  | some i => (i.zero.map (·.cells.toList)).getD []
  | Option.none => []
def cellSl (P : Program) : Nat → TypeId → List (Option ZE)
  | 0, _ => []
  | d + 1, t => match P.underlying t with
    | some (.slice e) => [some (P.cellsOf e, ((cellSl P d e).zip (zeroCs P e)).map fun p => zeroN p.1 p.2)]
    | some (.struct fs) => fs.toList.flatMap fun f => cellSl P d f.type
    | some _ => [Option.none]
    | Option.none => []
def tyD (d : TypeDesc) (i : TypeInfo) (z : List (Option ZE)) : TyI :=
  { ok := i.zero.isSome && (i.zero.map (·.cells.size)) == some i.size, agg := isAggD d, size := i.size, bytes := i.bytes, zero := (i.zero.map (·.cells.toList)).getD [],
    sl := match d with | .slice e => some e | _ => Option.none, str := match d with | .string => true | _ => false, bl := match d with | .bool => true | _ => false, st := isStruct d, int := match d with | .int k => some k | _ => Option.none,
    fields := match d with | .struct fs => fs.toList.map fun f => (f.offset, f.type) | _ => [], zs := z }
def tyOf (P : Program) (t : TypeId) : TyI :=
  match P.info? t, P.underlying t with
  | some i, some d => tyD d i (cellSl P 6 t)
  | _, _ => ⟨false, false, 0, 0, [], Option.none, false, false, false, Option.none, [], []⟩
def zC : Value → C
  | .slice Option.none 0 0 => .z
  | v => .n (.v v)
def constAV : Value → AV
  | .agg cs => if cs.all (·.oneCell') then .a (cs.toList.map zC) else .dead
  | .tuple _ => .dead
  | v => .c (zC v)
def St.get (st : St) (t : Nat) : AV := sel (Nat.blt t st.slots.length) (st.slots.f t) .dead
theorem St.get_eq (st : St) (t : Nat) : st.get t = (st.slots[t]?).getD .dead := by
  unfold St.get
  rw [Sl.get_def]
  by_cases h : t < st.slots.length
  · have : Nat.blt t st.slots.length = true := by simpa [Nat.blt_eq] using h
    simp [this, h, sel]
  · have : Nat.blt t st.slots.length = false := by
      cases hb : Nat.blt t st.slots.length with
      | false => rfl
      | true => rw [Nat.blt_eq] at hb; exact absurd hb h
    simp [this, h, sel]
def St.ev (st : St) : Operand → AV
  | .tmp t => st.get t
  | .const v => constAV v
  | .func f => .fn f []
  | .global _ => .dead
def St.put (st : St) (d : Option Nat) (v : AV) : St :=
  match d with
  | some d => { st with slots := st.slots.set d v }
  | Option.none => st
def St.obj (st : St) (i : Nat) : Ob := (st.obs[i]?).getD .none
def St.new (st : St) (news : List Ob) : St := { st with obs := st.obs ++ news }
def toC : N → C
  | .im x => .n x
  | x => .n x
def toCo : N → Option C
  | .im x => some (.n x)
  | .v x => some (.n (.v x))
  | .sl _ _ => Option.none
def zS {α : Type} : List (Option α) → Option (List α)
  | [] => some []
  | Option.none :: _ => Option.none
  | some x :: r => (zS r).map (x :: ·)
def loadC (ty : TyI) (cs : List C) : Option AV :=
  if ty.ok then
    if ty.agg then (if ty.size ≤ cs.length then some (.a (cs.take ty.size)) else Option.none)
    else match cs with
      | x :: _ => some (.c x)
      | [] => Option.none
  else Option.none
def is {α : Type} (o : Option α) (K : α → Prop) : Prop := match o with | some x => K x | Option.none => False
@[simp] theorem is_some {α : Type} (x : α) (K : α → Prop) : is (some x) K = K x := rfl
@[simp] theorem is_none {α : Type} (K : α → Prop) : is Option.none K = False := rfl
def cmpI (op : BinOp) (a b : Int) : Option Bool :=
  match op with
  | .eql => some (decide (a = b))
  | .neq => some (!decide (a = b))
  | .lss => some (decide (a < b))
  | .leq => some (decide (a ≤ b))
  | .gtr => some (decide (b < a))
  | .geq => some (decide (b ≤ a))
  | _ => Option.none
def arI (op : BinOp) (k : IntKind) (a b : Int) : Option Int :=
  match op with
  | .add => some (k.wrap (a + b))
  | .sub => some (k.wrap (a - b))
  | .mul => some (k.wrap (a * b))
  | .quo => some (k.wrap (a.tdiv b))
  | .rem => some (a.tmod b)
  | .and => some (k.wrap (BitVec.ofInt k.bits a &&& BitVec.ofInt k.bits b).toNat)
  | .or => some (k.wrap (BitVec.ofInt k.bits a ||| BitVec.ofInt k.bits b).toNat)
  | .xor => some (k.wrap (BitVec.ofInt k.bits a ^^^ BitVec.ofInt k.bits b).toNat)
  | .andNot => some (k.wrap (BitVec.ofInt k.bits a &&& ~~~ BitVec.ofInt k.bits b).toNat)
  | _ => Option.none
def shI (op : BinOp) (k : IntKind) (a b : Int) : Option Int :=
  match op with
  | .shl => some (k.wrap (a * 2 ^ (min b.toNat k.bits)))
  | .shr => some (a.fdiv (2 ^ (min b.toNat k.bits)))
  | _ => Option.none
def isDiv : BinOp → Bool
  | .quo | .rem => true
  | _ => false
def strV (op : BinOp) (x y : ByteArray) : Option Value :=
  match op with
  | .add => some (.string (x ++ y))
  | .eql => some (.bool (decide (x = y)))
  | .neq => some (.bool (!decide (x = y)))
  | .lss => some (.bool (decide (x.toList < y.toList)))
  | .leq => some (.bool (!decide (y.toList < x.toList)))
  | .gtr => some (.bool (decide (y.toList < x.toList)))
  | .geq => some (.bool (!decide (x.toList < y.toList)))
  | _ => Option.none
def boolV (op : BinOp) (x y : Bool) : Option Value :=
  match op with
  | .eql => some (.bool (x == y))
  | .neq => some (.bool (!(x == y)))
  | _ => Option.none
def binK (op : BinOp) (ty : TyI) (x y : Value) (K : Value → Prop) : Prop :=
  match x, y with
  | .int k a, .int k' b =>
    match op with
    | .shl | .shr => 0 ≤ b ∧ is (shI op k a b) fun r => K (.int k r)
    | _ => k = k' ∧ (isDiv op = true → b ≠ 0) ∧ (match cmpI op a b with
      | some r => K (.bool r)
      | Option.none => is (arI op k a b) fun r => K (.int k r))
  | .string a, .string b => (op = .add → a.size + b.size ≤ maxN) ∧ is (strV op a b) K
  | .bool a, .bool b => ty.bl = true ∧ is (boolV op a b) K
  | _, _ => False
def eqF (P : Program) (f : Field) (k : Nat) (x y : Value) : Option Bool :=
  match f.name != "_" && (P.plainKey f.type && decide (f.offset = k)), P.underlying f.type, x, y with
  | true, some (.int _), .int k1 a, .int k2 b => sel (decide (k1 = k2)) (some (decide (a = b))) Option.none
  | true, some .bool, .bool a, .bool b => some (a == b)
  | true, some .string, .string a, .string b => some (decide (a = b))
  | _, _, _, _ => Option.none
def eqFs (P : Program) : List Field → Nat → List Value → List Value → Option Bool
  | [f], k, [x], [y] => eqF P f k x y
  | f :: fs, k, x :: xs, y :: ys => (eqF P f k x y).bind fun a => (eqFs P fs (k + 1) xs ys).map fun b => a && b
  | _, _, _, _ => Option.none
def eqSt (P : Program) (t : TypeId) (xs ys : List Value) : Option Bool :=
  match P.underlying t, P.stoodInHeld t || P.eqGuardType P.depth t with
  | some (.struct fs), false => eqFs P fs.toList 0 xs ys
  | _, _ => Option.none
def valC : C → Option Value
  | .n (.v x) => some x
  | _ => Option.none
def eqOp (op : BinOp) (b : Bool) : Option Bool := match op with
  | .eql => some b
  | .neq => some (!b)
  | _ => Option.none
def aggK (P : Program) (op : BinOp) (t : TypeId) (xs ys : List C) (K : Value → Prop) : Prop :=
  is (zS (xs.map valC)) fun vs => is (zS (ys.map valC)) fun us => is (eqSt P t vs us) fun b => is (eqOp op b) fun r => K (.bool r)
def nilK (ty : TyI) (op : BinOp) (y : Operand) (n : Nat) (K : Bool → Prop) : Prop :=
  match op, y with
  | .eql, .const (.slice .none 0 0) => ty.sl.isSome = true ∧ ∀ b : Bool, (b = true → n = 0) → K b
  | _, _ => False
def fldOf (ty : TyI) (f : Nat) : Option (Nat × TypeId) := ty.fields[f]?
def partCs : AV → Option (List C)
  | .c x => some [x]
  | .a cs => some cs
  | _ => Option.none
def setAt {α : Type} (cs : List α) (off : Nat) (new : List α) : List α := cs.take off ++ new ++ cs.drop (off + new.length)
def fillC (P : Program) (ty : TyI) : List (Nat × AV) → List C → Option (List C)
  | [], cs => some cs
  | (f, v) :: rest, cs => match fldOf ty f, partCs v with
    | some (off, t), some new => if new.length = (tyOf P t).size ∧ off + new.length ≤ cs.length then fillC P ty rest (setAt cs off new) else Option.none
    | _, _ => Option.none
def flatN (zs : Option ZE) : C → Option N
  | .n (.v x) => some (.v x)
  | .n (.im x) => some (.im x)
  | .n (.sl sz xs) => some (.im (.sl sz xs))
  | .z => match zs with
    | some s => some s.nil
    | Option.none => Option.none
  | _ => Option.none
def zeroNs (ty : TyI) : List N := (ty.zs.zip ty.zero).map fun p => zeroN p.1 p.2
def isNilS : Value → Bool
  | .slice Option.none 0 0 => true
  | _ => false
def zsOk (ty : TyI) : Bool := ty.zs.length == ty.size && (ty.zs.zip ty.zero).all fun p => match p.1 with
  | some _ => isNilS p.2
  | Option.none => p.2.oneCell'
def natArg (v : AV) (K : Int → Prop) : Prop := match v with
  | .c (.n (.v (.int .i64 n))) => K n
  | _ => False
def boolArg (v : AV) (K : Bool → Prop) : Prop := match v with
  | .c (.n (.v (.bool b))) => K b
  | _ => False
def lenK (st : St) (ty : TyI) (v : AV) (K : AV → List Ob → Prop) : Prop :=
  match v with
  | .c (.n (.v (.string s))) => ty.str = true ∧ K (.c (.n (.v (.int .i64 s.size)))) []
  | .c (.n (.sl _ xs)) => ty.sl.isSome = true ∧ K (.c (.n (.v (.int .i64 xs.n)))) []
  | .c .z => ty.sl.isSome = true ∧ K (.c (.n (.v (.int .i64 0)))) []
  | .c (.h i) => match st.obj i with
    | .row _ xs _ => ty.sl.isSome = true ∧ K (.c (.n (.v (.int .i64 xs.n)))) []
    | .fro _ xs => ty.sl.isSome = true ∧ K (.c (.n (.v (.int .i64 xs.n)))) []
    | _ => False
  | _ => False
def loadK (P : Program) (st : St) (ty : TyI) (v : AV) (K : AV → List Ob → Prop) : Prop :=
  match v with
  | .c (.p i off) => match st.obj i with
    | .box cs => is (loadC ty (cs.drop off)) fun av => K av []
    | _ => False
  | .ra cs => is (loadC ty (cs.map toC)) fun av => K av []
  | .ea i sz idx f => match st.obj i with
    | .row sz' xs [] => sz = sz' ∧ idx < xs.n ∧ is (zS ((((xs.g idx).drop f).take ty.size).map toCo)) fun cs => is (loadC ty cs) fun av => K av []
    | _ => False
  | _ => False
def idxK (P : Program) (st : St) (esz : Nat) (v : AV) (k : Int) (K : AV → List Ob → Prop) : Prop :=
  match v with
  | .c (.n (.sl sz xs)) => sz = esz ∧ 0 ≤ k ∧ k < xs.n ∧ K (.ra (xs.g k.toNat)) []
  | .c (.h i) => match st.obj i with
    | .row sz xs _ => sz = esz ∧ 0 ≤ k ∧ k < xs.n ∧ K (.ea i sz k.toNat 0) []
    | .fro sz xs => sz = esz ∧ 0 ≤ k ∧ k < xs.n ∧ K (.ra (xs.g k.toNat)) []
    | _ => False
  | _ => False
def bcase (b : Bool) (A B : Prop) : Prop := match b with
  | true => A
  | false => B
def pickK (c : AV) (A B : Prop) : Prop := match c with
  | .c (.n (.v (.bool b))) => bcase b A B
  | _ => False
def optArg (v : Option AV) (d : Int) (K : Int → Prop) : Prop := match v with
  | some v => natArg v K
  | Option.none => K d
def sliceK (P : Program) (st : St) (ty : TyI) (v : AV) (lo hi mx : Option AV) (K : AV → List Ob → Prop) : Prop :=
  match v, mx with
  | .c (.n (.v (.string s))), Option.none => optArg lo 0 fun l => optArg hi s.size fun h => ty.str = true ∧ 0 ≤ l ∧ l ≤ h ∧ h ≤ s.size ∧ K (.c (.n (.v (.string (s.extract l.toNat h.toNat))))) []
  | .c (.n (.sl sz xs)), Option.none => optArg lo 0 fun l => optArg hi xs.n fun h => 0 ≤ l ∧ l ≤ h ∧ h ≤ xs.n ∧ (is ty.sl fun e => (tyOf P e).ok = true ∧ (tyOf P e).size = sz) ∧ K (.c (.n (.sl sz (xs.sub l.toNat h.toNat)))) []
  | .c .z, Option.none => optArg lo 0 fun l => optArg hi 0 fun h => (is ty.sl fun e => (tyOf P e).ok = true) ∧ l = 0 ∧ h = 0 ∧ K (.c .z) []
  | .c (.n (.sl sz xs)), some m => optArg lo 0 fun l => optArg hi xs.n fun h => natArg m fun m => hi.isSome = true ∧ (is ty.sl fun e => (tyOf P e).ok = true) ∧ l = 0 ∧ h = 0 ∧ m = 0 ∧ K (.c .z) []
  | _, _ => False
def fieldAddrK (P : Program) (ty : TyI) (v : AV) (f : Nat) (K : AV → List Ob → Prop) : Prop :=
  is (fldOf ty f) fun (off, t) => (tyOf P t).ok = true ∧ (tyOf P t).size ≠ 0 ∧ (match v with
    | .c (.p i o) => K (.c (.p i (o + off))) []
    | .ea i sz idx o => K (.ea i sz idx (o + off)) []
    | .ra cs => K (.ra (cs.drop off)) []
    | _ => False)
def isB : List N → Bool
  | [.v (.int .u8 _)] => true
  | _ => false
def byteOf : List N → UInt8
  | [.v (.int .u8 n)] => UInt8.ofNat n.toNat
  | _ => 0
def bytesRw (s : ByteArray) : Rw N := ⟨s.size, fun i => [.v (.int .u8 ((s.data.toList.getD i 0).toNat))]⟩
def rwBytes (xs : Rw N) : ByteArray := ⟨((List.range xs.n).map fun i => byteOf (xs.g i)).toArray⟩
def convK (P : Program) (st : St) (src dst : TyI) (v : AV) (K : AV → List Ob → Prop) : Prop :=
  match v with
  | .c (.n (.v (.int k n))) => src.ok = true ∧ is dst.int fun k' => K (.c (.n (.v (.int k' (k'.wrap n))))) []
  | .c (.n (.v (.string s))) =>
    src.ok = true ∧ if dst.str = true then K (.c (.n (.v (.string s)))) []
    else is dst.sl fun e => (tyOf P e).int = some .u8 ∧ s.size ≤ maxN ∧ K (.c (.h st.obs.length)) [.row 1 (bytesRw s) []]
  | .c (.h i) => match st.obj i with
    | .row sz xs [] => sz = 1 ∧ dst.str = true ∧ (is src.sl fun e => (tyOf P e).int = some .u8) ∧ (∀ i, i < xs.n → isB (xs.g i) = true) ∧ K (.c (.n (.v (.string (rwBytes xs))))) []
    | _ => False
  | _ => False
def K2AV : K → AV
  | .c x => .c x
  | .a cs => .a cs
def vcQ (P : Program) (o : Oper) (st : St) (K : AV → List Ob → Prop) : Prop :=
  match o.op with
  | .move x | .assign x => K (st.ev x) []
  | .pick c a b => pickK (st.ev c) (K (st.ev a) []) (K (st.ev b) [])
  | .alloc e => (tyOf P e).ok = true ∧ (tyOf P e).zero.all (·.oneCell') = true ∧ K (.c (.p st.obs.length 0)) [.box ((tyOf P e).zero.map zC)]
  | .box e x => is (partCs (st.ev x)) fun cs => K (.c (.p st.obs.length 0)) [.box cs]
  | .build t parts => (tyOf P t).ok = true ∧ (tyOf P t).st = true ∧ (tyOf P t).fields.all (fun f => (tyOf P f.2).ok) = true ∧ (tyOf P t).zero.all (·.oneCell') = true ∧
      is (fillC P (tyOf P t) (parts.toList.map fun p => (p.1, st.ev p.2)) ((tyOf P t).zero.map zC)) fun cs => K (.a cs) []
  | .load t a => loadK P st (tyOf P t) (st.ev a) K
  | .binOp op t x y _ => match st.ev x, st.ev y with
    | .c (.n (.v a)), .c (.n (.v b)) => binK op (tyOf P t) a b fun r => K (.c (.n (.v r))) []
    | .a xs, .a ys => aggK P op t xs ys fun r => K (.c (.n (.v r))) []
    | .c (.n (.sl _ xs)), _ => nilK (tyOf P t) op y xs.n fun b => K (.c (.n (.v (.bool b)))) []
    | _, _ => False
  | .unOp op _ x => match op, st.ev x with
    | .not, .c (.n (.v (.bool b))) => K (.c (.n (.v (.bool (!b))))) []
    | .neg, .c (.n (.v (.int k n))) => K (.c (.n (.v (.int k (k.wrap (0 - n)))))) []
    | _, _ => False
  | .convert s d x => convK P st (tyOf P s) (tyOf P d) (st.ev x) K
  | .slice t x lo hi mx => sliceK P st (tyOf P t) (st.ev x) (lo.map st.ev) (hi.map st.ev) (mx.map st.ev) K
  | .fieldAddr t x f => fieldAddrK P (tyOf P t) (st.ev x) f K
  | .field t x f => match st.ev x with
    | .a cs => is (fldOf (tyOf P t) f) fun p => is (loadC (tyOf P p.2) (cs.drop p.1)) fun av => K av []
    | _ => False
  | .indexAddr t x i => is (tyOf P t).sl fun e => natArg (st.ev i) fun k => (tyOf P e).ok = true ∧ idxK P st (tyOf P e).size (st.ev x) k K
  | .index t x i => natArg (st.ev i) fun k => match st.ev x with
    | .c (.n (.v (.string s))) => (tyOf P t).str = true ∧ 0 ≤ k ∧ is (s.data[k.toNat]?) fun b => K (.c (.n (.v (.int .u8 b.toNat)))) []
    | _ => False
  | .extract x i => match st.ev x with
    | .tup vs => is vs[i]? fun v => K (K2AV v) []
    | _ => False
  | .nilCheck x => match st.ev x with
    | .c (.p i off) => K (.c (.p i off)) []
    | .ra cs => K (.ra cs) []
    | .ea i sz idx f => K (.ea i sz idx f) []
    | .fn f cs => K (.fn f cs) []
    | _ => False
  | .makeFunc (.func f) first captured => first.size = 0 ∧ is (zS (captured.toList.map fun x => match st.ev x with | .c x => some x | _ => Option.none)) fun cs => K (.fn f cs) []
  | .makeSlice t len cap => is (tyOf P t).sl fun e => natArg (st.ev len) fun l => natArg (st.ev cap) fun c => l = c ∧ 0 ≤ l ∧ (tyOf P e).ok = true ∧ (tyOf P e).size ≠ 0 ∧ zsOk (tyOf P e) = true ∧
      l * ((tyOf P e).bytes + 1) ≤ maxN ∧ K (.c (.h st.obs.length)) [.row (tyOf P e).size (Rw.rep l.toNat (zeroNs (tyOf P e))) []]
  | .call { callee := .builtin .len, args, argTypes } => is args[0]? fun x => is argTypes[0]? fun t => lenK st (tyOf P t) (st.ev x) K
  | .call { callee := .builtin .max, args, .. } => match args.toList with
    | [x, y] => match st.ev x, st.ev y with
      | .c (.n (.v (.int k a))), .c (.n (.v (.int _ b))) => K (.c (.n (.v (.int k (if b > a then b else a))))) []
      | _, _ => False
    | _ => False
  | .call { callee := .builtin .min, args, .. } => match args.toList with
    | [x, y] => match st.ev x, st.ev y with
      | .c (.n (.v (.int k a))), .c (.n (.v (.int _ b))) => K (.c (.n (.v (.int k (if b < a then b else a))))) []
      | _, _ => False
    | _ => False
  | _ => False
def QPost (st : St) (w : World) (I : Nat → Prop) (β : List Value) (S : Nat → Nat → Prop) (av : AV) (news : List Ob) (v : Value) (w' : World) : Prop :=
  ∃ (I' : Nat → Prop) (βn : List Value) (Sn : Nat → Nat → Prop),
    Fr (fun _ => False) w w' ∧ (∀ b, I b → I' b) ∧ (∀ b, I' b → I b ∨ w.heap.size ≤ b) ∧ (∀ b, I' b → b < w'.heap.size) ∧ βn.length = news.length ∧
    AVR w' I' (β ++ βn) av v ∧
    (∀ (k : Nat) (o : Ob) (b : Value), news[k]? = some o → βn[k]? = some b → ObR w' I' (β ++ βn) b (Sn k) o) ∧
    (∀ k b, Sn k b → k < news.length ∧ w.heap.size ≤ b ∧ b < w'.heap.size ∧ ¬ I' b) ∧ (∀ i j b, Sn i b → Sn j b → i = j)
section
variable {P : Program} {st : St} {a : Act} {w : World} {I : Nat → Prop} {β : List Value} {S : Nat → Nat → Prop}
theorem QPost.same (hr : RelV st a w I β S) {av : AV} {v : Value} (h : AVR w I β av v) : QPost st w I β S av [] v w :=
  ⟨I, [], fun _ _ => False, Fr.refl _ _, fun _ h => h, fun _ h => .inl h, hr.ilt, rfl, by simpa using h, by simp, by simp, by simp⟩
theorem zL (hr : RelV st a w I β S) (x : Operand) : AVR w I β (st.ev x) (a.eval x) := by
  cases x with
  | tmp t =>
    simp only [St.ev, St.get_eq, Act.eval]
    cases hs : st.slots[t]? with
    | none => simp [AVR]
    | some av =>
      have hlt : t < a.tmps.size := by rw [hr.sz]; exact (Sl.some_iff.1 hs).1
      have hc : a.tmps[t]? = some a.tmps[t] := Array.getElem?_eq_getElem hlt
      have := hr.slot t av _ hs hc
      simpa [Array.getD, hlt] using this
  | const v =>
    simp only [St.ev, Act.eval]
    cases v with
    | agg cs =>
      simp only [constAV]
      split
      · rename_i hall
        refine ⟨cs, rfl, by simp, fun j x v hx hv => ?_⟩
        have hv' : cs.toList[j]? = some v := by simpa using hv
        simp only [List.getElem?_map, hv', Option.map_some, Option.some.injEq] at hx
        subst hx
        have h1 : v.oneCell' = true := (Array.all_eq_true_iff_forall_mem.1 hall) v (Array.mem_of_getElem? hv)
        unfold zC
        split
        · exact ⟨_, rfl⟩
        · exact Im.v h1
      · trivial
    | tuple vs => trivial
    | slice A n c =>
      simp only [constAV, zC]
      split
      · rename_i h
        simp only [Value.slice.injEq] at h
        obtain ⟨rfl, rfl, rfl⟩ := h
        exact ⟨_, rfl⟩
      · exact Im.v rfl
    | _ => exact Im.v rfl
  | global g => trivial
  | func f => exact ⟨#[], rfl, by simp, by simp⟩
theorem ZJ {t : TypeId} (h : (tyOf P t).ok = true) : ∃ i d z, P.info? t = some i ∧ P.underlying t = some d ∧ i.zero = some z ∧ z.cells.size = i.size ∧ (tyOf P t).agg = isAggD d ∧ (tyOf P t).size = i.size ∧ (tyOf P t).zero = z.cells.toList ∧ (tyOf P t).bytes = i.bytes := by
  unfold tyOf at h ⊢
  cases hi : P.info? t with
  | none => simp [hi] at h
  | some i =>
    cases hd : P.underlying t with
    | none => simp [hi, hd] at h
    | some d =>
      simp only [hi, hd, tyD, Bool.and_eq_true] at h ⊢
      cases hz : i.zero with
      | none => simp [hz] at h
      | some z => exact ⟨i, d, z, rfl, rfl, hz, by simpa [hz] using h.2, rfl, rfl, by simp, rfl⟩
theorem tyOf_sl {t e : TypeId} (h : (tyOf P t).sl = some e) : P.underlying t = some (.slice e) := by
  unfold tyOf at h
  cases hi : P.info? t with
  | none => simp [hi] at h
  | some i =>
    cases hd : P.underlying t with
    | none => simp [hi, hd] at h
    | some d => cases d <;> simp [hi, hd, tyD] at h; subst h; rfl
theorem tyOf_str {t : TypeId} (h : (tyOf P t).str = true) : P.underlying t = some .string := by
  unfold tyOf at h
  cases hi : P.info? t with
  | none => simp [hi] at h
  | some i =>
    cases hd : P.underlying t with
    | none => simp [hi, hd] at h
    | some d => cases d <;> simp [hi, hd, tyD] at h; rfl
theorem tyOf_int {t : TypeId} {k : IntKind} (h : (tyOf P t).int = some k) : P.underlying t = some (.int k) := by
  unfold tyOf at h
  cases hi : P.info? t with
  | none => simp [hi] at h
  | some i =>
    cases hd : P.underlying t with
    | none => simp [hi, hd] at h
    | some d => cases d <;> simp [hi, hd, tyD] at h; subst h; rfl
theorem tyOf_fld {t : TypeId} {f off : Nat} {u : TypeId} (h : fldOf (tyOf P t) f = some (off, u)) : ∃ fs F, P.underlying t = some (.struct fs) ∧ fs[f]? = some F ∧ F.offset = off ∧ F.type = u := by
  unfold fldOf tyOf at h
  cases hi : P.info? t with
  | none => simp [hi] at h
  | some i =>
    cases hd : P.underlying t with
    | none => simp [hi, hd] at h
    | some d =>
      cases d <;> simp [hi, hd, tyD] at h
      rename_i fs
      obtain ⟨F, hF, h1, h2⟩ := h
      exact ⟨fs, F, rfl, hF, h1, h2⟩
theorem run_isAgg' {t : TypeId} {d : TypeDesc} (h : P.underlying t = some d) (w : World) : (isAgg t).run P w = .ok (isAggD d) w := by
  unfold isAgg
  rw [Sem.run_bind, run_underlying h w]
  cases d <;> rfl
theorem run_sizeOf' {t : TypeId} {i : TypeInfo} (h : P.info? t = some i) (w : World) : (sizeOf t).run P w = .ok i.size w := by
  simp [sizeOf, typeInfo, h]
theorem run_zeroValue' {t : TypeId} {i : TypeInfo} {z : Value} (h : P.info? t = some i) (hz : i.zero = some z) (w : World) : (zeroValue t).run P w = .ok z w := by
  simp [zeroValue, typeInfo, h, hz]
theorem run_loadVar' {t : TypeId} {i : TypeInfo} {d : TypeDesc} (hi : P.info? t = some i) (hd : P.underlying t = some d) (ad : Addr) (f : Nat → Value)
    (h : ∀ j, j < (if isAggD d then i.size else 1) → w.cell? (ad.add j) = some (f j)) :
    (loadVar t ad).run P w = .ok (if isAggD d then .agg ((List.range i.size).map f).toArray else f 0) w := by
  simp only [loadVar, Sem.run_bind, run_isAgg' hd, Result.andThen_ok]
  by_cases ha : isAggD d = true
  · simp only [ha, if_true] at h ⊢
    simp only [Sem.run_bind, run_sizeOf' hi, Result.andThen_ok, run_loadCells w ad i.size f h, Sem.run_pure]
  · simp only [ha, if_false, Bool.false_eq_true] at h ⊢
    have h0 := h 0 (by omega)
    have hz : ad.add 0 = ad := by simp [Addr.add]
    rw [hz] at h0
    simp [run_load, h0]
theorem loadC_sound {t : TypeId} {cs : List C} {av : AV} (hl : loadC (tyOf P t) cs = some av) (ad : Addr) (f : Nat → Value)
    (hc : ∀ (j : Nat) (x : C), cs[j]? = some x → w.cell? (ad.add j) = some (f j)) (H : ∀ (j : Nat) (x : C), cs[j]? = some x → CR w I β x (f j)) :
    ∃ v, (loadVar t ad).run P w = .ok v w ∧ AVR w I β av v := by
  unfold loadC at hl
  split at hl
  · rename_i hok
    obtain ⟨i, d, z, hi, hd, hz, hzs, hag, hsz, -, -⟩ := ZJ hok
    split at hl
    · rename_i ha
      split at hl
      · rename_i hle
        simp only [Option.some.injEq] at hl
        subst hl
        rw [hag] at ha
        rw [hsz] at hle ⊢
        refine ⟨_, run_loadVar' hi hd ad f (fun j hj => ?_), ?_⟩
        · rw [ha, if_pos rfl] at hj
          exact hc j _ (List.getElem?_eq_getElem (by omega))
        · rw [ha, if_pos rfl]
          refine ⟨_, rfl, by simp; omega, fun j x v hx hv => ?_⟩
          have hj : j < i.size := by
            by_cases hj : j < i.size
            · exact hj
            · simp [List.getElem?_take, hj] at hx
          simp [hj] at hv
          subst hv
          exact H j x (by simpa [List.getElem?_take, hj] using hx)
      · cases hl
    · rename_i ha
      cases cs with
      | nil => cases hl
      | cons x r =>
        simp only [Option.some.injEq] at hl
        subst hl
        have hf : isAggD d = false := by rw [← hag]; simpa using ha
        refine ⟨_, run_loadVar' hi hd ad f (fun j hj => ?_), ?_⟩
        · rw [hf] at hj
          simp at hj
          subst hj
          exact hc 0 x rfl
        · rw [hf]
          exact H 0 x rfl
  · cases hl
end
section
variable {P : Program} {st : St} {a : Act} {w : World} {I : Nat → Prop} {β : List Value} {S : Nat → Nat → Prop}
theorem obj_some {i : Nat} {o : Ob} (h : st.obj i = o) (hne : o ≠ .none) : st.obs[i]? = some o := by
  unfold St.obj at h
  cases hs : st.obs[i]? with
  | none => simp [hs] at h; exact absurd h.symm hne
  | some o' => simp [hs] at h; rw [h]
theorem RelV.obj (hr : RelV st a w I β S) {i : Nat} {o : Ob} (h : st.obj i = o) (hne : o ≠ .none) : ∃ b, β[i]? = some b ∧ ObR w I β b (S i) o := by
  have hs := obj_some h hne
  have hlt : i < β.length := by rw [hr.bl]; exact (List.getElem?_eq_some_iff.1 hs).1
  exact ⟨_, List.getElem?_eq_getElem hlt, hr.ob i o _ hs (List.getElem?_eq_getElem hlt)⟩
theorem RelV.box (hr : RelV st a w I β S) {i : Nat} {cs : List C} (h : st.obj i = .box cs) :
    ∃ g cur e, β[i]? = some (.pointer (some ⟨g, 0, none⟩)) ∧ S i g ∧ w.heap[g]? = some (.cells cur e (0, 0)) ∧ CsR w I β cs cur := by
  obtain ⟨b, hb, g, cur, e, rfl, hg, hh, hc⟩ := hr.obj h (by simp)
  exact ⟨g, cur, e, hb, hg, hh, hc⟩
theorem is_iff {α : Type} {o : Option α} {K : α → Prop} (h : is o K) : ∃ x, o = some x ∧ K x := by
  cases o with
  | none => exact h.elim
  | some x => exact ⟨x, rfl, h⟩
theorem Im.toC {x : N} {v : Value} (h : Im w I x v) : CR w I β (toC x) v := by
  cases h with
  | v h => exact Im.v h
  | im h => exact h
  | sl A cap ad c hu hn hcap hA hc H => exact Im.sl A cap ad c hu hn hcap hA hc H
theorem allSome_get {α : Type} : ∀ {l : List (Option α)} {r : List α}, zS l = some r → ∀ (j : Nat) (x : α), r[j]? = some x → l[j]? = some (some x)
  | [], r, h => by simp [zS] at h; subst h; simp
  | Option.none :: l, r, h => by simp [zS] at h
  | some y :: l, r, h => by
    simp only [zS, Option.map_eq_some_iff] at h
    obtain ⟨r', hr', rfl⟩ := h
    intro j x hx
    cases j with
    | zero => simpa using hx
    | succ j => simpa using allSome_get hr' j x (by simpa using hx)
theorem allSome_length {α : Type} : ∀ {l : List (Option α)} {r : List α}, zS l = some r → r.length = l.length
  | [], r, h => by simp [zS] at h; subst h; rfl
  | Option.none :: l, r, h => by simp [zS] at h
  | some y :: l, r, h => by
    simp only [zS, Option.map_eq_some_iff] at h
    obtain ⟨r', hr', rfl⟩ := h
    simp [allSome_length hr']
theorem RowR.cells {b : Value} {T : Nat → Prop} {sz : Nat} {xs : Rw N} (h : RowR w I β b T sz xs []) {i j : Nat} {x : N} (hx : at2 xs i j = some x) :
    ∃ g n cap v F, b = .slice (some ⟨g, 0, none⟩) n cap ∧ w.cell? ⟨g, i * sz + j, none⟩ = some v ∧ Own w I x v F := by
  rcases h with ⟨h0, -⟩ | ⟨g, cap, e, cur, fr, c, F, rfl, hu, hn, hcap, hm, hg, hb, hfr, hs, hc, H, -, hF, hD⟩
  · rw [at2_zero h0] at hx; cases hx
  · exact ⟨g, _, cap, c i j, F i j, rfl, by rw [ZG hb]; exact hc i j x hx, H i j x hx (by rintro ⟨k, hk⟩; cases hk)⟩
theorem Own.toCo {x : N} {v : Value} {F : Nat → Prop} (h : Own w I x v F) {y : C} (hy : toCo x = some y) : CR w I β y v := by
  cases h with
  | v h => simp only [Al.toCo, Option.some.injEq] at hy; subst hy; exact Im.v h
  | im h => simp only [Al.toCo, Option.some.injEq] at hy; subst hy; exact h
  | nil => simp [Al.toCo] at hy
  | sl => simp [Al.toCo] at hy
theorem load_sound (hr : RelV st a w I β S) {t : TypeId} {av : AV} {v : Value} (hv : AVR w I β av v) {K : AV → List Ob → Prop} (h : loadK P st (tyOf P t) av K) :
    ∃ v' av', (Instr.loadAt t v).run P w = .ok v' w ∧ K av' [] ∧ AVR w I β av' v' := by
  unfold loadK at h
  split at h
  · rename_i i off
    obtain ⟨g, hg, rfl⟩ := hv
    split at h
    · rename_i cs hobj
      obtain ⟨av', hl, hK⟩ := is_iff h
      obtain ⟨g', cur, e, hb, -, hh, hsz, hc⟩ := hr.box hobj
      rw [hg] at hb
      obtain rfl : g = g' := by simpa using hb
      obtain ⟨v', hrun, hav⟩ := loadC_sound (w := w) (I := I) (β := β) hl ⟨g, off, none⟩ (fun j => cur.getD (off + j) undef) (fun j x hx => by
        have hj : off + j < cs.length := by
          have := (List.getElem?_eq_some_iff.1 hx).1
          simp at this; omega
        rw [add00, ZG hh]
        simp [Array.getD, hsz ▸ hj]) (fun j x hx => by
        have hx' : cs[off + j]? = some x := by simpa using hx
        have hj : off + j < cur.size := by rw [hsz]; exact (List.getElem?_eq_some_iff.1 hx').1
        refine hc (off + j) x _ hx' ?_
        simp [Array.getD, hj])
      exact ⟨v', av', by simpa [Instr.loadAt, Instr.sureAddr] using hrun, hK, hav⟩
    · exact h.elim
  · rename_i cs
    obtain ⟨ad, c, rfl, hi, hc, H⟩ := hv
    obtain ⟨av', hl, hK⟩ := is_iff h
    obtain ⟨v', hrun, hav⟩ := loadC_sound (w := w) (I := I) (β := β) hl ad c (fun j x hx => by
        simp only [List.getElem?_map, Option.map_eq_some_iff] at hx
        obtain ⟨y, hy, rfl⟩ := hx
        exact hc j y hy) (fun j x hx => by
        simp only [List.getElem?_map, Option.map_eq_some_iff] at hx
        obtain ⟨y, hy, rfl⟩ := hx
        exact (H j y hy).toC)
    exact ⟨v', av', by simpa [Instr.loadAt, Instr.sureAddr] using hrun, hK, hav⟩
  · rename_i i sz idx f
    obtain ⟨g, n, cap, hg, rfl⟩ := hv
    split at h
    · rename_i sz' xs hobj
      obtain ⟨rfl, he, h⟩ := h
      obtain ⟨cs, hcs, h⟩ := is_iff h
      obtain ⟨av', hl, hK⟩ := is_iff h
      obtain ⟨b, hb, hrow⟩ := hr.obj hobj (by simp)
      rw [hg] at hb
      obtain rfl := (Option.some.injEq _ _ ▸ hb : _ = b)
      have key : ∀ (j : Nat) (y : C), cs[j]? = some y → ∃ v, w.cell? ⟨g, idx * sz + f + j, none⟩ = some v ∧ CR w I β y v := by
        intro j y hy
        have h1 := allSome_get hcs j y hy
        simp only [List.getElem?_map, Option.map_eq_some_iff] at h1
        obtain ⟨x, hx, hxy⟩ := h1
        have hx2 : (xs.g idx)[f + j]? = some x := by
          rw [List.getElem?_take] at hx
          split at hx
          · simpa using hx
          · cases hx
        obtain ⟨g', n', cap', v, F, hb', hcell, hown⟩ := hrow.cells (i := idx) (j := f + j) (x := x) (by rw [at2_of he]; exact hx2)
        simp only [Value.slice.injEq, Option.some.injEq, Addr.mk.injEq] at hb'
        obtain ⟨⟨rfl, -⟩, -⟩ := hb'
        exact ⟨v, by rw [Nat.add_assoc]; exact hcell, hown.toCo hxy⟩
      obtain ⟨v', hrun, hav⟩ := loadC_sound (w := w) (I := I) (β := β) hl ⟨g, idx * sz + f, none⟩ (fun j => (w.cell? ⟨g, idx * sz + f + j, none⟩).getD undef) (fun j x hx => by
        obtain ⟨v, h1, h2⟩ := key j x hx
        rw [add00, h1]
        rfl) (fun j x hx => by
        obtain ⟨v, h1, h2⟩ := key j x hx
        rw [h1]
        exact h2)
      exact ⟨v', av', by simpa [Instr.loadAt, Instr.sureAddr] using hrun, hK, hav⟩
    · exact h.elim
  · exact h.elim
end
section
variable {P : Program} {st : St} {a : Act} {w : World} {I : Nat → Prop} {β : List Value} {S : Nat → Nat → Prop}
theorem AVR.val {x v : Value} (h : AVR w I β (.c (.n (.v x))) v) : v = x ∧ x.oneCell' = true := by cases h with | v h => exact ⟨rfl, h⟩
theorem AVR.of_val {x : Value} (h : x.oneCell' = true) : AVR w I β (.c (.n (.v x))) x := Im.v h
theorem natArg_iff {av : AV} {v : Value} (hv : AVR w I β av v) {K : Int → Prop} (h : natArg av K) : ∃ n, v = .int .i64 n ∧ K n := by
  unfold natArg at h
  split at h
  · exact ⟨_, hv.val.1, h⟩
  · exact h.elim
theorem Im.slice {sz : Nat} {xs : Rw N} {v : Value} (h : Im w I (.sl sz xs) v) : ∃ A cap, v = .slice A xs.n cap ∧ xs.n ≤ cap ∧ xs.n ≤ maxN := by
  cases h with
  | sl A cap ad c hu hn hcap hA hc H => exact ⟨A, cap, rfl, hcap, hn⟩
theorem RowR.slice {b : Value} {T : Nat → Prop} {sz : Nat} {xs : Rw N} {hl : List (Nat × Nat × Option Nat)} (h : RowR w I β b T sz xs hl) : ∃ A cap, b = .slice A xs.n cap ∧ xs.n ≤ cap ∧ xs.n ≤ maxN := by
  rcases h with ⟨h0, A, rfl⟩ | ⟨g, cap, e, cur, fr, c, F, rfl, hu, hn, hcap, hm, hg, hb, hfr, hs, hc, H, -, hF, hD⟩
  · exact ⟨A, 0, by rw [h0], by omega, by omega⟩
  · exact ⟨_, cap, rfl, hcap, hn⟩
theorem RelV.hdr (hr : RelV st a w I β S) {i : Nat} {o : Ob} {v : Value} (hv : AVR w I β (.c (.h i)) v) (h : st.obj i = o) (hne : o ≠ .none) : ObR w I β v (S i) o := by
  obtain ⟨b, hb, ho⟩ := hr.obj h hne
  obtain rfl := (Option.some.injEq _ _ ▸ hv.1.symm.trans hb : v = _)
  exact ho
theorem run_len_sl {t : TypeId} {ty : TypeId} {ts : Array TypeId} {vs : Array Value} (h : (tyOf P t).sl.isSome = true) {A : Option Addr} {n c : Nat} (ht : ts[0]? = some t) (hv : vs[0]? = some (.slice A n c)) :
    (Builtin.len_ ts ty vs).run P w = .ok (.int .i64 n) w := by
  obtain ⟨e, he⟩ := Option.isSome_iff_exists.1 h
  simp [Builtin.len_, ht, hv, run_underlying (tyOf_sl he), goInt]
theorem len_sound (hr : RelV st a w I β S) {t ty : TypeId} {ts : Array TypeId} {vs : Array Value} (ht : ts[0]? = some t) {av : AV} {v : Value} (hv0 : vs[0]? = some v) (hv : AVR w I β av v) {K : AV → List Ob → Prop} (h : lenK st (tyOf P t) av K) :
    ∃ n : Int, (Builtin.len_ ts ty vs).run P w = .ok (.int .i64 n) w ∧ K (.c (.n (.v (.int .i64 n)))) [] := by
  unfold lenK at h
  split at h
  · rename_i s
    obtain ⟨rfl, -⟩ := hv.val
    exact ⟨s.size, by simp [Builtin.len_, ht, hv0, run_underlying (tyOf_str h.1), goInt], h.2⟩
  · obtain ⟨A, cap, rfl, -⟩ := Im.slice hv
    exact ⟨_, run_len_sl h.1 ht hv0, h.2⟩
  · obtain ⟨A, rfl⟩ := hv
    exact ⟨0, run_len_sl h.1 ht hv0, h.2⟩
  · rename_i i
    split at h
    · rename_i hobj
      obtain ⟨A, cap, rfl, -⟩ := RowR.slice (hr.hdr hv hobj (by simp))
      exact ⟨_, run_len_sl h.1 ht hv0, h.2⟩
    · rename_i hobj
      obtain ⟨A, cap, rfl, -⟩ := Im.slice (hr.hdr hv hobj (by simp))
      exact ⟨_, run_len_sl h.1 ht hv0, h.2⟩
    · exact h.elim
  · exact h.elim
theorem add_add (ad : Addr) (n m : Nat) : (ad.add n).add m = ad.add (n + m) := by
  unfold Addr.add
  by_cases hn : n = 0
  · simp [hn]
  · by_cases hm : m = 0
    · simp [hn, hm]
    · simp [hn, hm, Nat.add_assoc]
theorem Im.elem {sz : Nat} {xs : Rw N} {v : Value} (h : Im w I (.sl sz xs) v) {i : Nat} (hi : i < xs.n) :
    ∃ ad cap, v = .slice (some ad) xs.n cap ∧ AVR w I β (.ra (xs.g i)) (.pointer (some (ad.add (i * sz)))) := by
  cases h with
  | sl A cap ad c hu hn hcap hA hc H =>
    obtain ⟨rfl, hI⟩ := hA (by omega)
    refine ⟨ad, cap, rfl, _, fun j => c i j, rfl, by rw [add_block]; exact hI, fun j x hx => ?_, fun j x hx => H i j x (by rw [at2_of hi]; exact hx)⟩
    rw [add_add]
    exact hc i j x (by rw [at2_of hi]; exact hx)
theorem run_indexAt {t e : TypeId} {i : TypeInfo} (ht : P.underlying t = some (.slice e)) (hi : P.info? e = some i) (ad : Addr) (n cap : Nat) (k : Int) (h0 : 0 ≤ k) (h1 : k < n) :
    (Instr.indexAt t (.slice (some ad) n cap) (.int .i64 k)).run P w = .ok (.pointer (some (ad.add (k.toNat * i.size)))) w := by
  simp [Instr.indexAt, asIntOf, run_underlying ht, run_sizeOf' hi, h0, h1]
theorem idx_sound (hr : RelV st a w I β S) {t e : TypeId} (ht : (tyOf P t).sl = some e) (hok : (tyOf P e).ok = true) {av : AV} {v : Value} (hv : AVR w I β av v) {k : Int} {K : AV → List Ob → Prop}
    (h : idxK P st (tyOf P e).size av k K) : ∃ v' av', (Instr.indexAt t v (.int .i64 k)).run P w = .ok v' w ∧ K av' [] ∧ AVR w I β av' v' := by
  obtain ⟨i, d, z, hi, hd, hz, hzs, -, hsz, -, -⟩ := ZJ hok
  have ht' := tyOf_sl ht
  unfold idxK at h
  split at h
  · rename_i sz xs
    obtain ⟨rfl, h0, hlt, hK⟩ := h
    obtain ⟨ad, cap, rfl, hra⟩ := Im.elem (β := β) hv (i := k.toNat) (by omega)
    refine ⟨_, _, run_indexAt ht' hi ad _ cap k h0 (by omega), hK, ?_⟩
    rw [hsz] at hra
    exact hra
  · rename_i j
    split at h
    · rename_i sz xs hl hobj
      obtain ⟨rfl, h0, h1, hK⟩ := h
      have ho := hr.hdr hv hobj (by simp)
      have hv2 := hv.1
      rcases ho with ⟨hn0, -⟩ | ⟨g, cap, e', cur, fr, c, F, rfl, -⟩
      · omega
      · refine ⟨_, _, run_indexAt ht' hi _ _ cap k h0 h1, hK, g, _, cap, hv2, ?_⟩
        rw [add0, hsz, Nat.add_zero]
    · rename_i sz xs hobj
      obtain ⟨rfl, h0, hlt, hK⟩ := h
      have ho := hr.hdr hv hobj (by simp)
      obtain ⟨ad, cap, rfl, hra⟩ := Im.elem (β := β) ho (i := k.toNat) (by omega)
      refine ⟨_, _, run_indexAt ht' hi ad _ cap k h0 (by omega), hK, ?_⟩
      rw [hsz] at hra
      exact hra
    · exact h.elim
  · exact h.elim
theorem fieldAddr_sound (hr : RelV st a w I β S) {t : TypeId} {f : Nat} {av : AV} {v : Value} (hv : AVR w I β av v) {K : AV → List Ob → Prop} (h : fieldAddrK P (tyOf P t) av f K) :
    ∃ v' av', (Instr.fieldAt t v f).run P w = .ok v' w ∧ K av' [] ∧ AVR w I β av' v' := by
  obtain ⟨⟨off, u⟩, hf, hok, hne, h⟩ := is_iff h
  obtain ⟨i, d, z, hi, hd, hz, hzs, -, hsz, -, -⟩ := ZJ hok
  obtain ⟨fs, F, hfs, hF, rfl, rfl⟩ := tyOf_fld hf
  rw [hsz] at hne
  have key : ∀ ad : Addr, (Instr.fieldAt t (.pointer (some ad)) f).run P w = .ok (.pointer (some (ad.add F.offset))) w := by
    intro ad
    simp [Instr.fieldAt, Instr.sureAddr, run_underlying hfs, hF, fieldPlace, run_sizeOf' hi, hne]
  split at h
  · obtain ⟨g, hg, rfl⟩ := hv
    exact ⟨_, _, key _, h, g, hg, by rw [add00]⟩
  · obtain ⟨g, n, cap, hg, rfl⟩ := hv
    exact ⟨_, _, key _, h, g, n, cap, hg, by rw [add00, Nat.add_assoc]⟩
  · rename_i cs
    obtain ⟨ad, c, rfl, hI, hc, H⟩ := hv
    refine ⟨_, _, key _, h, _, fun j => c (F.offset + j), rfl, by rw [add_block]; exact hI, fun j x hx => ?_, fun j x hx => H _ x (by simpa using hx)⟩
    rw [add_add]
    exact hc _ x (by simpa using hx)
  · exact h.elim
theorem field_sound {t : TypeId} {f : Nat} {cs : List C} {v : Value} (hv : AVR w I β (.a cs) v) {K : AV → List Ob → Prop}
    (h : is (fldOf (tyOf P t) f) fun p => is (loadC (tyOf P p.2) (cs.drop p.1)) fun av => K av []) :
    ∃ v' av', (Instr.field t v f).run P w = .ok v' w ∧ K av' [] ∧ AVR w I β av' v' := by
  obtain ⟨⟨off, u⟩, hf, h⟩ := is_iff h
  obtain ⟨av', hl, hK⟩ := is_iff h
  obtain ⟨fs, F, hfs, hF, rfl, rfl⟩ := tyOf_fld hf
  obtain ⟨arr, rfl, hsz, hc⟩ := hv
  simp only at hl
  unfold loadC at hl
  split at hl
  · rename_i hok
    obtain ⟨i, d, z, hi, hd, hz, hzs, hag, hsi, -, -⟩ := ZJ hok
    split at hl
    · rename_i ha
      split at hl
      · rename_i hle
        simp only [Option.some.injEq] at hl
        subst hl
        rw [hag] at ha
        rw [hsi] at hle hK
        simp only [List.length_drop] at hle
        refine ⟨.agg (arr.extract F.offset (F.offset + i.size)), _, ?_, hK, ?_⟩
        · simp [Instr.field, run_underlying hfs, hF, asAgg, part, run_isAgg' hd, ha, run_sizeOf' hi]
        · refine ⟨_, rfl, by simp; omega, fun j x v hx hv => ?_⟩
          have hj : j < i.size := by
            by_cases hj : j < i.size
            · exact hj
            · simp [List.getElem?_take, hj] at hx
          rw [List.getElem?_take, if_pos hj] at hx
          rw [Array.getElem?_extract] at hv
          split at hv
          · exact hc _ x v (by simpa using hx) hv
          · cases hv
      · cases hl
    · rename_i ha
      cases hcs : cs.drop F.offset with
      | nil => rw [hcs] at hl; cases hl
      | cons x r =>
        rw [hcs] at hl
        simp only [Option.some.injEq] at hl
        subst hl
        have hfl : isAggD d = false := by rw [← hag]; simpa using ha
        have hx : cs[F.offset]? = some x := by
          have := congrArg (·[0]?) hcs
          simpa using this
        have hlt : F.offset < arr.size := by rw [hsz]; exact (List.getElem?_eq_some_iff.1 hx).1
        refine ⟨arr[F.offset], _, ?_, hK, hc _ x _ hx (by simp [hlt])⟩
        simp [Instr.field, run_underlying hfs, hF, asAgg, part, run_isAgg' hd, hfl, hlt]
  · cases hl
end
section
variable {P : Program} {st : St} {a : Act} {w : World} {I : Nat → Prop} {β : List Value} {S : Nat → Nat → Prop}
theorem run_bound {x : Int} {y : Nat} (h0 : 0 ≤ x) (h1 : x ≤ y) (code : BoundsCode) : (Instr.sliceBound (.int .i64 x) y code).run P w = .ok x.toNat w := by
  simp [Instr.sliceBound, asIntOf, h0, h1]
theorem optArg_iff {x : Option Operand} (hr : RelV st a w I β S) {d : Int} {K : Int → Prop} (h : optArg (x.map st.ev) d K) :
    ∃ n, K n ∧ ((x.map a.eval = some (.int .i64 n)) ∨ (x.map a.eval = Option.none ∧ n = d)) := by
  cases x with
  | none => exact ⟨d, h, .inr ⟨rfl, rfl⟩⟩
  | some x =>
    obtain ⟨n, hn, hK⟩ := natArg_iff (zL hr x) h
    exact ⟨n, hK, .inl (by simp [hn])⟩
theorem run_bounds2 {sl : Bool} {len cap : Nat} {lo hi : Option Value} {l h : Int} (hl : lo = some (.int .i64 l) ∨ (lo = Option.none ∧ l = 0)) (hh : hi = some (.int .i64 h) ∨ (hi = Option.none ∧ h = len))
    (h0 : 0 ≤ l) (h1 : l ≤ h) (h2 : h ≤ cap) : (Instr.sliceBounds sl len cap lo hi Option.none).run P w = .ok (l.toNat, h.toNat, cap) w := by
  have hle : l ≤ (h.toNat : Int) := by omega
  have e1 : ∀ c, (Instr.sliceBound (.int .i64 h) cap c).run P w = .ok h.toNat w := fun c => run_bound (by omega) h2 c
  have e2 : ∀ c, (Instr.sliceBound (.int .i64 l) h.toNat c).run P w = .ok l.toNat w := fun c => run_bound h0 hle c
  rcases hl with rfl | ⟨rfl, rfl⟩ <;> rcases hh with rfl | ⟨rfl, rfl⟩
  · simp [Instr.sliceBounds, e1, e2]
  · simp only [Int.toNat_natCast] at e2
    simp [Instr.sliceBounds, e2]
  · simp [Instr.sliceBounds, e1]
  · simp [Instr.sliceBounds]
theorem at2_sub {α : Type} {xs : Rw α} {l h i j : Nat} {x : α} (h2 : h ≤ xs.n) (hx : at2 (xs.sub l h) i j = some x) : at2 xs (l + i) j = some x := by
  obtain ⟨h1, h3⟩ := at2_pos hx
  have h4 : i < h - l := h1
  rw [at2_of (by omega)]
  exact h3
theorem Im.sub {sz : Nat} {xs : Rw N} {A : Option Addr} {n cap : Nat} (h : Im w I (.sl sz xs) (.slice A n cap)) {l hi : Nat} (h1 : l ≤ hi) (h2 : hi ≤ xs.n) :
    Im w I (.sl sz (xs.sub l hi)) (.slice (if cap = l then A else A.map (·.add (l * sz))) (hi - l) (cap - l)) := by
  generalize hv : Value.slice A n cap = v at h
  cases h with
  | sl A' cap' ad c hu hn hcap hA hc H =>
    cases hv
    have hn' : (xs.sub l hi).n = hi - l := rfl
    refine Im.sl (xs := xs.sub l hi) _ _ (ad.add (l * sz)) (fun i j => c (l + i) j) (fun i h => hu (l + i) (by rw [hn'] at h; omega)) (by rw [hn']; omega)
      (by rw [hn']; omega) (fun hne => ?_) (fun i j x hx => ?_) (fun i j x hx => ?_)
    · have hlt : l < hi := by rw [hn'] at hne; omega
      obtain ⟨rfl, hI⟩ := hA (by omega)
      rw [if_neg (by omega)]
      exact ⟨rfl, by rw [add_block]; exact hI⟩
    · rw [add_add, ← Nat.add_assoc, ← Nat.add_mul]
      exact hc _ _ x (at2_sub h2 hx)
    · exact H _ _ x (at2_sub h2 hx)
theorem slice_sound (hr : RelV st a w I β S) {t : TypeId} {x : Operand} {lo hi mx : Option Operand} {K : AV → List Ob → Prop}
    (h : sliceK P st (tyOf P t) (st.ev x) (lo.map st.ev) (hi.map st.ev) (mx.map st.ev) K) :
    ∃ v' av', (Instr.sliceAt t (a.eval x) (lo.map a.eval) (hi.map a.eval) (mx.map a.eval)).run P w = .ok v' w ∧ K av' [] ∧ AVR w I β av' v' := by
  have hv := zL hr x
  unfold sliceK at h
  split at h
  · rename_i s hx hm
    rw [hx] at hv
    obtain ⟨hv, -⟩ := hv.val
    obtain ⟨l, h, hl⟩ := optArg_iff hr h
    obtain ⟨u, h, hu⟩ := optArg_iff hr h
    obtain ⟨hs, h0, h1, h2, hK⟩ := h
    have hm' : mx = Option.none := by cases mx with | none => rfl | some m => simp at hm
    subst hm'
    refine ⟨.string (s.extract l.toNat u.toNat), _, ?_, hK, Im.v rfl⟩
    rw [hv]
    simp [Instr.sliceAt, Instr.slice, run_underlying (tyOf_str hs), run_bounds2 (P := P) (w := w) (sl := false) hl hu h0 h1 h2]
  · rename_i sz xs hx hm
    rw [hx] at hv
    obtain ⟨l, h, hl⟩ := optArg_iff hr h
    obtain ⟨u, h, hu⟩ := optArg_iff hr h
    obtain ⟨h0, h1, h2, hty, hK⟩ := h
    obtain ⟨e, he, hok, hsz⟩ := is_iff hty
    have hm' : mx = Option.none := by cases mx with | none => rfl | some m => simp at hm
    subst hm'
    obtain ⟨i, d, z, hi', hd, hz, hzs, -, hsi, -, -⟩ := ZJ hok
    obtain ⟨A, cap, hva, hcap, hn⟩ := Im.slice hv
    have hsub := Im.sub (l := l.toNat) (hi := u.toNat) (hva ▸ hv) (by omega) (by omega)
    refine ⟨_, _, ?_, hK, hsub⟩
    rw [hva]
    have hb := run_bounds2 (P := P) (w := w) (sl := true) (cap := cap) hl hu h0 h1 (by omega)
    simp [Instr.sliceAt, Instr.slice, run_underlying (tyOf_sl he), hb, run_sizeOf' hi', ← hsz, hsi]
  · rename_i hx hm
    rw [hx] at hv
    obtain ⟨A, hva⟩ := hv
    obtain ⟨l, h, hl⟩ := optArg_iff hr h
    obtain ⟨u, h, hu⟩ := optArg_iff hr h
    obtain ⟨hty, rfl, rfl, hK⟩ := h
    obtain ⟨e, he, hok⟩ := is_iff hty
    obtain ⟨i, d, z, hi', hd, hz, hzs, -, hsi, -, -⟩ := ZJ hok
    have hm' : mx = Option.none := by cases mx with | none => rfl | some m => simp at hm
    subst hm'
    refine ⟨.slice A 0 0, _, ?_, hK, A, rfl⟩
    rw [hva]
    have hb := run_bounds2 (P := P) (w := w) (sl := true) (len := 0) (cap := 0) hl hu (by omega) (by omega) (by omega)
    simp [Instr.sliceAt, Instr.slice, run_underlying (tyOf_sl he), hb, run_sizeOf' hi']
  · rename_i sz xs m hx hm
    rw [hx] at hv
    obtain ⟨l, h, hl⟩ := optArg_iff hr h
    obtain ⟨u, h, hu⟩ := optArg_iff hr h
    cases mx with
    | none => simp at hm
    | some mo =>
      simp only [Option.map_some, Option.some.injEq] at hm
      subst hm
      obtain ⟨q, hq, h⟩ := natArg_iff (zL hr mo) h
      obtain ⟨hsome, hty, rfl, rfl, rfl, hK⟩ := h
      obtain ⟨e, he, hok⟩ := is_iff hty
      obtain ⟨i, d, z, hi', hd, hz, hzs, -, hsi, -, -⟩ := ZJ hok
      obtain ⟨A, cap, hva, hcap, hn⟩ := Im.slice hv
      cases hi with
      | none => simp at hsome
      | some ho =>
        have hu' : a.eval ho = .int .i64 0 := by rcases hu with hu | ⟨hu, -⟩ <;> simp at hu; exact hu
        refine ⟨.slice A 0 0, _, ?_, hK, A, rfl⟩
        rw [hva]
        have b1 := run_bound (P := P) (w := w) (x := 0) (y := cap) (by omega) (by omega) .slice3Acap
        have b2 := run_bound (P := P) (w := w) (x := 0) (y := 0) (by omega) (by omega) .slice3B
        have b3 := run_bound (P := P) (w := w) (x := 0) (y := 0) (by omega) (by omega) .slice3C
        rcases hl with hl | ⟨hl, -⟩ <;>
          simp [Instr.sliceAt, Instr.slice, run_underlying (tyOf_sl he), Instr.sliceBounds, hl, hu', hq, b1, b2, b3, run_sizeOf' hi']
  · exact h.elim
theorem toList_inj {x y : ByteArray} : (x.toList == y.toList) = decide (x = y) := by
  by_cases h : x = y
  · simp [h]
  · have : ¬ x.toList = y.toList := fun e => h (bytes_inj' e)
    simp [h, this]
where
  bytes_inj' {a b : ByteArray} (h : a.toList = b.toList) : a = b := by
    rw [ByteArray.toList_eq, ByteArray.toList_eq] at h
    cases a; cases b
    simp at h
    simp [h]
theorem beq_eq_decide_list (x y : List UInt8) : (x == y) = decide (x = y) := by
  by_cases h : x = y <;> simp [h]
theorem beq_eq_decide_int (x y : Int) : (x == y) = decide (x = y) := by
  by_cases h : x = y <;> simp [h]
theorem lt_or_eq_total (x y : List UInt8) : (decide (x < y) || decide (x = y)) = !decide (y < x) := by
  by_cases h1 : y < x
  · have h2 : ¬ x < y := List.lt_asymm h1
    have h3 : ¬ x = y := by rintro rfl; exact List.lt_irrefl _ h1
    simp [h1, h2, h3]
  · have h4 : x ≤ y := List.not_lt.1 h1
    rcases List.le_iff_lt_or_eq.1 h4 with h | h <;> simp [h, h1]
theorem bytesLess_eq' (x y : List UInt8) : Op.bytesLess x y = decide (x < y) := Go.Proofs.bytesLess_eq x y
theorem tyOf_bl {t : TypeId} (h : (tyOf P t).bl = true) : P.underlying t = some .bool := by
  unfold tyOf at h
  cases hi : P.info? t with
  | none => simp [hi] at h
  | some i =>
    cases hd : P.underlying t with
    | none => simp [hi, hd] at h
    | some d => cases d <;> simp [hi, hd, tyD] at h; rfl
theorem run_equalIn_bool {t : TypeId} (ht : P.underlying t = some .bool) (p q : Bool) : (Op.equalIn Op.maxDepth t (.bool p) (.bool q)).run P w = .ok (p == q) w := by
  show (Op.equalIn (9999 + 1) t (.bool p) (.bool q)).run P w = _
  rw [Op.equalIn, Sem.run_bind, run_underlying ht]
  rfl
theorem bin_sound {op : BinOp} {t : TypeId} {x y : Operand} {v u : Value} {K : Value → Prop} (h : binK op (tyOf P t) v u K) :
    ∃ r, (do eqGuard op t x y v u; binOp op t v u).run P w = .ok r w ∧ K r ∧ r.oneCell' = true := by
  unfold binK at h
  split at h
  · rename_i k i k' j
    have hg : (eqGuard op t x y (.int k i) (.int k' j)).run P w = .ok () w := by
      unfold eqGuard
      cases op <;> simp
    cases op <;> simp only [cmpI, arI, shI, isDiv, is, reduceCtorEq, false_implies, true_and, forall_const] at h <;>
      first
      | (obtain ⟨rfl, h0, hK⟩ := h; refine ⟨_, ?_, hK, rfl⟩; rw [Sem.run_bind, hg]; simp [binOp, Op.intDiv, h0]; done)
      | (obtain ⟨rfl, hK⟩ := h; refine ⟨_, ?_, hK, rfl⟩; rw [Sem.run_bind, hg]; simp [binOp, Op.intArith, Op.intBits, Op.intCmp, bne]; done)
      | (obtain ⟨rfl, hK⟩ := h; refine ⟨_, ?_, hK, rfl⟩; rw [Sem.run_bind, hg]; simp only [Result.andThen_ok, binOp, ne_eq, not_true_eq_false, if_false, Op.intCmp, beq_eq_decide_int, bne]; rfl)
      | (obtain ⟨h0, hK⟩ := h; refine ⟨_, ?_, hK, rfl⟩; rw [Sem.run_bind, hg]; simp [binOp, Op.shift, show ¬ j < 0 by omega]; done)
      | exact (And.right h).elim
  · rename_i s r
    have hg : (eqGuard op t x y (.string s) (.string r)).run P w = .ok () w := by
      unfold eqGuard
      cases op <;> simp
    have e2 := lt_or_eq_total s.toList r.toList
    have e3 := lt_or_eq_total r.toList s.toList
    have e4 : decide (s.toList = r.toList) = decide (s = r) := by rw [← toList_inj]; exact (beq_eq_decide_list _ _).symm
    cases op <;> simp only [strV, is, reduceCtorEq, false_implies, true_and, forall_const] at h <;>
      first
      | exact h.elim
      | (refine ⟨_, ?_, h, rfl⟩; rw [Sem.run_bind, hg]; simp [binOp, Op.stringOp, toList_inj, bytesLess_eq', bne]; done)
      | (refine ⟨_, ?_, h, rfl⟩; rw [Sem.run_bind, hg]; simp only [Result.andThen_ok, binOp, Op.stringOp, toList_inj, bytesLess_eq', ← e4, e2]; simp; done)
      | (obtain ⟨hle, h⟩ := h; refine ⟨_, ?_, h, rfl⟩; rw [Sem.run_bind, hg]; have hle' : ¬ ((s.size + r.size : Nat) : Int) > IntKind.i64.max := (by unfold maxN at hle; simp [IntKind.max, IntKind.bits, IntKind.signed]; omega); simp only [Result.andThen_ok, binOp, Op.stringOp, if_neg hle']; rfl)
      | skip
  · rename_i p q
    have hg : (eqGuard op t x y (.bool p) (.bool q)).run P w = .ok () w := by
      unfold eqGuard
      cases op <;> simp
    obtain ⟨hb, h⟩ := h
    have ht := tyOf_bl hb
    cases op <;> simp only [boolV, is] at h <;>
      first
      | exact h.elim
      | (refine ⟨_, ?_, h, rfl⟩; rw [Sem.run_bind, hg]; simp [binOp, Op.equal, run_equalIn_bool ht])
  · exact h.elim
end
section
variable {P : Program} {w : World} {d : Nat} {A B : Array Value}
theorem sel_cases0 {ρ : Type} {b : Bool} {x y : Option ρ} {r : ρ} (h : sel b x y = some r) : (b = true ∧ x = some r) ∨ (b = false ∧ y = some r) := by
  cases b with
  | true => exact .inl ⟨rfl, h⟩
  | false => exact .inr ⟨rfl, h⟩
theorem eqF_run {f : Field} {k : Nat} {x y : Value} {r : Bool} (h : eqF P f k x y = some r) (hx : A[k]? = some x) (hy : B[k]? = some y) :
    f.name ≠ "_" ∧ (part f.type A f.offset).run P w = .ok x w ∧ (part f.type B f.offset).run P w = .ok y w ∧ (Op.equalIn (d + 1) f.type x y).run P w = .ok r w := by
  unfold eqF at h
  split at h
  · rename_i h1 hu
    simp only [Bool.and_eq_true, bne_iff_ne, ne_eq, decide_eq_true_eq] at h1
    obtain ⟨h1, h2, h3⟩ := h1
    rcases sel_cases0 h with ⟨hk, h⟩ | ⟨-, h⟩
    · simp only [Option.some.injEq] at h
      rw [decide_eq_true_eq] at hk
      subst h h3 hk
      refine ⟨h1, run_part_plain w h2 hx, run_part_plain w h2 hy, ?_⟩
      rw [run_equalIn_int w d _ _ _ _ _ hu]
      congr 1
    · cases h
  · rename_i h1 hu
    simp only [Bool.and_eq_true, bne_iff_ne, ne_eq, decide_eq_true_eq] at h1
    obtain ⟨h1, h2, h3⟩ := h1
    simp only [Option.some.injEq] at h
    subst h h3
    exact ⟨h1, run_part_plain w h2 hx, run_part_plain w h2 hy, Go.run_equalIn_bool w d _ _ _ hu⟩
  · rename_i h1 hu
    simp only [Bool.and_eq_true, bne_iff_ne, ne_eq, decide_eq_true_eq] at h1
    obtain ⟨h1, h2, h3⟩ := h1
    simp only [Option.some.injEq] at h
    subst h h3
    refine ⟨h1, run_part_plain w h2 hx, run_part_plain w h2 hy, ?_⟩
    rw [run_equalIn_string w d _ _ _ hu]
    congr 1
    exact toList_inj
  · cases h
theorem eqFs_run : ∀ {fs : List Field} {k : Nat} {xs ys : List Value} {r : Bool}, eqFs P fs k xs ys = some r → (∀ j x, xs[j]? = some x → A[k + j]? = some x) → (∀ j y, ys[j]? = some y → B[k + j]? = some y) →
    (Op.eqFields (d + 1) A B fs).run P w = .ok r w := by
  intro fs
  induction fs with
  | nil => intro k xs ys r h; simp [eqFs] at h
  | cons f fs ih =>
    intro k xs ys r h hx hy
    cases xs with
    | nil => cases fs <;> simp [eqFs] at h
    | cons x xs =>
    cases ys with
    | nil => cases fs <;> simp [eqFs] at h
    | cons y ys =>
    have hx0 : A[k]? = some x := hx 0 x rfl
    have hy0 : B[k]? = some y := hy 0 y rfl
    have step : ∀ {a b : Bool}, eqF P f k x y = some a → (Op.eqFields (d + 1) A B fs).run P w = .ok b w → (Op.eqFields (d + 1) A B (f :: fs)).run P w = .ok (a && b) w := by
      intro a b ha hb
      obtain ⟨h1, h2, h3, h4⟩ := eqF_run (w := w) (d := d) ha hx0 hy0
      rw [Op.eqFields]
      simp only [ne_eq, h1, not_false_eq_true, if_true, Sem.run_bind, h2, h3, h4, Result.andThen_ok]
      cases a
      · simp
      · simpa using hb
    have gen : ((eqF P f k x y).bind fun a => (eqFs P fs (k + 1) xs ys).map fun b => a && b) = some r → (Op.eqFields (d + 1) A B (f :: fs)).run P w = .ok r w := by
      intro h
      simp only [Option.bind_eq_some_iff, Option.map_eq_some_iff] at h
      obtain ⟨a, ha, b, hb, rfl⟩ := h
      exact step ha (ih hb (fun j z hz => by have := hx (j + 1) z (by simpa using hz); rwa [show k + (j + 1) = k + 1 + j from by omega] at this) (fun j z hz => by have := hy (j + 1) z (by simpa using hz); rwa [show k + (j + 1) = k + 1 + j from by omega] at this))
    cases fs with
    | cons f' fs' => exact gen h
    | nil =>
      cases xs with
      | cons x' xs' => exact gen h
      | nil =>
        cases ys with
        | cons y' ys' => exact gen h
        | nil =>
          have := step (b := true) (show eqF P f k x y = some r from h) (by simp [Op.eqFields])
          simpa using this
theorem eqSt_run {t : TypeId} {xs ys : List Value} {r : Bool} (h : eqSt P t xs ys = some r) (hx : A.toList = xs) (hy : B.toList = ys) : (Op.equalIn (d + 1 + 1) t (.agg A) (.agg B)).run P w = .ok r w := by
  unfold eqSt at h
  split at h
  · rename_i fs hu hp
    rw [Bool.or_eq_false_iff] at hp
    have hf : P.fieldsOf t = fs := by simp [Program.fieldsOf, hu]
    rw [run_equalIn_struct (P := P) w (d + 1) t A B (by rw [hf]; exact hu) hp.1, hf]
    subst hx hy
    exact eqFs_run h (fun j x hj => by simpa using hj) (fun j x hj => by simpa using hj)
  · cases h
theorem eqSt_guard {op : BinOp} {x y : Operand} {t : TypeId} {xs ys : List Value} {r : Bool} (h : eqSt P t xs ys = some r) : (eqGuard op t x y (.agg A) (.agg B)).run P w = .ok () w := by
  unfold eqSt at h
  split at h
  · rename_i fs hu hp
    rw [Bool.or_eq_false_iff] at hp
    unfold eqGuard
    cases op <;> simp [run_program, hp.2]
  · cases h
end
theorem run_eq_nilS {P : Program} {w : World} {t e : TypeId} {a : Option Addr} {n c : Nat} (d : Nat) (h : P.underlying t = some (.slice e)) : (Op.equalIn (d + 1) t (.slice a n c) (.slice .none 0 0)).run P w = .ok a.isNone w := by
  cases a <;> simp [Op.equalIn, run_underlying h]
theorem run_eql_nilS {P : Program} {w : World} {t e : TypeId} {a : Option Addr} {n c : Nat} (h : P.underlying t = some (.slice e)) : (binOp .eql t (.slice a n c) (.slice .none 0 0)).run P w = .ok (.bool a.isNone) w := by
  have h1 : (Op.equal t (.slice a n c) (.slice .none 0 0)).run P w = .ok a.isNone w := run_eq_nilS 9999 h
  show (Op.equal t (.slice a n c) (.slice .none 0 0) >>= fun b => pure (Value.bool b)).run P w = _
  rw [Sem.run_bind, h1]
  rfl
theorem vals_sound {P : Program} {w : World} {I : Nat → Prop} {β : List Value} {xs : List C} {arr : Array Value} {vs : List Value} (h : CsR w I β xs arr) (hv : zS (xs.map valC) = some vs) : arr.toList = vs := by
  have key : ∀ (xs : List C) (vs : List Value), zS (xs.map valC) = some vs → vs.length = xs.length ∧ ∀ (j : Nat) (x : C), xs[j]? = some x → ∃ v, vs[j]? = some v ∧ x = C.n (.v v) := by
    intro xs
    induction xs with
    | nil => intro vs h; simp [zS] at h; subst h; simp
    | cons x xs ih =>
      intro vs h
      simp only [List.map_cons] at h
      cases hx : valC x with
      | none => rw [hx] at h; cases h
      | some y =>
        rw [hx] at h
        simp only [zS, Option.map_eq_some_iff] at h
        obtain ⟨vs', h', rfl⟩ := h
        obtain ⟨h1, h2⟩ := ih vs' h'
        refine ⟨by simp [h1], fun j z hz => ?_⟩
        cases j with
        | zero =>
          simp only [List.getElem?_cons_zero, Option.some.injEq] at hz
          subst hz
          unfold valC at hx
          split at hx
          · simp only [Option.some.injEq] at hx; subst hx; exact ⟨_, rfl, rfl⟩
          · cases hx
        | succ j => simpa using h2 j z (by simpa using hz)
  obtain ⟨h1, h2⟩ := key xs vs hv
  apply List.ext_getElem?
  intro j
  by_cases hj : j < xs.length
  · obtain ⟨v, hv1, hv2⟩ := h2 j _ (List.getElem?_eq_getElem hj)
    have hja : j < arr.size := by rw [h.1]; exact hj
    rw [hv1]
    have hc := h.2 j _ (arr[j]) (List.getElem?_eq_getElem hj) (Array.getElem?_eq_getElem hja)
    rw [hv2] at hc
    have : arr[j] = v := by
      have hc' : Im w I (.v v) arr[j] := hc
      cases hc'
      rfl
    rw [Array.getElem?_toList, Array.getElem?_eq_getElem hja, this]
  · rw [List.getElem?_eq_none (by simp [h.1]; omega), List.getElem?_eq_none (by omega)]
theorem agg_sound {P : Program} {w : World} {I : Nat → Prop} {β : List Value} {op : BinOp} {t : TypeId} {x y : Operand} {xs ys : List C} {A B : Array Value} {K : Value → Prop} (h : aggK P op t xs ys K) (hx : CsR w I β xs A) (hy : CsR w I β ys B) :
    ∃ r, (do eqGuard op t x y (.agg A) (.agg B); binOp op t (.agg A) (.agg B)).run P w = .ok r w ∧ K r ∧ r.oneCell' = true := by
  obtain ⟨vs, h1, h⟩ := is_iff h
  obtain ⟨us, h2, h⟩ := is_iff h
  obtain ⟨b, h3, h⟩ := is_iff h
  obtain ⟨r, h4, h⟩ := is_iff h
  have e1 := vals_sound (P := P) hx h1
  have e2 := vals_sound (P := P) hy h2
  refine ⟨.bool r, ?_, h, rfl⟩
  have hrun : (Op.equal t (.agg A) (.agg B)).run P w = .ok b w := eqSt_run (d := 9998) h3 e1 e2
  rw [Sem.run_bind, eqSt_guard h3]
  unfold eqOp at h4
  cases op <;> simp only [Option.some.injEq, reduceCtorEq] at h4
  · subst h4; simp [binOp, hrun]
  · subst h4; simp [binOp, hrun]
section
variable {P : Program} {st : St} {a : Act} {w : World} {I : Nat → Prop} {β : List Value} {S : Nat → Nat → Prop}
theorem QPost.one (hr : RelV st a w I β S) {w' : World} {av : AV} {v b : Value} {o : Ob} {Sn : Nat → Prop}
    (hfr : Fr (fun _ => False) w w') (hS : ∀ x, Sn x → w.heap.size ≤ x ∧ x < w'.heap.size)
    (hav : AVR w' I (β ++ [b]) av v) (hob : ObR w' I (β ++ [b]) b Sn o) : QPost st w I β S av [o] v w' := by
  refine ⟨I, [b], fun k x => k = 0 ∧ Sn x, hfr, fun _ h => h, fun _ h => .inl h, fun x hx => Nat.lt_of_lt_of_le (hr.ilt x hx) hfr.size, rfl, hav, ?_, ?_, ?_⟩
  · intro k o' b' ho hb
    cases k with
    | zero =>
      simp at ho hb
      subst ho; subst hb
      exact hob.mono (fun _ h => h) (fun _ _ => rfl) (fun _ _ h => h) (fun _ _ => rfl) (fun x hx => ⟨rfl, hx⟩)
    | succ k => simp at ho
  · rintro k x ⟨rfl, hx⟩
    exact ⟨by simp, (hS x hx).1, (hS x hx).2, fun hI => by have := hr.ilt x hI; have := (hS x hx).1; omega⟩
  · rintro i j x ⟨rfl, -⟩ ⟨rfl, -⟩
    rfl
theorem CsR.app {cs : List C} {arr : Array Value} (h : CsR w I β cs arr) (βn : List Value) : CsR w I (β ++ βn) cs arr :=
  h.mono (fun _ h => h) (fun _ _ => rfl) (fun i b hb => by rw [List.getElem?_append_left (List.getElem?_eq_some_iff.1 hb).1]; exact hb)
theorem QPost.box (hr : RelV st a w I β S) {cs : List C} {arr : Array Value} (h : CsR w I β cs arr) (e : TypeId) :
    QPost st w I β S (.c (.p st.obs.length 0)) [.box cs] (.pointer (some ⟨w.heap.size, 0, none⟩)) (w.alloc (.cells arr e)) := by
  refine QPost.one (b := .pointer (some ⟨w.heap.size, 0, none⟩)) (Sn := fun x => x = w.heap.size) hr (Fr.alloc _ _ _) ?_ ?_ ?_
  · rintro x rfl; exact ⟨Nat.le_refl _, by simp⟩
  · exact ⟨w.heap.size, by rw [← hr.bl]; simp, rfl⟩
  · refine ⟨w.heap.size, arr, e, rfl, rfl, heap_alloc_new w _, ?_⟩
    exact (h.app _).mono (fun _ h => h) (fun b hb => heap_alloc_old w _ b (hr.ilt b hb)) (fun _ _ h => h)
theorem zC_sound {v : Value} (h : v.oneCell' = true) : CR w I β (zC v) v := by
  unfold zC
  split
  · exact ⟨_, rfl⟩
  · exact Im.v h
theorem zCs_sound {arr : Array Value} (h : arr.toList.all (·.oneCell') = true) : CsR w I β (arr.toList.map zC) arr := by
  refine ⟨by simp, fun j x v hx hv => ?_⟩
  have hv' : arr.toList[j]? = some v := by simpa using hv
  simp only [List.getElem?_map, hv', Option.map_some, Option.some.injEq] at hx
  subst hx
  exact zC_sound (List.all_eq_true.1 h v (List.mem_of_getElem? hv'))
theorem one_cells {v : Value} (h : v.oneCell' = true) : v.cells = #[v] := by cases v <;> first | rfl | (simp [Value.oneCell'] at h)
theorem partCs_sound {av : AV} {v : Value} (hv : AVR w I β av v) {cs : List C} (h : partCs av = some cs) : CsR w I β cs v.cells := by
  unfold partCs at h
  split at h
  · simp only [Option.some.injEq] at h
    subst h
    rw [one_cells (CR.one hv)]
    refine ⟨rfl, fun j x u hx hu => ?_⟩
    cases j with
    | zero => simp at hx hu; subst hx; subst hu; exact hv
    | succ j => simp at hx
  · simp only [Option.some.injEq] at h
    subst h
    obtain ⟨arr, rfl, h⟩ := hv
    exact h
  · cases h
theorem setAt_length {α : Type} {cs new : List α} {off : Nat} (h : off + new.length ≤ cs.length) : (setAt cs off new).length = cs.length := by
  unfold setAt; simp; omega
theorem setAt_get {α : Type} {cs new : List α} {off : Nat} (h : off + new.length ≤ cs.length) (j : Nat) :
    (setAt cs off new)[j]? = if off ≤ j ∧ j < off + new.length then new[j - off]? else cs[j]? := by
  unfold setAt
  rw [List.append_assoc, List.getElem?_append]
  simp only [List.length_take, show min off cs.length = off by omega, List.getElem?_take]
  by_cases h1 : j < off
  · simp [h1, show ¬ off ≤ j by omega]
  · simp only [h1, if_false]
    rw [List.getElem?_append]
    by_cases h2 : j - off < new.length
    · simp [h2, show off ≤ j ∧ j < off + new.length by omega]
    · simp only [h2, if_false, List.getElem?_drop]
      rw [if_neg (by omega)]
      congr 1
      omega
theorem foldl_set (new : List Value) (off : Nat) : ∀ (k : Nat) (arr : Array Value) (j : Nat), off + k + new.length ≤ arr.size →
    ((new.zipIdx k).foldl (fun cs p => cs.setIfInBounds (off + p.2) p.1) arr)[j]? = (if off + k ≤ j ∧ j < off + k + new.length then new[j - (off + k)]? else arr[j]?) ∧
    ((new.zipIdx k).foldl (fun cs p => cs.setIfInBounds (off + p.2) p.1) arr).size = arr.size := by
  induction new with
  | nil => intro k arr j h; simp; omega
  | cons v r ih =>
    intro k arr j h
    simp only [List.zipIdx_cons, List.foldl_cons]
    obtain ⟨e1, e2⟩ := ih (k + 1) (arr.setIfInBounds (off + k) v) j (by simp at h ⊢; omega)
    refine ⟨?_, by rw [e2]; simp⟩
    rw [e1]
    simp only [List.length_cons] at h ⊢
    by_cases h1 : j = off + k
    · subst h1
      rw [if_neg (by omega), if_pos (by omega)]
      simp [Array.getElem?_setIfInBounds, show off + k < arr.size by omega]
    · by_cases h2 : off + (k + 1) ≤ j ∧ j < off + (k + 1) + r.length
      · rw [if_pos h2, if_pos (by omega), show j - (off + k) = (j - (off + (k + 1))) + 1 by omega]
        simp
      · rw [if_neg h2, if_neg (by omega), Array.getElem?_setIfInBounds_ne (by omega)]
theorem CsR.setAt {cs new : List C} {arr narr : Array Value} {off : Nat} (h : CsR w I β cs arr) (hn : CsR w I β new narr) (hle : off + new.length ≤ cs.length) :
    CsR w I β (setAt cs off new) (narr.zipIdx.foldl (fun cs p => cs.setIfInBounds (off + p.2) p.1) arr) := by
  have hl : off + 0 + narr.toList.length ≤ arr.size := by rw [h.1]; simp [hn.1]; omega
  have key : ∀ j, (narr.zipIdx.foldl (fun cs p => cs.setIfInBounds (off + p.2) p.1) arr)[j]? = (if off ≤ j ∧ j < off + narr.size then narr[j - off]? else arr[j]?) ∧
      (narr.zipIdx.foldl (fun cs p => cs.setIfInBounds (off + p.2) p.1) arr).size = arr.size := by
    intro j
    have := foldl_set narr.toList off 0 arr j hl
    rw [← Array.foldl_toList, Array.toList_zipIdx]
    simpa using this
  refine ⟨by rw [(key 0).2, h.1, setAt_length hle], fun j x v hx hv => ?_⟩
  rw [(key j).1] at hv
  rw [setAt_get hle] at hx
  rw [hn.1] at hv
  split at hx
  · rename_i hc
    rw [if_pos hc] at hv
    exact hn.2 _ x v hx hv
  · rename_i hc
    rw [if_neg hc] at hv
    exact h.2 _ x v hx hv
theorem fill_sound (hr : RelV st a w I β S) {t : TypeId} {fs : Array Field} (hfs : P.underlying t = some (.struct fs)) (place : Nat → Option (Nat × Nat))
    (hp : ∀ f off u, fldOf (tyOf P t) f = some (off, u) → (tyOf P u).ok = true → place f = some (off, (tyOf P u).size)) :
    ∀ (parts : List (Nat × Operand)) (cs cs' : List C) (arr : Array Value), CsR w I β cs arr →
      fillC P (tyOf P t) (parts.map fun p => (p.1, st.ev p.2)) cs = some cs' → (∀ p ∈ parts, ∀ off u, fldOf (tyOf P t) p.1 = some (off, u) → (tyOf P u).ok = true) →
      ∃ arr', Instr.fill place arr (parts.map fun p => (p.1, a.eval p.2)) = some arr' ∧ CsR w I β cs' arr' := by
  intro parts
  induction parts with
  | nil =>
    intro cs cs' arr h hf _
    simp only [List.map_nil, fillC, Option.some.injEq] at hf
    subst hf
    exact ⟨arr, rfl, h⟩
  | cons p r ih =>
    intro cs cs' arr h hf hall
    simp only [List.map_cons, fillC] at hf
    split at hf
    · rename_i off u new h1 h2
      split at hf
      · rename_i hc
        have hok := hall p (by simp) off u h1
        have hn := partCs_sound (zL hr p.2) h2
        obtain ⟨arr', h3, h4⟩ := ih _ cs' _ (h.setAt hn hc.2) hf (fun q hq => hall q (by simp [hq]))
        refine ⟨arr', ?_, h4⟩
        have hsz : (a.eval p.2).cells.size = (tyOf P u).size := by rw [hn.1, hc.1]
        have hno : ¬ (off + (a.eval p.2).cells.size > arr.size) := by rw [hn.1, h.1]; omega
        simp only [List.map_cons, Instr.fill, hp p.1 off u h1 hok, hsz, ne_eq, not_true_eq_false, decide_false, Bool.false_or]
        rw [hsz] at hno
        simp only [hno, decide_false, Bool.false_eq_true, if_false]
        exact h3
      · cases hf
    · cases hf
end
section
variable {P : Program} {st : St} {a : Act} {w : World} {I : Nat → Prop} {β : List Value} {S : Nat → Nat → Prop}
theorem tyOf_st {t : TypeId} (h : (tyOf P t).st = true) : ∃ i fs, P.info? t = some i ∧ P.underlying t = some (.struct fs) ∧ (tyOf P t).fields = fs.toList.map fun f => (f.offset, f.type) := by
  unfold tyOf at h ⊢
  cases hi : P.info? t with
  | none => simp [hi] at h
  | some i =>
    cases hd : P.underlying t with
    | none => simp [hi, hd] at h
    | some d => cases d <;> simp [hi, hd, tyD, isStruct] at h; exact ⟨i, _, rfl, rfl, by simp [tyD]⟩
theorem mapM_some {α β : Type} (f : α → Option β) (g : α → β) : ∀ (l : List α), (∀ x ∈ l, f x = some (g x)) → l.mapM f = some (l.map g)
  | [], _ => rfl
  | x :: l, h => by
    simp only [List.mapM_cons, h x (by simp), Option.bind_eq_bind, Option.bind_some, mapM_some f g l (fun y hy => h y (by simp [hy])), Option.pure_def, List.map_cons]
theorem build_sound (hr : RelV st a w I β S) {t : TypeId} {parts : Array (Nat × Operand)} {cs : List C} (hok : (tyOf P t).ok = true) (hst : (tyOf P t).st = true) (hall : (tyOf P t).fields.all (fun f => (tyOf P f.2).ok) = true)
    (h1 : (tyOf P t).zero.all (·.oneCell') = true) (hf : fillC P (tyOf P t) (parts.toList.map fun p => (p.1, st.ev p.2)) ((tyOf P t).zero.map zC) = some cs) :
    ∃ arr, (Instr.build t (parts.map fun (i, x) => (i, a.eval x))).run P w = .ok (.agg arr) w ∧ CsR w I β cs arr := by
  obtain ⟨i, d, z, hi, hd, hz, hzs, -, hsz, hze, -⟩ := ZJ hok
  obtain ⟨i', fs, hi', hfs, hfl⟩ := tyOf_st hst
  have hall' : ∀ F ∈ fs.toList, (tyOf P F.type).ok = true := by
    intro F hF
    rw [hfl] at hall
    exact List.all_eq_true.1 hall (F.offset, F.type) (List.mem_map.2 ⟨F, hF, rfl⟩)
  have hsize : ∀ F ∈ fs.toList, (P.info? F.type).map (fun i => (F.offset, i.size)) = some (F.offset, (tyOf P F.type).size) := by
    intro F hF
    obtain ⟨j, d', z', hj, -, -, -, -, hs, -, -⟩ := ZJ (hall' F hF)
    simp [hj, hs]
  have hplaces := mapM_some (fun f : Field => (P.info? f.type).map fun i => (f.offset, i.size)) (fun F => (F.offset, (tyOf P F.type).size)) fs.toList hsize
  have hz0 : CsR w I β ((tyOf P t).zero.map zC) z.cells := by
    rw [hze] at h1 ⊢
    exact zCs_sound h1
  obtain ⟨arr, harr, hcs⟩ := fill_sound hr hfs ((fs.toList.map fun F => (F.offset, (tyOf P F.type).size)).toArray[·]?) (by
      intro f off u hf hu
      obtain ⟨fs', F, hfs', hF, rfl, rfl⟩ := tyOf_fld hf
      rw [hfs] at hfs'
      obtain rfl : fs = fs' := by simpa using hfs'
      simp [hF]) parts.toList _ cs _ hz0 hf (by
      intro p hp off u hu
      obtain ⟨fs', F, hfs', hF, rfl, rfl⟩ := tyOf_fld hu
      rw [hfs] at hfs'
      obtain rfl : fs = fs' := by simpa using hfs'
      exact hall' F (by simpa using Array.mem_of_getElem? hF))
  refine ⟨arr, run_build w t _ arr ?_, hcs⟩
  unfold Program.built
  simp only [hi, hfs, hz, hplaces, Array.toList_map]
  exact harr
theorem zeroN_sound {z : Option ZE} {v : Value} (h : (match z with | some _ => isNilS v | Option.none => v.oneCell') = true) {T : Nat → Prop} : Own w I (zeroN z v) v T := by
  unfold zeroN
  cases z with
  | none => exact Own.v h
  | some s =>
    simp only at h ⊢
    unfold isNilS at h
    split at h
    · exact Own.nil _ rfl
    · cases h
theorem at2_replicate {α : Type} {n i j : Nat} {e : List α} {x : α} (h : at2 (Rw.rep n e) i j = some x) : i < n ∧ e[j]? = some x := at2_pos h
theorem make_sound (hr : RelV st a w I β S) {t e : TypeId} {l : Int} (ht : (tyOf P t).sl = some e) (hok : (tyOf P e).ok = true) (h0 : 0 ≤ l) (hs0 : (tyOf P e).size ≠ 0) (hzs : zsOk (tyOf P e) = true)
    (hb : l * ((tyOf P e).bytes + 1) ≤ maxN) :
    ∃ v w', (Instr.makeSlice t (.int .i64 l) (.int .i64 l)).run P w = .ok v w' ∧
      QPost st w I β S (.c (.h st.obs.length)) [.row (tyOf P e).size (Rw.rep l.toNat (zeroNs (tyOf P e))) []] v w' := by
  obtain ⟨i, d, z, hi, hd, hz, hzsz, -, hsz, hze, hby⟩ := ZJ hok
  unfold maxN at hb
  rw [hby] at hb
  rw [hsz] at hs0
  have hb' : (l : Int) + l * (i.bytes : Int) ≤ 140737488355328 := by
    have : l * ((i.bytes : Int) + 1) = l + l * (i.bytes : Int) := by rw [Int.mul_add, Int.mul_one, Int.add_comm]
    omega
  have hnn : 0 ≤ l * (i.bytes : Int) := Int.mul_nonneg h0 (by omega)
  have hrun := run_make (P := P) w t e i z (tyOf_sl ht) hi hz .i64 .i64 l l h0 (Int.le_refl _) (by rw [Int.mul_comm]; omega) (by omega)
  refine ⟨_, _, hrun, QPost.one (b := .slice (some ⟨w.heap.size, 0, none⟩) l.toNat l.toNat) (Sn := fun x => x = w.heap.size) hr (Fr.alloc _ _ _) ?_ ?_ ?_⟩
  · rintro x rfl; exact ⟨Nat.le_refl _, by simp⟩
  · exact ⟨by rw [← hr.bl]; simp, rfl⟩
  · unfold zsOk at hzs
    simp only [Bool.and_eq_true, beq_iff_eq] at hzs
    have hzl : (zeroNs (tyOf P e)).length = i.size := by simp [zeroNs, hzs.1, hsz, hze, hzsz]
    have hlen : l.toNat ≤ maxN := by unfold maxN; omega
    refine RowR.of_own ?_
    rw [hsz]
    have hln : (Rw.rep l.toNat (zeroNs (tyOf P e))).n = l.toNat := rfl
    have hcell : ∀ j, j < i.size → (z.cells[j]?) = some (z.cells[j]!) := by
      intro j hj
      rw [← hzsz] at hj
      simp [hj]
    have := Own.sl (w := w.alloc (.cells (madeCells z.cells (l.toNat * i.size)) e)) (I := I) (sz := i.size) (xs := Rw.rep l.toNat (zeroNs (tyOf P e))) (S := fun x => x = w.heap.size)
      w.heap.size l.toNat e (madeCells z.cells (l.toNat * i.size)) (0, 0) (fun _ j => z.cells[j]!) (fun _ _ _ => False)
      (fun _ _ => hzl) (by rw [hln]; exact hlen) (by rw [hln]; exact Nat.le_refl _) (by unfold maxLen; omega) rfl
      (heap_alloc_new w _) (.inr (Nat.le_refl _)) (size_madeCells _ _)
      (fun i' j x hx => by
        obtain ⟨hi', hj⟩ := at2_replicate hx
        have hjl : j < i.size := by rw [← hzl]; exact (List.getElem?_eq_some_iff.1 hj).1
        have hlt : i' * i.size + j < l.toNat * i.size := by
          calc i' * i.size + j < i' * i.size + i.size := by omega
            _ = (i' + 1) * i.size := by rw [Nat.add_mul, Nat.one_mul]
            _ ≤ l.toNat * i.size := Nat.mul_le_mul_right _ hi'
        have hmod : (i' * i.size + j) % i.size = j := by rw [Nat.add_comm, Nat.add_mul_mod_self_right, Nat.mod_eq_of_lt hjl]
        simp [madeCells, hlt, hzsz, hmod])
      (fun i' j x hx => by
        obtain ⟨hi', hj⟩ := at2_replicate hx
        rw [show zeroNs (tyOf P e) = ((tyOf P e).zs.zip (tyOf P e).zero).map (fun p => zeroN p.1 p.2) from rfl, List.getElem?_map, Option.map_eq_some_iff] at hj
        obtain ⟨p, hp, rfl⟩ := hj
        have hp2 := List.all_eq_true.1 hzs.2 p (List.mem_of_getElem? hp)
        have hz2 : z.cells[j]! = p.2 := by
          have := (List.getElem?_zip_eq_some.1 hp).2
          rw [hze] at this
          have h3 : z.cells[j]? = some p.2 := by simpa using this
          rw [getElem!_def, h3]
        rw [hz2]
        exact zeroN_sound hp2) (by simp) (by simp)
    rw [hln] at this
    exact this
def intOf : List N → Int
  | [.v (.int .u8 n)] => n
  | _ => 0
theorem isB_iff {e : List N} (h : isB e = true) : e = [.v (.int .u8 (intOf e))] ∧ byteOf e = UInt8.ofNat (intOf e).toNat := by
  unfold isB at h
  split at h
  · exact ⟨rfl, rfl⟩
  · cases h
theorem conv_sound (hr : RelV st a w I β S) {s d : TypeId} {av : AV} {v : Value} (hv : AVR w I β av v) {K : AV → List Ob → Prop} (h : convK P st (tyOf P s) (tyOf P d) av K) :
    ∃ v' w' av' news, (convert s d v).run P w = .ok v' w' ∧ K av' news ∧ QPost st w I β S av' news v' w' := by
  unfold convK at h
  split at h
  · rename_i k n
    obtain ⟨rfl, -⟩ := hv.val
    obtain ⟨hok, h⟩ := h
    obtain ⟨k', hk, hK⟩ := is_iff h
    obtain ⟨i, d', z, hi, hd, -⟩ := ZJ hok
    refine ⟨_, w, _, [], ?_, hK, QPost.same hr (AVR.of_val rfl)⟩
    simp [convert, run_underlying hd, run_underlying (tyOf_int hk), Conv.intToInt]
  · rename_i x
    obtain ⟨rfl, -⟩ := hv.val
    obtain ⟨hok, h⟩ := h
    obtain ⟨i, d', z, hi, hd, -⟩ := ZJ hok
    split at h
    · rename_i hs
      refine ⟨_, w, _, [], ?_, h, QPost.same hr (AVR.of_val rfl)⟩
      simp [convert, run_underlying hd, run_underlying (tyOf_str hs)]
    · obtain ⟨e, he, h8, hn, hK⟩ := is_iff h
      have hrun := Lib.run_convert_string_bytes (P := P) w s d e x hd (tyOf_sl he) (tyOf_int h8)
      refine ⟨_, _, _, _, hrun, hK, QPost.one (b := .slice (some ⟨w.heap.size, 0, none⟩) x.size (grownCap w x.size 0 e)) (Sn := fun y => y = w.heap.size) hr ?_ ?_ ?_ ?_⟩
      · exact ⟨rfl, rfl, rfl, by rw [Lib.bytesWorld_size]; omega, fun b hb _ => Lib.bytesWorld_at_old w e x b hb⟩
      · rintro y rfl; exact ⟨Nat.le_refl _, by rw [Lib.bytesWorld_size]; omega⟩
      · exact ⟨by rw [← hr.bl]; simp, rfl⟩
      · refine RowR.of_own ?_
        have hln : (bytesRw x).n = x.size := rfl
        have hcap : x.size ≤ grownCap w x.size 0 e := grownCap_ge w _ _ _
        have hbs : x.data.size = x.size := rfl
        have hbc : (Lib.bytesCells w e x).size = grownCap w x.size 0 e * 1 := by
          simp only [Lib.bytesCells, Array.size_append, Array.size_map, Array.size_replicate, hbs, Nat.mul_one]
          omega
        have hmax : x.size ≤ maxLen := by unfold maxN at hn; unfold maxLen; omega
        have := Own.sl (w := Lib.bytesWorld w e x) (I := I) (sz := 1) (xs := bytesRw x) (S := fun y => y = w.heap.size)
          w.heap.size (grownCap w x.size 0 e) e (Lib.bytesCells w e x) ((Lib.bytesCells w e x).size, (Lib.bytesCells w e x).size + 1) (fun i _ => .int .u8 ((x.data.toList.getD i 0).toNat)) (fun _ _ _ => False)
          (fun _ _ => rfl) (by rw [hln]; exact hn) (by rw [hln]; exact hcap) (grownCap_le_maxLen w _ _ _ hmax) rfl
          (Lib.bytesWorld_at_new w e x) (.inl ⟨Nat.le_refl _, rfl⟩) hbc
          (fun i j y hy => by
            obtain ⟨hi, hy⟩ := at2_pos hy
            have hj : j = 0 := by
              cases j with
              | zero => rfl
              | succ j => simp [bytesRw] at hy
            subst hj
            have hi : i < x.size := hi
            have := Lib.bytesWorld_cell w e x i hi
            rw [ZG (Lib.bytesWorld_at_new w e x)] at this
            simpa using this)
          (fun i j y hy => by
            obtain ⟨hi, hy⟩ := at2_pos hy
            cases j with
            | zero =>
              simp only [bytesRw, List.getElem?_cons_zero, Option.some.injEq] at hy
              subst hy
              exact Own.v rfl
            | succ j => simp [bytesRw] at hy) (by simp) (by simp)
        rw [hln] at this
        exact this
  · rename_i j
    split at h
    · rename_i sz xs hobj
      obtain ⟨rfl, hs, h8, h⟩ := h
      obtain ⟨e, he, h8⟩ := is_iff h8
      obtain ⟨hall, hK⟩ := h
      let ns : List Int := (List.range xs.n).map fun i => intOf (xs.g i)
      have hn1 : ns.length = xs.n := by simp [ns]
      have hst : rwBytes xs = ⟨(ns.map fun n => UInt8.ofNat n.toNat).toArray⟩ := by
        unfold rwBytes
        congr 2
        simp only [ns, List.map_map]
        exact List.map_congr_left fun i hi => (isB_iff (hall i (List.mem_range.1 hi))).2
      have hn2 : ∀ i, i < xs.n → at2 xs i 0 = some (.v (.int .u8 (ns.getD i 0))) := by
        intro i hi
        rw [at2_of hi, (isB_iff (hall i hi)).1]
        simp [ns, hi]
      rw [hst] at hK
      have ho := hr.hdr hv hobj (by simp)
      refine ⟨.string ⟨(ns.map fun n => UInt8.ofNat n.toNat).toArray⟩, w, _, [], ?_, hK, QPost.same hr (AVR.of_val rfl)⟩
      clear_value ns
      rcases ho with ⟨h0, A, rfl⟩ | ⟨g, cap, e', cur, fr, c, F, rfl, hu, hn, hcap, hm, hg, hb, hfr, hsz, hc, H, -⟩
      · obtain rfl : ns = [] := List.eq_nil_of_length_eq_zero (by omega)
        cases A with
        | none => exact run_convert_bytes_nil w s e (tyOf_sl he) (tyOf_int h8) 0 0 d (tyOf_str hs)
        | some ad =>
          have := run_convert_bytes_arg (P := P) w s e (tyOf_sl he) (tyOf_int h8) ad.block ad.off 0 0 [] rfl (by simp) d (tyOf_str hs)
          simp [convert, run_underlying (tyOf_sl he), run_underlying (tyOf_str hs), run_underlying (tyOf_int h8), Conv.bytesToString, loadCells, loadCellsFrom]
          rfl
      · have := run_convert_bytes_arg (P := P) w s e (tyOf_sl he) (tyOf_int h8) g 0 xs.n cap ns hn1 (fun i hi => by
          have hx := hn2 i hi
          have h1 := hc i 0 _ hx
          have h2 := H i 0 _ hx (by rintro ⟨k, hk⟩; cases hk)
          generalize c i 0 = cv at h1 h2
          cases h2
          rw [ZG hb]
          simpa using h1) d (tyOf_str hs)
        exact this
    · exact h.elim
  · exact h.elim
end
section
variable {P : Program} {st : St} {a : Act} {w : World} {I : Nat → Prop} {β : List Value} {S : Nat → Nat → Prop}
theorem captured_sound (hr : RelV st a w I β S) : ∀ {l : List Operand} {cs : List C}, zS (l.map fun x => match st.ev x with | .c x => some x | _ => Option.none) = some cs → CsR w I β cs (l.map a.eval).toArray := by
  intro l cs h
  refine ⟨by have := allSome_length h; simp at this ⊢; omega, fun j x v hx hv => ?_⟩
  have h1 := allSome_get h j x hx
  simp only [List.getElem?_map, Option.map_eq_some_iff] at h1
  obtain ⟨o, ho, hc⟩ := h1
  have hv' : a.eval o = v := by simpa [ho] using hv
  subst hv'
  have he := zL hr o
  split at hc
  · rename_i y hy
    rw [hy] at he
    simp only [Option.some.injEq] at hc
    subst hc
    exact he
  · cases hc
theorem vcQ_sound (hr : RelV st a w I β S) {o : Oper} {K : AV → List Ob → Prop} (h : vcQ P o st K) :
    ∃ v w' av news, (execOp a.eval o).run P w = .ok (.value v) w' ∧ K av news ∧ QPost st w I β S av news v w' := by
  obtain ⟨dst, op, ty, pos, after, guard⟩ := o
  unfold vcQ at h
  split at h <;> rename_i hop <;> first | exact h.elim | (simp only at hop; subst hop)
  · -- move
    exact ⟨_, w, _, _, rfl, h, QPost.same hr (zL hr _)⟩
  · exact ⟨_, w, _, _, rfl, h, QPost.same hr (zL hr _)⟩
  · -- pick
    rename_i c x y
    unfold pickK at h
    split at h
    · rename_i b hc
      have h1 := zL hr c
      rw [hc] at h1
      have hb := h1.val.1
      cases b with
      | true => exact ⟨_, w, _, _, by simp [execOp, hb, asBool], h, QPost.same hr (zL hr x)⟩
      | false => exact ⟨_, w, _, _, by simp [execOp, hb, asBool], h, QPost.same hr (zL hr y)⟩
    · exact h.elim
  · -- alloc
    rename_i e
    obtain ⟨hok, h1, hK⟩ := h
    obtain ⟨i, d, z, hi, hd, hz, hzs, -, hsz, hze, -⟩ := ZJ hok
    rw [hze] at h1 hK
    refine ⟨_, _, _, _, ?_, hK, QPost.box hr (zCs_sound h1) e⟩
    simp [execOp, Instr.alloc, run_zeroValue' hi hz, newVar, newRow]
  · -- box
    rename_i e x
    obtain ⟨cs, hcs, hK⟩ := is_iff h
    refine ⟨_, _, _, _, ?_, hK, QPost.box hr (partCs_sound (zL hr x) hcs) e⟩
    simp [execOp, Instr.box, newVar, newRow]
  · -- build
    rename_i t parts
    obtain ⟨hok, hst, hall, h1, h⟩ := h
    obtain ⟨cs, hcs, hK⟩ := is_iff h
    obtain ⟨arr, hrun, hc⟩ := build_sound hr hok hst hall h1 hcs
    refine ⟨.agg arr, w, _, _, ?_, hK, QPost.same hr ⟨arr, rfl, hc⟩⟩
    simp only [execOp, Sem.run_bind, hrun, Result.andThen_ok, Sem.run_pure]
  · -- load
    rename_i t x
    obtain ⟨v, av, hrun, hK, hav⟩ := load_sound (P := P) hr (zL hr x) h
    exact ⟨v, w, _, _, by simp only [execOp, Sem.run_bind, hrun, Result.andThen_ok, Sem.run_pure], hK, QPost.same hr hav⟩
  · -- binOp
    rename_i op t x y ty2
    split at h
    · rename_i v u hx hy
      have h1 := zL hr x
      have h2 := zL hr y
      rw [hx] at h1
      rw [hy] at h2
      obtain ⟨r, hrun, hK, hr1⟩ := bin_sound (P := P) (w := w) (x := x) (y := y) h
      refine ⟨r, w, _, _, ?_, hK, QPost.same hr (AVR.of_val hr1)⟩
      simp only [execOp, h1.val.1, h2.val.1]
      simp only [Sem.run_bind] at hrun ⊢
      rw [hrun]
      rfl
    · rename_i xs ys hx hy
      have h1 := zL hr x
      have h2 := zL hr y
      rw [hx] at h1
      rw [hy] at h2
      obtain ⟨A1, e1, c1⟩ := h1
      obtain ⟨A2, e2, c2⟩ := h2
      obtain ⟨r, hrun, hK, hr1⟩ := agg_sound (P := P) (x := x) (y := y) h c1 c2
      refine ⟨r, w, _, _, ?_, hK, QPost.same hr (AVR.of_val hr1)⟩
      simp only [execOp, e1, e2]
      simp only [Sem.run_bind] at hrun ⊢
      rw [hrun]
      rfl
    · rename_i sz xs hx
      have h1 := zL hr x
      rw [hx] at h1
      unfold nilK at h
      split at h
      · obtain ⟨hsl, h⟩ := h
        obtain ⟨e, he⟩ := Option.isSome_iff_exists.1 hsl
        have hsl := tyOf_sl he
        have him : Im w I (.sl sz xs) (a.eval x) := h1
        generalize hv : a.eval x = v at him
        cases him with
        | sl A cap ad c hu hn hcap hA hc H =>
          have hrun : (do eqGuard .eql t x (.const (.slice .none 0 0)) (.slice A xs.n cap) (.slice .none 0 0); binOp .eql t (.slice A xs.n cap) (.slice .none 0 0)).run P w = .ok (.bool A.isNone) w := by
            have hg : (eqGuard .eql t x (.const (.slice .none 0 0)) (.slice A xs.n cap) (.slice .none 0 0)).run P w = .ok () w := by
              unfold eqGuard; simp
            rw [Sem.run_bind, hg]
            exact run_eql_nilS hsl
          refine ⟨.bool A.isNone, w, _, _, ?_, h A.isNone (fun hA2 => ?_), QPost.same hr (AVR.of_val rfl)⟩
          · simp only [execOp, hv]
            simp only [Sem.run_bind] at hrun ⊢
            rw [show a.eval (.const (.slice .none 0 0)) = .slice .none 0 0 from rfl, hrun]
            rfl
          · apply Classical.byContradiction
            intro hne
            rw [(hA hne).1] at hA2
            cases hA2
      · exact h.elim
    · exact h.elim
  · -- unOp
    rename_i op t x
    have h1 := zL hr x
    split at h
    · rename_i b hx
      rw [hx] at h1
      refine ⟨.bool (!b), w, _, _, ?_, h, QPost.same hr (AVR.of_val rfl)⟩
      simp [execOp, h1.val.1, Op.unary]
    · rename_i k n hx
      rw [hx] at h1
      refine ⟨.int k (k.wrap (0 - n)), w, _, _, ?_, h, QPost.same hr (AVR.of_val rfl)⟩
      simp [execOp, h1.val.1, Op.unary, Op.intArith]
    · exact h.elim
  · -- convert
    rename_i s d x
    obtain ⟨v, w', av, news, hrun, hK, hq⟩ := conv_sound (P := P) hr (zL hr x) h
    exact ⟨v, w', av, news, by simp only [execOp, Sem.run_bind, hrun, Result.andThen_ok, Sem.run_pure], hK, hq⟩
  · -- slice
    rename_i t x lo hi mx
    obtain ⟨v, av, hrun, hK, hav⟩ := slice_sound (P := P) hr h
    exact ⟨v, w, _, _, by simp only [execOp, Sem.run_bind, hrun, Result.andThen_ok, Sem.run_pure], hK, QPost.same hr hav⟩
  · -- fieldAddr
    rename_i t x f
    obtain ⟨v, av, hrun, hK, hav⟩ := fieldAddr_sound (P := P) hr (zL hr x) h
    exact ⟨v, w, _, _, by simp only [execOp, Sem.run_bind, hrun, Result.andThen_ok, Sem.run_pure], hK, QPost.same hr hav⟩
  · -- field
    rename_i t x f
    split at h
    · rename_i cs hx
      have h1 := zL hr x
      rw [hx] at h1
      obtain ⟨v, av, hrun, hK, hav⟩ := field_sound (P := P) h1 h
      exact ⟨v, w, _, _, by simp only [execOp, Sem.run_bind, hrun, Result.andThen_ok, Sem.run_pure], hK, QPost.same hr hav⟩
    · exact h.elim
  · -- indexAddr
    rename_i t x i
    obtain ⟨e, he, h⟩ := is_iff h
    obtain ⟨k, hk, hok, h⟩ := natArg_iff (zL hr i) h
    obtain ⟨v, av, hrun, hK, hav⟩ := idx_sound (P := P) hr he hok (zL hr x) h
    exact ⟨v, w, _, _, by simp only [execOp, hk, Sem.run_bind, hrun, Result.andThen_ok, Sem.run_pure], hK, QPost.same hr hav⟩
  · -- index
    rename_i t x i
    obtain ⟨k, hk, h⟩ := natArg_iff (zL hr i) h
    split at h
    · rename_i s hx
      have h1 := zL hr x
      rw [hx] at h1
      obtain ⟨hs, h0, h⟩ := h
      obtain ⟨b, hb, hK⟩ := is_iff h
      refine ⟨.int .u8 b.toNat, w, _, _, ?_, hK, QPost.same hr (AVR.of_val rfl)⟩
      have hb' : s[k.toNat]? = some b := hb
      simp [execOp, h1.val.1, hk, Instr.index, asIntOf, run_underlying (tyOf_str hs), h0, hb']
    · exact h.elim
  · -- extract
    rename_i x i
    split at h
    · rename_i vs hx
      have h1 := zL hr x
      rw [hx] at h1
      obtain ⟨arr, harr, hsz, hc⟩ := h1
      obtain ⟨k, hk, hK⟩ := is_iff h
      have hlt : i < arr.size := by rw [hsz]; exact (List.getElem?_eq_some_iff.1 hk).1
      have h2 := hc i k arr[i] hk (by simp [hlt])
      refine ⟨arr[i], w, _, _, ?_, hK, QPost.same hr ?_⟩
      · simp [execOp, harr, Instr.extract, hlt]
      · cases k <;> exact h2
    · exact h.elim
  · -- nilCheck
    rename_i x
    have h1 := zL hr x
    split at h
    · rename_i i off hx
      rw [hx] at h1
      have h2 := h1
      obtain ⟨g, hg, hv⟩ := h1
      refine ⟨a.eval x, w, _, _, ?_, h, QPost.same hr h2⟩
      simp [execOp, hv]
    · rename_i cs hx
      rw [hx] at h1
      have h2 := h1
      obtain ⟨ad, c, hv, -⟩ := h1
      refine ⟨a.eval x, w, _, _, ?_, h, QPost.same hr h2⟩
      simp [execOp, hv]
    · rename_i i sz idx f hx
      rw [hx] at h1
      have h2 := h1
      obtain ⟨g, n, cap, hg, hv⟩ := h1
      refine ⟨a.eval x, w, _, _, ?_, h, QPost.same hr h2⟩
      simp [execOp, hv]
    · rename_i f cs hx
      rw [hx] at h1
      have h2 := h1
      obtain ⟨arr, hv, -⟩ := h1
      refine ⟨a.eval x, w, _, _, ?_, h, QPost.same hr h2⟩
      simp [execOp, hv]
    · exact h.elim
  · -- makeFunc
    rename_i f first captured
    obtain ⟨h0, h⟩ := h
    obtain ⟨cs, hcs, hK⟩ := is_iff h
    have := captured_sound hr hcs
    refine ⟨.func (.func f) #[] (captured.map a.eval), w, _, _, ?_, hK, QPost.same hr ⟨_, rfl, ?_⟩⟩
    · have h1 : first = #[] := Array.eq_empty_of_size_eq_zero h0
      simp [execOp, Instr.makeFunc, h1]
    · have e : (captured.toList.map a.eval).toArray = captured.map a.eval := by apply Array.ext'; simp only [Array.toList_map]
      rwa [e] at this
  · -- makeSlice
    rename_i t len cap
    obtain ⟨e, he, h⟩ := is_iff h
    obtain ⟨l, hl, h⟩ := natArg_iff (zL hr len) h
    obtain ⟨c, hc, rfl, h0, hok, hs0, hzs, hb, hK⟩ := natArg_iff (zL hr cap) h
    obtain ⟨v, w', hrun, hq⟩ := make_sound hr he hok h0 hs0 hzs hb
    exact ⟨v, w', _, _, by simp only [execOp, hl, hc, Sem.run_bind, hrun, Result.andThen_ok, Sem.run_pure], hK, hq⟩
  · -- len
    rename_i args ts
    obtain ⟨x, hx, h⟩ := is_iff h
    obtain ⟨t, ht, h⟩ := is_iff h
    obtain ⟨n, hrun, hK⟩ := len_sound (P := P) (ty := ty) hr (vs := args.map a.eval) ht (by simp [hx]) (zL hr x) h
    refine ⟨_, w, _, _, ?_, hK, QPost.same hr (AVR.of_val rfl)⟩
    simp [execOp, resolve, invoke, builtin, hrun]
  · -- max
    rename_i args ts
    split at h
    · rename_i x y hxy
      split at h
      · rename_i k m k' n hx hy
        have h1 := zL hr x
        have h2 := zL hr y
        rw [hx] at h1
        rw [hy] at h2
        refine ⟨_, w, _, _, ?_, h, QPost.same hr (AVR.of_val rfl)⟩
        have e : args = #[x, y] := by rw [← Array.toArray_toList (xs := args), hxy]
        subst e
        simp [execOp, resolve, invoke, builtin, Builtin.max_, Builtin.max2, h1.val.1, h2.val.1]
      · exact h.elim
    · exact h.elim
  · rename_i args ts
    split at h
    · rename_i x y hxy
      split at h
      · rename_i k m k' n hx hy
        have h1 := zL hr x
        have h2 := zL hr y
        rw [hx] at h1
        rw [hy] at h2
        refine ⟨_, w, _, _, ?_, h, QPost.same hr (AVR.of_val rfl)⟩
        have e : args = #[x, y] := by rw [← Array.toArray_toList (xs := args), hxy]
        subst e
        simp [execOp, resolve, invoke, builtin, Builtin.min_, Builtin.min2, h1.val.1, h2.val.1]
      · exact h.elim
    · exact h.elim
end
def C.map (σ : Nat → Nat) : C → C
  | .n x => .n x
  | .h i => .h (σ i)
  | .p i off => .p (σ i) off
  | .z => .z
  | .u => .u
  | .b x loc => .b x (loc.map fun l => (σ l.1, l.2))
def K.map (σ : Nat → Nat) : K → K
  | .c x => .c (x.map σ)
  | .a cs => .a (cs.map (C.map σ))
def AV.map (σ : Nat → Nat) : AV → AV
  | .c x => .c (x.map σ)
  | .a cs => .a (cs.map (C.map σ))
  | .tup vs => .tup (vs.map (K.map σ))
  | .fn f cs => .fn f (cs.map (C.map σ))
  | .ea i sz idx f => .ea (σ i) sz idx f
  | .ra cs => .ra cs
  | .rb cs loc => .rb cs (loc.map fun l => (σ l.1, l.2))
  | .dead => .dead
def Ob.map (σ : Nat → Nat) : Ob → Ob
  | .row sz xs hole => .row sz xs (hole.map fun h => (h.1, h.2.1, h.2.2.map σ))
  | .box cs => .box (cs.map (C.map σ))
  | .fro sz xs => .fro sz xs
  | .none => .none
section
variable {w : World} {I : Nat → Prop} {β β' : List Value} {σ : Nat → Nat}
theorem CR.map (hσ : ∀ (i : Nat) (b : Value), β'[i]? = some b → β[σ i]? = some b) {x : C} {v : Value} (h : CR w I β' x v) : CR w I β (x.map σ) v := by
  cases x with
  | n x => exact h
  | h i => exact ⟨hσ _ _ h.1, h.2⟩
  | p i off => obtain ⟨g, h1, h2⟩ := h; exact ⟨g, hσ _ _ h1, h2⟩
  | z => exact h
  | u => exact h
  | b x loc => exact h
theorem CR.unmap (hσ : ∀ (i : Nat) (b : Value), β[σ i]? = some b → β'[i]? = some b) {x : C} {v : Value} (h : CR w I β (x.map σ) v) : CR w I β' x v := by
  cases x with
  | n x => exact h
  | h i => exact ⟨hσ _ _ h.1, h.2⟩
  | p i off => obtain ⟨g, h1, h2⟩ := h; exact ⟨g, hσ _ _ h1, h2⟩
  | z => exact h
  | u => exact h
  | b x loc => exact h
theorem CsR.map (hσ : ∀ (i : Nat) (b : Value), β'[i]? = some b → β[σ i]? = some b) {cs : List C} {a : Array Value} (h : CsR w I β' cs a) : CsR w I β (cs.map (C.map σ)) a :=
  ⟨by rw [List.length_map]; exact h.1, fun j x v hx hv => by
    simp only [List.getElem?_map, Option.map_eq_some_iff] at hx
    obtain ⟨y, hy, rfl⟩ := hx
    exact (h.2 j y v hy hv).map hσ⟩
theorem CsR.unmap (hσ : ∀ (i : Nat) (b : Value), β[σ i]? = some b → β'[i]? = some b) {cs : List C} {a : Array Value} (h : CsR w I β (cs.map (C.map σ)) a) : CsR w I β' cs a :=
  ⟨by rw [h.1, List.length_map], fun j x v hx hv => (h.2 j (x.map σ) v (by simp [hx]) hv).unmap hσ⟩
theorem KR.map (hσ : ∀ (i : Nat) (b : Value), β'[i]? = some b → β[σ i]? = some b) {x : K} {v : Value} (h : KR w I β' x v) : KR w I β (x.map σ) v := by
  cases x with
  | c x => exact CR.map hσ h
  | a cs => obtain ⟨a, rfl, h⟩ := h; exact ⟨a, rfl, h.map hσ⟩
theorem KR.unmap (hσ : ∀ (i : Nat) (b : Value), β[σ i]? = some b → β'[i]? = some b) {x : K} {v : Value} (h : KR w I β (x.map σ) v) : KR w I β' x v := by
  cases x with
  | c x => exact CR.unmap hσ h
  | a cs => obtain ⟨a, rfl, h⟩ := h; exact ⟨a, rfl, h.unmap hσ⟩
theorem AVR.map (hσ : ∀ (i : Nat) (b : Value), β'[i]? = some b → β[σ i]? = some b) {x : AV} {v : Value} (h : AVR w I β' x v) : AVR w I β (x.map σ) v := by
  cases x with
  | c x => exact CR.map hσ h
  | a cs => obtain ⟨a, rfl, h⟩ := h; exact ⟨a, rfl, h.map hσ⟩
  | tup vs =>
    obtain ⟨a, rfl, hl, h⟩ := h
    refine ⟨a, rfl, by rw [List.length_map]; exact hl, fun j x v hx hv => ?_⟩
    simp only [List.getElem?_map, Option.map_eq_some_iff] at hx
    obtain ⟨y, hy, rfl⟩ := hx
    exact (h j y v hy hv).map hσ
  | fn f cs => obtain ⟨a, rfl, h⟩ := h; exact ⟨a, rfl, h.map hσ⟩
  | ea i sz idx f => obtain ⟨g, n, cap, h, rfl⟩ := h; exact ⟨g, n, cap, hσ _ _ h, rfl⟩
  | ra cs => exact h
  | rb cs loc => trivial
  | dead => trivial
theorem AVR.unmap (hσ : ∀ (i : Nat) (b : Value), β[σ i]? = some b → β'[i]? = some b) {x : AV} {v : Value} (h : AVR w I β (x.map σ) v) : AVR w I β' x v := by
  cases x with
  | c x => exact CR.unmap hσ h
  | a cs => obtain ⟨a, rfl, h⟩ := h; exact ⟨a, rfl, h.unmap hσ⟩
  | tup vs =>
    obtain ⟨a, rfl, hl, h⟩ := h
    exact ⟨a, rfl, by rw [hl, List.length_map], fun j x v hx hv => (h j (x.map σ) v (by simp [hx]) hv).unmap hσ⟩
  | fn f cs => obtain ⟨a, rfl, h⟩ := h; exact ⟨a, rfl, h.unmap hσ⟩
  | ea i sz idx f => obtain ⟨g, n, cap, h, rfl⟩ := h; exact ⟨g, n, cap, hσ _ _ h, rfl⟩
  | ra cs => exact h
  | rb cs loc => trivial
  | dead => trivial
theorem ObR.map (hσ : ∀ (i : Nat) (b : Value), β'[i]? = some b → β[σ i]? = some b) {b : Value} {S : Nat → Prop} {o : Ob} (h : ObR w I β' b S o) : ObR w I β b S (o.map σ) := by
  cases o with
  | row sz xs hole =>
    rcases h with h | ⟨g, cap, e, cur, fr, c, F, h1, h2, h3, h4, h5, h6, h7, h8, h9, h10, H, hk, hF, hD⟩
    · exact .inl h
    · refine .inr ⟨g, cap, e, cur, fr, c, F, h1, h2, h3, h4, h5, h6, h7, h8, h9, h10, fun i j x hx hh => H i j x hx (fun ⟨k, hk⟩ => hh ⟨_, List.mem_map.2 ⟨_, hk, rfl⟩⟩), fun i j k h => ?_, hF, hD⟩
      obtain ⟨⟨i', j', k'⟩, hm, he⟩ := List.mem_map.1 h
      simp only [Prod.mk.injEq, Option.map_eq_some_iff] at he
      obtain ⟨rfl, rfl, k'', rfl, rfl⟩ := he
      exact ⟨hσ _ _ (hk _ _ _ hm).1, (hk _ _ _ hm).2⟩
  | box cs => obtain ⟨g, cur, e, rfl, hg, hb, H⟩ := h; exact ⟨g, cur, e, rfl, hg, hb, H.map hσ⟩
  | fro sz xs => exact h
  | none => trivial
theorem ObR.unmap (hσ : ∀ (i : Nat) (b : Value), β[σ i]? = some b → β'[i]? = some b) {b : Value} {S : Nat → Prop} {o : Ob} (h : ObR w I β b S (o.map σ)) : ObR w I β' b S o := by
  cases o with
  | row sz xs hole =>
    rcases h with h | ⟨g, cap, e, cur, fr, c, F, h1, h2, h3, h4, h5, h6, h7, h8, h9, h10, H, hk, hF, hD⟩
    · exact .inl h
    · refine .inr ⟨g, cap, e, cur, fr, c, F, h1, h2, h3, h4, h5, h6, h7, h8, h9, h10, fun i j x hx hh => H i j x hx (fun ⟨k, hk⟩ => hh ?_), fun i j k h => ?_, hF, hD⟩
      · obtain ⟨⟨i', j', k'⟩, hm, he⟩ := List.mem_map.1 hk
        simp only [Prod.mk.injEq] at he
        obtain ⟨rfl, rfl, -⟩ := he
        exact ⟨_, hm⟩
      · have h9 := hk i j (σ k) (List.mem_map.2 ⟨_, h, rfl⟩)
        exact ⟨hσ _ _ h9.1, h9.2⟩
  | box cs => obtain ⟨g, cur, e, rfl, hg, hb, H⟩ := h; exact ⟨g, cur, e, rfl, hg, hb, H.unmap hσ⟩
  | fro sz xs => exact h
  | none => trivial
end
def CPost (hin : List Ob) (sh : Bool) (ks : List Bool) (R : AV → List Ob → Prop) (w : World) (I : Nat → Prop) (β : List Value) (S : Nat → Nat → Prop) (e : Ending) (w' : World) : Prop :=
  ∃ (rv : AV) (obs : List Ob) (v : Value) (I' : Nat → Prop) (β' : List Value) (S' : Nat → Nat → Prop),
    e = .returned v ∧ R rv obs ∧ hin.length ≤ obs.length ∧ AVR w' I' β' rv v ∧ β'.length = obs.length ∧
    (∀ (i : Nat) (o : Ob) (b : Value), obs[i]? = some o → β'[i]? = some b → ObR w' I' β' b (S' i) o) ∧ (∀ i j b, S' i b → S' j b → i = j) ∧
    (∀ i b, S' i b → i < obs.length ∧ b < w'.heap.size ∧ ¬ I' b ∧ (w.heap.size ≤ b ∨ ∃ j, S j b)) ∧
    (∀ b, I' b → b < w'.heap.size ∧ ((sh = true ∧ I b) ∨ w.heap.size ≤ b ∨ ∃ j, S j b)) ∧
    (∀ i, i < hin.length → kb ks i = true → β'[i]? = β[i]?) ∧ Fr (fun b => ∃ j, S j b) w w'
def Goes (P : Program) (g : FuncId) (args : Array Value) (w : World) (Φ : Value → World → Prop) : Prop :=
  (∃ w1, (callFunc g args).run P w = .ok (.enter g args) w1 ∧ Calls P g args w1 fun e w' => ∃ v, e = .returned v ∧ Φ v w') ∨
  ∃ v w', (callFunc g args).run P w = .ok (.value v) w' ∧ Φ v w'
theorem Goes.mono {P : Program} {g : FuncId} {args : Array Value} {w : World} {Φ Ψ : Value → World → Prop} (h : Goes P g args w Φ) (hk : ∀ v w', Φ v w' → Ψ v w') : Goes P g args w Ψ := by
  rcases h with ⟨w1, h1, h2⟩ | ⟨v, w', h1, h2⟩
  · exact .inl ⟨w1, h1, h2.mono fun e w' ⟨v, h3, h4⟩ => ⟨v, h3, hk _ _ h4⟩⟩
  · exact .inr ⟨v, w', h1, hk _ _ h2⟩
theorem Goes.of_calls {P : Program} {g : FuncId} {args : Array Value} {w : World} {Φ : Value → World → Prop} {fn : Func} (hf : P.funcs[g]? = some fn) (hn : (fn.name == "runtime.NumGoroutine") = false) (hb : fn.body.isNone = false)
    (h : Calls P g args w fun e w' => ∃ v, e = .returned v ∧ Φ v w') : Goes P g args w Φ :=
  .inl ⟨w, by
    have hn' : fn.name ≠ "runtime.NumGoroutine" := by simpa using hn
    have hb' : fn.body ≠ none := by rintro e; simp [e] at hb
    simp [callFunc, hf, hn', hb'], h⟩
def AC (P : Program) (f : FuncId) (args : List AV) (hin : List Ob) (sh : Bool) (ks : List Bool) (R : AV → List Ob → Prop) : Prop :=
  ∀ (w : World) (vals : Array Value) (I : Nat → Prop) (β : List Value) (S : Nat → Nat → Prop),
    RelV ⟨Sl.of args, hin, ks⟩ ⟨vals, []⟩ w I β S → Goes P f vals w fun v w' => CPost hin sh ks R w I β S (.returned v) w'
theorem AC.mono {P : Program} {f : FuncId} {args : List AV} {hin : List Ob} {sh : Bool} {ks : List Bool} {R R' : AV → List Ob → Prop} (h : AC P f args hin sh ks R) (hR : ∀ rv obs, R rv obs → R' rv obs) : AC P f args hin sh ks R' :=
  fun w vals I β S hr => (h w vals I β S hr).mono fun e w' ⟨rv, obs, v, I', β', S', h1, h2, h3⟩ => ⟨rv, obs, v, I', β', S', h1, hR _ _ h2, h3⟩
def passC (st : St) : C → C → Prop
  | .n x, y => y = .n x
  | .h i, .n (.sl sz xs) => st.obj i = .row sz xs [] ∨ st.obj i = .fro sz xs
  | .z, .n (.sl _ xs) => xs.n = 0
  | .z, .z => True
  | _, _ => False
def passCs (st : St) : List C → List C → Prop
  | [], [] => True
  | x :: xs, y :: ys => passC st x y ∧ passCs st xs ys
  | _, _ => False
def passA (st : St) : AV → AV → Prop
  | .c (.p i off), .ra cs => match st.obj i with
    | .box bs => passCs st (bs.drop off) (cs.map .n)
    | _ => False
  | .ea i sz idx f, .ra cs => match st.obj i with
    | .row sz' xs [] => sz = sz' ∧ idx < xs.n ∧ cs = (xs.g idx).drop f
    | _ => False
  | .ra cs, y => y = .ra cs
  | .c x, .c y => passC st x y
  | .a xs, .a ys => passCs st xs ys
  | .fn f xs, .fn g ys => f = g ∧ passCs st xs ys
  | _, _ => False
section
variable {P : Program} {st : St} {a : Act} {w : World} {I : Nat → Prop} {β : List Value} {S : Nat → Nat → Prop}
theorem passC_sound (hr : RelV st a w I β S) {β' : List Value} {x y : C} {v : Value} (h : passC st x y) (hv : CR w I β x v) : CR w (fun b => I b ∨ ∃ i, S i b) β' y v := by
  have hI : ∀ b, I b → I b ∨ ∃ i, S i b := fun _ h => .inl h
  unfold passC at h
  split at h
  · subst h
    exact Im.mono hI (fun _ _ => rfl) hv
  · rename_i i sz xs
    rcases h with h | h
    · have ho := hr.hdr (i := i) (v := v) hv h (by simp)
      exact (RowR.own ho).lend hI (fun b hb => .inr ⟨i, hb⟩)
    · have ho := hr.hdr (i := i) (v := v) hv h (by simp)
      exact Im.mono hI (fun _ _ => rfl) ho
  · obtain ⟨A, rfl⟩ := hv
    exact Im.zero h A
  · exact hv
  · exact h.elim
theorem passCs_sound (hr : RelV st a w I β S) {β' : List Value} : ∀ {xs ys : List C}, passCs st xs ys → ys.length = xs.length ∧
    ∀ (j : Nat) (y : C), ys[j]? = some y → ∃ x, xs[j]? = some x ∧ ∀ v, CR w I β x v → CR w (fun b => I b ∨ ∃ i, S i b) β' y v
  | [], [], _ => ⟨rfl, by simp⟩
  | x :: xs, y :: ys, h => by
    obtain ⟨h1, h2⟩ := h
    obtain ⟨e, ih⟩ := passCs_sound hr (β' := β') h2
    refine ⟨by simp [e], fun j zz hz => ?_⟩
    cases j with
    | zero =>
      simp at hz
      subst hz
      exact ⟨x, rfl, fun v hv => passC_sound hr h1 hv⟩
    | succ j => simpa using ih j zz (by simpa using hz)
  | [], _ :: _, h => h.elim
  | _ :: _, [], h => h.elim
theorem passCs_CsR (hr : RelV st a w I β S) {β' : List Value} {xs ys : List C} {arr : Array Value} (h : passCs st xs ys) (hv : CsR w I β xs arr) : CsR w (fun b => I b ∨ ∃ i, S i b) β' ys arr := by
  obtain ⟨e, h⟩ := passCs_sound hr (β' := β') h
  refine ⟨by rw [e]; exact hv.1, fun j y v hy hv' => ?_⟩
  obtain ⟨x, hx, h⟩ := h j y hy
  exact h v (hv.2 j x v hx hv')
theorem passA_sound (hr : RelV st a w I β S) {β' : List Value} {x y : AV} {v : Value} (h : passA st x y) (hv : AVR w I β x v) : AVR w (fun b => I b ∨ ∃ i, S i b) β' y v := by
  have hI : ∀ b, I b → I b ∨ ∃ i, S i b := fun _ h => .inl h
  unfold passA at h
  split at h
  · rename_i i off cs
    obtain ⟨g, hg, rfl⟩ := hv
    split at h
    · rename_i bs hobj
      obtain ⟨g', cur, e, hb, hS, hh, hc⟩ := hr.box hobj
      rw [hg] at hb
      obtain rfl : g = g' := by simpa using hb
      obtain ⟨e1, h2⟩ := passCs_sound hr (β' := β') h
      refine ⟨⟨g, off, none⟩, fun j => cur.getD (off + j) undef, rfl, .inr ⟨i, hS⟩, fun j x hx => ?_, fun j x hx => ?_⟩
      · have hj : j < (bs.drop off).length := by
          have := (List.getElem?_eq_some_iff.1 hx).1
          simp at e1 ⊢; omega
        have hlt : off + j < cur.size := by rw [hc.1]; simp at hj; omega
        rw [add00, ZG hh]
        simp [Array.getD, hlt]
      · obtain ⟨zz, hz, h3⟩ := h2 j (.n x) (by simp [hx])
        have hz' : bs[off + j]? = some zz := by simpa using hz
        have hlt : off + j < cur.size := by rw [hc.1]; exact (List.getElem?_eq_some_iff.1 hz').1
        exact h3 _ (hc.2 (off + j) zz _ hz' (by simp [Array.getD, hlt]))
    · exact h.elim
  · rename_i i sz idx f cs
    obtain ⟨g, n, cap, hg, rfl⟩ := hv
    split at h
    · rename_i sz' xs hobj
      obtain ⟨rfl, hel, rfl⟩ := h
      obtain ⟨b, hb, hrow⟩ := hr.obj hobj (by simp)
      rw [hg] at hb
      obtain rfl := (Option.some.injEq _ _ ▸ hb : _ = b)
      have key : ∀ (j : Nat) (x : N), ((xs.g idx).drop f)[j]? = some x → ∃ v, w.cell? ⟨g, idx * sz + f + j, none⟩ = some v ∧ Im w (fun b => I b ∨ ∃ i, S i b) x v ∧ S i g := by
        intro j x hx
        have hx2 : (xs.g idx)[f + j]? = some x := by simpa using hx
        rcases hrow with ⟨h0, -⟩ | ⟨g', cap', e, cur, fr, c, F, hb', hu, hn, hcap, hm, hgS, hh, hfr, hs, hc, H, -, hF, hD⟩
        · omega
        · simp only [Value.slice.injEq, Option.some.injEq, Addr.mk.injEq] at hb'
          obtain ⟨⟨rfl, -⟩, -⟩ := hb'
          have hat : at2 xs idx (f + j) = some x := by rw [at2_of hel]; exact hx2
          refine ⟨c idx (f + j), ?_, ?_, hgS⟩
          · rw [ZG hh, Nat.add_assoc]; exact hc _ _ x hat
          · exact (H _ _ x hat (by rintro ⟨k, hk⟩; cases hk)).lend hI (fun b hb => .inr ⟨i, (hF _ _ b hb).1⟩)
      have hgS : S i g := by
        rcases hrow with ⟨h0, -⟩ | ⟨g', cap', e, cur, fr, c, F, hb', hu, hn, hcap, hm, hgS, -⟩
        · omega
        · simp only [Value.slice.injEq, Option.some.injEq, Addr.mk.injEq] at hb'
          obtain ⟨⟨rfl, -⟩, -⟩ := hb'
          exact hgS
      refine ⟨⟨g, idx * sz + f, none⟩, fun j => (w.cell? ⟨g, idx * sz + f + j, none⟩).getD undef, rfl, .inr ⟨i, hgS⟩, fun j x hx => ?_, fun j x hx => ?_⟩
      · obtain ⟨v, h1, -⟩ := key j x hx
        rw [add00, h1]
        simp only [h1, Option.getD_some]
      · obtain ⟨v, h1, h2, -⟩ := key j x hx
        simp only [h1, Option.getD_some]
        exact h2
    · exact h.elim
  · subst h
    exact AVR.mono (x := .ra _) (β' := β') hI (fun _ _ => rfl) (fun _ _ h => h) (by exact hv)
  · exact passC_sound hr h hv
  · obtain ⟨arr, rfl, hv⟩ := hv
    exact ⟨arr, rfl, passCs_CsR hr h hv⟩
  · obtain ⟨rfl, h⟩ := h
    obtain ⟨arr, rfl, hv⟩ := hv
    exact ⟨arr, rfl, passCs_CsR hr h hv⟩
  · exact h.elim
end
def putCells (cur : Array Value) (o : Nat) : List Value → Array Value
  | [] => cur
  | v :: r => putCells (cur.setIfInBounds o v) (o + 1) r
theorem putCells_size : ∀ (vs : List Value) (cur : Array Value) (o : Nat), (putCells cur o vs).size = cur.size
  | [], _, _ => rfl
  | v :: r, cur, o => by simp [putCells, putCells_size r]
theorem putCells_get : ∀ (vs : List Value) (cur : Array Value) (o k : Nat), o + vs.length ≤ cur.size → (putCells cur o vs)[k]? = if o ≤ k ∧ k < o + vs.length then vs[k - o]? else cur[k]?
  | [], cur, o, k, h => by simp [putCells]; omega
  | v :: r, cur, o, k, h => by
    rw [putCells, putCells_get r _ (o + 1) k (by simp at h ⊢; omega)]
    simp only [List.length_cons] at h ⊢
    by_cases h1 : k = o
    · subst h1
      rw [if_neg (by omega), if_pos (by omega)]
      simp [Array.getElem?_setIfInBounds, show k < cur.size by omega]
    · by_cases h2 : o + 1 ≤ k ∧ k < o + 1 + r.length
      · rw [if_pos h2, if_pos (by omega), show k - o = (k - (o + 1)) + 1 by omega]
        simp
      · rw [if_neg h2, if_neg (by omega), Array.getElem?_setIfInBounds_ne (by omega)]
section
variable {P : Program} {st : St} {a : Act} {w : World} {I : Nat → Prop} {β : List Value} {S : Nat → Nat → Prop}
theorem not_frozen {g k : Nat} {cur : Array Value} {e : TypeId} {fr : Nat × Nat} (hb : w.heap[g]? = some (.cells cur e fr)) (hfr : cur.size ≤ fr.1 ∨ fr.2 ≤ fr.1) (hk : k < cur.size) : w.frozen? ⟨g, k, none⟩ = false := by
  obtain ⟨lo, hi⟩ := fr
  simp only at hfr
  simp only [World.frozen?, hb]
  rw [Bool.and_eq_false_iff]
  by_cases h : lo ≤ k
  · right; simp; omega
  · left; simpa using h
theorem run_storeCells' (g o : Nat) (e : TypeId) (fr : Nat × Nat) : ∀ (vs : List Value) (i : Nat) (cur : Array Value) (w : World), w.heap[g]? = some (.cells cur e fr) → (cur.size ≤ fr.1 ∨ fr.2 ≤ fr.1) →
    o + i + vs.length ≤ cur.size → (∀ v ∈ vs, v.oneCell' = true) → (storeCells ⟨g, o, none⟩ vs i).run P w = .ok () (w.setRow g (putCells cur (o + i) vs))
  | [], i, cur, w, hb, _, _, _ => by rw [storeCells, putCells, setRow_self w g cur e fr hb]; rfl
  | v :: r, i, cur, w, hb, hfr, hl, h1 => by
    have hi : o + i < cur.size := by simp at hl; omega
    have hcell : w.cell? ⟨g, o + i, none⟩ = some cur[o + i] := by rw [ZG hb]; simp [hi]
    have hst : (store ((⟨g, o, none⟩ : Addr).add i) v).run P w = .ok () (w.setRow g (cur.setIfInBounds (o + i) v)) := by
      rw [add00, run_store P w _ v _ (h1 v (by simp)), hcell]
      simp only [not_frozen hb hfr hi, setCell_eq_setRow w g (o + i) cur e fr v hb]
      rfl
    have ih := run_storeCells' g o e fr r (i + 1) (cur.setIfInBounds (o + i) v) (w.setRow g (cur.setIfInBounds (o + i) v)) (setRow_heap w g cur _ e _ hb) (by simpa using hfr) (by simp at hl ⊢; omega) (fun x hx => h1 x (by simp [hx]))
    rw [storeCells, Sem.run_bind, hst, Result.andThen_ok, ih, setRow_setRow]
    rfl
theorem Fr.setRow {X : Nat → Prop} {w : World} {g : Nat} {cs : Array Value} (h : X g) : Fr X w (w.setRow g cs) :=
  ⟨rfl, rfl, rfl, by simp [World.setRow], fun b hb hX => setRow_other w g b cs (by rintro rfl; exact hX h)⟩
theorem run_storeVar' {t : TypeId} (hok : (tyOf P t).ok = true) {g o : Nat} {e : TypeId} {fr : Nat × Nat} {cur : Array Value} (hb : w.heap[g]? = some (.cells cur e fr)) (hfr : cur.size ≤ fr.1 ∨ fr.2 ≤ fr.1)
    {v : Value} (hs : v.cells.size = (tyOf P t).size) (hl : o + v.cells.size ≤ cur.size) (h1 : ∀ u ∈ v.cells.toList, u.oneCell' = true) :
    (storeVar t ⟨g, o, none⟩ v).run P w = .ok () (w.setRow g (putCells cur o v.cells.toList)) := by
  obtain ⟨i, d, z, hi, hd, hz, hzs, -, hsz, -, -⟩ := ZJ hok
  have hrun := run_storeCells' (P := P) g o e fr v.cells.toList 0 cur w hb hfr (by simpa using hl) h1
  rw [Nat.add_zero] at hrun
  have hs' : v.cells.size = i.size := by rw [hs, hsz]
  simp [storeVar, run_sizeOf' hi, hs', hrun]
def inlN (st : St) (used : List Nat) : List (Option ZE) → List C → Option (List N × List Nat)
  | [], [] => some ([], used)
  | z :: zs, .h j :: cs => if used.contains j then Option.none else match st.obj j with
    | .row sz xs [] => (inlN st (j :: used) zs cs).map fun p => (.sl sz xs :: p.1, p.2)
    | .fro sz xs => (inlN st used zs cs).map fun p => (.im (.sl sz xs) :: p.1, p.2)
    | _ => Option.none
  | z :: zs, c :: cs => match flatN z c with
    | some x => (inlN st used zs cs).map fun p => (x :: p.1, p.2)
    | Option.none => Option.none
  | _, _ => Option.none
theorem flatN_sound {zs : Option ZE} {c : C} {x : N} {v : Value} (h : flatN zs c = some x) (hv : CR w I β c v) (T : Nat → Prop) : Own w I x v T := by
  unfold flatN at h
  split at h
  · simp only [Option.some.injEq] at h
    subst h
    cases hv with
    | v hv => exact Own.v hv
  · simp only [Option.some.injEq] at h
    subst h
    cases hv with
    | im hv => exact Own.im hv
  · simp only [Option.some.injEq] at h
    subst h
    exact Own.im hv
  · cases zs with
    | none => cases h
    | some s =>
      simp only [Option.some.injEq] at h
      subst h
      obtain ⟨A, rfl⟩ := hv
      exact Own.nil A rfl
  · cases h
theorem inlN_sound (hr : RelV st a w I β S) : ∀ {zs : List (Option ZE)} {cs : List C} {used used' : List Nat} {ns : List N}, inlN st used zs cs = some (ns, used') →
    ns.length = cs.length ∧ (∀ j, j ∈ used → j ∈ used') ∧ (∀ j, j ∈ used' → j ∈ used ∨ ∃ sz xs, st.obj j = .row sz xs []) ∧
    ∃ Fs : Nat → Nat → Prop, (∀ (k : Nat) (c : C) (v : Value), cs[k]? = some c → CR w I β c v → ∃ n, ns[k]? = some n ∧ Own w I n v (Fs k)) ∧
      (∀ k b, Fs k b → ∃ j, j ∈ used' ∧ j ∉ used ∧ S j b) ∧ (∀ k k' b, Fs k b → Fs k' b → k = k') := by
  intro zs
  induction zs with
  | nil =>
    intro cs used used' ns h
    cases cs with
    | nil =>
      simp only [inlN, Option.some.injEq, Prod.mk.injEq] at h
      obtain ⟨rfl, rfl⟩ := h
      exact ⟨rfl, fun _ h => h, fun _ h => .inl h, fun _ _ => False, by simp, by simp, by simp⟩
    | cons c cs => simp [inlN] at h
  | cons z zs ih =>
    intro cs used used' ns h
    cases cs with
    | nil => simp [inlN] at h
    | cons c cs =>
      have flat : ∀ {x : N} {p : List N × List Nat}, (∀ v, CR w I β c v → Own w I x v (fun _ => False)) → inlN st used zs cs = some p → (x :: p.1, p.2) = (ns, used') →
          ns.length = (c :: cs).length ∧ (∀ j, j ∈ used → j ∈ used') ∧ (∀ j, j ∈ used' → j ∈ used ∨ ∃ sz xs, st.obj j = .row sz xs []) ∧
          ∃ Fs : Nat → Nat → Prop, (∀ (k : Nat) (d : C) (v : Value), (c :: cs)[k]? = some d → CR w I β d v → ∃ n, ns[k]? = some n ∧ Own w I n v (Fs k)) ∧
            (∀ k b, Fs k b → ∃ j, j ∈ used' ∧ j ∉ used ∧ S j b) ∧ (∀ k k' b, Fs k b → Fs k' b → k = k') := by
        intro x p hx hp he
        simp only [Prod.mk.injEq] at he
        obtain ⟨rfl, rfl⟩ := he
        obtain ⟨h1, h2, h3, Fs, h4, h5, h6⟩ := ih hp
        refine ⟨by simp [h1], h2, h3, fun k b => match k with | 0 => False | k + 1 => Fs k b, ?_, ?_, ?_⟩
        · intro k d v hd hv
          cases k with
          | zero => simp at hd; subst hd; exact ⟨x, rfl, hx v hv⟩
          | succ k => exact h4 k d v (by simpa using hd) hv
        · intro k b hb
          cases k with
          | zero => exact hb.elim
          | succ k => exact h5 k b hb
        · intro k k' b hb hb'
          cases k with
          | zero => exact hb.elim
          | succ k => cases k' with
            | zero => exact hb'.elim
            | succ k' => rw [h6 k k' b hb hb']
      unfold inlN at h
      split at h
      · rename_i hz hc; simp at hz
      · rename_i z' zs' j cs' hz hc
        simp only [List.cons.injEq] at hz hc
        obtain ⟨rfl, rfl⟩ := hz
        obtain ⟨rfl, rfl⟩ := hc
        split at h
        · cases h
        · rename_i hu
          have hu' : j ∉ used := by simpa using hu
          split at h
          · rename_i sz xs hobj
            simp only [Option.map_eq_some_iff] at h
            obtain ⟨p, hp, he⟩ := h
            simp only [Prod.mk.injEq] at he
            obtain ⟨rfl, rfl⟩ := he
            obtain ⟨h1, h2, h3, Fs, h4, h5, h6⟩ := ih hp
            refine ⟨by simp [h1], fun k hk => h2 k (by simp [hk]), fun k hk => ?_, fun k b => match k with | 0 => S j b | k + 1 => Fs k b, ?_, ?_, ?_⟩
            · rcases h3 k hk with h | h
              · simp only [List.mem_cons] at h
                rcases h with rfl | h
                · exact .inr ⟨sz, xs, hobj⟩
                · exact .inl h
              · exact .inr h
            · intro k d v hd hv
              cases k with
              | zero =>
                simp at hd
                subst hd
                exact ⟨_, rfl, RowR.own (hr.hdr (i := j) hv hobj (by simp))⟩
              | succ k => exact h4 k d v (by simpa using hd) hv
            · intro k b hb
              cases k with
              | zero => exact ⟨j, h2 j (by simp), hu', hb⟩
              | succ k =>
                obtain ⟨j', q1, q2, q3⟩ := h5 k b hb
                exact ⟨j', q1, fun h => q2 (by simp [h]), q3⟩
            · intro k k' b hb hb'
              cases k with
              | zero => cases k' with
                | zero => rfl
                | succ k' =>
                  obtain ⟨j', q1, q2, q3⟩ := h5 k' b hb'
                  exact absurd (by simp [hr.sdis j' j b q3 hb]) q2
              | succ k => cases k' with
                | zero =>
                  obtain ⟨j', q1, q2, q3⟩ := h5 k b hb
                  exact absurd (by simp [hr.sdis j' j b q3 hb']) q2
                | succ k' => rw [h6 k k' b hb hb']
          · rename_i sz xs hobj
            simp only [Option.map_eq_some_iff] at h
            obtain ⟨p, hp, he⟩ := h
            exact flat (x := .im (.sl sz xs)) (fun v hv => Own.im (hr.hdr (i := j) hv hobj (by simp))) hp he
          · cases h
      · rename_i z' zs' c' cs' hne hz hc
        simp only [List.cons.injEq] at hz hc
        obtain ⟨rfl, rfl⟩ := hz
        obtain ⟨rfl, rfl⟩ := hc
        split at h
        · rename_i x hx
          simp only [Option.map_eq_some_iff] at h
          obtain ⟨p, hp, he⟩ := h
          exact flat (fun v hv => flatN_sound hx hv _) hp he
        · cases h
      · cases h
end
end Go.Al
