import Derived.Test.YtbpicgilplnmoaaAl34
set_option linter.unusedVariables false
set_option linter.unusedSimpArgs false
namespace Go.Al

/-! ### 48. Typed data and their cells -/
structure Vec (A : Type) where
  n : Nat
  g : Nat → A
/-- A slice that lies, immutable, in an owned row's cell. -/
structure IVec (A : Type) where
  v : Vec A
/-- A number of another kind than int. -/
structure IK (k : IntKind) where
  v : Int

class Enc (A : Type) where
  sz : Nat
  enc : A → List N
  zero : A
  mrg : Bool → A → A → A
  inj : ∀ a b, enc a = enc b → a = b
  mrg_eq : ∀ b x y, mrg b x y = sel b x y
  len : ∀ a, (enc a).length = sz
/-- Data in which no immutable part lies. -/
class EncF (A : Type) [Enc A] : Prop where
  flat : ∀ (a : A), ∀ x ∈ Enc.enc a, N.Flat x

instance : Enc Int where
  sz := 1
  enc x := [.v (.int .i64 x)]
  zero := 0
  mrg := sel
  inj a b h := by simpa using h
  mrg_eq _ _ _ := rfl
  len _ := rfl
instance {k : IntKind} : Enc (IK k) where
  sz := 1
  enc x := [.v (.int k x.v)]
  zero := ⟨0⟩
  mrg b x y := ⟨sel b x.v y.v⟩
  inj a b h := by
    simp at h
    cases a; cases b; simp at h; rw [h]
  mrg_eq b x y := by cases b <;> rfl
  len _ := rfl
instance : Enc Bool where
  sz := 1
  enc x := [.v (.bool x)]
  zero := false
  mrg := sel
  inj a b h := by simpa using h
  mrg_eq _ _ _ := rfl
  len _ := rfl
instance : Enc ByteArray where
  sz := 1
  enc x := [.v (.string x)]
  zero := ByteArray.empty
  mrg := sel
  inj a b h := by simpa using h
  mrg_eq _ _ _ := rfl
  len _ := rfl

section
variable {A : Type} [Enc A]
def encRw (v : Vec A) : Rw N := ⟨v.n, fun i => Enc.enc (v.g i)⟩
theorem encRw_inj {v w : Vec A} (h : encRw v = encRw w) : v = w := by
  obtain ⟨n, g⟩ := v
  obtain ⟨m, f⟩ := w
  unfold encRw at h
  simp only [Rw.mk.injEq] at h
  obtain ⟨rfl, h⟩ := h
  congr 1
  funext i
  exact Enc.inj _ _ (congrFun h i)
end

def Vec.mrg {A : Type} [Enc A] (b : Bool) (x y : Vec A) : Vec A := ⟨sel b x.n y.n, fun i => Enc.mrg b (x.g i) (y.g i)⟩
theorem Vec.mrg_eq {A : Type} [Enc A] (b : Bool) (x y : Vec A) : Vec.mrg b x y = sel b x y := by
  unfold Vec.mrg
  simp only [Enc.mrg_eq]
  cases b <;> rfl
instance {A : Type} [Enc A] : Enc (Vec A) where
  sz := 1
  enc v := [.sl (Enc.sz A) (encRw v)]
  zero := ⟨0, fun _ => Enc.zero⟩
  mrg := Vec.mrg
  inj a b h := by
    simp only [List.cons.injEq, N.sl.injEq, true_and, and_true] at h
    exact encRw_inj h
  mrg_eq := Vec.mrg_eq
  len _ := rfl
instance {A : Type} [Enc A] : Enc (IVec A) where
  sz := 1
  enc v := [.im (.sl (Enc.sz A) (encRw v.v))]
  zero := ⟨⟨0, fun _ => Enc.zero⟩⟩
  mrg b x y := ⟨Vec.mrg b x.v y.v⟩
  inj a b h := by
    simp only [List.cons.injEq, N.im.injEq, N.sl.injEq, true_and, and_true] at h
    obtain ⟨v⟩ := a
    obtain ⟨w⟩ := b
    exact congrArg IVec.mk (encRw_inj h)
  mrg_eq b x y := by rw [Vec.mrg_eq]; cases b <;> rfl
  len _ := rfl
instance {A B : Type} [Enc A] [Enc B] : Enc (A × B) where
  sz := Enc.sz A + Enc.sz B
  enc p := Enc.enc p.1 ++ Enc.enc p.2
  zero := (Enc.zero, Enc.zero)
  mrg b x y := (Enc.mrg b x.1 y.1, Enc.mrg b x.2 y.2)
  inj a b h := by
    have hl : (Enc.enc a.1).length = (Enc.enc b.1).length := by rw [Enc.len, Enc.len]
    obtain ⟨h1, h2⟩ := List.append_inj h hl
    exact Prod.ext (Enc.inj _ _ h1) (Enc.inj _ _ h2)
  mrg_eq b x y := by simp only [Enc.mrg_eq]; cases b <;> rfl
  len p := by simp [Enc.len]

instance : EncF Int where flat a x hx := by simp [Enc.enc] at hx; subst hx; exact .v _
instance {k : IntKind} : EncF (IK k) where flat a x hx := by simp [Enc.enc] at hx; subst hx; exact .v _
instance : EncF Bool where flat a x hx := by simp [Enc.enc] at hx; subst hx; exact .v _
instance : EncF ByteArray where flat a x hx := by simp [Enc.enc] at hx; subst hx; exact .v _
instance {A : Type} [Enc A] [EncF A] : EncF (Vec A) where
  flat a x hx := by
    simp [Enc.enc] at hx
    subst hx
    exact .sl fun i _ y hy => EncF.flat _ _ hy
instance {A B : Type} [Enc A] [Enc B] [EncF A] [EncF B] : EncF (A × B) where
  flat a x hx := by
    simp only [Enc.enc, List.mem_append] at hx
    rcases hx with hx | hx
    · exact EncF.flat _ _ hx
    · exact EncF.flat _ _ hx

section
variable {A : Type} [Enc A]
def Vec.nil : Vec A := ⟨0, fun _ => Enc.zero⟩
def Vec.app (v w : Vec A) : Vec A := ⟨v.n + w.n, fun i => Enc.mrg (decide (i < v.n)) (v.g i) (w.g (i - v.n))⟩
def Vec.set (v : Vec A) (k : Nat) (x : A) : Vec A := ⟨v.n, fun i => Enc.mrg (decide (i = k)) x (v.g i)⟩
def Vec.litG : List A → Nat → A
  | [], _ => Enc.zero
  | [x], _ => x
  | x :: y :: xs, i => Enc.mrg (decide (i = 0)) x (Vec.litG (y :: xs) (i - 1))
def Vec.lit (l : List A) : Vec A := ⟨l.length, Vec.litG l⟩
end
def Vec.rep {A : Type} (n : Nat) (x : A) : Vec A := ⟨n, fun _ => x⟩
def Vec.sub {A : Type} (v : Vec A) (l h : Nat) : Vec A := ⟨h - l, fun i => v.g (l + i)⟩
def ofBytes (s : ByteArray) : Vec (IK .u8) := ⟨s.size, fun i => ⟨(s.data.toList.getD i 0).toNat⟩⟩
def toBytes (v : Vec (IK .u8)) : ByteArray := ⟨((List.range v.n).map fun i => UInt8.ofNat (v.g i).v.toNat).toArray⟩
/-- The byte at a place. -/
def byteAt (s : ByteArray) (i : Nat) : Int := (s.data.toList.getD i 0).toNat

theorem enc_flat1 {A : Type} [Enc A] [EncF A] (v : Vec A) : Ob.Flat (.row (Enc.sz A) (encRw v) []) := fun i _ x hx => EncF.flat _ _ hx

/-! ### 49. Slots of typed data -/
abbrev vi (x : Int) : AV := .c (.n (.v (.int .i64 x)))
abbrev vk (k : IntKind) (x : Int) : AV := .c (.n (.v (.int k x)))
abbrev vb (x : Bool) : AV := .c (.n (.v (.bool x)))
abbrev vs (x : ByteArray) : AV := .c (.n (.v (.string x)))
abbrev vl {A : Type} [Enc A] (x : Vec A) : AV := .c (.n (.sl (Enc.sz A) (encRw x)))
abbrev ci (x : Int) : C := .n (.v (.int .i64 x))
abbrev ck (k : IntKind) (x : Int) : C := .n (.v (.int k x))
abbrev cb (x : Bool) : C := .n (.v (.bool x))
abbrev cs (x : ByteArray) : C := .n (.v (.string x))
abbrev cl {A : Type} [Enc A] (x : Vec A) : C := .n (.sl (Enc.sz A) (encRw x))
abbrev rw {A : Type} [Enc A] (x : Vec A) : Ob := .row (Enc.sz A) (encRw x) []
abbrev wr (x : Int) : Int := IntKind.i64.wrap x
theorem Enc.encInj {A : Type} [Enc A] {a b : A} : Enc.enc a = Enc.enc b ↔ a = b := ⟨Enc.inj a b, fun h => by rw [h]⟩
theorem encRw_iff {A : Type} [Enc A] {a b : Vec A} : encRw a = encRw b ↔ a = b := ⟨encRw_inj, fun h => by rw [h]⟩

end Go.Al
