import Derived.Test.YtbpicgilplnmoaaAl35
import Derived.KernelRfl
set_option linter.unusedVariables false
set_option linter.unusedSimpArgs false
namespace Go.Al

/-! ### 50. Words of the printed functions -/
def fuelN : Nat := 4611686018427387904
def mkOk (l : Int) (b : Nat) : Bool := decide (l * (b + 1) ≤ maxN)
def okBytes (v : Vec (IK .u8)) : Bool := decide (∀ i, i < (encRw v).n → isB ((encRw v).g i) = true)
theorem okBytes_true (v : Vec (IK .u8)) : okBytes v = true := by
  unfold okBytes
  exact decide_eq_true fun i _ => rfl
def bAnd (k : IntKind) (a b : Int) : Int := k.wrap (BitVec.ofInt k.bits a &&& BitVec.ofInt k.bits b).toNat
def bOr (k : IntKind) (a b : Int) : Int := k.wrap (BitVec.ofInt k.bits a ||| BitVec.ofInt k.bits b).toNat
def bXor (k : IntKind) (a b : Int) : Int := k.wrap (BitVec.ofInt k.bits a ^^^ BitVec.ofInt k.bits b).toNat
def bAndNot (k : IntKind) (a b : Int) : Int := k.wrap (BitVec.ofInt k.bits a &&& ~~~ BitVec.ofInt k.bits b).toNat
def bShl (k : IntKind) (a b : Int) : Int := k.wrap (a * 2 ^ (min b.toNat k.bits))
def bShr (k : IntKind) (a b : Int) : Int := a.fdiv (2 ^ (min b.toNat k.bits))
def bodyOf (f : Func) : Code := f.body.getD .skip

theorem sel_cases {ρ : Type} {b : Bool} {x y : Option ρ} {r : ρ} (h : sel b x y = some r) : (b = true ∧ x = some r) ∨ (b = false ∧ y = some r) := by
  cases b with
  | true => exact .inl ⟨rfl, h⟩
  | false => exact .inr ⟨rfl, h⟩
theorem beq_nat {a b : Nat} (h : Nat.beq a b = true) : a = b := Nat.eq_of_beq_eq_true h
theorem flat_rw {A : Type} [Enc A] [EncF A] {n : Nat} (h : n = Enc.sz A) (v : Vec A) : Ob.Flat (.row n (encRw v) []) := enc_flat1 v

/-- The oracle of no calls. -/
def noE : (ρ : Type) → FuncId → St → List AV → Option Nat → (St → Option ρ) → Option ρ := fun _ _ _ _ _ _ => Option.none

end Go.Al
