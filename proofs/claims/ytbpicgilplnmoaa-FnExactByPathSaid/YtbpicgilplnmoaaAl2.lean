import Derived.Test.YtbpicgilplnmoaaAl1
set_option linter.unusedVariables false
set_option linter.unusedSimpArgs false
namespace Go.Al

/-! ### 3. Types, as the calculus wants them -/
structure TyI where
  ok : Bool
  agg : Bool
  size : Nat
  bytes : Nat
  zero : List Value
  sl : Option TypeId
  str : Bool
  bl : Bool
  st : Bool
  int : Option IntKind
  fields : List (Nat × TypeId)
  zs : List (Option (Nat × List N))

def isAggD : TypeDesc → Bool
  | .struct _ | .array _ _ => true
  | _ => false
def isStruct : TypeDesc → Bool
  | .struct _ => true
  | _ => false

/-- An empty slice: its elements' size, and the cells that an element of zero value has. -/
abbrev ZE : Type := Nat × List N
def ZE.nil (z : ZE) : N := .sl z.1 ⟨0, fun _ => z.2⟩
def zeroN (z : Option ZE) (v : Value) : N :=
  match z with
  | some s => s.nil
  | Option.none => .v v
def zeroCs (P : Program) (t : TypeId) : List Value := match P.info? t with
  | some i => (i.zero.map (·.cells.toList)).getD []
  | Option.none => []
/-- For each cell of a type: what an empty slice is there, if the cell is a slice. -/
def cellSl (P : Program) : Nat → TypeId → List (Option ZE)
  | 0, _ => []
  | d + 1, t => match P.underlying t with
    | some (.slice e) => [some (P.cellsOf e, ((cellSl P d e).zip (zeroCs P e)).map fun p => zeroN p.1 p.2)]
    | some (.struct fs) => fs.toList.flatMap fun f => cellSl P d f.type
    | some _ => [Option.none]
    | Option.none => []

def tyD (d : TypeDesc) (i : TypeInfo) (z : List (Option ZE)) : TyI :=
  { ok := i.zero.isSome && (i.zero.map (·.cells.size)) == some i.size, agg := isAggD d, size := i.size, bytes := i.bytes, zero := (i.zero.map (·.cells.toList)).getD [],
    sl := match d with | .slice e => some e | _ => Option.none, str := match d with | .string => true | _ => false, bl := match d with | .bool => true | _ => false, st := isStruct d, int := match d with | .int k => some k | _ => Option.none,
    fields := match d with | .struct fs => fs.toList.map fun f => (f.offset, f.type) | _ => [], zs := z }
def tyOf (P : Program) (t : TypeId) : TyI :=
  match P.info? t, P.underlying t with
  | some i, some d => tyD d i (cellSl P 6 t)
  | _, _ => ⟨false, false, 0, 0, [], Option.none, false, false, false, Option.none, [], []⟩

/-! ### 4. Operands -/
def zC : Value → C
  | .slice Option.none 0 0 => .z
  | v => .n (.v v)

def constAV : Value → AV
  | .agg cs => if cs.all (·.oneCell') then .a (cs.toList.map zC) else .dead
  | .tuple _ => .dead
  | v => .c (zC v)

def St.get (st : St) (t : Nat) : AV := sel (Nat.blt t st.slots.length) (st.slots.f t) .dead
theorem St.get_eq (st : St) (t : Nat) : st.get t = (st.slots[t]?).getD .dead := by
  unfold St.get
  rw [Sl.get_def]
  by_cases h : t < st.slots.length
  · have : Nat.blt t st.slots.length = true := by simpa [Nat.blt_eq] using h
    simp [this, h, sel]
  · have : Nat.blt t st.slots.length = false := by
      cases hb : Nat.blt t st.slots.length with
      | false => rfl
      | true => rw [Nat.blt_eq] at hb; exact absurd hb h
    simp [this, h, sel]
def St.ev (st : St) : Operand → AV
  | .tmp t => st.get t
  | .const v => constAV v
  | .func f => .fn f []
  | .global _ => .dead
def St.put (st : St) (d : Option Nat) (v : AV) : St :=
  match d with
  | some d => { st with slots := st.slots.set d v }
  | Option.none => st
def St.obj (st : St) (i : Nat) : Ob := (st.obs[i]?).getD .none
def St.new (st : St) (news : List Ob) : St := { st with obs := st.obs ++ news }

/-! ### 5. Reading -/
def toC : N → C
  | .im x => .n x
  | x => .n x
/-- What is read of an owned row's cell: not an owned slice. -/
def toCo : N → Option C
  | .im x => some (.n x)
  | .v x => some (.n (.v x))
  | .sl _ _ => Option.none
def allSome {α : Type} : List (Option α) → Option (List α)
  | [] => some []
  | Option.none :: _ => Option.none
  | some x :: r => (allSome r).map (x :: ·)
def loadC (ty : TyI) (cs : List C) : Option AV :=
  if ty.ok then
    if ty.agg then (if ty.size ≤ cs.length then some (.a (cs.take ty.size)) else Option.none)
    else match cs with
      | x :: _ => some (.c x)
      | [] => Option.none
  else Option.none
def is {α : Type} (o : Option α) (K : α → Prop) : Prop := match o with | some x => K x | Option.none => False
@[simp] theorem is_some {α : Type} (x : α) (K : α → Prop) : is (some x) K = K x := rfl
@[simp] theorem is_none {α : Type} (K : α → Prop) : is Option.none K = False := rfl

/-! ### 6. Arithmetic and comparisons of one-cell values -/
def cmpI (op : BinOp) (a b : Int) : Option Bool :=
  match op with
  | .eql => some (decide (a = b))
  | .neq => some (!decide (a = b))
  | .lss => some (decide (a < b))
  | .leq => some (decide (a ≤ b))
  | .gtr => some (decide (b < a))
  | .geq => some (decide (b ≤ a))
  | _ => Option.none
def arI (op : BinOp) (k : IntKind) (a b : Int) : Option Int :=
  match op with
  | .add => some (k.wrap (a + b))
  | .sub => some (k.wrap (a - b))
  | .mul => some (k.wrap (a * b))
  | .quo => some (k.wrap (a.tdiv b))
  | .rem => some (a.tmod b)
  | .and => some (k.wrap (BitVec.ofInt k.bits a &&& BitVec.ofInt k.bits b).toNat)
  | .or => some (k.wrap (BitVec.ofInt k.bits a ||| BitVec.ofInt k.bits b).toNat)
  | .xor => some (k.wrap (BitVec.ofInt k.bits a ^^^ BitVec.ofInt k.bits b).toNat)
  | .andNot => some (k.wrap (BitVec.ofInt k.bits a &&& ~~~ BitVec.ofInt k.bits b).toNat)
  | _ => Option.none
def shI (op : BinOp) (k : IntKind) (a b : Int) : Option Int :=
  match op with
  | .shl => some (k.wrap (a * 2 ^ (min b.toNat k.bits)))
  | .shr => some (a.fdiv (2 ^ (min b.toNat k.bits)))
  | _ => Option.none
def isDiv : BinOp → Bool
  | .quo | .rem => true
  | _ => false
def strV (op : BinOp) (x y : ByteArray) : Option Value :=
  match op with
  | .add => some (.string (x ++ y))
  | .eql => some (.bool (decide (x = y)))
  | .neq => some (.bool (!decide (x = y)))
  | .lss => some (.bool (decide (x.toList < y.toList)))
  | .leq => some (.bool (!decide (y.toList < x.toList)))
  | .gtr => some (.bool (decide (y.toList < x.toList)))
  | .geq => some (.bool (!decide (x.toList < y.toList)))
  | _ => Option.none
def boolV (op : BinOp) (x y : Bool) : Option Value :=
  match op with
  | .eql => some (.bool (x == y))
  | .neq => some (.bool (!(x == y)))
  | _ => Option.none

/-- A binary operation on numbers, strings, bools: what it asks for, and what it gives. -/
def binK (op : BinOp) (ty : TyI) (x y : Value) (K : Value → Prop) : Prop :=
  match x, y with
  | .int k a, .int k' b =>
    match op with
    | .shl | .shr => 0 ≤ b ∧ is (shI op k a b) fun r => K (.int k r)
    | _ => k = k' ∧ (isDiv op = true → b ≠ 0) ∧ (match cmpI op a b with
      | some r => K (.bool r)
      | Option.none => is (arI op k a b) fun r => K (.int k r))
  | .string a, .string b => (op = .add → a.size + b.size ≤ maxN) ∧ is (strV op a b) K
  | .bool a, .bool b => ty.bl = true ∧ is (boolV op a b) K
  | _, _ => False

/-- Equality of flat cells: numbers, bools, strings. -/
def eqCell : Value → Value → Option Bool
  | .int k a, .int k' b => if k = k' then some (decide (a = b)) else Option.none
  | .bool a, .bool b => some (a == b)
  | .string a, .string b => some (decide (a = b))
  | _, _ => Option.none

/-! ### 7. Effect-free operations: what becomes of the slot, and which objects are new -/

def fldOf (ty : TyI) (f : Nat) : Option (Nat × TypeId) := ty.fields[f]?

/-- A part of a build: its cells. -/
def partCs : AV → Option (List C)
  | .c x => some [x]
  | .a cs => some cs
  | _ => Option.none
def setAt {α : Type} (cs : List α) (off : Nat) (new : List α) : List α := cs.take off ++ new ++ cs.drop (off + new.length)

/-- build: the zero's cells, each part at its place. -/
def fillC (P : Program) (ty : TyI) : List (Nat × AV) → List C → Option (List C)
  | [], cs => some cs
  | (f, v) :: rest, cs => match fldOf ty f, partCs v with
    | some (off, t), some new => if new.length = (tyOf P t).size ∧ off + new.length ≤ cs.length then fillC P ty rest (setAt cs off new) else Option.none
    | _, _ => Option.none

/-- A cell as it stands in an owned row, nothing being handed over: 'zs' tells an element's size where the cell is a slice. -/
def flatN (zs : Option ZE) : C → Option N
  | .n (.v x) => some (.v x)
  | .n (.im x) => some (.im x)
  | .n (.sl sz xs) => some (.im (.sl sz xs))
  | .z => match zs with
    | some s => some s.nil
    | Option.none => Option.none
  | _ => Option.none
def flatNs : List (Option ZE) → List C → Option (List N)
  | [], [] => some []
  | z :: zs, c :: cs => match flatN z c, flatNs zs cs with
    | some x, some xs => some (x :: xs)
    | _, _ => Option.none
  | _, _ => Option.none
def zeroNs (ty : TyI) : List N := (ty.zs.zip ty.zero).map fun p => zeroN p.1 p.2

/-- A length's argument. -/
def isNilS : Value → Bool
  | .slice Option.none 0 0 => true
  | _ => false
def zsOk (ty : TyI) : Bool := ty.zs.length == ty.size && (ty.zs.zip ty.zero).all fun p => match p.1 with
  | some _ => isNilS p.2
  | Option.none => p.2.oneCell'
def natArg (v : AV) (K : Int → Prop) : Prop := match v with
  | .c (.n (.v (.int .i64 n))) => K n
  | _ => False
def boolArg (v : AV) (K : Bool → Prop) : Prop := match v with
  | .c (.n (.v (.bool b))) => K b
  | _ => False

def lenK (st : St) (ty : TyI) (v : AV) (K : AV → List Ob → Prop) : Prop :=
  match v with
  | .c (.n (.v (.string s))) => ty.str = true ∧ K (.c (.n (.v (.int .i64 s.size)))) []
  | .c (.n (.sl _ xs)) => ty.sl.isSome = true ∧ K (.c (.n (.v (.int .i64 xs.n)))) []
  | .c .z => ty.sl.isSome = true ∧ K (.c (.n (.v (.int .i64 0)))) []
  | .c (.h i) => match st.obj i with
    | .row _ xs _ => ty.sl.isSome = true ∧ K (.c (.n (.v (.int .i64 xs.n)))) []
    | .fro _ xs => ty.sl.isSome = true ∧ K (.c (.n (.v (.int .i64 xs.n)))) []
    | _ => False
  | _ => False

def loadK (P : Program) (st : St) (ty : TyI) (v : AV) (K : AV → List Ob → Prop) : Prop :=
  match v with
  | .c (.p i off) => match st.obj i with
    | .box cs => is (loadC ty (cs.drop off)) fun av => K av []
    | _ => False
  | .ra cs => is (loadC ty (cs.map toC)) fun av => K av []
  | .ea i sz idx f => match st.obj i with
    | .row sz' xs [] => sz = sz' ∧ idx < xs.n ∧ is (allSome ((((xs.g idx).drop f).take ty.size).map toCo)) fun cs => is (loadC ty cs) fun av => K av []
    | _ => False
  | _ => False

def idxK (P : Program) (st : St) (esz : Nat) (v : AV) (k : Int) (K : AV → List Ob → Prop) : Prop :=
  match v with
  | .c (.n (.sl sz xs)) => sz = esz ∧ 0 ≤ k ∧ k < xs.n ∧ K (.ra (xs.g k.toNat)) []
  | .c (.h i) => match st.obj i with
    | .row sz xs _ => sz = esz ∧ 0 ≤ k ∧ k < xs.n ∧ K (.ea i sz k.toNat 0) []
    | .fro sz xs => sz = esz ∧ 0 ≤ k ∧ k < xs.n ∧ K (.ra (xs.g k.toNat)) []
    | _ => False
  | _ => False

/-- A choice by a bool: it goes away where the bool is known. -/
def bcase (b : Bool) (A B : Prop) : Prop := match b with
  | true => A
  | false => B
def pickK (c : AV) (A B : Prop) : Prop := match c with
  | .c (.n (.v (.bool b))) => bcase b A B
  | _ => False
def optArg (v : Option AV) (d : Int) (K : Int → Prop) : Prop := match v with
  | some v => natArg v K
  | Option.none => K d

def sliceK (P : Program) (st : St) (ty : TyI) (v : AV) (lo hi mx : Option AV) (K : AV → List Ob → Prop) : Prop :=
  match v, mx with
  | .c (.n (.v (.string s))), Option.none => optArg lo 0 fun l => optArg hi s.size fun h => ty.str = true ∧ 0 ≤ l ∧ l ≤ h ∧ h ≤ s.size ∧ K (.c (.n (.v (.string (s.extract l.toNat h.toNat))))) []
  | .c (.n (.sl sz xs)), Option.none => optArg lo 0 fun l => optArg hi xs.n fun h => 0 ≤ l ∧ l ≤ h ∧ h ≤ xs.n ∧ (is ty.sl fun e => (tyOf P e).ok = true ∧ (tyOf P e).size = sz) ∧ K (.c (.n (.sl sz (xs.sub l.toNat h.toNat)))) []
  | .c .z, Option.none => optArg lo 0 fun l => optArg hi 0 fun h => (is ty.sl fun e => (tyOf P e).ok = true) ∧ l = 0 ∧ h = 0 ∧ K (.c .z) []
  | .c (.n (.sl sz xs)), some m => optArg lo 0 fun l => optArg hi xs.n fun h => natArg m fun m => hi.isSome = true ∧ (is ty.sl fun e => (tyOf P e).ok = true) ∧ l = 0 ∧ h = 0 ∧ m = 0 ∧ K (.c .z) []
  | _, _ => False

def fieldAddrK (P : Program) (ty : TyI) (v : AV) (f : Nat) (K : AV → List Ob → Prop) : Prop :=
  is (fldOf ty f) fun (off, t) => (tyOf P t).ok = true ∧ (tyOf P t).size ≠ 0 ∧ (match v with
    | .c (.p i o) => K (.c (.p i (o + off))) []
    | .ea i sz idx o => K (.ea i sz idx (o + off)) []
    | .ra cs => K (.ra (cs.drop off)) []
    | _ => False)

def isB : List N → Bool
  | [.v (.int .u8 _)] => true
  | _ => false
def byteOf : List N → UInt8
  | [.v (.int .u8 n)] => UInt8.ofNat n.toNat
  | _ => 0
def bytesRw (s : ByteArray) : Rw N := ⟨s.size, fun i => [.v (.int .u8 ((s.data.toList.getD i 0).toNat))]⟩
def rwBytes (xs : Rw N) : ByteArray := ⟨((List.range xs.n).map fun i => byteOf (xs.g i)).toArray⟩

def convK (P : Program) (st : St) (src dst : TyI) (v : AV) (K : AV → List Ob → Prop) : Prop :=
  match v with
  | .c (.n (.v (.int k n))) => src.ok = true ∧ is dst.int fun k' => K (.c (.n (.v (.int k' (k'.wrap n))))) []
  | .c (.n (.v (.string s))) =>
    src.ok = true ∧ if dst.str = true then K (.c (.n (.v (.string s)))) []
    else is dst.sl fun e => (tyOf P e).int = some .u8 ∧ s.size ≤ maxN ∧ K (.c (.h st.obs.length)) [.row 1 (bytesRw s) []]
  | .c (.h i) => match st.obj i with
    | .row sz xs [] => sz = 1 ∧ dst.str = true ∧ (is src.sl fun e => (tyOf P e).int = some .u8) ∧ (∀ i, i < xs.n → isB (xs.g i) = true) ∧ K (.c (.n (.v (.string (rwBytes xs))))) []
    | _ => False
  | _ => False

def K2AV : K → AV
  | .c x => .c x
  | .a cs => .a cs

/-- Is this operation a call of a function value, an append, a store: not one of those below. -/
def vcQ (P : Program) (o : Oper) (st : St) (K : AV → List Ob → Prop) : Prop :=
  match o.op with
  | .move x | .assign x => K (st.ev x) []
  | .pick c a b => pickK (st.ev c) (K (st.ev a) []) (K (st.ev b) [])
  | .alloc e => (tyOf P e).ok = true ∧ (tyOf P e).zero.all (·.oneCell') = true ∧ K (.c (.p st.obs.length 0)) [.box ((tyOf P e).zero.map zC)]
  | .box e x => is (partCs (st.ev x)) fun cs => K (.c (.p st.obs.length 0)) [.box cs]
  | .build t parts => (tyOf P t).ok = true ∧ (tyOf P t).st = true ∧ (tyOf P t).fields.all (fun f => (tyOf P f.2).ok) = true ∧ (tyOf P t).zero.all (·.oneCell') = true ∧
      is (fillC P (tyOf P t) (parts.toList.map fun p => (p.1, st.ev p.2)) ((tyOf P t).zero.map zC)) fun cs => K (.a cs) []
  | .load t a => loadK P st (tyOf P t) (st.ev a) K
  | .binOp op t x y _ => match st.ev x, st.ev y with
    | .c (.n (.v a)), .c (.n (.v b)) => binK op (tyOf P t) a b fun r => K (.c (.n (.v r))) []
    | _, _ => False
  | .unOp op _ x => match op, st.ev x with
    | .not, .c (.n (.v (.bool b))) => K (.c (.n (.v (.bool (!b))))) []
    | .neg, .c (.n (.v (.int k n))) => K (.c (.n (.v (.int k (k.wrap (0 - n)))))) []
    | _, _ => False
  | .convert s d x => convK P st (tyOf P s) (tyOf P d) (st.ev x) K
  | .slice t x lo hi mx => sliceK P st (tyOf P t) (st.ev x) (lo.map st.ev) (hi.map st.ev) (mx.map st.ev) K
  | .fieldAddr t x f => fieldAddrK P (tyOf P t) (st.ev x) f K
  | .field t x f => match st.ev x with
    | .a cs => is (fldOf (tyOf P t) f) fun p => is (loadC (tyOf P p.2) (cs.drop p.1)) fun av => K av []
    | _ => False
  | .indexAddr t x i => is (tyOf P t).sl fun e => natArg (st.ev i) fun k => (tyOf P e).ok = true ∧ idxK P st (tyOf P e).size (st.ev x) k K
  | .index t x i => natArg (st.ev i) fun k => match st.ev x with
    | .c (.n (.v (.string s))) => (tyOf P t).str = true ∧ 0 ≤ k ∧ is (s.data[k.toNat]?) fun b => K (.c (.n (.v (.int .u8 b.toNat)))) []
    | _ => False
  | .extract x i => match st.ev x with
    | .tup vs => is vs[i]? fun v => K (K2AV v) []
    | _ => False
  | .nilCheck x => match st.ev x with
    | .c (.p i off) => K (.c (.p i off)) []
    | .ra cs => K (.ra cs) []
    | .ea i sz idx f => K (.ea i sz idx f) []
    | .fn f cs => K (.fn f cs) []
    | _ => False
  | .makeFunc (.func f) first captured => first.size = 0 ∧ is (allSome (captured.toList.map fun x => match st.ev x with | .c x => some x | _ => Option.none)) fun cs => K (.fn f cs) []
  | .makeSlice t len cap => is (tyOf P t).sl fun e => natArg (st.ev len) fun l => natArg (st.ev cap) fun c => l = c ∧ 0 ≤ l ∧ (tyOf P e).ok = true ∧ (tyOf P e).size ≠ 0 ∧ zsOk (tyOf P e) = true ∧
      l * ((tyOf P e).bytes + 1) ≤ maxN ∧ K (.c (.h st.obs.length)) [.row (tyOf P e).size (Rw.rep l.toNat (zeroNs (tyOf P e))) []]
  | .call { callee := .builtin .len, args, argTypes } => is args[0]? fun x => is argTypes[0]? fun t => lenK st (tyOf P t) (st.ev x) K
  | .call { callee := .builtin .max, args, .. } => match args.toList with
    | [x, y] => match st.ev x, st.ev y with
      | .c (.n (.v (.int k a))), .c (.n (.v (.int _ b))) => K (.c (.n (.v (.int k (if b > a then b else a))))) []
      | _, _ => False
    | _ => False
  | .call { callee := .builtin .min, args, .. } => match args.toList with
    | [x, y] => match st.ev x, st.ev y with
      | .c (.n (.v (.int k a))), .c (.n (.v (.int _ b))) => K (.c (.n (.v (.int k (if b < a then b else a))))) []
      | _, _ => False
    | _ => False
  | _ => False

end Go.Al
