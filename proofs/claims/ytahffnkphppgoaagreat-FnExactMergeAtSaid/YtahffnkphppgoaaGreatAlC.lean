import Derived.Test.YtahffnkphppgoaaGreatAlB
import Derived.OrdersHeld
import Derived.Laws.Panics
set_option linter.unusedVariables false
set_option linter.unusedSimpArgs false
set_option linter.constructorNameAsVariable false
set_option linter.unusedSectionVars false
namespace Go.Al
def chk {ρ : Type} (b : Bool) (k : Option ρ) : Option ρ := match b with
  | true => k
  | false => Option.none
theorem zM {ρ : Type} {b : Bool} {k : Option ρ} {r : ρ} (h : chk b k = some r) : b = true ∧ k = some r := by
  cases b with
  | true => exact ⟨rfl, h⟩
  | false => cases h
theorem zO {ρ : Type} {p : Prop} [Decidable p] {k : Option ρ} {r : ρ} (h : chk (decide p) k = some r) : p ∧ k = some r := by
  obtain ⟨h1, h2⟩ := zM h
  exact ⟨of_decide_eq_true h1, h2⟩
theorem bind_some {α ρ : Type} {o : Option α} {k : α → Option ρ} {r : ρ} (h : o.bind k = some r) : is o fun x => k x = some r := by
  cases o with
  | none => cases h
  | some x => exact h
def natO {ρ : Type} (v : AV) (K : Int → Option ρ) : Option ρ := match v with
  | .c (.n (.v (.int .i64 n))) => K n
  | _ => Option.none
def optO {ρ : Type} (v : Option AV) (d : Int) (K : Int → Option ρ) : Option ρ := match v with
  | some v => natO v K
  | Option.none => K d
theorem natO_vc {ρ : Type} {v : AV} {K : Int → Option ρ} {r : ρ} (h : natO v K = some r) : natArg v fun n => K n = some r := by
  unfold natO at h
  unfold natArg
  split at h
  · exact h
  · cases h
theorem optO_vc {ρ : Type} {v : Option AV} {d : Int} {K : Int → Option ρ} {r : ρ} (h : optO v d K = some r) : optArg v d fun n => K n = some r := by
  cases v with
  | none => exact h
  | some v => exact natO_vc h
theorem natArg_mono {v : AV} {K K' : Int → Prop} (h : natArg v K) (hk : ∀ n, K n → K' n) : natArg v K' := by
  unfold natArg at h ⊢
  split at h
  · exact hk _ h
  · exact h.elim
theorem optArg_mono {v : Option AV} {d : Int} {K K' : Int → Prop} (h : optArg v d K) (hk : ∀ n, K n → K' n) : optArg v d K' := by
  cases v with
  | none => exact hk _ h
  | some v => exact natArg_mono h hk
theorem ZK {α : Type} {o : Option α} {K K' : α → Prop} (h : is o K) (hk : ∀ x, K x → K' x) : is o K' := by
  cases o with
  | none => exact h
  | some x => exact hk _ h
def lenO {ρ : Type} (st : St) (ty : TyI) (v : AV) (K : AV → List Ob → Option ρ) : Option ρ :=
  match v with
  | .c (.n (.v (.string s))) => chk ty.str (K (.c (.n (.v (.int .i64 s.size)))) [])
  | .c (.n (.sl _ xs)) => chk ty.sl.isSome (K (.c (.n (.v (.int .i64 xs.n)))) [])
  | .c .z => chk ty.sl.isSome (K (.c (.n (.v (.int .i64 0)))) [])
  | .c (.h i) => match st.obj i with
    | .row _ xs _ => chk ty.sl.isSome (K (.c (.n (.v (.int .i64 xs.n)))) [])
    | .fro _ xs => chk ty.sl.isSome (K (.c (.n (.v (.int .i64 xs.n)))) [])
    | _ => Option.none
  | _ => Option.none
def loadO {ρ : Type} (st : St) (ty : TyI) (v : AV) (K : AV → List Ob → Option ρ) : Option ρ :=
  match v with
  | .c (.p i off) => match st.obj i with
    | .box cs => (loadC ty (cs.drop off)).bind fun av => K av []
    | _ => Option.none
  | .ra cs => (loadC ty (cs.map toC)).bind fun av => K av []
  | .ea i sz idx f => match st.obj i with
    | .row sz' xs [] => chk (decide (sz = sz')) (chk (decide (idx < xs.n)) ((zS ((((xs.g idx).drop f).take ty.size).map toCo)).bind fun cs => (loadC ty cs).bind fun av => K av []))
    | _ => Option.none
  | _ => Option.none
def idxO {ρ : Type} (st : St) (esz : Nat) (v : AV) (k : Int) (K : AV → List Ob → Option ρ) : Option ρ :=
  match v with
  | .c (.n (.sl sz xs)) => chk (decide (sz = esz)) (chk (decide (0 ≤ k ∧ k < xs.n)) (K (.ra (xs.g k.toNat)) []))
  | .c (.h i) => match st.obj i with
    | .row sz xs _ => chk (decide (sz = esz)) (chk (decide (0 ≤ k ∧ k < xs.n)) (K (.ea i sz k.toNat 0) []))
    | .fro sz xs => chk (decide (sz = esz)) (chk (decide (0 ≤ k ∧ k < xs.n)) (K (.ra (xs.g k.toNat)) []))
    | _ => Option.none
  | _ => Option.none
def sliceO {ρ : Type} (P : Program) (ty : TyI) (v : AV) (lo hi mx : Option AV) (K : AV → List Ob → Option ρ) : Option ρ :=
  match v, mx with
  | .c (.n (.v (.string s))), Option.none => optO lo 0 fun l => optO hi s.size fun h => chk ty.str (chk (decide (0 ≤ l ∧ l ≤ h ∧ h ≤ s.size)) (K (.c (.n (.v (.string (s.extract l.toNat h.toNat))))) []))
  | .c (.n (.sl sz xs)), Option.none => optO lo 0 fun l => optO hi xs.n fun h => ty.sl.bind fun e => chk (tyOf P e).ok (chk (decide ((tyOf P e).size = sz)) (chk (decide (0 ≤ l ∧ l ≤ h ∧ h ≤ xs.n)) (K (.c (.n (.sl sz (xs.sub l.toNat h.toNat)))) [])))
  | .c .z, Option.none => optO lo 0 fun l => optO hi 0 fun h => ty.sl.bind fun e => chk (tyOf P e).ok (chk (decide (l = 0 ∧ h = 0)) (K (.c .z) []))
  | _, _ => Option.none
def fieldAddrO {ρ : Type} (P : Program) (ty : TyI) (v : AV) (f : Nat) (K : AV → List Ob → Option ρ) : Option ρ :=
  (fldOf ty f).bind fun p => chk (tyOf P p.2).ok (chk (decide ((tyOf P p.2).size ≠ 0)) (match v with
    | .c (.p i o) => K (.c (.p i (o + p.1))) []
    | .ea i sz idx o => K (.ea i sz idx (o + p.1)) []
    | .ra cs => K (.ra (cs.drop p.1)) []
    | _ => Option.none))
def convO {ρ : Type} (P : Program) (st : St) (src dst : TyI) (v : AV) (K : AV → List Ob → Option ρ) : Option ρ :=
  match v with
  | .c (.n (.v (.int k n))) => chk src.ok (dst.int.bind fun k' => K (.c (.n (.v (.int k' (k'.wrap n))))) [])
  | .c (.n (.v (.string s))) => chk src.ok (sel dst.str (K (.c (.n (.v (.string s)))) []) (dst.sl.bind fun e => chk (decide ((tyOf P e).int = some .u8)) (chk (decide (s.size ≤ maxN)) (K (.c (.h st.obs.length)) [.row 1 (bytesRw s) []]))))
  | .c (.h i) => match st.obj i with
    | .row sz xs [] => chk (decide (sz = 1)) (chk dst.str (src.sl.bind fun e => chk (decide ((tyOf P e).int = some .u8)) (chk (decide (∀ i, i < xs.n → isB (xs.g i) = true)) (K (.c (.n (.v (.string (rwBytes xs))))) []))))
    | _ => Option.none
  | _ => Option.none
def binO {ρ : Type} (op : BinOp) (ty : TyI) (x y : Value) (K : Value → Option ρ) : Option ρ :=
  match x, y with
  | .int k a, .int k' b =>
    match op with
    | .shl => chk (decide (0 ≤ b)) ((shI .shl k a b).bind fun r => K (.int k r))
    | .shr => chk (decide (0 ≤ b)) ((shI .shr k a b).bind fun r => K (.int k r))
    | op => chk (decide (k = k')) (chk (!isDiv op || decide (b ≠ 0)) (match cmpI op a b with
      | some r => K (.bool r)
      | Option.none => (arI op k a b).bind fun r => K (.int k r)))
  | .string a, .string b => match op with
    | .add => chk (decide (a.size + b.size ≤ maxN)) (K (.string (a ++ b)))
    | op => (strV op a b).bind K
  | .bool a, .bool b => chk ty.bl ((boolV op a b).bind K)
  | _, _ => Option.none
section
variable {ρ : Type} {P : Program} {st : St} {K : AV → List Ob → Option ρ} {r : ρ}
theorem lenO_vc {ty : TyI} {v : AV} (h : lenO st ty v K = some r) : lenK st ty v fun av news => K av news = some r := by
  unfold lenO at h
  unfold lenK
  split at h <;> first
    | exact zM h
    | (split at h <;> first
        | (rename_i ho; simp only [ho]; exact zM h)
        | cases h)
    | cases h
theorem loadO_vc {ty : TyI} {v : AV} (h : loadO st ty v K = some r) : loadK P st ty v fun av news => K av news = some r := by
  unfold loadO at h
  unfold loadK
  split at h
  · split at h
    · rename_i ho
      simp only [ho]
      exact bind_some h
    · cases h
  · exact bind_some h
  · split at h
    · rename_i ho
      simp only [ho]
      obtain ⟨h1, h⟩ := zO h
      obtain ⟨h2, h⟩ := zO h
      exact ⟨h1, h2, ZK (bind_some h) fun _ h => bind_some h⟩
    · cases h
  · cases h
theorem idxO_vc {esz : Nat} {v : AV} {k : Int} (h : idxO st esz v k K = some r) : idxK P st esz v k fun av news => K av news = some r := by
  unfold idxO at h
  unfold idxK
  split at h
  · obtain ⟨h1, h⟩ := zO h
    obtain ⟨⟨h2, h3⟩, h⟩ := zO h
    exact ⟨h1, h2, h3, h⟩
  · split at h
    · rename_i ho
      simp only [ho]
      obtain ⟨h1, h⟩ := zO h
      obtain ⟨⟨h2, h3⟩, h⟩ := zO h
      exact ⟨h1, h2, h3, h⟩
    · rename_i ho
      simp only [ho]
      obtain ⟨h1, h⟩ := zO h
      obtain ⟨⟨h2, h3⟩, h⟩ := zO h
      exact ⟨h1, h2, h3, h⟩
    · cases h
  · cases h
theorem sliceO_vc {ty : TyI} {v : AV} {lo hi mx : Option AV} (h : sliceO P ty v lo hi mx K = some r) : sliceK P st ty v lo hi mx fun av news => K av news = some r := by
  unfold sliceO at h
  unfold sliceK
  split at h
  · refine optArg_mono (optO_vc h) fun l h => optArg_mono (optO_vc h) fun u h => ?_
    obtain ⟨h1, h⟩ := zM h
    obtain ⟨⟨h2, h3, h4⟩, h⟩ := zO h
    exact ⟨h1, h2, h3, h4, h⟩
  · refine optArg_mono (optO_vc h) fun l h => optArg_mono (optO_vc h) fun u h => ?_
    obtain ⟨e, he, h⟩ := is_iff (bind_some h)
    obtain ⟨h1, h⟩ := zM h
    obtain ⟨h2, h⟩ := zO h
    obtain ⟨⟨h3, h4, h5⟩, h⟩ := zO h
    exact ⟨h3, h4, h5, by rw [he]; exact ⟨h1, h2⟩, h⟩
  · refine optArg_mono (optO_vc h) fun l h => optArg_mono (optO_vc h) fun u h => ?_
    obtain ⟨e, he, h⟩ := is_iff (bind_some h)
    obtain ⟨h1, h⟩ := zM h
    obtain ⟨⟨h3, h4⟩, h⟩ := zO h
    exact ⟨by rw [he]; exact h1, h3, h4, h⟩
  · cases h
theorem fieldAddrO_vc {ty : TyI} {v : AV} {f : Nat} (h : fieldAddrO P ty v f K = some r) : fieldAddrK P ty v f fun av news => K av news = some r := by
  unfold fieldAddrO at h
  unfold fieldAddrK
  refine ZK (bind_some h) fun p h => ?_
  obtain ⟨h1, h⟩ := zM h
  obtain ⟨h2, h⟩ := zO h
  refine ⟨h1, h2, ?_⟩
  split at h
  · exact h
  · exact h
  · exact h
  · cases h
theorem convO_vc {s d : TyI} {v : AV} (h : convO P st s d v K = some r) : convK P st s d v fun av news => K av news = some r := by
  unfold convO at h
  unfold convK
  split at h
  · obtain ⟨h1, h⟩ := zM h
    exact ⟨h1, bind_some h⟩
  · obtain ⟨h1, h⟩ := zM h
    refine ⟨h1, ?_⟩
    cases hd : d.str with
    | true => rw [hd] at h; simp only [if_true]; exact h
    | false =>
      rw [hd] at h
      simp only [Bool.false_eq_true, if_false]
      refine ZK (bind_some (show _ = some r from h)) fun e h => ?_
      obtain ⟨h2, h⟩ := zO h
      obtain ⟨h3, h⟩ := zO h
      exact ⟨h2, h3, h⟩
  · split at h
    · rename_i ho
      simp only [ho]
      obtain ⟨h1, h⟩ := zO h
      obtain ⟨h2, h⟩ := zM h
      obtain ⟨e, he, h⟩ := is_iff (bind_some h)
      obtain ⟨h3, h⟩ := zO h
      obtain ⟨h4, h⟩ := zO h
      exact ⟨h1, h2, by rw [he]; exact h3, h4, h⟩
    · cases h
  · cases h
theorem binO_vc {op : BinOp} {ty : TyI} {x y : Value} {K : Value → Option ρ} (h : binO op ty x y K = some r) : binK op ty x y fun v => K v = some r := by
  unfold binO at h
  unfold binK
  split at h
  · rename_i k a k' b
    have key : ∀ op', op' ≠ .shl → op' ≠ .shr → chk (decide (k = k')) (chk (!isDiv op' || decide (b ≠ 0)) (match cmpI op' a b with
      | some r => K (.bool r)
      | Option.none => (arI op' k a b).bind fun r => K (.int k r))) = some r → k = k' ∧ (isDiv op' = true → b ≠ 0) ∧ (match cmpI op' a b with
      | some r' => K (.bool r') = some r
      | Option.none => is (arI op' k a b) fun r' => K (.int k r') = some r) := by
      intro op' _ _ h
      obtain ⟨h1, h⟩ := zO h
      obtain ⟨h2, h⟩ := zM h
      refine ⟨h1, fun hd => by simpa [hd] using h2, ?_⟩
      split at h
      · exact h
      · exact bind_some h
    cases op
    case shl => obtain ⟨h1, h⟩ := zO h; exact ⟨h1, bind_some h⟩
    case shr => obtain ⟨h1, h⟩ := zO h; exact ⟨h1, bind_some h⟩
    all_goals exact key _ (by simp) (by simp) h
  · cases op
    case add => obtain ⟨h1, h⟩ := zO h; exact ⟨fun _ => h1, h⟩
    all_goals exact ⟨fun h => (by cases h), bind_some h⟩
  · obtain ⟨h1, h⟩ := zM h
    exact ⟨h1, bind_some h⟩
  · cases h
end
def pickO {ρ : Type} (c : AV) (x y : Option ρ) : Option ρ := match c with
  | .c (.n (.v (.bool b))) => sel b x y
  | _ => Option.none
def bin2O {ρ : Type} (P : Program) (op : BinOp) (t : TypeId) (x y : AV) (K : Value → Option ρ) : Option ρ := match x, y with
  | .c (.n (.v a)), .c (.n (.v b)) => binO op (tyOf P t) a b K
  | .a xs, .a ys => (zS (xs.map valC)).bind fun vs => (zS (ys.map valC)).bind fun us => (eqSt P t vs us).bind fun b => (eqOp op b).bind fun r => K (.bool r)
  | _, _ => Option.none
def qO {ρ : Type} (P : Program) (o : Oper) (st : St) (K : AV → List Ob → Option ρ) : Option ρ :=
  match o.op with
  | .move x | .assign x => K (st.ev x) []
  | .pick c a b => pickO (st.ev c) (K (st.ev a) []) (K (st.ev b) [])
  | .alloc e => chk (tyOf P e).ok (chk ((tyOf P e).zero.all (·.oneCell')) (K (.c (.p st.obs.length 0)) [.box ((tyOf P e).zero.map zC)]))
  | .box e x => (partCs (st.ev x)).bind fun cs => K (.c (.p st.obs.length 0)) [.box cs]
  | .build t parts => chk (tyOf P t).ok (chk (tyOf P t).st (chk ((tyOf P t).fields.all (fun f => (tyOf P f.2).ok)) (chk ((tyOf P t).zero.all (·.oneCell'))
      ((fillC P (tyOf P t) (parts.toList.map fun p => (p.1, st.ev p.2)) ((tyOf P t).zero.map zC)).bind fun cs => K (.a cs) []))))
  | .load t a => loadO st (tyOf P t) (st.ev a) K
  | .binOp op t x y _ => bin2O P op t (st.ev x) (st.ev y) fun r => K (.c (.n (.v r))) []
  | .unOp op _ x => match op, st.ev x with
    | .not, .c (.n (.v (.bool b))) => K (.c (.n (.v (.bool (!b))))) []
    | .neg, .c (.n (.v (.int k n))) => K (.c (.n (.v (.int k (k.wrap (0 - n)))))) []
    | _, _ => Option.none
  | .convert s d x => convO P st (tyOf P s) (tyOf P d) (st.ev x) K
  | .slice t x lo hi mx => sliceO P (tyOf P t) (st.ev x) (lo.map st.ev) (hi.map st.ev) (mx.map st.ev) K
  | .fieldAddr t x f => fieldAddrO P (tyOf P t) (st.ev x) f K
  | .field t x f => match st.ev x with
    | .a cs => (fldOf (tyOf P t) f).bind fun p => (loadC (tyOf P p.2) (cs.drop p.1)).bind fun av => K av []
    | _ => Option.none
  | .indexAddr t x i => (tyOf P t).sl.bind fun e => natO (st.ev i) fun k => chk (tyOf P e).ok (idxO st (tyOf P e).size (st.ev x) k K)
  | .index t x i => natO (st.ev i) fun k => match st.ev x with
    | .c (.n (.v (.string s))) => chk (tyOf P t).str (chk (decide (0 ≤ k ∧ k < s.size)) (K (.c (.n (.v (.int .u8 (s.data.toList.getD k.toNat 0).toNat)))) []))
    | _ => Option.none
  | .extract x i => match st.ev x with
    | .tup vs => vs[i]?.bind fun v => K (K2AV v) []
    | _ => Option.none
  | .nilCheck x => match st.ev x with
    | .c (.p i off) => K (.c (.p i off)) []
    | .ra cs => K (.ra cs) []
    | .ea i sz idx f => K (.ea i sz idx f) []
    | .fn f cs => K (.fn f cs) []
    | _ => Option.none
  | .makeFunc (.func f) first captured => chk (decide (first.size = 0)) ((zS (captured.toList.map fun x => match st.ev x with | .c x => some x | _ => Option.none)).bind fun cs => K (.fn f cs) [])
  | .makeSlice t len cap => (tyOf P t).sl.bind fun e => natO (st.ev len) fun l => natO (st.ev cap) fun c => chk (decide (l = c ∧ 0 ≤ l)) (chk (tyOf P e).ok (chk (decide ((tyOf P e).size ≠ 0)) (chk (zsOk (tyOf P e))
      (chk (decide (l * ((tyOf P e).bytes + 1) ≤ maxN)) (K (.c (.h st.obs.length)) [.row (tyOf P e).size (Rw.rep l.toNat (zeroNs (tyOf P e))) []])))))
  | .call { callee := .builtin .len, args, argTypes } => args[0]?.bind fun x => argTypes[0]?.bind fun t => lenO st (tyOf P t) (st.ev x) K
  | .call { callee := .builtin .max, args, .. } => match args.toList with
    | [x, y] => match st.ev x, st.ev y with
      | .c (.n (.v (.int k a))), .c (.n (.v (.int _ b))) => K (.c (.n (.v (.int k (sel (decide (b > a)) b a))))) []
      | _, _ => Option.none
    | _ => Option.none
  | .call { callee := .builtin .min, args, .. } => match args.toList with
    | [x, y] => match st.ev x, st.ev y with
      | .c (.n (.v (.int k a))), .c (.n (.v (.int _ b))) => K (.c (.n (.v (.int k (sel (decide (b < a)) b a))))) []
      | _, _ => Option.none
    | _ => Option.none
  | _ => Option.none
theorem sel_ite {α : Type} {p : Prop} [Decidable p] (x y : α) : sel (decide p) x y = if p then x else y := by
  by_cases h : p <;> simp [h, sel]
section
variable {ρ : Type} {P : Program} {st : St} {r : ρ}
theorem qO_vc {o : Oper} {K : AV → List Ob → Option ρ} (h : qO P o st K = some r) : vcQ P o st fun av news => K av news = some r := by
  obtain ⟨dst, op, ty, pos, after, guard⟩ := o
  unfold qO at h
  split at h <;> rename_i hop <;> first | (cases h; done) | (simp only at hop; subst hop; simp only [vcQ])
  · exact h
  · exact h
  · unfold pickO at h
    unfold pickK
    split at h
    · rename_i b hc
      simp only [hc]
      cases b <;> exact h
    · cases h
  · obtain ⟨h1, h⟩ := zM h
    obtain ⟨h2, h⟩ := zM h
    exact ⟨h1, h2, h⟩
  · exact bind_some h
  · obtain ⟨h1, h⟩ := zM h
    obtain ⟨h2, h⟩ := zM h
    obtain ⟨h3, h⟩ := zM h
    obtain ⟨h4, h⟩ := zM h
    exact ⟨h1, h2, h3, h4, bind_some h⟩
  · exact loadO_vc h
  · unfold bin2O at h
    split at h
    · rename_i hx hy
      simp only [hx, hy]
      exact binO_vc h
    · rename_i hx hy
      simp only [hx, hy]
      obtain ⟨vs, h1, h⟩ := is_iff (bind_some h)
      obtain ⟨us, h2, h⟩ := is_iff (bind_some h)
      obtain ⟨b, h3, h⟩ := is_iff (bind_some h)
      unfold aggK
      rw [h1, is_some, h2, is_some, h3, is_some]
      exact bind_some h
    · cases h
  · split at h
    · rename_i hx
      simp only [hx]
      exact h
    · rename_i hx
      simp only [hx]
      exact h
    · cases h
  · exact convO_vc h
  · exact sliceO_vc h
  · exact fieldAddrO_vc h
  · split at h
    · rename_i hx
      simp only [hx]
      exact ZK (bind_some h) fun p h => bind_some h
    · cases h
  · refine ZK (bind_some h) fun e h => natArg_mono (natO_vc h) fun k h => ?_
    obtain ⟨h1, h⟩ := zM h
    exact ⟨h1, idxO_vc h⟩
  · refine natArg_mono (natO_vc h) fun k h => ?_
    split at h
    · rename_i s hx
      simp only [hx]
      obtain ⟨h1, h⟩ := zM h
      obtain ⟨⟨h2, h3⟩, h⟩ := zO h
      refine ⟨h1, h2, ?_⟩
      have hlt : k.toNat < s.data.toList.length := by
        have : s.data.toList.length = s.size := rfl
        omega
      have hd : s.data[k.toNat]? = some (s.data.toList.getD k.toNat 0) := by
        rw [← Array.getElem?_toList, List.getD_eq_getElem?_getD, List.getElem?_eq_getElem hlt]
        rfl
      rw [hd]
      exact h
    · cases h
  · split at h
    · rename_i hx
      simp only [hx]
      exact bind_some h
    · cases h
  · split at h <;> first | (rename_i hx; simp only [hx]; exact h) | cases h
  · obtain ⟨h1, h⟩ := zO h
    exact ⟨h1, bind_some h⟩
  · refine ZK (bind_some h) fun e h => natArg_mono (natO_vc h) fun l h => natArg_mono (natO_vc h) fun c h => ?_
    obtain ⟨⟨h1, h2⟩, h⟩ := zO h
    obtain ⟨h3, h⟩ := zM h
    obtain ⟨h4, h⟩ := zO h
    obtain ⟨h5, h⟩ := zM h
    obtain ⟨h6, h⟩ := zO h
    exact ⟨h1, h2, h3, h4, h5, h6, h⟩
  · exact ZK (bind_some h) fun x h => ZK (bind_some h) fun t h => lenO_vc h
  · split at h
    · rename_i hx
      simp only [hx]
      split at h
      · rename_i h1 h2
        simp only [h1, h2]
        rw [sel_ite] at h
        exact h
      · cases h
    · cases h
  · split at h
    · rename_i hx
      simp only [hx]
      split at h
      · rename_i h1 h2
        simp only [h1, h2]
        rw [sel_ite] at h
        exact h
      · cases h
    · cases h
end
def storeO {ρ : Type} (P : Program) (st : St) (t : TypeId) (addr av : AV) (K : St → Option ρ) : Option ρ :=
  chk (tyOf P t).ok ((partCs av).bind fun new => chk (decide (new.length = (tyOf P t).size)) (match addr with
    | .c (.p i off) => match st.obj i with
      | .box cs => chk (decide (off + new.length ≤ cs.length)) (K { st with obs := st.obs.set i (.box (setAt cs off new)) })
      | _ => Option.none
    | .ea i sz idx f => match st.obj i with
      | .row sz' xs [] => chk (decide (sz = sz')) (chk (decide (idx < xs.n)) (chk (decide (f + new.length ≤ (xs.g idx).length)) ((inlN st [i] (tyOf P t).zs new).bind fun p =>
          K { st with obs := consume i p.2 (st.obs.set i (.row sz (xs.set idx (setAt (xs.g idx) f p.1)) [])) })))
      | _ => Option.none
    | _ => Option.none))
def appendO {ρ : Type} (P : Program) (st : St) (t : TypeId) (s x : AV) (dst : Option Nat) (K : St → Option ρ) : Option ρ :=
  (tyOf P t).sl.bind fun e => chk (tyOf P e).ok (chk (decide (0 < (tyOf P e).size)) ((srcOf st x).bind fun p => chk (match srcSz st x with | some z => decide (z = (tyOf P e).size) | Option.none => true) (match s with
    | .c (.h i) => match st.obj i with
      | .row sz xs [] => chk (decide (sz = (tyOf P e).size)) (chk (!(kb st.ks i)) (chk (decide (p.2 ≠ some i)) (chk (decide ((xs.n + p.1.n) * ((tyOf P e).bytes + 1) ≤ maxN))
          (K ((({ st with obs := consume i p.2.toList (st.obs.set i (.row sz (xs.app p.1) [])) } : St).kill (fun k => k == i)).put dst (.c (.h i)))))))
      | _ => Option.none
    | .c .z => chk (decide (p.1.n * ((tyOf P e).bytes + 1) ≤ maxN))
        (K ((({ st with obs := consume st.obs.length p.2.toList st.obs } : St).new [.row (tyOf P e).size p.1 []]).put dst (.c (.h st.obs.length))))
    | _ => Option.none)))
def appendNewO {ρ : Type} (P : Program) (st : St) (t : TypeId) (s x : AV) (K : AV → List Ob → Option ρ) : Option ρ :=
  (tyOf P t).sl.bind fun e => chk (tyOf P e).ok (chk (decide (0 < (tyOf P e).size)) ((srcOf st x).bind fun p => chk (match srcSz st x with | some z => decide (z = (tyOf P e).size) | Option.none => true) (match s with
    | .c .z => sel p.2.isNone (chk (decide (p.1.n * ((tyOf P e).bytes + 1) ≤ maxN)) (K (.c (.h st.obs.length)) [.row (tyOf P e).size p.1 []])) Option.none
    | _ => Option.none)))
def litO {ρ : Type} (P : Program) (t : TypeId) (len : Nat) (parts : List (Nat × AV)) (K : TyI → List C → Option ρ) : Option ρ :=
  (tyOf P t).sl.bind fun e => chk (tyOf P e).ok (chk (decide (len * (tyOf P e).size ≤ 16777216)) (chk ((tyOf P e).zero.all (·.oneCell')) (chk (decide ((tyOf P e).size ≠ 0))
    ((fillS (tyOf P e).size parts (List.replicate (len * (tyOf P e).size) .u)).bind fun cs => K (tyOf P e) cs))))
def buildOwnO {ρ : Type} (P : Program) (st : St) (t : TypeId) (len : Nat) (parts : List (Nat × AV)) (dst : Option Nat) (K : St → Option ρ) : Option ρ :=
  litO P t len parts fun ty cs => sel (decide (len = 0)) (K (st.put dst (.c .z))) ((inlN st [] (repN len ty.zs) cs).bind fun p =>
    K ((({ st with obs := consume st.obs.length p.2 st.obs } : St).new [.row ty.size (chunk ty.size len p.1) []]).put dst (.c (.h st.obs.length))))
def buildNewO {ρ : Type} (P : Program) (st : St) (t : TypeId) (len : Nat) (parts : List (Nat × AV)) (K : AV → List Ob → Option ρ) : Option ρ :=
  litO P t len parts fun ty cs => sel (decide (len = 0)) (K (.c .z) []) ((inlN st [] (repN len ty.zs) cs).bind fun p => sel p.2.isEmpty (K (.c (.h st.obs.length)) [.row ty.size (chunk ty.size len p.1) []]) Option.none)
section
variable {ρ : Type} {P : Program} {st : St} {r : ρ}
theorem storeO_vc {t : TypeId} {addr av : AV} {K : St → Option ρ} (h : storeO P st t addr av K = some r) : storeK P st t addr av fun st' => K st' = some r := by
  unfold storeO at h
  unfold storeK
  obtain ⟨h1, h⟩ := zM h
  refine ⟨h1, ZK (bind_some h) fun new h => ?_⟩
  obtain ⟨h2, h⟩ := zO h
  refine ⟨h2, ?_⟩
  split at h
  · split at h
    · rename_i ho
      simp only [ho]
      exact zO h
    · cases h
  · split at h
    · rename_i ho
      simp only [ho]
      obtain ⟨h3, h⟩ := zO h
      obtain ⟨h4, h⟩ := zO h
      obtain ⟨h5, h⟩ := zO h
      exact ⟨h3, h4, h5, bind_some h⟩
    · cases h
  · cases h
theorem appendO_vc {t : TypeId} {s x : AV} {dst : Option Nat} {K : St → Option ρ} (h : appendO P st t s x dst K = some r) : appendK P st t s x dst fun st' => K st' = some r := by
  unfold appendO at h
  unfold appendK
  refine ZK (bind_some h) fun e h => ?_
  obtain ⟨h1, h⟩ := zM h
  obtain ⟨h2, h⟩ := zO h
  refine ⟨h1, h2, ZK (bind_some h) fun p h => ?_⟩
  obtain ⟨h3, h⟩ := zM h
  refine ⟨?_, ?_⟩
  · split at h3
    · rename_i z hz
      simp only [hz]
      exact of_decide_eq_true h3
    · rename_i hz
      simp only [hz]
  · split at h
    · split at h
      · rename_i ho
        simp only [ho]
        obtain ⟨h4, h⟩ := zO h
        obtain ⟨h5, h⟩ := zM h
        obtain ⟨h6, h⟩ := zO h
        obtain ⟨h7, h⟩ := zO h
        exact ⟨h4, by simpa using h5, h6, h7, h⟩
      · cases h
    · exact zO h
    · cases h
theorem litO_vc {t : TypeId} {len : Nat} {parts : List (Nat × AV)} {K : TyI → List C → Option ρ} {K' : TyI → List C → Prop} (h : litO P t len parts K = some r) (hk : ∀ ty cs, K ty cs = some r → K' ty cs) : litK P t len parts K' := by
  unfold litO at h
  unfold litK
  refine ZK (bind_some h) fun e h => ?_
  obtain ⟨h1, h⟩ := zM h
  obtain ⟨h2, h⟩ := zO h
  obtain ⟨h3, h⟩ := zM h
  obtain ⟨h4, h⟩ := zO h
  exact ⟨h1, h2, h3, h4, ZK (bind_some h) fun cs h => hk _ _ h⟩
theorem buildOwnO_vc {t : TypeId} {len : Nat} {parts : List (Nat × AV)} {dst : Option Nat} {K : St → Option ρ} (h : buildOwnO P st t len parts dst K = some r) : buildOwnK P st t len parts dst fun st' => K st' = some r := by
  refine litO_vc h fun ty cs h => ?_
  rw [sel_ite] at h
  split at h
  · rename_i h0; rw [if_pos h0]; exact h
  · rename_i h0; rw [if_neg h0]; exact bind_some h
theorem appendNewO_sound {a : Act} {w : World} {I : Nat → Prop} {β : List Value} {S : Nat → Nat → Prop} (hr : RelV st a w I β S) {t ty : TypeId} {s x : AV} {vs vx : Value} (hs : AVR w I β s vs) (hx : AVR w I β x vx) {K : AV → List Ob → Option ρ}
    (h : appendNewO P st t s x K = some r) : ∃ v w' av news, (Builtin.append_ #[t, t] ty #[vs, vx]).run P w = .ok v w' ∧ K av news = some r ∧ QPost st w I β S av news v w' := by
  unfold appendNewO at h
  obtain ⟨e, ht, h⟩ := is_iff (bind_some h)
  obtain ⟨hok, h⟩ := zM h
  obtain ⟨hs0, h⟩ := zO h
  obtain ⟨p, hp, h⟩ := is_iff (bind_some h)
  obtain ⟨hz, h⟩ := zM h
  have hz' : (match srcSz st x with | some z => z = (tyOf P e).size | Option.none => True) := by
    cases hzz : srcSz st x with
    | none => trivial
    | some z => rw [hzz] at hz; exact of_decide_eq_true hz
  split at h
  · cases hpn : p.2 with
    | some k => rw [hpn] at h; cases h
    | none =>
      rw [hpn] at h
      obtain ⟨hlen, hK⟩ := zO (show chk _ _ = some r from h)
      obtain ⟨cc, F, hsrc, hF⟩ := src_sound hr hx hp hz'
      obtain ⟨A, rfl⟩ := hs
      obtain ⟨b', w', hrun, hfr, hres⟩ := append_run (β := β) (ty := ty) ht hok rfl hs0 (b := .slice A 0 0) (xs := (Rw.nil : Rw N)) (T := fun _ => False) (.inl ⟨rfl, A, rfl⟩) hsrc (fun _ h => h.elim) (fun _ h => h.elim) hr.ilt (U := fun _ => False) (fun i j q hq => by
        obtain ⟨k, hk, -⟩ := hF i j q hq
        rw [hpn] at hk
        cases hk) (fun _ h => h.elim) (fun _ h => h.elim) (by rw [show (Rw.nil : Rw N).n = 0 from rfl, Nat.zero_add]; exact hlen)
      have happ : Rw.nil.app p.1 = p.1 := by simp [Rw.app_eq, Rw.nil]
      rw [happ] at hres
      have hb'1 : b'.oneCell' = true := by obtain ⟨A, cp, rfl, -⟩ := hres.slice; rfl
      refine ⟨b', w', _, _, hrun, hK, I, [b'], fun k q => k = 0 ∧ w.heap.size ≤ q ∧ q < w'.heap.size, hfr, fun _ h => h, fun _ h => .inl h, fun q hq => Nat.lt_of_lt_of_le (hr.ilt q hq) hfr.size, rfl, ⟨?_, hb'1⟩, ?_, ?_, fun i j q h1 h2 => h1.1.trans h2.1.symm⟩
      · rw [List.getElem?_append_right (by rw [hr.bl]; exact Nat.le_refl _), hr.bl, Nat.sub_self]; rfl
      · intro k o b ho hb
        cases k with
        | succ k => simp at ho
        | zero =>
          simp only [List.getElem?_cons_zero, Option.some.injEq] at ho hb
          subst ho; subst hb
          refine ObR.mono (o := .row (tyOf P e).size p.1 []) (β := []) (fun _ h => h) (fun _ _ => rfl) (fun _ _ h => by simp at h) (RowR.of_own hres.own) (fun _ _ => rfl) (fun q h => ?_)
          rcases h with h | h | h
          · exact h.elim
          · exact h.elim
          · exact ⟨rfl, h⟩
      · rintro k q ⟨rfl, h1, h2⟩
        exact ⟨Nat.zero_lt_one, h1, h2, fun h => by have := hr.ilt _ h; omega⟩
  · cases h
def buildNewK (P : Program) (st : St) (t : TypeId) (len : Nat) (parts : List (Nat × AV)) (K : AV → List Ob → Prop) : Prop :=
  litK P t len parts fun ty cs => if len = 0 then K (.c .z) [] else is (inlN st [] (repN len ty.zs) cs) fun p => p.2 = [] ∧ K (.c (.h st.obs.length)) [.row ty.size (chunk ty.size len p.1) []]
theorem buildNewO_vc {t : TypeId} {len : Nat} {parts : List (Nat × AV)} {K : AV → List Ob → Option ρ} (h : buildNewO P st t len parts K = some r) : buildNewK P st t len parts fun av news => K av news = some r := by
  refine litO_vc h fun ty cs h => ?_
  rw [sel_ite] at h
  split at h
  · rename_i h0; rw [if_pos h0]; exact h
  · rename_i h0
    rw [if_neg h0]
    refine ZK (bind_some h) fun p h => ?_
    cases h1 : p.2.isEmpty with
    | true => rw [h1] at h; exact ⟨by simpa using h1, h⟩
    | false => rw [h1] at h; cases h
theorem buildNew_sound {a : Act} {w : World} {I : Nat → Prop} {β : List Value} {S : Nat → Nat → Prop} (hr : RelV st a w I β S) {t : TypeId} {len : Nat} {parts : Array (Nat × Operand)} {K : AV → List Ob → Prop} (h : buildNewK P st t len (parts.toList.map fun p => (p.1, st.ev p.2)) K) :
    ∃ v w' av news, (Instr.buildSlice t len (parts.map fun p => (p.1, a.eval p.2))).run P w = .ok v w' ∧ K av news ∧ QPost st w I β S av news v w' := by
  obtain ⟨e, arr, cs, ht, hs0, hle, h, hcs, hlen, hrun⟩ := lit_sound hr h
  have hfr := Fr.alloc (fun _ => False) w (.cells arr e)
  split at h
  · rename_i h0
    exact ⟨_, _, _, _, hrun, h, I, [], fun _ _ => False, hfr, fun _ h => h, fun _ h => .inl h, fun b hb => Nat.lt_of_lt_of_le (hr.ilt b hb) hfr.size, rfl, ⟨_, by rw [h0]⟩, by simp, by simp, by simp⟩
  · rename_i h0
    obtain ⟨⟨ns, us⟩, hp, hu0, hK⟩ := is_iff h
    simp only at hu0
    subst hu0
    obtain ⟨hnl, hu1, hu2, Fs, hF1, hF2, hF3⟩ := inlN_sound hr hp
    have hFn : ∀ k b, ¬ Fs k b := fun k b h => by obtain ⟨j, hj, -⟩ := hF2 k b h; cases hj
    have hIw : ∀ q, I q → (w.alloc (.cells arr e)).heap[q]? = w.heap[q]? := fun q hq => hfr.block q (hr.ilt q hq) (fun h => h)
    refine ⟨_, _, _, _, hrun, hK, I, [.slice (some ⟨w.heap.size, 0, none⟩) len len], fun k q => k = 0 ∧ q = w.heap.size, hfr, fun _ h => h, fun _ h => .inl h, fun b hb => Nat.lt_of_lt_of_le (hr.ilt b hb) hfr.size, rfl, ⟨?_, rfl⟩, ?_, ?_, fun i j b h1 h2 => h1.1.trans h2.1.symm⟩
    · rw [List.getElem?_append_right (by rw [hr.bl]; exact Nat.le_refl _), hr.bl, Nat.sub_self]; rfl
    · intro k o b ho hb
      cases k with
      | succ k => simp at ho
      | zero =>
        simp only [List.getElem?_cons_zero, Option.some.injEq] at ho hb
        subst ho; subst hb
        have hln : (chunk (tyOf P e).size len ns).n = len := chunk_length _ _ _
        have hl24 : len ≤ 16777216 := by
          have : len * 1 ≤ len * (tyOf P e).size := Nat.mul_le_mul_left _ (by omega)
          omega
        have hlm : len ≤ maxN := by unfold maxN; omega
        refine RowR.of_own ?_
        have hcell : ∀ i j x, at2 (chunk (tyOf P e).size len ns) i j = some x → arr[i * (tyOf P e).size + j]? = some (arr.getD (i * (tyOf P e).size + j) undef) ∧ Own w I x (arr.getD (i * (tyOf P e).size + j) undef) (fun _ => False) := by
          intro i j x hx
          obtain ⟨h1, h2, h3⟩ := chunk_at _ _ _ _ _ _ hx
          have hlt : i * (tyOf P e).size + j < arr.size := by rw [hcs.1, ← hnl]; exact (List.getElem?_eq_some_iff.1 h3).1
          have hltc : i * (tyOf P e).size + j < cs.length := by rw [← hcs.1]; exact hlt
          have hv : arr[i * (tyOf P e).size + j]? = some (arr.getD (i * (tyOf P e).size + j) undef) := by simp [Array.getD, hlt]
          obtain ⟨n, hn1, hn2⟩ := hF1 _ _ _ (List.getElem?_eq_getElem hltc) (hcs.2 _ _ _ (List.getElem?_eq_getElem hltc) hv)
          rw [h3] at hn1
          obtain rfl := Option.some.inj hn1
          exact ⟨hv, hn2.mono (fun _ h => h) (fun _ _ => rfl) (fun _ _ => rfl) (fun b hb => (hFn _ _ hb).elim)⟩
        have := Own.sl (w := w.alloc (.cells arr e)) (I := I) (S := fun q => 0 = 0 ∧ q = w.heap.size) w.heap.size len e arr (0, 0)
          (fun i j => arr.getD (i * (tyOf P e).size + j) undef) (fun i j q => False) (xs := chunk (tyOf P e).size len ns)
          (chunk_unif _ _ _ (by rw [hnl, hlen])) (by rw [hln]; exact hlm) (by rw [hln]; exact Nat.le_refl _) (by unfold maxLen; omega) ⟨rfl, rfl⟩
          (heap_alloc_new w _) (.inr (Nat.le_refl _)) (by rw [hcs.1, hlen])
          (fun i j x hx => (hcell i j x hx).1)
          (fun i j x hx => (hcell i j x hx).2.mono (fun _ h => h) hIw (fun b hb => hb.elim) (fun b hb => hb))
          (fun i j b hb => hb.elim) (fun i j i' j' b hb hb' => hb.elim)
        rw [hln] at this
        exact this
    · rintro k b ⟨rfl, rfl⟩
      exact ⟨by simp, Nat.le_refl _, by simp, fun h => by have := hr.ilt _ h; omega⟩
end
def C.unb : C → C
  | .b _ _ => .u
  | x => x
def K.unb : K → K
  | .c x => .c x.unb
  | .a cs => .a (cs.map C.unb)
def AV.unb : AV → AV
  | .c x => .c x.unb
  | .a cs => .a (cs.map C.unb)
  | .tup vs => .tup (vs.map K.unb)
  | .fn f cs => .fn f (cs.map C.unb)
  | .rb _ _ => .dead
  | x => x
def Ob.unb : Ob → Ob
  | .box cs => .box (cs.map C.unb)
  | o => o
def St.unb (st : St) : St := { st with slots := st.slots.map AV.unb }
def CB (w : World) (J : Nat → Prop) : C → Value → Prop
  | .b x _, v => Im w J x v
  | _, _ => True
def CsB (w : World) (J : Nat → Prop) (cs : List C) (a : Array Value) : Prop := ∀ (j : Nat) (x : C) (v : Value), cs[j]? = some x → a[j]? = some v → CB w J x v
def AB (w : World) (J : Nat → Prop) : AV → Value → Prop
  | .c x, v => CB w J x v
  | .a cs, v => ∀ arr, v = .agg arr → CsB w J cs arr
  | .fn f cs, v => ∀ arr, v = .func (.func f) #[] arr → CsB w J cs arr
  | .rb cs _, v => AVR w J [] (.ra cs) v
  | _, _ => True
def BorR (st : St) (a : Act) (w : World) (J : Nat → Prop) : Prop := ∀ (t : Nat) (av : AV) (v : Value), st.slots[t]? = some av → a.tmps[t]? = some v → AB w J av v
def RelB (c : Cx) (st : St) (a : Act) (w : World) : Prop := ∃ I β S, RelV st a w I β S ∧ RelC c st a w I β S ∧ BorR st a w (fun b => I b ∨ ∃ i, S i b)
section
variable {w w' : World} {I J J' : Nat → Prop} {β : List Value}
theorem CR.unb {x : C} {v : Value} (h : CR w I β x v) : CR w I β x.unb v := by cases x <;> exact h
theorem CsR.unb {cs : List C} {a : Array Value} (h : CsR w I β cs a) : CsR w I β (cs.map C.unb) a :=
  ⟨by simpa using h.1, fun j x v hx hv => by
    simp only [List.getElem?_map, Option.map_eq_some_iff] at hx
    obtain ⟨y, hy, rfl⟩ := hx
    exact (h.2 j y v hy hv).unb⟩
theorem KR.unb {x : K} {v : Value} (h : KR w I β x v) : KR w I β x.unb v := by
  cases x with
  | c x => exact CR.unb h
  | a cs => obtain ⟨a, rfl, h⟩ := h; exact ⟨a, rfl, h.unb⟩
theorem AVR.unb {x : AV} {v : Value} (h : AVR w I β x v) : AVR w I β x.unb v := by
  cases x with
  | c x => exact CR.unb h
  | a cs => obtain ⟨a, rfl, h⟩ := h; exact ⟨a, rfl, h.unb⟩
  | tup vs =>
    obtain ⟨a, rfl, hl, h⟩ := h
    refine ⟨a, rfl, by simpa using hl, fun j x v hx hv => ?_⟩
    simp only [List.getElem?_map, Option.map_eq_some_iff] at hx
    obtain ⟨y, hy, rfl⟩ := hx
    exact (h j y v hy hv).unb
  | fn f cs => obtain ⟨a, rfl, h⟩ := h; exact ⟨a, rfl, h.unb⟩
  | _ => first | exact h | trivial
theorem ObR.unb {b : Value} {S : Nat → Prop} {o : Ob} (h : ObR w I β b S o) : ObR w I β b S o.unb := by
  cases o with
  | box cs => obtain ⟨g, cur, e, rfl, hg, hb, H⟩ := h; exact ⟨g, cur, e, rfl, hg, hb, H.unb⟩
  | _ => exact h
theorem CB_unb (x : C) (v : Value) : CB w J x.unb v := by cases x <;> trivial
theorem CsB_unb (cs : List C) (a : Array Value) : CsB w J (cs.map C.unb) a := fun j x v hx hv => by
  simp only [List.getElem?_map, Option.map_eq_some_iff] at hx
  obtain ⟨y, hy, rfl⟩ := hx
  exact CB_unb _ _
theorem AB_unb (x : AV) (v : Value) : AB w J x.unb v := by
  cases x with
  | c x => exact CB_unb x v
  | a cs => exact fun arr _ => CsB_unb cs arr
  | fn f cs => exact fun arr _ => CsB_unb cs arr
  | _ => trivial
theorem CB.mono (hJ : ∀ b, J b → J' b) (hw : ∀ b, J b → w'.heap[b]? = w.heap[b]?) {x : C} {v : Value} (h : CB w J x v) : CB w' J' x v := by
  cases x with
  | b x loc => exact Im.mono hJ hw h
  | _ => trivial
theorem AB.mono (hJ : ∀ b, J b → J' b) (hw : ∀ b, J b → w'.heap[b]? = w.heap[b]?) {x : AV} {v : Value} (h : AB w J x v) : AB w' J' x v := by
  cases x with
  | c x => exact CB.mono hJ hw h
  | a cs => exact fun arr e j x v hx hv => CB.mono hJ hw (h arr e j x v hx hv)
  | fn f cs => exact fun arr e j x v hx hv => CB.mono hJ hw (h arr e j x v hx hv)
  | rb cs loc => exact AVR.mono (x := .ra cs) (β := []) (β' := []) hJ hw (fun _ _ h => h) h
  | _ => trivial
end
def lendC (st : St) (bor : Bool) : C → Option N
  | .n x => some x
  | .b x _ => if bor = true then some x else Option.none
  | .h i => match st.obj i with
    | .row sz xs [] => some (.sl sz xs)
    | .fro sz xs => some (.sl sz xs)
    | _ => Option.none
  | _ => Option.none
def lendCC (st : St) : C → C
  | .z => .z
  | x => match lendC st true x with
    | some y => .n y
    | Option.none => .u
def lendAV (st : St) : AV → AV
  | .c (.p i off) => match st.obj i with
    | .box bs => match zS ((bs.drop off).map (lendC st false)) with
      | some ns => .ra ns
      | Option.none => .dead
    | _ => .dead
  | .c x => .c (lendCC st x)
  | .a cs => .a (cs.map (lendCC st))
  | .fn f cs => .fn f (cs.map (lendCC st))
  | .ra cs => .ra cs
  | .rb cs _ => .ra cs
  | _ => .dead
def St.lend (st : St) : St := ⟨st.slots.map (lendAV st), [], []⟩
section
variable {st : St} {a : Act} {w : World} {I : Nat → Prop} {β : List Value} {S : Nat → Nat → Prop}
theorem lendC_false {x : C} {y : N} (h : lendC st false x = some y) : passC st x (.n y) := by
  unfold lendC at h
  split at h
  · simp only [Option.some.injEq] at h; subst h; rfl
  · simp at h
  · split at h
    · rename_i ho; simp only [Option.some.injEq] at h; subst h; exact .inl ho
    · rename_i ho; simp only [Option.some.injEq] at h; subst h; exact .inr ho
    · cases h
  · cases h
theorem lendC_true {x : C} {y : N} (h : lendC st true x = some y) : passC st x (.n y) ∨ ∃ loc, x = .b y loc := by
  unfold lendC at h
  split at h
  · simp only [Option.some.injEq] at h; subst h; exact .inl rfl
  · simp only [if_true, Option.some.injEq] at h; subst h; exact .inr ⟨_, rfl⟩
  · split at h
    · rename_i ho; simp only [Option.some.injEq] at h; subst h; exact .inl (.inl ho)
    · rename_i ho; simp only [Option.some.injEq] at h; subst h; exact .inl (.inr ho)
    · cases h
  · cases h
theorem lendCs_pass : ∀ {bs : List C} {ns : List N}, zS (bs.map (lendC st false)) = some ns → passCs st bs (ns.map .n)
  | [], ns, h => by simp [zS] at h; subst h; trivial
  | x :: bs, ns, h => by
    simp only [List.map_cons] at h
    cases hx : lendC st false x with
    | none => rw [hx] at h; cases h
    | some y =>
      rw [hx] at h
      simp only [zS, Option.map_eq_some_iff] at h
      obtain ⟨ns', h', rfl⟩ := h
      exact ⟨lendC_false hx, lendCs_pass h'⟩
variable (hr : RelV st a w I β S)
include hr
theorem lendCC_sound {J : Nat → Prop} (hJ : ∀ b, (I b ∨ ∃ i, S i b) → J b) {x : C} {v : Value} (h : CR w I β x v) (hb : CB w J x v) : CR w J [] (lendCC st x) v := by
  have h1 := CR.one h
  unfold lendCC
  split
  · exact h
  · split
    · rename_i y hy
      rcases lendC_true hy with hp | ⟨loc, rfl⟩
      · exact CR.mono (β := []) hJ (fun _ _ => rfl) (fun _ _ h => h) (passC_sound hr hp h)
      · exact hb
    · exact h1
theorem lendCs_sound {J : Nat → Prop} (hJ : ∀ b, (I b ∨ ∃ i, S i b) → J b) {cs : List C} {arr : Array Value} (h : CsR w I β cs arr) (hb : CsB w J cs arr) : CsR w J [] (cs.map (lendCC st)) arr :=
  ⟨by simpa using h.1, fun j x v hx hv => by
    simp only [List.getElem?_map, Option.map_eq_some_iff] at hx
    obtain ⟨y, hy, rfl⟩ := hx
    exact lendCC_sound hr hJ (h.2 j y v hy hv) (hb j y v hy hv)⟩
theorem lendAV_sound {J : Nat → Prop} (hJ : ∀ b, (I b ∨ ∃ i, S i b) → J b) {av : AV} {v : Value} (h : AVR w I β av v) (hb : AB w J av v) : AVR w J [] (lendAV st av) v := by
  unfold lendAV
  split
  · rename_i i off
    split
    · rename_i bs hobj
      split
      · rename_i ns hns
        exact AVR.mono (x := .ra ns) (β := []) hJ (fun _ _ => rfl) (fun _ _ h => h) (passA_sound (x := .c (.p i off)) (y := .ra ns) hr (by unfold passA; simp only [hobj]; exact lendCs_pass (by simpa using hns)) h)
      · trivial
    · trivial
  · exact lendCC_sound hr hJ h hb
  · obtain ⟨arr, rfl, h⟩ := h
    exact ⟨arr, rfl, lendCs_sound hr hJ h (hb arr rfl)⟩
  · obtain ⟨arr, rfl, h⟩ := h
    exact ⟨arr, rfl, lendCs_sound hr hJ h (hb arr rfl)⟩
  · exact AVR.mono (x := .ra _) (β := []) hJ (fun _ _ => rfl) (fun _ _ h => h) (passA_sound (x := .ra _) (y := .ra _) hr (by rfl) h)
  · exact hb
  · trivial
theorem lend_rel {J : Nat → Prop} (hJ : ∀ b, (I b ∨ ∃ i, S i b) → J b) (hJl : IL w J) (hb : BorR st a w J) : RelV st.lend a w J [] (fun _ _ => False) := by
  refine ⟨by simpa [St.lend] using hr.sz, rfl, fun t v u hv hu => ?_, by simp [St.lend], by simp, by simp, ?_⟩
  · simp only [St.lend, Sl.getElem?_map, Option.map_eq_some_iff] at hv
    obtain ⟨v', hv', rfl⟩ := hv
    exact lendAV_sound hr hJ (hr.slot t v' u hv' hu) (hb t v' u hv' hu)
  · exact hJl
end
def C.toB : C → C
  | .n (.v x) => .n (.v x)
  | .n x => .b x Option.none
  | .b _ _ => .u
  | x => x
def AV.toB : AV → AV
  | .c x => .c x.toB
  | .a cs => .a (cs.map C.toB)
  | .fn f cs => .fn f (cs.map C.toB)
  | .ra cs => .rb cs Option.none
  | _ => .dead
section
variable {w : World} {I J : Nat → Prop} {β : List Value}
theorem C.ZI {x : C} {v : Value} (h : CR w J [] x v) : CR w I β x.toB v ∧ CB w J x.toB v := by
  have h1 := CR.one h
  cases x with
  | n x =>
    cases x with
    | v x => cases h with | v h => exact ⟨Im.v h, trivial⟩
    | _ => exact ⟨h1, h⟩
  | h i => simp [CR] at h
  | p i off => simp [CR] at h
  | _ => exact ⟨h, trivial⟩
theorem Cs.ZI {cs : List C} {arr : Array Value} (h : CsR w J [] cs arr) : CsR w I β (cs.map C.toB) arr ∧ CsB w J (cs.map C.toB) arr := by
  refine ⟨⟨by simpa using h.1, fun j x v hx hv => ?_⟩, fun j x v hx hv => ?_⟩
  · simp only [List.getElem?_map, Option.map_eq_some_iff] at hx
    obtain ⟨y, hy, rfl⟩ := hx
    exact (C.ZI (h.2 j y v hy hv)).1
  · simp only [List.getElem?_map, Option.map_eq_some_iff] at hx
    obtain ⟨y, hy, rfl⟩ := hx
    exact (C.ZI (I := I) (β := β) (h.2 j y v hy hv)).2
theorem AV.ZI {x : AV} {v : Value} (h : AVR w J [] x v) : AVR w I β x.toB v ∧ AB w J x.toB v := by
  cases x with
  | c x => exact C.ZI h
  | a cs => obtain ⟨arr, rfl, h⟩ := h; exact ⟨⟨arr, rfl, (Cs.ZI h).1⟩, fun arr' e => by cases e; exact (Cs.ZI (I := I) (β := β) h).2⟩
  | fn f cs => obtain ⟨arr, rfl, h⟩ := h; exact ⟨⟨arr, rfl, (Cs.ZI h).1⟩, fun arr' e => by cases e; exact (Cs.ZI (I := I) (β := β) h).2⟩
  | ra cs => exact ⟨trivial, h⟩
  | _ => exact ⟨trivial, trivial⟩
end
def QPB (J : Nat → Prop) (w : World) (I : Nat → Prop) (β : List Value) (av : AV) (news : List Ob) (v : Value) (w' : World) : Prop :=
  ∃ (I' : Nat → Prop) (βn : List Value) (Sn : Nat → Nat → Prop),
    Fr (fun _ => False) w w' ∧ (∀ b, I b → I' b) ∧ (∀ b, I' b → I b ∨ w.heap.size ≤ b) ∧ (∀ b, I' b → b < w'.heap.size) ∧ βn.length = news.length ∧
    AVR w' I' (β ++ βn) av v ∧
    (∀ (k : Nat) (o : Ob) (b : Value), news[k]? = some o → βn[k]? = some b → ObR w' I' (β ++ βn) b (Sn k) o) ∧
    (∀ k b, Sn k b → k < news.length ∧ w.heap.size ≤ b ∧ b < w'.heap.size ∧ ¬ I' b) ∧ (∀ i j b, Sn i b → Sn j b → i = j) ∧
    AB w' (fun b => J b ∨ I' b) av v
section
variable {P : Program} {st : St} {a : Act} {w : World} {I : Nat → Prop} {β : List Value} {S : Nat → Nat → Prop} {c : Cx} {ρ : Type} {r : ρ}
theorem QPB.of {av : AV} {news : List Ob} {v : Value} {w' : World} (h : QPost st w I β S av news v w') (J : Nat → Prop) : QPB J w I β av.unb (news.map Ob.unb) v w' := by
  obtain ⟨I', βn, Sn, hfr, hI, hI2, hIl, hbn, hav, hob, hslt, hsd⟩ := h
  refine ⟨I', βn, Sn, hfr, hI, hI2, hIl, by simpa using hbn, hav.unb, fun k o b ho hb => ?_, fun k b hb => by simpa using hslt k b hb, hsd, AB_unb _ _⟩
  simp only [List.getElem?_map, Option.map_eq_some_iff] at ho
  obtain ⟨o', ho', rfl⟩ := ho
  exact (hob k o' b ho' hb).unb
theorem QPB.same (hr : RelV st a w I β S) {J : Nat → Prop} {av : AV} {v : Value} (h : AVR w I β av v) (hb : AB w J av v) : QPB J w I β av [] v w :=
  ⟨I, [], fun _ _ => False, Fr.refl _ _, fun _ h => h, fun _ h => .inl h, hr.ilt, rfl, by simpa using h, by simp, by simp, by simp, hb.mono (fun b hb => .inl hb) (fun _ _ => rfl)⟩
theorem ev_bor {J : Nat → Prop} (hb : BorR st a w J) (hr : RelV st a w I β S) (x : Operand) : AB w J (st.ev x) (a.eval x) := by
  cases x with
  | tmp t =>
    simp only [St.ev, St.get_eq, Act.eval]
    cases hs : st.slots[t]? with
    | none => trivial
    | some av =>
      have hlt : t < a.tmps.size := by rw [hr.sz]; exact (Sl.some_iff.1 hs).1
      have hc : a.tmps[t]? = some a.tmps[t] := Array.getElem?_eq_getElem hlt
      have := hb t av _ hs hc
      simpa [Array.getD, hlt] using this
  | const v =>
    simp only [St.ev]
    cases v with
    | agg cs =>
      simp only [constAV]
      split
      · intro arr e j x u hx hu
        simp only [List.getElem?_map, Option.map_eq_some_iff] at hx
        obtain ⟨y, hy, rfl⟩ := hx
        unfold zC
        split <;> trivial
      · trivial
    | tuple vs => trivial
    | slice A n c =>
      simp only [constAV, zC]
      split <;> trivial
    | _ => trivial
  | global g => trivial
  | func f => intro arr e j x u hx hu; simp at hx
theorem step_QPB (hr : RelV st a w I β S) (hc : RelC c st a w I β S) (hb : BorR st a w (fun b => I b ∨ ∃ i, S i b)) {av : AV} {news : List Ob} {v : Value} {w' : World} (hq : QPB (fun b => I b ∨ ∃ i, S i b) w I β av news v w') (d : Option Nat) :
    RelB c ((st.new news).put d av) (a.put d v) w' := by
  obtain ⟨I', βn, Sn, hfr, hI, hI2, hIl, hbn, hav, hob, hslt, hsd, hab⟩ := hq
  obtain ⟨h1, h2⟩ := step_core hr hc d hfr hI hI2 hIl hbn hav hob hslt hsd
  refine ⟨_, _, _, h1, h2, ?_⟩
  have hS : ∀ b, (∃ i, S i b) → ∃ i, (if i < st.obs.length then S i b else Sn (i - st.obs.length) b) := fun b ⟨i, hi⟩ => ⟨i, by rw [if_pos (hr.slt i b hi).1]; exact hi⟩
  have hJw : ∀ b, (I b ∨ ∃ i, S i b) → w'.heap[b]? = w.heap[b]? := by
    rintro b (hb | ⟨i, hb⟩)
    · exact hfr.block b (hr.ilt b hb) (fun h => h)
    · exact hfr.block b (hr.slt i b hb).2.1 (fun h => h)
  have hJ : ∀ b, (I b ∨ ∃ i, S i b) → (I' b ∨ ∃ i, (if i < st.obs.length then S i b else Sn (i - st.obs.length) b)) := by
    rintro b (hb | hb)
    · exact .inl (hI b hb)
    · exact .inr (hS b hb)
  have hn : AB w' (fun b => I' b ∨ ∃ i, (if i < st.obs.length then S i b else Sn (i - st.obs.length) b)) av v := by
    refine hab.mono ?_ (fun _ _ => rfl)
    rintro b (hb | hb)
    · exact hJ b hb
    · exact .inl hb
  intro t x u hx hu
  cases d with
  | none => exact (hb t x u hx hu).mono hJ hJw
  | some d =>
    have hx' : (st.slots.set d av)[t]? = some x := hx
    have hu' : (a.tmps.setIfInBounds d v)[t]? = some u := hu
    rw [Sl.getElem?_set] at hx'
    rw [Array.getElem?_setIfInBounds] at hu'
    split at hx'
    · rename_i he
      subst he
      rw [if_pos rfl] at hu'
      split at hx'
      · simp only [Option.some.injEq] at hx'
        subst hx'
        split at hu'
        · simp only [Option.some.injEq] at hu'
          subst hu'
          exact hn
        · cases hu'
      · cases hx'
    · rename_i he
      rw [if_neg he] at hu'
      exact (hb t x u hx' hu').mono hJ hJw
def isBor : AV → Bool
  | .c (.b _ _) => true
  | .rb _ _ => true
  | .a cs => cs.any fun c => match c with | .b _ _ => true | _ => false
  | _ => false
def N.isSl : N → Bool
  | .sl _ _ => true
  | _ => false
def rdArg : Op → Option Operand
  | .load _ x | .fieldAddr _ x _ | .field _ x _ | .indexAddr _ x _ | .nilCheck x | .slice _ x _ _ _ => some x
  | .call { callee := .builtin .len, args, .. } => args[0]?
  | _ => Option.none
def noNew {α : Type} : List α → Bool
  | [] => true
  | _ => false
def qBp {ρ : Type} (P : Program) (o : Oper) (st : St) (K : AV → List Ob → Option ρ) : Option ρ := qO P o st fun av news => K av.unb (news.map Ob.unb)
def qBl {ρ : Type} (P : Program) (o : Oper) (st : St) (K : AV → List Ob → Option ρ) : Option ρ := qO P o st.lend fun av news => chk (noNew news) (K av.toB [])
def loadE {ρ : Type} (P : Program) (o : Oper) (st : St) (t : TypeId) (x : AV) (K : AV → List Ob → Option ρ) : Option ρ :=
  match x with
  | .ea i sz idx f => match st.obj i with
    | .row sz' xs [] => sel ((((xs.g idx).drop f).take (tyOf P t).size).any N.isSl) (chk (decide (sz = sz')) (chk (decide (idx < xs.n)) ((loadC (tyOf P t) (((xs.g idx).drop f).map toC)).bind fun av => K av.toB []))) (qBp P o st K)
    | _ => Option.none
  | _ => qBp P o st K
def qB {ρ : Type} (P : Program) (o : Oper) (st : St) (K : AV → List Ob → Option ρ) : Option ρ :=
  match o.op with
  | .move x | .assign x => K (st.ev x) []
  | .pick c a b => pickO (st.ev c) (K (st.ev a) []) (K (st.ev b) [])
  | .load t x => sel (isBor (st.ev x)) (qBl P o st K) (loadE P o st t (st.ev x) K)
  | op => match rdArg op with
    | some x => sel (isBor (st.ev x)) (qBl P o st K) (qBp P o st K)
    | Option.none => qBp P o st K
theorem qBp_sound (hr : RelV st a w I β S) (J : Nat → Prop) {o : Oper} {K : AV → List Ob → Option ρ} (h : qBp P o st K = some r) :
    ∃ v w' av news, (execOp a.eval o).run P w = .ok (.value v) w' ∧ K av news = some r ∧ QPB J w I β av news v w' := by
  obtain ⟨v, w', av, news, h1, h2, h3⟩ := vcQ_sound hr (qO_vc h)
  exact ⟨v, w', _, _, h1, h2, QPB.of h3 J⟩
theorem qBl_sound (hr : RelV st a w I β S) {J : Nat → Prop} (hJ : ∀ b, (I b ∨ ∃ i, S i b) → J b) (hJl : IL w J) (hb : BorR st a w J) {o : Oper} {K : AV → List Ob → Option ρ} (h : qBl P o st K = some r) :
    ∃ v w' av news, (execOp a.eval o).run P w = .ok (.value v) w' ∧ K av news = some r ∧ QPB J w I β av news v w' := by
  obtain ⟨v, w', av, news, h1, h2, h3⟩ := vcQ_sound (lend_rel hr hJ hJl hb) (qO_vc h)
  obtain ⟨h4, h2⟩ := zM h2
  obtain rfl : news = [] := by
    unfold noNew at h4
    split at h4
    · rfl
    · cases h4
  refine ⟨v, w', _, _, h1, h2, ?_⟩
  obtain ⟨I', βn, Sn, hfr, hI, hI2, hIl, hbn, hav, -⟩ := h3
  obtain rfl : βn = [] := by simpa using hbn
  have hb' := AV.ZI (I := fun b => I b ∨ (I' b ∧ w.heap.size ≤ b)) (β := β ++ []) hav
  refine ⟨fun b => I b ∨ (I' b ∧ w.heap.size ≤ b), [], fun _ _ => False, hfr, fun _ h => .inl h, fun b h => h.imp_right (·.2), ?_, rfl, hb'.1, by simp, by simp, by simp, hb'.2.mono ?_ (fun _ _ => rfl)⟩
  · rintro b (hb | hb)
    · exact Nat.lt_of_lt_of_le (hr.ilt b hb) hfr.size
    · exact hIl b hb.1
  · intro b hb
    rcases hI2 b hb with h | h
    · exact .inl h
    · exact .inr (.inr ⟨hb, h⟩)
theorem loadE_sound (hr : RelV st a w I β S) {J : Nat → Prop} (hJ : ∀ b, (I b ∨ ∃ i, S i b) → J b) (hJl : IL w J) (hb : BorR st a w J) {o : Oper} {t : TypeId} {x : Operand} (ho : o.op = .load t x) {K : AV → List Ob → Option ρ} (h : loadE P o st t (st.ev x) K = some r) :
    ∃ v w' av news, (execOp a.eval o).run P w = .ok (.value v) w' ∧ K av news = some r ∧ QPB J w I β av news v w' := by
  unfold loadE at h
  split at h
  · rename_i i sz idx f hx
    split at h
    · rename_i sz' xs hobj
      cases hs : (((xs.g idx).drop f).take (tyOf P t).size).any N.isSl with
      | false => rw [hs] at h; exact qBp_sound hr J h
      | true =>
        rw [hs] at h
        obtain ⟨h1, h⟩ := zO (show chk _ _ = some r from h)
        obtain ⟨h2, h⟩ := zO h
        have hv := zL hr x
        rw [hx] at hv
        have hra : AVR w J [] (.ra ((xs.g idx).drop f)) (a.eval x) := AVR.mono (x := .ra _) (β := []) hJ (fun _ _ => rfl) (fun _ _ h => h) <| passA_sound (x := .ea i sz idx f) (y := .ra _) hr (by unfold passA; simp only [hobj]; exact ⟨h1, h2, trivial⟩) hv
        have hrl := lend_rel hr hJ hJl hb
        obtain ⟨av', hl, hK⟩ := is_iff (bind_some h)
        obtain ⟨v', av2, hrun, hK2, hav⟩ := load_sound (P := P) (t := t) hrl (av := .ra ((xs.g idx).drop f)) hra (K := fun x _ => x = av') (by simp only [loadK, hl, is_some])
        subst hK2
        have hb' := AV.ZI (I := I) (β := β) hav
        refine ⟨v', w, _, _, ?_, hK, QPB.same hr hb'.1 hb'.2⟩
        obtain ⟨dst, op, ty, pos, after, guard⟩ := o
        simp only at ho
        subst ho
        simp only [execOp, Sem.run_bind, hrun, Result.andThen_ok, Sem.run_pure]
    · cases h
  · exact qBp_sound hr J h
theorem qB_sound (hr : RelV st a w I β S) {J : Nat → Prop} (hJ : ∀ b, (I b ∨ ∃ i, S i b) → J b) (hJl : IL w J) (hb : BorR st a w J) {o : Oper} {K : AV → List Ob → Option ρ} (h : qB P o st K = some r) :
    ∃ v w' av news, (execOp a.eval o).run P w = .ok (.value v) w' ∧ K av news = some r ∧ QPB J w I β av news v w' := by
  unfold qB at h
  split at h
  · rename_i x hop
    refine ⟨_, w, _, _, ?_, h, QPB.same hr (zL hr x) (ev_bor hb hr x)⟩
    obtain ⟨dst, op, ty, pos, after, guard⟩ := o
    simp only at hop
    subst hop
    rfl
  · rename_i x hop
    refine ⟨_, w, _, _, ?_, h, QPB.same hr (zL hr x) (ev_bor hb hr x)⟩
    obtain ⟨dst, op, ty, pos, after, guard⟩ := o
    simp only at hop
    subst hop
    rfl
  · rename_i c x y hop
    obtain ⟨dst, op, ty, pos, after, guard⟩ := o
    simp only at hop
    subst hop
    unfold pickO at h
    split at h
    · rename_i b hc
      have h1 := zL hr c
      rw [hc] at h1
      have hbv := h1.val.1
      cases b with
      | true => exact ⟨_, w, _, _, by simp [execOp, hbv, asBool], h, QPB.same hr (zL hr x) (ev_bor hb hr x)⟩
      | false => exact ⟨_, w, _, _, by simp [execOp, hbv, asBool], h, QPB.same hr (zL hr y) (ev_bor hb hr y)⟩
    · cases h
  · rename_i t x hop
    cases hs : isBor (st.ev x) with
    | true => rw [hs] at h; exact qBl_sound hr hJ hJl hb h
    | false => rw [hs] at h; exact loadE_sound hr hJ hJl hb hop h
  · split at h
    · rename_i x hx
      cases hs : isBor (st.ev x) with
      | true => rw [hs] at h; exact qBl_sound hr hJ hJl hb h
      | false => rw [hs] at h; exact qBp_sound hr J h
    · exact qBp_sound hr J h
end
def fixC (z : Option ZE) : C → C
  | .z => match z with
    | some z => .n z.nil
    | Option.none => .z
  | x => x
def fixCs : List (Option ZE) → List C → List C
  | z :: zs, x :: xs => fixC z x :: fixCs zs xs
  | _, xs => xs
def fixZ (P : Program) (t : TypeId) : AV → AV
  | .c x => match (tyOf P t).zs with
    | [z] => .c (fixC z x)
    | _ => .c x
  | .a cs => .a (fixCs (tyOf P t).zs cs)
  | x => x
def fixZs (P : Program) : List TypeId → List AV → List AV
  | t :: ts, x :: xs => fixZ P t x :: fixZs P ts xs
  | _, xs => xs
def lendIC (st : St) : C → C
  | .n x => .n x
  | .h i => match st.obj i with
    | .fro sz xs => .n (.sl sz xs)
    | _ => .u
  | .z => .z
  | _ => .u
def lendI (st : St) : AV → AV
  | .c x => .c (lendIC st x)
  | .a cs => .a (cs.map (lendIC st))
  | .fn f cs => .fn f (cs.map (lendIC st))
  | .ra cs => .ra cs
  | _ => .dead
section
variable {P : Program} {w : World} {J : Nat → Prop}
theorem fixC_sound {z : Option ZE} {x : C} {v : Value} (h : CR w J [] x v) : CR w J [] (fixC z x) v := by
  unfold fixC
  split
  · split
    · obtain ⟨A, rfl⟩ := h
      exact Im.zero rfl A
    · exact h
  · exact h
theorem fixCs_sound : ∀ {zs : List (Option ZE)} {cs : List C} {arr : List Value}, arr.length = cs.length → (∀ (j : Nat) (x : C) (v : Value), cs[j]? = some x → arr[j]? = some v → CR w J [] x v) →
    (fixCs zs cs).length = cs.length ∧ ∀ (j : Nat) (x : C) (v : Value), (fixCs zs cs)[j]? = some x → arr[j]? = some v → CR w J [] x v
  | [], cs, arr, _, h => ⟨by simp [fixCs], by simpa [fixCs] using h⟩
  | z :: zs, [], arr, _, h => ⟨by simp [fixCs], by simp [fixCs]⟩
  | z :: zs, x :: cs, [], hl, h => by simp at hl
  | z :: zs, x :: cs, v :: arr, hl, h => by
    obtain ⟨e, ih⟩ := fixCs_sound (zs := zs) (cs := cs) (arr := arr) (by simpa using hl) (fun j x v hx hv => h (j + 1) x v (by simpa using hx) (by simpa using hv))
    refine ⟨by simp [fixCs, e], fun j y u hy hu => ?_⟩
    cases j with
    | zero =>
      simp [fixCs] at hy hu
      subst hy; subst hu
      exact fixC_sound (h 0 x _ rfl rfl)
    | succ j => exact ih j y u (by simpa [fixCs] using hy) (by simpa using hu)
theorem fixZ_sound {t : TypeId} {x : AV} {v : Value} (h : AVR w J [] x v) : AVR w J [] (fixZ P t x) v := by
  unfold fixZ
  split
  · split
    · exact fixC_sound h
    · exact h
  · obtain ⟨arr, rfl, hs, h⟩ := h
    obtain ⟨e, h'⟩ := fixCs_sound (zs := (tyOf P t).zs) (arr := arr.toList) (by simpa using hs) (fun j x v hx hv => h j x v hx (by simpa using hv))
    exact ⟨arr, rfl, by rw [hs, e], fun j x v hx hv => h' j x v hx (by simpa using hv)⟩
  · exact h
theorem fixZs_sound : ∀ {ts : List TypeId} {xs : List AV} {vs : List Value}, vs.length = xs.length → (∀ (j : Nat) (x : AV) (v : Value), xs[j]? = some x → vs[j]? = some v → AVR w J [] x v) →
    (fixZs P ts xs).length = xs.length ∧ ∀ (j : Nat) (x : AV) (v : Value), (fixZs P ts xs)[j]? = some x → vs[j]? = some v → AVR w J [] x v
  | [], xs, vs, _, h => ⟨by simp [fixZs], by simpa [fixZs] using h⟩
  | t :: ts, [], vs, _, h => ⟨by simp [fixZs], by simp [fixZs]⟩
  | t :: ts, x :: xs, [], hl, h => by simp at hl
  | t :: ts, x :: xs, v :: vs, hl, h => by
    obtain ⟨e, ih⟩ := fixZs_sound (ts := ts) (xs := xs) (vs := vs) (by simpa using hl) (fun j x v hx hv => h (j + 1) x v (by simpa using hx) (by simpa using hv))
    refine ⟨by simp [fixZs, e], fun j y u hy hu => ?_⟩
    cases j with
    | zero =>
      simp [fixZs] at hy hu
      subst hy; subst hu
      exact fixZ_sound (h 0 x _ rfl rfl)
    | succ j => exact ih j y u (by simpa [fixZs] using hy) (by simpa using hu)
end
section
variable {P : Program} {st : St} {a : Act} {w : World} {I : Nat → Prop} {β : List Value} {S : Nat → Nat → Prop} {c : Cx}
theorem lendIC_sound (hr : RelV st a w I β S) {x : C} {v : Value} (h : CR w I β x v) : CR w I [] (lendIC st x) v := by
  have h1 := CR.one h
  unfold lendIC
  split
  · exact h
  · split
    · rename_i ho
      exact (hr.hdr (v := v) h ho (by simp))
    · exact h1
  · exact h
  · exact h1
theorem lendI_sound (hr : RelV st a w I β S) {x : AV} {v : Value} (h : AVR w I β x v) : AVR w I [] (lendI st x) v := by
  have key : ∀ {cs : List C} {arr : Array Value}, CsR w I β cs arr → CsR w I [] (cs.map (lendIC st)) arr := fun h => ⟨by simpa using h.1, fun j x v hx hv => by
    simp only [List.getElem?_map, Option.map_eq_some_iff] at hx
    obtain ⟨y, hy, rfl⟩ := hx
    exact lendIC_sound hr (h.2 j y v hy hv)⟩
  unfold lendI
  split
  · exact lendIC_sound hr h
  · obtain ⟨arr, rfl, h⟩ := h; exact ⟨arr, rfl, key h⟩
  · obtain ⟨arr, rfl, h⟩ := h; exact ⟨arr, rfl, key h⟩
  · exact h
  · trivial
theorem call_quiet (hr : RelV st a w I β S) {f : FuncId} {args' : List AV} {vals : List Value} {sh : Bool} {R : AV → List Ob → Prop} {I0 : Nat → Prop} (hac : AC P f args' [] sh [] R)
    (hsh : sh = true → ∀ b, I0 b → I b) (hI0 : IL w I0) (hl : args'.length = vals.length) (hv : ∀ (t : Nat) (v : AV) (c : Value), args'[t]? = some v → vals[t]? = some c → AVR w I0 [] v c) :
    Goes P f vals.toArray w fun v w' => ∃ rv obs, R rv obs ∧ QPost st w I β S (rv.map (· + st.obs.length)) (obs.map (Ob.map (· + st.obs.length))) v w' := by
  have hrel : RelV ⟨Sl.of args', [], []⟩ ⟨vals.toArray, []⟩ w I0 [] (fun _ _ => False) :=
    ⟨by simp [hl], rfl, fun t v c hv' hc' => hv t v c (by simpa using hv') (by simpa using hc'), by simp, by simp, by simp, hI0⟩
  refine (hac w _ _ _ _ hrel).mono ?_
  rintro v w' ⟨rv, obs, v', I', β', S', hvv, hR, -, hav, hbl, hob, hsd, hslt, hI', -, hfr⟩
  obtain rfl : v = v' := by injection hvv
  have hfr' : Fr (fun _ => False) w w' := hfr.mono (by rintro x ⟨j, hj⟩; exact hj)
  have hfresh : ∀ b, I' b → I b ∨ w.heap.size ≤ b := fun b hb => by
    rcases (hI' b hb).2 with ⟨h1, h2⟩ | h | ⟨j, hj⟩
    · exact .inl (hsh h1 b h2)
    · exact .inr h
    · exact hj.elim
  have hσ : ∀ (i : Nat) (b : Value), β'[i]? = some b → (β ++ β')[i + st.obs.length]? = some b := by
    intro i b hb
    rw [List.getElem?_append_right (by rw [hr.bl]; omega), hr.bl]
    simpa using hb
  have hm : ∀ {x : AV} {u : Value}, AVR w' I' β' x u → AVR w' (fun b => I b ∨ I' b) β' x u := fun h => h.mono (fun _ h => .inr h) (fun _ _ => rfl) (fun _ _ h => h)
  refine ⟨rv, obs, hR, fun b => I b ∨ I' b, β', S', hfr', fun _ h => .inl h, ?_, ?_, by simp [hbl], (hm hav).map hσ, ?_, ?_, hsd⟩
  · rintro b (hb | hb)
    · exact .inl hb
    · exact hfresh b hb
  · rintro b (hb | hb)
    · exact Nat.lt_of_lt_of_le (hr.ilt b hb) hfr.size
    · exact (hI' b hb).1
  · intro k o b ho hb
    simp only [List.getElem?_map, Option.map_eq_some_iff] at ho
    obtain ⟨o', ho', rfl⟩ := ho
    exact ObR.map hσ ((hob k o' b ho' hb).mono (fun _ h => .inr h) (fun _ _ => rfl) (fun _ _ h => h) (fun _ _ => rfl) (fun _ h => h))
  · intro k b hb
    obtain ⟨h1, h2, h3, h4⟩ := hslt k b hb
    have h5 : w.heap.size ≤ b := h4.elim id (by rintro ⟨j, hj⟩; exact hj.elim)
    refine ⟨by simpa using h1, h5, h2, ?_⟩
    rintro (hI | hI)
    · have := hr.ilt b hI; omega
    · exact h3 hI
end
structure Orc where
  kd : FuncId → Nat
  q : (ρ : Type) → FuncId → List AV → (AV → List Ob → Option ρ) → Option ρ
  e : (ρ : Type) → FuncId → St → List AV → Option Nat → (St → Option ρ) → Option ρ
  op : List Nat
structure Orc.ok (P : Program) (G : Orc) : Prop where
  q : ∀ (ρ : Type) (f : FuncId) (args : List AV) (K : AV → List Ob → Option ρ) (r : ρ), G.q ρ f args K = some r → AC P f args [] (decide (G.kd f ≠ 0)) [] fun rv obs => K rv obs = some r
  nat : ∀ (ρ : Type) (f : FuncId) (args : List AV) (K : AV → List Ob → Option ρ), G.q ρ f args K = (G.q (AV × List Ob) f args fun a n => some (a, n)).bind fun p => K p.1 p.2
  e : ∀ (ρ : Type) (f : FuncId) (st : St) (caps : List C) (args : List AV) (dst : Option Nat) (K : St → Option ρ) (r : ρ),
    G.e ρ f st (args ++ caps.map .c) dst K = some r → callS P st (.fn f caps) args dst fun st' => K st' = some r
def qArgs (P : Program) (k : Nat) (st : St) (ts : List TypeId) (args : List AV) : List AV := fixZs P ts (args.map (match k with | 0 => lendAV st | _ => lendI st))
def qcall {ρ : Type} (P : Program) (G : Orc) (st : St) (f : AV) (args : List AV) (ts : List TypeId) (K : AV → List Ob → Option ρ) : Option ρ :=
  match f with
  | .fn g caps => chk (decide (G.kd g < 2)) (G.q ρ g (qArgs P (G.kd g) st ts (args ++ caps.map .c)) fun rv obs => K (rv.map (· + st.obs.length)).unb ((obs.map (Ob.map (· + st.obs.length))).map Ob.unb))
  | _ => Option.none
def stepQ {ρ : Type} (P : Program) (G : Orc) (o : Oper) (st : St) (K : AV → List Ob → Option ρ) : Option ρ :=
  match o.op with
  | .store _ _ _ => Option.none
  | .buildSlice t len parts => buildNewO P st t len (parts.toList.map fun p => (p.1, st.ev p.2)) fun av news => K av.unb (news.map Ob.unb)
  | .call { callee := .builtin .append, args, argTypes } => match args.toList, argTypes.toList with
    | [s, x], [t, t'] => chk (decide (t = t')) (appendNewO P st t (st.ev s) (st.ev x) fun av news => K av.unb (news.map Ob.unb))
    | _, _ => Option.none
  | .call { callee := .value f, args, argTypes } => qcall P G st (st.ev f) (args.toList.map st.ev) argTypes.toList K
  | _ => qB P o st K
section
variable {P : Program} {G : Orc} {st : St} {a : Act} {w : World} {I : Nat → Prop} {β : List Value} {S : Nat → Nat → Prop} {c : Cx} {ρ : Type} {r : ρ}
theorem AB_args {J : Nat → Prop} (hr : RelV st a w I β S) (hb : BorR st a w J) (args : List Operand) :
    ∀ (t : Nat) (v : AV) (c : Value), (args.map st.ev)[t]? = some v → (args.map a.eval)[t]? = some c → AB w J v c := by
  intro t v c hv hc
  simp only [List.getElem?_map, Option.map_eq_some_iff] at hv hc
  obtain ⟨x, hx, rfl⟩ := hv
  obtain ⟨y, hy, rfl⟩ := hc
  rw [hx] at hy
  obtain rfl := Option.some.inj hy
  exact ev_bor hb hr x
def GoesQ (P : Program) (o : Oper) (a : Act) (w : World) (Φ : Value → World → Prop) : Prop :=
  (∃ v w', (execOp a.eval o).run P w = .ok (.value v) w' ∧ Φ v w') ∨
  ∃ g args w1, (execOp a.eval o).run P w = .ok (.enter g args) w1 ∧ Calls P g args w1 fun e w' => ∃ v, e = .returned v ∧ Φ v w'
theorem GoesQ.wp {o : Oper} {Φ : Value → World → Prop} (h : GoesQ P o a w Φ) {next : Act → World → Prop} {Q : Exit → Act → World → Prop} (hn : ∀ v w', Φ v w' → next (a.put o.dst v) w') : o.wp P a w next Q := by
  unfold Oper.wp
  rcases h with ⟨v, w', h1, h2⟩ | ⟨g, args, w1, h1, h2⟩
  · rw [h1]; exact hn _ _ h2
  · rw [h1]
    refine h2.mono ?_
    rintro e w' ⟨v, rfl, h⟩
    exact hn _ _ h
theorem stepQ_sound (hG : G.ok P) (hr : RelV st a w I β S) {J : Nat → Prop} (hJ : ∀ b, (I b ∨ ∃ i, S i b) → J b) (hJl : IL w J) (hb : BorR st a w J) {o : Oper} {K : AV → List Ob → Option ρ} (h : stepQ P G o st K = some r) :
    GoesQ P o a w fun v w' => ∃ av news, K av news = some r ∧ QPB J w I β av news v w' := by
  unfold stepQ at h
  split at h
  · cases h
  · rename_i t len parts hop
    obtain ⟨v, w', av, news, h1, h2, h3⟩ := buildNew_sound hr (buildNewO_vc h)
    exact .inl ⟨v, w', by simp [execOp, hop, h1], av.unb, news.map Ob.unb, h2, QPB.of h3 J⟩
  · rename_i args ats hop
    split at h
    · rename_i s x t t' hl1 hl2
      obtain ⟨htt, hh⟩ := zO h
      clear h
      subst htt
      obtain ⟨arl⟩ := args
      obtain ⟨atl⟩ := ats
      simp only at hl1 hl2
      subst hl1; subst hl2
      obtain ⟨v, w', av, news, h1, h2, h3⟩ := appendNewO_sound (ty := o.type) hr (zL hr s) (zL hr x) hh
      have h1' : (Builtin.append_ { toList := [t, t] } o.type #[a.eval s, a.eval x]).run P w = .ok v w' := h1
      exact .inl ⟨v, w', by simp [execOp, hop, resolve, invoke, builtin, h1'], av.unb, news.map Ob.unb, h2, QPB.of h3 J⟩
    · cases h
  · rename_i f args ts hop
    unfold qcall at h
    split at h
    · rename_i g caps hf
      obtain ⟨hk, h⟩ := zO h
      have hfv := zL hr f
      have hfb := ev_bor hb hr f
      rw [hf] at hfv hfb
      obtain ⟨arr, hfe, harr⟩ := hfv
      have hcb := hfb arr hfe
      obtain ⟨dst, op, ty, pos, after, guard⟩ := o
      simp only at hop
      subst hop
      let vals := args.toList.map a.eval ++ arr.toList
      have hlen : (args.toList.map st.ev ++ caps.map AV.c).length = vals.length := by simp [vals, harr.1]
      have hargs : ∀ (t : Nat) (v : AV) (c : Value), (args.toList.map st.ev ++ caps.map AV.c)[t]? = some v → vals[t]? = some c → AVR w I β v c ∧ AB w J v c := by
        intro t v c hv' hc'
        rcases Nat.lt_or_ge t (args.toList.map st.ev).length with ht | ht
        · rw [List.getElem?_append_left ht] at hv'
          rw [List.getElem?_append_left (by simpa using ht)] at hc'
          exact ⟨args_sound hr _ t v c hv' hc', AB_args hr hb _ t v c hv' hc'⟩
        · rw [List.getElem?_append_right ht] at hv'
          rw [List.getElem?_append_right (by simpa using ht)] at hc'
          simp only [List.getElem?_map, Option.map_eq_some_iff] at hv'
          obtain ⟨y, hy, rfl⟩ := hv'
          have hc'' : arr[t - (args.toList.map st.ev).length]? = some c := by simpa using hc'
          exact ⟨harr.2 _ y c hy hc'', hcb _ y c hy hc''⟩
      have hac := hG.q _ _ _ _ _ h
      have hgo : Goes P g vals.toArray w fun v w' => ∃ av news, K av news = some r ∧ QPB J w I β av news v w' := by
        by_cases hk0 : G.kd g = 0
        · rw [hk0] at hac
          have hac' : AC P g (fixZs P ts.toList ((args.toList.map st.ev ++ caps.map AV.c).map (lendAV st))) [] false [] fun rv obs => K (rv.map (· + st.obs.length)).unb ((obs.map (Ob.map (· + st.obs.length))).map Ob.unb) = some r := hac
          obtain ⟨e, hs⟩ := fixZs_sound (P := P) (w := w) (J := J) (ts := ts.toList) (xs := (args.toList.map st.ev ++ caps.map AV.c).map (lendAV st)) (vs := vals) (by rw [List.length_map]; exact hlen.symm) (fun j x v hx hv => by
            simp only [List.getElem?_map, Option.map_eq_some_iff] at hx
            obtain ⟨y, hy, rfl⟩ := hx
            exact lendAV_sound hr hJ (hargs j y v hy hv).1 (hargs j y v hy hv).2)
          refine (call_quiet (vals := vals) hr hac' (I0 := J) (by simp) hJl ?_ hs).mono ?_
          · show (fixZs P ts.toList _).length = _
            rw [e, List.length_map]; exact hlen
          · rintro v w' ⟨rv, obs, hK, hq⟩
            exact ⟨_, _, hK, QPB.of hq J⟩
        · have hm : qArgs P (G.kd g) st ts.toList (args.toList.map st.ev ++ caps.map AV.c) = fixZs P ts.toList ((args.toList.map st.ev ++ caps.map AV.c).map (lendI st)) := by
            unfold qArgs
            split
            · rename_i h0; exact absurd h0 hk0
            · rfl
          rw [hm] at hac
          obtain ⟨e, hs⟩ := fixZs_sound (P := P) (w := w) (J := I) (ts := ts.toList) (xs := (args.toList.map st.ev ++ caps.map AV.c).map (lendI st)) (vs := vals) (by rw [List.length_map]; exact hlen.symm) (fun j x v hx hv => by
            simp only [List.getElem?_map, Option.map_eq_some_iff] at hx
            obtain ⟨y, hy, rfl⟩ := hx
            exact lendI_sound hr (hargs j y v hy hv).1)
          refine (call_quiet (vals := vals) hr hac (I0 := I) (fun _ b h => h) hr.il ?_ hs).mono ?_
          · rw [e, List.length_map]; exact hlen
          · rintro v w' ⟨rv, obs, hK, hq⟩
            exact ⟨_, _, hK, QPB.of hq J⟩
      have e : vals.toArray = args.map a.eval ++ arr := by
        apply Array.ext'
        simp [vals]
      rw [e] at hgo
      unfold GoesQ
      simp only [execOp, resolve, hfe, Deferred.ofValue, invoke, Sem.run_bind, Sem.run_pure, Result.andThen_ok, Array.empty_append]
      rcases hgo with ⟨w1, h1, h2⟩ | ⟨v, w', h1, h2⟩
      · exact .inr ⟨_, _, _, h1, h2⟩
      · exact .inl ⟨_, _, h1, h2⟩
    · cases h
  · obtain ⟨v, w', av, news, h1, h2, h3⟩ := qB_sound hr hJ hJl hb h
    exact .inl ⟨v, w', h1, av, news, h2, h3⟩
end
theorem open_rel {P : Program} {st : St} {a : Act} {w : World} {c : Cx} {I : Nat → Prop} {β : List Value} {S : Nat → Nat → Prop} (hr : RelV st a w I β S) (hc : RelC c st a w I β S) {i sz idx f z : Nat} {xs ys : Rw N}
    (hobj : st.obj i = .row sz xs []) (hi : idx < xs.n) (hy : (xs.g idx)[f]? = some (.sl z ys)) {g n cap : Nat} (hb : β[i]? = some (.slice (some ⟨g, 0, none⟩) n cap)) :
    ∃ v, w.cell? ⟨g, idx * sz + f, none⟩ = some v ∧ v.oneCell' = true ∧ ∃ S', RelV { st with obs := st.obs.set i (.row sz xs [(idx, f, some st.obs.length)]) ++ [.row z ys []] } a w I (β ++ [v]) S' ∧
      RelC c { st with obs := st.obs.set i (.row sz xs [(idx, f, some st.obs.length)]) ++ [.row z ys []] } a w I (β ++ [v]) S' := by
  have hio := obj_some hobj (by simp)
  have hil : i < st.obs.length := (List.getElem?_eq_some_iff.1 hio).1
  have hat : at2 xs idx f = some (.sl z ys) := by rw [at2_of hi]; exact hy
  rcases hr.ob i _ _ hio hb with ⟨h0, -⟩ | ⟨g', cap', e, cur, fr, co, F, hbe, hu, hn, hcap, hm, hg, hh, hfr, hs, hco, H, -, hF, hD⟩
  · omega
  · simp only [Value.slice.injEq, Option.some.injEq, Addr.mk.injEq] at hbe
    obtain ⟨⟨rfl, -⟩, rfl, rfl⟩ := hbe
    have hno : ∀ i j, ¬ isHole [] i j := by rintro i j ⟨k, hk⟩; cases hk
    have hown := H idx f _ hat (hno _ _)
    have hone := hown.one
    refine ⟨co idx f, by rw [ZG hh]; exact hco _ _ _ hat, hone, ?_⟩
    have hβ : ∀ (j : Nat) (b : Value), β[j]? = some b → (β ++ [co idx f])[j]? = some b := fun j b hb => by rw [List.getElem?_append_left (List.getElem?_eq_some_iff.1 hb).1]; exact hb
    have hlen : (st.obs.set i (.row sz xs [(idx, f, some st.obs.length)])).length = st.obs.length := List.length_set
    refine ⟨fun k b => if k = i then S i b ∧ ¬ F idx f b else if k = st.obs.length then F idx f b else S k b, ⟨hr.sz, by simp [hr.bl], fun t v u hv hu => (hr.slot t v u hv hu).mono (fun _ h => h) (fun _ _ => rfl) hβ, fun k o b ho hb' => ?_, fun k j b h1 h2 => ?_, fun k b h1 => ?_, hr.il⟩,
      ⟨fun k b h1 => ?_, hc.isub, hc.iinv, hc.frame, fun k h1 h2 => by rw [List.getElem?_append_left (hc.klt h1 h2)]; exact hc.keep k h1 h2, hc.defers⟩⟩
    · -- the objects
      by_cases hk : k = i
      · subst hk
        rw [List.getElem?_append_left (by rw [hlen]; exact hil), List.getElem?_set_self hil] at ho
        rw [hβ _ _ hb] at hb'
        obtain rfl := Option.some.inj ho
        obtain rfl := Option.some.inj hb'
        refine .inr ⟨g, cap, e, cur, fr, co, fun i' j' b => ¬ (i' = idx ∧ j' = f) ∧ F i' j' b, rfl, hu, hn, hcap, hm, ?_, hh, hfr, hs, hco, fun i' j' x hx hne => ?_, fun i' j' k' hk' => ?_, fun i' j' b hb2 => ?_, fun i' j' i2 j2 b h1 h2 => hD i' j' i2 j2 b h1.2 h2.2⟩
        · simp only [if_true]; exact ⟨hg, fun h => (hF _ _ _ h).2 rfl⟩
        · have hne' : ¬ (i' = idx ∧ j' = f) := fun h => hne ⟨some st.obs.length, by simp [h.1, h.2]⟩
          exact (H i' j' x hx (hno _ _)).mono (fun _ h => h) (fun _ _ => rfl) (fun _ _ => rfl) (fun b h => ⟨hne', h⟩)
        · simp only [List.mem_singleton, Prod.mk.injEq, Option.some.injEq] at hk'
          obtain ⟨rfl, rfl, rfl⟩ := hk'
          exact ⟨by rw [← hr.bl]; simp, hone⟩
        · simp only [if_true]
          exact ⟨⟨(hF _ _ _ hb2.2).1, fun h => hb2.1 (hD _ _ _ _ _ hb2.2 h)⟩, (hF _ _ _ hb2.2).2⟩
      · by_cases hk2 : k = st.obs.length
        · subst hk2
          rw [List.getElem?_append_right (by rw [hlen]; exact Nat.le_refl _), hlen, Nat.sub_self] at ho
          rw [List.getElem?_append_right (by rw [hr.bl]; exact Nat.le_refl _), hr.bl, Nat.sub_self] at hb'
          obtain rfl := Option.some.inj ho
          obtain rfl := Option.some.inj hb'
          simp only [hk, if_false, if_true]
          exact RowR.of_own hown
        · have hkl : k < st.obs.length := by
            have := (List.getElem?_eq_some_iff.1 ho).1
            simp at this; omega
          rw [List.getElem?_append_left (by rw [hlen]; exact hkl), List.getElem?_set_ne (fun h => hk h.symm)] at ho
          rw [List.getElem?_append_left (by rw [hr.bl]; exact hkl)] at hb'
          simp only [hk, hk2, if_false]
          exact (hr.ob k o b ho hb').mono (fun _ h => h) (fun _ _ => rfl) hβ (fun _ _ => rfl) (fun _ h => h)
    · have key : ∀ k b, (if k = i then S i b ∧ ¬ F idx f b else if k = st.obs.length then F idx f b else S k b) → (k = st.obs.length ∧ F idx f b) ∨ (k < st.obs.length ∧ S k b ∧ (k = i → ¬ F idx f b)) := by
        intro k b h
        split at h
        · rename_i e; subst e; exact .inr ⟨hil, h.1, fun _ => h.2⟩
        · rename_i e; split at h
          · rename_i e2; exact .inl ⟨e2, h⟩
          · exact .inr ⟨(hr.slt k b h).1, h, fun h2 => absurd h2 e⟩
      rcases key k b h1 with ⟨e1, f1⟩ | ⟨l1, s1, n1⟩ <;> rcases key j b h2 with ⟨e2, f2⟩ | ⟨l2, s2, n2⟩
      · rw [e1, e2]
      · have := hr.sdis j i b s2 (hF _ _ _ f1).1; exact absurd f1 (n2 this)
      · have := hr.sdis k i b s1 (hF _ _ _ f2).1; exact absurd f2 (n1 this)
      · exact hr.sdis k j b s1 s2
    · simp only [List.length_append, hlen, List.length_singleton]
      split at h1
      · rename_i e; subst e; obtain ⟨q1, q2, q3⟩ := hr.slt k b h1.1; exact ⟨by omega, q2, q3⟩
      · split at h1
        · rename_i e; obtain ⟨q1, q2, q3⟩ := hr.slt i b (hF _ _ _ h1).1; exact ⟨by omega, q2, q3⟩
        · obtain ⟨q1, q2, q3⟩ := hr.slt k b h1; exact ⟨by omega, q2, q3⟩
    · split at h1
      · exact hc.own i b h1.1
      · split at h1
        · exact hc.own i b (hF _ _ _ h1).1
        · exact hc.own k b h1
def closeAt (st : St) (i : Nat) : St := match st.obj i with
  | .row sz xs [(idx, f, some k)] => match st.obj k with
    | .row z ys [] => sel (decide (f < (xs.g idx).length ∧ k ≠ i)) { st with obs := (st.obs.set i (.row sz (xs.set idx (setAt (xs.g idx) f [.sl z ys])) [])).set k .none } st
    | _ => st
  | _ => st
def closeAll (st : St) : St := (List.range st.obs.length).foldl closeAt st
theorem closeAt_rel (st : St) (i : Nat) {cx : Cx} {a : Act} {w : World} {I : Nat → Prop} {β : List Value} {S : Nat → Nat → Prop} (hr : RelV st a w I β S) (hc : RelC cx st a w I β S) : ∃ S', (∀ j b, S' j b → ∃ j', S j' b) ∧ RelV (closeAt st i) a w I β S' ∧ RelC cx (closeAt st i) a w I β S' := by
  have same : ∃ S', (∀ j b, S' j b → ∃ j', S j' b) ∧ RelV st a w I β S' ∧ RelC cx st a w I β S' := ⟨S, fun j b h => ⟨j, h⟩, hr, hc⟩
  unfold closeAt
  split
  · rename_i sz xs idx f k hobj
    split
    · rename_i z ys hk
      by_cases hcond : f < (xs.g idx).length ∧ k ≠ i
      · rw [decide_eq_true hcond]
        obtain ⟨hf, hki⟩ := hcond
        have hio := obj_some hobj (by simp)
        have hko := obj_some hk (by simp)
        have hil : i < st.obs.length := (List.getElem?_eq_some_iff.1 hio).1
        have hkl : k < st.obs.length := (List.getElem?_eq_some_iff.1 hko).1
        refine ⟨fun j b => if j = i then S i b ∨ S k b else (j ≠ k ∧ S j b), fun j b h1 => ?_, ⟨hr.sz, by simpa [sel] using hr.bl, hr.slot, fun j o b ho hb => ?_, fun j j' b h1 h2 => ?_, fun j b h1 => ?_, hr.il⟩, ⟨fun j b h1 => ?_, hc.isub, hc.iinv, hc.frame, hc.keep, hc.defers⟩⟩
        · change (if j = i then S i b ∨ S k b else (j ≠ k ∧ S j b)) at h1
          split at h1
          · rcases h1 with h1 | h1
            · exact ⟨_, h1⟩
            · exact ⟨_, h1⟩
          · exact ⟨_, h1.2⟩
        · simp only [sel] at ho
          by_cases hj : j = k
          · subst hj
            rw [List.getElem?_set_self (by rw [List.length_set]; exact hkl)] at ho
            obtain rfl := Option.some.inj ho
            trivial
          · rw [List.getElem?_set_ne (fun h => hj h.symm)] at ho
            by_cases hji : j = i
            · subst hji
              rw [List.getElem?_set_self hil] at ho
              obtain rfl := Option.some.inj ho
              rcases hr.ob j _ b hio hb with ⟨h0, hA⟩ | ⟨g, cap, e, cur, fr, co, F, hbe, hu, hn, hcap, hm, hg, hh, hfr, hs, hco, H, hhole, hF, hD⟩
              · exact .inl ⟨h0, hA⟩
              · obtain ⟨hbk, hone⟩ := hhole idx f k (by simp)
                have hown : Own w I (.sl z ys) (co idx f) (S k) := RowR.own (hr.ob k _ _ hko hbk)
                have hle : f + [N.sl z ys].length ≤ (xs.g idx).length := by simp; omega
                have hset : ∀ i' j', at2 (xs.set idx (setAt (xs.g idx) f [.sl z ys])) i' j' = if idx < xs.n ∧ i' = idx ∧ j' = f then some (.sl z ys) else at2 xs i' j' := by
                  intro i' j'
                  by_cases hin : idx < xs.n
                  · rw [at2_set hin]
                    by_cases hi' : i' = idx
                    · subst hi'
                      rw [if_pos rfl, setAt_get hle]
                      by_cases hj' : j' = f
                      · subst hj'
                        rw [if_pos ⟨Nat.le_refl _, by simp⟩, if_pos ⟨hin, rfl, rfl⟩]
                        simp
                      · rw [if_neg (by simp; omega), if_neg (fun h => hj' h.2.2), at2_of hin]
                    · rw [if_neg hi', if_neg (fun h => hi' h.2.1)]
                  · rw [if_neg (fun h => hin h.1)]
                    rw [Rw.set_eq]
                    unfold at2
                    simp only
                    by_cases h9 : i' < xs.n
                    · rw [if_pos h9, if_pos h9, if_neg (by omega)]
                    · rw [if_neg h9, if_neg h9]
                have hex : ∀ i' j' x, at2 (xs.set idx (setAt (xs.g idx) f [.sl z ys])) i' j' = some x → ∃ y, at2 xs i' j' = some y := by
                  intro i' j' x hx
                  rw [hset] at hx
                  split at hx
                  · rename_i h; obtain ⟨h1, rfl, rfl⟩ := h
                    exact ⟨_, by rw [at2_of h1]; exact List.getElem?_eq_getElem hf⟩
                  · exact ⟨x, hx⟩
                refine .inr ⟨g, cap, e, cur, fr, co, fun i' j' b => (i' = idx ∧ j' = f ∧ S k b) ∨ (¬ (i' = idx ∧ j' = f) ∧ F i' j' b), ?_, ?_, ?_, ?_, hm, (by simp only [if_true]; exact .inl hg), hh, hfr, hs, fun i' j' x hx => ?_, fun i' j' x hx _ => ?_, fun i' j' k' hk' => (by cases hk'), fun i' j' b hb2 => ?_, fun i' j' i2 j2 b h1 h2 => ?_⟩
                · rw [Rw.set_eq]; exact hbe
                · intro q hq
                  have hq' : q < xs.n := by rw [Rw.set_eq] at hq; exact hq
                  rw [Rw.set_eq]
                  simp only
                  split
                  · rename_i h; subst h; rw [setAt_length hle]; exact hu q hq'
                  · exact hu q hq'
                · rw [Rw.set_eq]; exact hn
                · rw [Rw.set_eq]; exact hcap
                · obtain ⟨y, hy⟩ := hex i' j' x hx
                  exact hco i' j' y hy
                · rw [hset] at hx
                  by_cases he : i' = idx ∧ j' = f
                  · obtain ⟨rfl, rfl⟩ := he
                    have hin : i' < xs.n := Classical.byContradiction fun hh' => by
                      rw [if_neg (fun h => hh' h.1)] at hx
                      unfold at2 at hx
                      rw [if_neg hh'] at hx
                      cases hx
                    rw [if_pos ⟨hin, rfl, rfl⟩] at hx
                    obtain rfl := Option.some.inj hx
                    exact hown.mono (fun _ h => h) (fun _ _ => rfl) (fun _ _ => rfl) (fun b h => .inl ⟨rfl, rfl, h⟩)
                  · rw [if_neg (fun h => he h.2)] at hx
                    exact (H i' j' x hx (by rintro ⟨q, hq⟩; simp at hq; exact he ⟨hq.1, hq.2.1⟩)).mono (fun _ h => h) (fun _ _ => rfl) (fun _ _ => rfl) (fun b h => .inr ⟨he, h⟩)
                · rcases hb2 with ⟨-, -, h⟩ | ⟨-, h⟩
                  · refine ⟨by simp only [if_true]; exact .inr h, fun e2 => ?_⟩
                    subst e2
                    exact hki (hr.sdis _ _ _ h hg)
                  · exact ⟨by simp only [if_true]; exact .inl (hF _ _ _ h).1, (hF _ _ _ h).2⟩
                · rcases h1 with ⟨r1, r2, h1⟩ | ⟨n1, h1⟩ <;> rcases h2 with ⟨r3, r4, h2⟩ | ⟨n2, h2⟩
                  · exact ⟨r1.trans r3.symm, r2.trans r4.symm⟩
                  · exact absurd (hr.sdis _ _ _ h1 (hF _ _ _ h2).1) hki
                  · exact absurd (hr.sdis _ _ _ h2 (hF _ _ _ h1).1) hki
                  · exact hD _ _ _ _ _ h1 h2
            · rw [List.getElem?_set_ne (fun h => hji h.symm)] at ho
              simp only [hji, if_false]
              exact (hr.ob j o b ho hb).mono (fun _ h => h) (fun _ _ => rfl) (fun _ _ h => h) (fun _ _ => rfl) (fun _ h => ⟨hj, h⟩)
        · split at h1 <;> split at h2
          · rename_i e1 e2; rw [e1, e2]
          · rename_i e1 e2
            rcases h1 with h1 | h1
            · exact absurd (hr.sdis _ _ _ h2.2 h1) e2
            · exact absurd (hr.sdis _ _ _ h2.2 h1) h2.1
          · rename_i e1 e2
            rcases h2 with h2 | h2
            · exact absurd (hr.sdis _ _ _ h1.2 h2) e1
            · exact absurd (hr.sdis _ _ _ h1.2 h2) h1.1
          · exact hr.sdis _ _ _ h1.2 h2.2
        · simp only [sel, List.length_set]
          split at h1
          · rename_i e1; subst e1
            rcases h1 with h1 | h1
            · exact hr.slt j b h1
            · obtain ⟨-, q2, q3⟩ := hr.slt k b h1; exact ⟨hil, q2, q3⟩
          · exact hr.slt j b h1.2
        · split at h1
          · rcases h1 with h1 | h1
            · exact hc.own i b h1
            · exact hc.own k b h1
          · exact hc.own j b h1.2
      · rw [decide_eq_false hcond]
        exact same
    · exact same
  · exact same
theorem closeAt_slots (st : St) (i : Nat) : (closeAt st i).slots = st.slots := by
  unfold closeAt
  split
  · rename_i sz xs idx f k hobj
    split
    · cases decide (f < (xs.g idx).length ∧ k ≠ i) <;> rfl
    · rfl
  · rfl
theorem closeAll_rel (st : St) {cx : Cx} {a : Act} {w : World} {I : Nat → Prop} {β : List Value} {S : Nat → Nat → Prop} (hr : RelV st a w I β S) (hc : RelC cx st a w I β S) : ∃ S', (∀ j b, S' j b → ∃ j', S j' b) ∧ RelV (closeAll st) a w I β S' ∧ RelC cx (closeAll st) a w I β S' := by
  unfold closeAll
  have key : ∀ (l : List Nat) (s : St) (S : Nat → Nat → Prop), RelV s a w I β S → RelC cx s a w I β S → ∃ S', (∀ j b, S' j b → ∃ j', S j' b) ∧ RelV (l.foldl closeAt s) a w I β S' ∧ RelC cx (l.foldl closeAt s) a w I β S' := by
    intro l
    induction l with
    | nil => exact fun s S hr hc => ⟨S, fun j b h => ⟨j, h⟩, hr, hc⟩
    | cons i l ih =>
      intro s S hr hc
      obtain ⟨S1, h1, hr1, hc1⟩ := closeAt_rel s i hr hc
      obtain ⟨S2, h2, hr2, hc2⟩ := ih _ S1 hr1 hc1
      exact ⟨S2, fun j b h => by obtain ⟨j', h'⟩ := h2 j b h; exact h1 j' b h', hr2, hc2⟩
  exact key _ _ S hr hc
theorem closeAll_slots (st : St) : (closeAll st).slots = st.slots := by
  unfold closeAll
  have key : ∀ (l : List Nat) (s : St), (l.foldl closeAt s).slots = s.slots := by
    intro l
    induction l with
    | nil => exact fun s => rfl
    | cons i l ih => exact fun s => (ih _).trans (closeAt_slots s i)
  exact key _ _
theorem closeAll_le (st : St) : StLe st (closeAll st) := by
  rintro cx a w ⟨I, β, S, hr, hc⟩
  obtain ⟨S', -, hr', hc'⟩ := closeAll_rel st hr hc
  exact ⟨I, β, S', hr', hc'⟩
def fillO {ρ : Type} (P : Program) (st : St) (t : TypeId) (addr av : AV) (A : Option ρ) (K : St → Option ρ) : Option ρ :=
  match addr with
  | .ea i sz idx f => match av with
    | .c (.h q) => match st.obj i with
      | .row sz' xs [(hi, hf, _)] => chk (decide (sz = sz')) (chk (decide (idx = hi)) (chk (decide (f = hf)) (chk (decide (idx < xs.n)) (chk (decide (f < (xs.g idx).length)) (chk ((tyOf P t).ok && decide ((tyOf P t).size = 1))
          (K { st with obs := st.obs.set i (.row sz' xs [(idx, f, some q)]) }))))))
      | _ => A
    | _ => A
  | _ => A
def frzS (st : St) (x : Operand) : St := match x with
  | .tmp t => match st.get t with
    | .c (.h i) => match st.obj i with
      | .row sz xs [] => ({ st with slots := st.slots.set t (.c (.n (.sl sz xs))), obs := st.obs.set i (.fro sz xs) } : St).unb
      | .fro sz xs => ({ st with slots := st.slots.set t (.c (.n (.sl sz xs))) } : St).unb
      | _ => st
    | _ => st
  | _ => st
def frzK {ρ : Type} (st : St) (x : Operand) (K : St → Option ρ) : Option ρ := K (frzS st x)
def memN : List Nat → Nat → Bool
  | [], _ => false
  | x :: l, y => match Nat.beq x y with | true => true | false => memN l y
def opens (l : List Nat) (d : Option Nat) : Bool := match d with
  | some t => memN l t
  | Option.none => false
def someN : List Nat → Bool
  | [] => false
  | _ => true
def openO {ρ : Type} (P : Program) (o : Oper) (t : TypeId) (x : AV) (st : St) (A : Option ρ) (K : St → Option ρ) : Option ρ :=
  match x with
  | .ea i sz idx f => match st.obj i with
    | .row sz' xs [] => match (xs.g idx)[f]? with
      | some (.sl z ys) => chk (decide (sz = sz')) (chk (decide (idx < xs.n)) (chk ((tyOf P t).ok && !(tyOf P t).agg)
          (K (({ st with obs := st.obs.set i (.row sz' xs [(idx, f, some st.obs.length)]) ++ [.row z ys []] } : St).put o.dst (.c (.h st.obs.length))))))
      | _ => A
    | _ => A
  | _ => A
theorem openO_sound {P : Program} {st : St} {a : Act} {w : World} {c : Cx} {ρ : Type} {r : ρ} {o : Oper} {t : TypeId} {x : Operand} (ho : o.op = .load t x) {A : Option ρ} {K : St → Option ρ} (h : openO P o t (st.ev x) st A K = some r) (hrel : Rel c st a w) :
    A = some r ∨ ∃ v st', (execOp a.eval o).run P w = .ok (.value v) w ∧ K st' = some r ∧ Rel c st' (a.put o.dst v) w := by
  unfold openO at h
  split at h
  · rename_i i sz idx f hx
    split at h
    · rename_i sz' xs hobj
      split at h
      · rename_i z ys hy
        right
        obtain ⟨h1, h⟩ := zO h
        obtain ⟨h2, h⟩ := zO h
        obtain ⟨h3, h⟩ := zM h
        subst h1
        obtain ⟨I, β, S, hr, hc⟩ := hrel
        have hv := zL hr x
        rw [hx] at hv
        obtain ⟨g, n, cap, hg, hp⟩ := hv
        obtain ⟨v, hcell, hone, S', hr', hc'⟩ := open_rel (P := P) hr hc hobj h2 hy hg
        have hk : (β ++ [v])[st.obs.length]? = some v := by rw [← hr.bl]; simp
        rw [Bool.and_eq_true, Bool.not_eq_true'] at h3
        have hl : loadC (tyOf P t) [.h st.obs.length] = some (.c (.h st.obs.length)) := by
          unfold loadC; rw [if_pos h3.1, if_neg (by rw [h3.2]; simp)]
        obtain ⟨v', hrun, hav⟩ := loadC_sound (w := w) (I := I) (β := β ++ [v]) hl ⟨g, idx * sz + f, none⟩ (fun _ => v) (fun j y hy => by
            have hj : j = 0 := by
              have := (List.getElem?_eq_some_iff.1 hy).1
              simp at this; exact this
            subst hj
            rw [add00]
            exact hcell) (fun j y hy => by
            have hj : j = 0 := by
              have := (List.getElem?_eq_some_iff.1 hy).1
              simp at this; exact this
            subst hj
            obtain rfl := Option.some.inj hy
            exact ⟨hk, hone⟩)
        obtain rfl : v' = v := by have := hav.1; rw [hk] at this; exact (Option.some.inj this).symm
        refine ⟨v', _, ?_, h, I, β ++ [v'], S', hr'.put o.dst hav, hc'.put o.dst _ _⟩
        obtain ⟨dst, op, ty, pos, after, guard⟩ := o
        simp only at ho
        subst ho
        have hrun2 : (Instr.loadAt t (a.eval x)).run P w = .ok v' w := by rw [hp]; simpa [Instr.loadAt, Instr.sureAddr] using hrun
        simp only [execOp, Sem.run_bind, hrun2, Result.andThen_ok, Sem.run_pure]
      · exact .inl h
    · exact .inl h
  · exact .inl h
inductive Loc where
  | s (t : Nat)
  | a (t j : Nat)
  | p (t j : Nat)
def St.getC (st : St) : Loc → Option C
  | .s t => match st.get t with
    | .c x => some x
    | _ => Option.none
  | .a t j => match st.get t with
    | .a cs => cs[j]?
    | _ => Option.none
  | .p t j => match st.get t with
    | .c (.p i off) => match st.obj i with
      | .box cs => cs[off + j]?
      | _ => Option.none
    | _ => Option.none
def St.setC (st : St) (y : C) : Loc → St
  | .s t => { st with slots := st.slots.set t (.c y) }
  | .a t j => match st.get t with
    | .a cs => { st with slots := st.slots.set t (.a (cs.set j y)) }
    | _ => st
  | .p t j => match st.get t with
    | .c (.p i off) => match st.obj i with
      | .box cs => { st with obs := st.obs.set i (.box (cs.set (off + j) y)) }
      | _ => st
    | _ => st
section
variable {st : St} {a : Act} {w : World} {I : Nat → Prop} {β : List Value} {S : Nat → Nat → Prop}
theorem CsR.set1 {cs : List C} {arr : Array Value} (h : CsR w I β cs arr) {j : Nat} {y : C} (hy : ∀ v, arr[j]? = some v → CR w I β y v) : CsR w I β (cs.set j y) arr := by
  refine ⟨by simpa using h.1, fun k x v hx hv => ?_⟩
  rw [List.getElem?_set] at hx
  split at hx
  · rename_i e
    subst e
    split at hx
    · simp only [Option.some.injEq] at hx
      subst hx
      exact hy v hv
    · cases hx
  · exact h.2 k x v hx hv
theorem get_slot {t : Nat} {av : AV} (h : st.get t = av) (hne : av ≠ .dead) : st.slots[t]? = some av := by
  rw [St.get_eq] at h
  cases hs : st.slots[t]? with
  | none => simp [hs] at h; exact absurd h.symm hne
  | some x => simp [hs] at h; rw [h]
theorem RelV.setSlot (hr : RelV st a w I β S) {t : Nat} {y : AV} (hy : ∀ v, a.tmps[t]? = some v → AVR w I β y v) : RelV { st with slots := st.slots.set t y } a w I β S := by
  refine ⟨by simpa using hr.sz, hr.bl, fun t' v u hv hu => ?_, hr.ob, hr.sdis, hr.slt, hr.il⟩
  replace hv : (st.slots.set t y)[t']? = some v := hv
  rw [Sl.getElem?_set] at hv
  split at hv
  · rename_i e
    subst e
    split at hv
    · simp only [Option.some.injEq] at hv
      subst hv
      exact hy u hu
    · cases hv
  · exact hr.slot t' v u hv hu
theorem RelV.cell (hr : RelV st a w I β S) {l : Loc} {x : C} (h : st.getC l = some x) : ∃ v, CR w I β x v ∧ ∀ (st' : St) (I' : Nat → Prop) (β' : List Value) (S' : Nat → Nat → Prop) (y : C),
    RelV st' a w I' β' S' → st'.slots = st.slots → (∀ (i : Nat) (cs : List C), st.obj i = .box cs → st'.obj i = .box cs) → (∀ (i : Nat) (b : Value), β[i]? = some b → β'[i]? = some b) → CR w I' β' y v → RelV (st'.setC y l) a w I' β' S' := by
  cases l with
  | s t =>
    simp only [St.getC] at h
    split at h
    · rename_i x' hx
      simp only [Option.some.injEq] at h
      subst h
      have hs := get_slot hx (by simp)
      have hlt : t < a.tmps.size := by rw [hr.sz]; exact (Sl.some_iff.1 hs).1
      refine ⟨a.tmps[t], hr.slot t _ _ hs (by simp [hlt]), fun st' I' β' S' y hr' e1 e2 _ hy => ?_⟩
      refine hr'.setSlot fun v hv => ?_
      rw [Array.getElem?_eq_getElem hlt] at hv
      obtain rfl := Option.some.inj hv
      exact hy
    · cases h
  | a t j =>
    simp only [St.getC] at h
    split at h
    · rename_i cs hx
      have hs := get_slot hx (by simp)
      have hlt : t < a.tmps.size := by rw [hr.sz]; exact (Sl.some_iff.1 hs).1
      obtain ⟨arr, hv, hcs⟩ := hr.slot t _ _ hs (by simp [hlt] : a.tmps[t]? = some a.tmps[t])
      have hj : j < arr.size := by rw [hcs.1]; exact (List.getElem?_eq_some_iff.1 h).1
      refine ⟨arr[j], hcs.2 j x _ h (by simp [hj]), fun st' I' β' S' y hr' e1 e2 _ hy => ?_⟩
      have hg : st'.get t = .a cs := by unfold St.get; rw [e1]; exact hx
      simp only [St.setC, hg]
      refine hr'.setSlot fun v hv' => ?_
      rw [Array.getElem?_eq_getElem hlt] at hv'
      obtain rfl := Option.some.inj hv'
      have hs' := get_slot hg (by simp)
      obtain ⟨arr', hv2, hcs'⟩ := hr'.slot t _ _ hs' (by simp [hlt] : a.tmps[t]? = some a.tmps[t])
      have e : arr' = arr := by rw [hv] at hv2; injection hv2 with h; exact h.symm
      subst e
      exact ⟨_, hv, hcs'.set1 fun v hv => by
        rw [Array.getElem?_eq_getElem hj] at hv
        obtain rfl := Option.some.inj hv
        exact hy⟩
    · cases h
  | p t j =>
    simp only [St.getC] at h
    split at h
    · rename_i i off hx
      split at h
      · rename_i cs hobj
        obtain ⟨g, cur, e, hb, hg, hh, hcs⟩ := hr.box hobj
        have hj : off + j < cur.size := by rw [hcs.1]; exact (List.getElem?_eq_some_iff.1 h).1
        refine ⟨cur[off + j], hcs.2 _ x _ h (by simp [hj]), fun st' I' β' S' y hr' e1 e2 e3 hy => ?_⟩
        have hgt : st'.get t = .c (.p i off) := by unfold St.get; rw [e1]; exact hx
        have hobj' := e2 i cs hobj
        simp only [St.setC, hgt, hobj']
        refine ⟨hr'.sz, by simpa using hr'.bl, hr'.slot, fun k o b ho hb' => ?_, hr'.sdis, fun k b hb' => by simpa using hr'.slt k b hb', hr'.il⟩
        rw [List.getElem?_set] at ho
        split at ho
        · rename_i he
          subst he
          split at ho
          · simp only [Option.some.injEq] at ho
            subst ho
            obtain ⟨b2, hb2, g', cur', e', hbv, hg', hh', hcs'⟩ := hr'.obj hobj' (by simp)
            rw [hb'] at hb2
            obtain rfl := Option.some.inj hb2
            have hbb := e3 i _ hb
            rw [hb'] at hbb
            have hbb' := Option.some.inj hbb
            rw [hbv] at hbb'
            have hgg : g' = g := by simpa using hbb'
            subst hgg
            rw [hh] at hh'
            have hcc : cur' = cur := by
              have := Option.some.inj hh'
              injection this with h1 _ _
              exact h1.symm
            subst hcc
            refine ⟨g', cur', e, hbv, hg', hh, hcs'.set1 fun v hv => ?_⟩
            rw [Array.getElem?_eq_getElem hj] at hv
            obtain rfl := Option.some.inj hv
            exact hy
          · cases ho
        · exact hr'.ob k o b ho hb'
      · cases h
    · cases h
theorem RelV.ext_nil (hr : RelV st a w I β S) {sz : Nat} {xs : Rw N} (h0 : xs.n = 0) (A : Option Addr) : RelV { st with obs := st.obs ++ [.row sz xs []] } a w I (β ++ [.slice A 0 0]) S := by
  have hβ : ∀ (i : Nat) (b : Value), β[i]? = some b → (β ++ [.slice A 0 0])[i]? = some b := fun i b hb => by rw [List.getElem?_append_left (List.getElem?_eq_some_iff.1 hb).1]; exact hb
  refine ⟨hr.sz, by simp [hr.bl], fun t v u hv hu => (hr.slot t v u hv hu).mono (fun _ h => h) (fun _ _ => rfl) hβ, fun i o b ho hb => ?_, hr.sdis, fun i b hb => ?_, hr.il⟩
  · rcases Nat.lt_or_ge i st.obs.length with hl | hge
    · rw [List.getElem?_append_left hl] at ho
      rw [List.getElem?_append_left (by rw [hr.bl]; exact hl)] at hb
      exact (hr.ob i o b ho hb).mono (fun _ h => h) (fun _ _ => rfl) hβ (fun _ _ => rfl) (fun _ h => h)
    · rw [List.getElem?_append_right hge] at ho
      rw [List.getElem?_append_right (by rw [hr.bl]; exact hge), hr.bl] at hb
      have hk0 : i - st.obs.length = 0 := by
        by_cases h : i - st.obs.length = 0
        · exact h
        · rw [show i - st.obs.length = (i - st.obs.length - 1) + 1 by omega] at ho
          simp at ho
      rw [hk0] at ho hb
      simp at ho hb
      subst ho; subst hb
      exact .inl ⟨h0, A, rfl⟩
  · obtain ⟨h1, h2, h3⟩ := hr.slt i b hb
    exact ⟨by simp; omega, h2, h3⟩
end
theorem get_slot' {st : St} {t : Nat} {av : AV} (h : st.get t = av) (hne : av ≠ .dead) : st.slots[t]? = some av := by
  rw [St.get_eq] at h
  cases hs : st.slots[t]? with
  | none => simp [hs] at h; exact absurd h.symm hne
  | some x => simp [hs] at h; rw [h]
theorem setSlot' {st : St} {a : Act} {w : World} {I : Nat → Prop} {β : List Value} {S : Nat → Nat → Prop} (hr : RelV st a w I β S) {t : Nat} {y : AV} (hy : ∀ v, a.tmps[t]? = some v → AVR w I β y v) : RelV { st with slots := st.slots.set t y } a w I β S := by
  refine ⟨by simpa using hr.sz, hr.bl, fun t' v u hv hu => ?_, hr.ob, hr.sdis, hr.slt, hr.il⟩
  replace hv : (st.slots.set t y)[t']? = some v := hv
  rw [Sl.getElem?_set] at hv
  split at hv
  · rename_i e
    subst e
    split at hv
    · simp only [Option.some.injEq] at hv
      subst hv
      exact hy u hu
    · cases hv
  · exact hr.slot t' v u hv hu
def St.cleanK {ρ : Type} (st : St) (K : St → Option ρ) : Option ρ := K st.unb
theorem St.zX {ρ : Type} (st : St) (K : St → Option ρ) : st.cleanK K = K st.unb := rfl
def stepO {ρ : Type} (P : Program) (G : Orc) (o : Oper) (st : St) (K : St → Option ρ) : Option ρ :=
  match o.op with
  | .store t a x => st.cleanK fun st => storeO P st t (st.ev a) (st.ev x) fun st' => (st'.put o.dst skipAV).cleanK K
  | .buildSlice t len parts => st.cleanK fun st => buildOwnO P st t len (parts.toList.map fun p => (p.1, st.ev p.2)) o.dst fun st' => st'.cleanK K
  | .call { callee := .builtin .append, args, argTypes } => st.cleanK fun st => match args.toList, argTypes.toList with
    | [s, x], [t, t'] => chk (decide (t = t')) (appendO P st t (st.ev s) (st.ev x) o.dst fun st' => st'.cleanK K)
    | _, _ => Option.none
  | .call { callee := .value f, args, argTypes } => match st.ev f with
    | .fn g caps => sel (decide (G.kd g < 2)) (stepQ P G o st fun av news => K ((st.new news).put o.dst av))
        (st.cleanK fun st => match st.ev f with
          | .fn g caps => G.e ρ g st (args.toList.map st.ev ++ caps.map .c) o.dst fun st' => (sel (someN G.op) (closeAll st') st').cleanK K
          | _ => Option.none)
    | _ => Option.none
  | .load t x => sel (opens G.op o.dst) (st.cleanK fun s => openO P o t (s.ev x) s (qB P o st fun av news => K ((st.new news).put o.dst av)) fun st' => st'.cleanK K)
      (qB P o (sel (someN G.op) (closeAll st) st) fun av news => K ((st.new news).put o.dst av))
  | .slice t x lo hi mx => frzK st x fun st => qB P o st fun av news => K ((st.new news).put o.dst av)
  | _ => qB P o st fun av news => K ((st.new news).put o.dst av)
def guard2O {ρ : Type} (x : AV) (want : Bool) (A B C : Option ρ) : Option ρ := match x with
  | .c (.n (.v (.bool b))) => match want with
    | true => sel b A B
    | false => sel b B A
  | .tup _ => C
  | _ => Option.none
def guardO {ρ : Type} (st : St) (ops : Array Oper) (g : Option (Nat × Bool)) (K : Bool → St → Option ρ) : Option ρ :=
  match g with
  | Option.none => K true st
  | some (j, want) => match (ops[j]?).bind (·.dst) with
    | some t => guard2O (st.get t) want (K true (st.put (some t) (zY want))) (K false (st.put (some t) (zY !want))) (K false st)
    | Option.none => Option.none
def exL {ρ : Type} (P : Program) (G : Orc) (ops : Array Oper) : List Oper → St → (St → Option ρ) → Option ρ
  | [], st, K => K st
  | o :: rest, st, K => guardO st ops o.guard fun b st => match b with
    | true => stepO P G o st fun st' => exL P G ops rest st' K
    | false => exL P G ops rest (st.put o.dst skipAV) K
section
variable {P : Program} {G : Orc} {st : St} {a : Act} {w : World} {c : Cx} {ρ : Type} {r : ρ}
theorem RelV.unb {I : Nat → Prop} {β : List Value} {S : Nat → Nat → Prop} (hr : RelV st a w I β S) : RelV st.unb a w I β S :=
  ⟨by simpa [St.unb] using hr.sz, hr.bl, fun t v u hv hu => by
    simp only [St.unb, Sl.getElem?_map, Option.map_eq_some_iff] at hv
    obtain ⟨v', hv', rfl⟩ := hv
    exact (hr.slot t v' u hv' hu).unb, hr.ob, hr.sdis, hr.slt, hr.il⟩
theorem BorR_unb (J : Nat → Prop) : BorR st.unb a w J := fun t v u hv hu => by
  simp only [St.unb, Sl.getElem?_map, Option.map_eq_some_iff] at hv
  obtain ⟨v', hv', rfl⟩ := hv
  exact AB_unb _ _
theorem RelB.rel (h : RelB c st a w) : Rel c st.unb a w := by
  obtain ⟨I, β, S, hr, hc, -⟩ := h
  exact ⟨I, β, S, hr.unb, ⟨hc.own, hc.isub, hc.iinv, hc.frame, hc.keep, hc.defers⟩⟩
theorem RelB.drop (h : RelB c st a w) : Rel c st a w := by
  obtain ⟨I, β, S, hr, hc, -⟩ := h
  exact ⟨I, β, S, hr, hc⟩
theorem Rel.relB (h : Rel c st a w) : RelB c st.unb a w := by
  obtain ⟨I, β, S, hr, hc⟩ := h
  exact ⟨I, β, S, hr.unb, ⟨hc.own, hc.isub, hc.iinv, hc.frame, hc.keep, hc.defers⟩, BorR_unb _⟩
theorem frzS_relB (hrel : RelB c st a w) (x : Operand) : RelB c (frzS st x) a w := by
  unfold frzS
  split
  · rename_i t
    split
    · rename_i i hg
      have hst := get_slot' hg (by simp)
      split
      · rename_i sz xs hobj
        obtain ⟨I, β, S, hr, hc⟩ := hrel.drop
        have hlt : t < a.tmps.size := by rw [hr.sz]; exact (Sl.some_iff.1 hst).1
        have hfz := StLe.freeze st i _ _ _ ⟨I, β, S, hr, hc⟩
        unfold St.freeze at hfz
        rw [hobj] at hfz
        obtain ⟨I, β, S, hr, hc⟩ := hfz
        refine Rel.relB (st := { st with slots := st.slots.set t (.c (.n (.sl sz xs))), obs := st.obs.set i (.fro sz xs) }) ⟨I, β, S, setSlot' hr fun v hv => ?_, ⟨hc.own, hc.isub, hc.iinv, hc.frame, hc.keep, hc.defers⟩⟩
        obtain ⟨hb, -⟩ := hr.slot t _ v hst hv
        have hil : i < st.obs.length := (List.getElem?_eq_some_iff.1 (obj_some hobj (by simp))).1
        exact hr.ob i _ v (List.getElem?_set_self hil) hb
      · rename_i sz xs hobj
        obtain ⟨I, β, S, hr, hc⟩ := hrel.drop
        refine Rel.relB (st := { st with slots := st.slots.set t (.c (.n (.sl sz xs))) }) ⟨I, β, S, setSlot' hr fun v hv => ?_, ⟨hc.own, hc.isub, hc.iinv, hc.frame, hc.keep, hc.defers⟩⟩
        obtain ⟨hb, -⟩ := hr.slot t _ v hst hv
        exact hr.ob i _ v (obj_some hobj (by simp)) hb
      · exact hrel
    · exact hrel
  · exact hrel
theorem stepO_sound (hG : G.ok P) (hrel : RelB c st a w) {o : Oper} {K : St → Option ρ} (h : stepO P G o st K = some r) {next : Act → World → Prop} {Q : Exit → Act → World → Prop}
    (hn : ∀ st' a' w', K st' = some r → RelB c st' a' w' → next a' w') : o.wp P a w next Q := by
  have hn' : ∀ st' a' w', K st'.unb = some r → Rel c st' a' w' → next a' w' := fun st' a' w' h1 h2 => hn _ _ _ h1 h2.relB
  have quiet' : ∀ st, RelB c st a w → (qB P o st fun av news => K ((st.new news).put o.dst av)) = some r → o.wp P a w next Q := by
    intro st hrel h
    obtain ⟨I, β, S, hr, hc, hb⟩ := hrel
    obtain ⟨v, w', av, news, h1, h2, h3⟩ := qB_sound hr (J := fun b => I b ∨ ∃ i, S i b) (fun _ h => h) (by
      refine hr.il.mono (fun _ h => .inl h) (fun _ _ => rfl) ?_
      rintro b (hb | ⟨i, hb⟩)
      · exact hr.ilt b hb
      · exact (hr.slt i b hb).2.1) hb h
    unfold Oper.wp
    rw [h1]
    exact hn _ _ _ h2 (step_QPB hr hc hb h3 o.dst)
  have quiet := quiet' st hrel
  unfold stepO at h
  split at h
  · rename_i t x y hop
    rw [St.zX] at h
    refine vcOp_sound hrel.rel (K := fun st' => K st'.unb = some r) ?_ hn'
    unfold vcOp
    rw [hop]
    exact storeO_vc (by simpa only [St.zX] using h)
  · rename_i t len parts hop
    rw [St.zX] at h
    refine vcOp_sound hrel.rel (K := fun st' => K st'.unb = some r) ?_ hn'
    unfold vcOp
    rw [hop]
    exact buildOwnO_vc (by simpa only [St.zX] using h)
  · rename_i args ts hop
    rw [St.zX] at h
    refine vcOp_sound hrel.rel (K := fun st' => K st'.unb = some r) ?_ hn'
    unfold vcOp
    rw [hop]
    split at h
    · rename_i hs ht
      simp only [hs, ht]
      obtain ⟨h1, h⟩ := zO h
      exact ⟨h1, appendO_vc (by simpa only [St.zX] using h)⟩
    · cases h
  · rename_i f args ts hop
    split at h
    · rename_i g caps hf
      cases hk : decide (G.kd g < 2) with
      | true =>
        rw [hk] at h
        change stepQ P G o st (fun av news => K ((st.new news).put o.dst av)) = some r at h
        obtain ⟨I, β, S, hr, hc, hb⟩ := hrel
        refine (stepQ_sound hG hr (J := fun b => I b ∨ ∃ i, S i b) (fun _ h => h) ?_ hb h).wp ?_
        · refine hr.il.mono (fun _ h => .inl h) (fun _ _ => rfl) ?_
          rintro b (hb | ⟨i, hb⟩)
          · exact hr.ilt b hb
          · exact (hr.slt i b hb).2.1
        · rintro v w' ⟨av, news, hK, hq⟩
          exact hn _ _ _ hK (step_QPB hr hc hb hq o.dst)
      | false =>
        rw [hk] at h
        have h' : (st.cleanK fun st => match st.ev f with
          | .fn g caps => G.e ρ g st (args.toList.map st.ev ++ caps.map .c) o.dst fun st' => (sel (someN G.op) (closeAll st') st').cleanK K
          | _ => Option.none) = some r := h
        rw [St.zX] at h'
        refine vcOp_sound hrel.rel (K := fun st' => K (sel (someN G.op) (closeAll st') st').unb = some r) ?_ (fun st' a' w' h1 h2 => hn' _ a' w' h1 (by cases someN G.op with | true => exact closeAll_le _ _ _ _ h2 | false => exact h2))
        unfold vcOp
        rw [hop]
        simp only
        split at h'
        · rename_i g' caps' hf'
          rw [hf']
          simp only [St.zX] at h'
          exact hG.e _ _ _ _ _ _ _ _ h'
        · cases h'
    · cases h
  · rename_i t x hop
    cases hgo : opens G.op o.dst with
    | false =>
      rw [hgo] at h
      cases hso : someN G.op with
      | false => rw [hso] at h; exact quiet h
      | true =>
        rw [hso] at h
        have h : (qB P o (closeAll st) fun av news => K ((st.new news).put o.dst av)) = some r := h
        obtain ⟨I, β, S, hr, hc, hb⟩ := hrel
        obtain ⟨S', hS, hr', hc'⟩ := closeAll_rel st hr hc
        obtain ⟨v, w', av, news, h1, h2, h3⟩ := qB_sound hr' (J := fun b => I b ∨ ∃ i, S i b) (fun b hb => by
          rcases hb with hb | ⟨i, hb⟩
          · exact .inl hb
          · exact .inr (hS i b hb)) (by
          refine hr.il.mono (fun _ h => .inl h) (fun _ _ => rfl) ?_
          rintro b (hb | ⟨i, hb⟩)
          · exact hr.ilt b hb
          · exact (hr.slt i b hb).2.1) (fun t v u hv hu => hb t v u (by rw [closeAll_slots] at hv; exact hv) hu) h
        unfold Oper.wp
        rw [h1]
        exact hn _ _ _ h2 (step_QPB hr hc hb h3 o.dst)
    | true =>
      rw [hgo] at h
      have h' : (st.cleanK fun s => openO P o t (s.ev x) s (qB P o st fun av news => K ((st.new news).put o.dst av)) fun st' => st'.cleanK K) = some r := h
      rw [St.zX] at h'
      rcases openO_sound hop h' hrel.rel with h2 | ⟨v, st', h1, h2, h3⟩
      · exact quiet h2
      · unfold Oper.wp
        rw [h1]
        rw [St.zX] at h2
        exact hn' _ _ _ h2 h3
  · rename_i t x lo hi mx hop
    exact quiet' _ (frzS_relB hrel x) h
  · exact quiet h
theorem guard_is {I : Nat → Prop} {β : List Value} {S : Nat → Nat → Prop} (hr : RelV st a w I β S) {ops : Array Oper} {o : Oper} {K : Bool → St → Option ρ} (h : guardO st ops o.guard K = some r) :
    ∃ b, Region.wanted o (yielded ops a.tmps) = b ∧ K b st = some r := by
  unfold guardO at h
  unfold Region.wanted
  split at h
  · rename_i hg
    exact ⟨true, by simp [hg], h⟩
  · rename_i j want hg
    simp only [hg]
    split at h
    · rename_i t ht
      have key : ∀ av, st.get t = av → av ≠ .dead → ∃ v, a.tmps[t]? = some v ∧ AVR w I β av v ∧ st.slots[t]? = some av := by
        intro av he hne
        rw [St.get_eq] at he
        cases hs : st.slots[t]? with
        | none => simp [hs] at he; exact absurd he.symm hne
        | some x =>
          simp [hs] at he
          subst he
          have hlt : t < a.tmps.size := by rw [hr.sz]; exact (Sl.some_iff.1 hs).1
          exact ⟨a.tmps[t], by simp [hlt], hr.slot t x _ hs (by simp [hlt]), rfl⟩
      unfold guard2O at h
      split at h
      · rename_i b hb
        obtain ⟨v, hv, hav, hst⟩ := key _ hb (by simp)
        obtain ⟨rfl, -⟩ := hav.val
        have hy : yielded ops a.tmps j = some b := by simp [yielded, ht, hv]
        have same : ∀ b', b = b' → st.put (some t) (zY b') = st := by
          rintro b' rfl
          obtain ⟨hlt, he⟩ := Sl.some_iff.1 hst
          show ({ st with slots := st.slots.set t (zY b) } : St) = st
          unfold zY
          rw [← he, Sl.set_self]
        by_cases hw : b = want
        · refine ⟨true, by simp [hy, hw], ?_⟩
          rw [← same want hw]
          subst hw
          cases b <;> exact h
        · have hw' : b = !want := by cases b <;> cases want <;> simp_all
          refine ⟨false, by simp [hy, hw], ?_⟩
          rw [← same (!want) hw']
          subst hw'
          cases want <;> exact h
      · rename_i vs hb
        obtain ⟨v, hv, hav, -⟩ := key _ hb (by simp)
        obtain ⟨arr, rfl, -⟩ := hav
        exact ⟨false, by simp [yielded, ht, hv], h⟩
      · cases h
    · cases h
theorem RelB.skip (hrel : RelB c st a w) (dst : Option Nat) : RelB c (st.put dst skipAV) (a.put dst undef) w := by
  obtain ⟨I, β, S, hr, hc, hb⟩ := hrel
  have h := step_QPB hr hc hb (av := skipAV) (v := undef) (news := []) (w' := w) (QPB.same hr ⟨#[], rfl, rfl, by simp⟩ trivial) dst
  have e : st.new [] = st := by simp [St.new]
  rwa [e] at h
theorem exL_sound (hG : G.ok P) {ops : Array Oper} {Q : Exit → Act → World → Prop} {K : St → Option ρ} (hK : ∀ st' a' w', K st' = some r → Rel c st' a' w' → Q .normal a' w') :
    ∀ (l : List Oper) (st : St) (a : Act) (w : World), RelB c st a w → exL P G ops l st K = some r → wpList P ops Q l a w
  | [], st, a, w, hrel, h => hK _ _ _ h hrel.drop
  | o :: rest, st, a, w, hrel, h => by
    obtain ⟨b, hb, h⟩ := guard_is hrel.choose_spec.choose_spec.choose_spec.1 h
    unfold wpList
    cases b with
    | true =>
      rw [if_pos hb]
      exact .inl (stepO_sound hG hrel h fun st2 a2 w2 h2 hr2 => exL_sound hG hK rest st2 a2 w2 hr2 h2)
    | false =>
      rw [if_neg (by simp [hb])]
      exact exL_sound hG hK rest _ _ _ (hrel.skip o.dst) h
end
section
variable {ρ σ : Type}
theorem zR (b : Bool) (k : Option σ) (f : σ → Option ρ) : (chk b k).bind f = chk b (k.bind f) := by cases b <;> rfl
theorem sel_bind (b : Bool) (x y : Option σ) (f : σ → Option ρ) : (sel b x y).bind f = sel b (x.bind f) (y.bind f) := by cases b <;> rfl
theorem natO_bind (v : AV) (K : Int → Option σ) (f : σ → Option ρ) : (natO v K).bind f = natO v fun n => (K n).bind f := by
  unfold natO
  split <;> rfl
theorem optO_bind (v : Option AV) (d : Int) (K : Int → Option σ) (f : σ → Option ρ) : (optO v d K).bind f = optO v d fun n => (K n).bind f := by
  cases v with
  | none => rfl
  | some v => exact natO_bind v K f
theorem bind_bind {α : Type} (o : Option α) (k : α → Option σ) (f : σ → Option ρ) : (o.bind k).bind f = o.bind fun x => (k x).bind f := by cases o <;> rfl
variable {P : Program} {st : St}
theorem lenO_bind {ty : TyI} {v : AV} (K : AV → List Ob → Option σ) (f : σ → Option ρ) : (lenO st ty v K).bind f = lenO st ty v fun a n => (K a n).bind f := by
  unfold lenO
  split <;> first | exact zR _ _ _ | rfl | (split <;> first | exact zR _ _ _ | rfl)
theorem loadO_bind {ty : TyI} {v : AV} (K : AV → List Ob → Option σ) (f : σ → Option ρ) : (loadO st ty v K).bind f = loadO st ty v fun a n => (K a n).bind f := by
  unfold loadO
  split
  · split
    · exact bind_bind _ _ _
    · rfl
  · exact bind_bind _ _ _
  · split
    · simp only [zR, bind_bind]
    · rfl
  · rfl
theorem idxO_bind {esz : Nat} {v : AV} {k : Int} (K : AV → List Ob → Option σ) (f : σ → Option ρ) : (idxO st esz v k K).bind f = idxO st esz v k fun a n => (K a n).bind f := by
  unfold idxO
  split
  · simp only [zR]
  · split
    · simp only [zR]
    · simp only [zR]
    · rfl
  · rfl
theorem sliceO_bind {ty : TyI} {v : AV} {lo hi mx : Option AV} (K : AV → List Ob → Option σ) (f : σ → Option ρ) : (sliceO P ty v lo hi mx K).bind f = sliceO P ty v lo hi mx fun a n => (K a n).bind f := by
  unfold sliceO
  split
  · simp only [optO_bind, zR]
  · simp only [optO_bind, zR, bind_bind]
  · simp only [optO_bind, zR, bind_bind]
  · rfl
theorem fieldAddrO_bind {ty : TyI} {v : AV} {fd : Nat} (K : AV → List Ob → Option σ) (f : σ → Option ρ) : (fieldAddrO P ty v fd K).bind f = fieldAddrO P ty v fd fun a n => (K a n).bind f := by
  unfold fieldAddrO
  simp only [bind_bind, zR]
  congr 1
  funext p
  congr 1
  congr 1
  split <;> rfl
theorem convO_bind {s d : TyI} {v : AV} (K : AV → List Ob → Option σ) (f : σ → Option ρ) : (convO P st s d v K).bind f = convO P st s d v fun a n => (K a n).bind f := by
  unfold convO
  split
  · simp only [zR, bind_bind]
  · simp only [zR, sel_bind, bind_bind]
  · split
    · simp only [zR, bind_bind]
    · rfl
  · rfl
theorem binO_bind {op : BinOp} {ty : TyI} {x y : Value} (K : Value → Option σ) (f : σ → Option ρ) : (binO op ty x y K).bind f = binO op ty x y fun a => (K a).bind f := by
  unfold binO
  split
  · split
    · simp only [zR, bind_bind]
    · simp only [zR, bind_bind]
    · simp only [zR]
      congr 1
      congr 1
      split
      · rfl
      · exact bind_bind _ _ _
  · split
    · simp only [zR]
    · exact bind_bind _ _ _
  · simp only [zR, bind_bind]
  · rfl
theorem bin2O_bind {op : BinOp} {t : TypeId} {x y : AV} (K : Value → Option σ) (f : σ → Option ρ) : (bin2O P op t x y K).bind f = bin2O P op t x y fun a => (K a).bind f := by
  unfold bin2O
  split
  · exact binO_bind _ _
  · simp only [bind_bind]
  · rfl
theorem pickO_bind (c : AV) (x y : Option σ) (f : σ → Option ρ) : (pickO c x y).bind f = pickO c (x.bind f) (y.bind f) := by
  unfold pickO
  split
  · exact sel_bind _ _ _ _
  · rfl
theorem qO_bind {o : Oper} (K : AV → List Ob → Option σ) (f : σ → Option ρ) : (qO P o st K).bind f = qO P o st fun a n => (K a n).bind f := by
  unfold qO
  split
  all_goals first
    | rfl
    | exact loadO_bind _ _
    | exact bin2O_bind _ _
    | exact convO_bind _ _
    | exact sliceO_bind _ _
    | exact fieldAddrO_bind _ _
    | exact bind_bind _ _ _
    | (simp only [zR, bind_bind, natO_bind, idxO_bind, lenO_bind]; done)
    | exact pickO_bind _ _ _ _
    | (split <;> first | rfl | (simp only [bind_bind]; done) | (split <;> rfl))
    | (simp only [natO_bind]; congr 1; funext k; split <;> first | (simp only [zR]; done) | rfl)
theorem qBp_bind {o : Oper} (K : AV → List Ob → Option σ) (f : σ → Option ρ) : (qBp P o st K).bind f = qBp P o st fun a n => (K a n).bind f := qO_bind _ _
theorem qBl_bind {o : Oper} (K : AV → List Ob → Option σ) (f : σ → Option ρ) : (qBl P o st K).bind f = qBl P o st fun a n => (K a n).bind f := by
  unfold qBl
  rw [qO_bind]
  simp only [zR]
theorem loadE_bind {o : Oper} {t : TypeId} {x : AV} (K : AV → List Ob → Option σ) (f : σ → Option ρ) : (loadE P o st t x K).bind f = loadE P o st t x fun a n => (K a n).bind f := by
  unfold loadE
  split
  · split
    · simp only [sel_bind, zR, bind_bind, qBp_bind]
    · rfl
  · exact qBp_bind _ _
theorem qB_bind {o : Oper} (K : AV → List Ob → Option σ) (f : σ → Option ρ) : (qB P o st K).bind f = qB P o st fun a n => (K a n).bind f := by
  unfold qB
  split
  · rfl
  · rfl
  · exact pickO_bind _ _ _ _
  · simp only [sel_bind, qBl_bind, loadE_bind]
  · split
    · simp only [sel_bind, qBl_bind, qBp_bind]
    · exact qBp_bind _ _
variable {G : Orc} {r : ρ}
theorem litO_bind {ρ σ : Type} {t : TypeId} {len : Nat} {parts : List (Nat × AV)} {K : TyI → List C → Option σ} {g : σ → Option ρ} : (litO P t len parts K).bind g = litO P t len parts fun ty cs => (K ty cs).bind g := by
  unfold litO
  cases (tyOf P t).sl with
  | none => rfl
  | some e =>
    simp only [Option.bind_some]
    rw [zR, zR, zR, zR, bind_bind]
theorem buildNewO_bind {ρ σ : Type} {t : TypeId} {len : Nat} {parts : List (Nat × AV)} {K : AV → List Ob → Option σ} {g : σ → Option ρ} : (buildNewO P st t len parts K).bind g = buildNewO P st t len parts fun av news => (K av news).bind g := by
  unfold buildNewO
  rw [litO_bind]
  congr 1
  funext ty cs
  cases decide (len = 0) with
  | true => rfl
  | false =>
    simp only [sel]
    rw [bind_bind]
    congr 1
    funext p
    cases p.2.isEmpty <;> rfl
theorem appendNewO_bind {ρ σ : Type} {t : TypeId} {s x : AV} {K : AV → List Ob → Option σ} {g : σ → Option ρ} : (appendNewO P st t s x K).bind g = appendNewO P st t s x fun av news => (K av news).bind g := by
  unfold appendNewO
  cases (tyOf P t).sl with
  | none => rfl
  | some e =>
    simp only [Option.bind_some]
    rw [zR, zR, bind_bind]
    congr 2
    congr 1
    funext p
    rw [zR]
    congr 1
    split
    · cases p.2.isNone with
      | true => simp only [sel]; rw [zR]
      | false => rfl
    · rfl
theorem stepQ_det (hG : G.ok P) {o : Oper} {K : AV → List Ob → Option ρ} (h : stepQ P G o st K = some r) : ∃ p : AV × List Ob, stepQ P G o st (fun a n => some (a, n)) = some p ∧ K p.1 p.2 = some r := by
  have key : stepQ P G o st K = (stepQ P G o st fun a n => some (a, n)).bind fun p => K p.1 p.2 := by
    unfold stepQ
    split
    · rfl
    · rw [buildNewO_bind]
      rfl
    · split
      · rw [zR, appendNewO_bind]
        rfl
      · rfl
    · unfold qcall
      split
      · rename_i args ts _ _ g caps _
        have e1 := hG.nat ρ g (qArgs P (G.kd g) st ts.toList (args.toList.map st.ev ++ caps.map AV.c)) (fun rv obs => K (rv.map (· + st.obs.length)).unb ((obs.map (Ob.map (· + st.obs.length))).map Ob.unb))
        have e2 := hG.nat (AV × List Ob) g (qArgs P (G.kd g) st ts.toList (args.toList.map st.ev ++ caps.map AV.c)) (fun rv obs => some ((rv.map (· + st.obs.length)).unb, (obs.map (Ob.map (· + st.obs.length))).map Ob.unb))
        rw [zR, e1, e2, bind_bind]
        rfl
      · rfl
    · rw [qB_bind]
      rfl
  rw [key] at h
  cases hp : stepQ P G o st (fun a n => some (a, n)) with
  | none => rw [hp] at h; cases h
  | some p => rw [hp] at h; exact ⟨p, rfl, h⟩
end
def dirs (o : Oper) : List Nat := (o.after.toList.filter (Region.binds .any)).map (·.on)
def ancsGo : List Oper → List (List Nat) → List (List Nat)
  | [], acc => acc
  | o :: rest, acc => ancsGo rest (acc ++ [(List.range acc.length).filter fun k => (dirs o).any fun j => j == k || ((acc[j]?).getD []).contains k])
def ancs (ops : List Oper) : List (List Nat) := ancsGo ops []
def ancOf (A : List (List Nat)) (i : Nat) : List Nat := (A[i]?).getD []
def prefN (A : List (List Nat)) : Nat → Nat
  | 0 => 0
  | n + 1 => match (ancOf A n).length == n with
    | true => prefN A n
    | false => n + 1
abbrev Res : Type := Option (AV × List Ob)
def setD (l : Sl) (d : Option Nat) (v : AV) : Sl := match d with
  | some d => l.set d v
  | Option.none => l
def resV : Res → AV
  | some p => p.1
  | Option.none => skipAV
def resN : Res → List Ob
  | some p => p.2
  | Option.none => []
def dstOf (ops : Array Oper) (i : Nat) : Option Nat := (ops[i]?).bind (·.dst)
def accOf (acc : List Res) (i : Nat) : Res := (acc[i]?).getD Option.none
def deadD : List (Option Nat) → Sl → Sl
  | [], l => l
  | d :: ds, l => deadD ds (setD l d .dead)
def setK (ops : Array Oper) (acc : List Res) : List Nat → Sl → Sl
  | [], l => l
  | k :: ks, l => setK ops acc ks (setD l (dstOf ops k) (resV (accOf acc k)))
def newsK (acc : List Res) (ks : List Nat) : List Ob := ks.flatMap fun k => resN (accOf acc k)
def blkP (b : Bool) (l : List Ob) : List Ob := match b with
  | true => l
  | false => List.replicate l.length .none
def newsP (acc : List Res) (L : Nat → Bool) (n : Nat) : List Ob := (List.range n).flatMap fun k => blkP (L k) (resN (accOf acc k))
def drawV (st0 : St) (D : Sl) (ops : Array Oper) (acc : List Res) (ks : List Nat) (i : Nat) : St :=
  ⟨(setK ops acc ks D).map (AV.kill fun q => decide ((st0.obs ++ newsP acc ks.contains i).length ≤ q)), (st0.obs ++ newsP acc ks.contains i).map (Ob.kill fun q => decide ((st0.obs ++ newsP acc ks.contains i).length ≤ q)), st0.ks⟩
def fixRes (b : Bool) : Res → Res
  | some (.c (.n (.v (.bool _))), []) => some (zY b, [])
  | x => x
def guardD {ρ : Type} (V : St) (ops : Array Oper) (anc : List Nat) (acc : List Res) (g : Option (Nat × Bool)) (K : Bool → List Res → Option ρ) : Option ρ :=
  match g with
  | Option.none => K true acc
  | some (j, want) => chk (anc.contains j) (match dstOf ops j with
    | some t => guard2O (V.get t) want (K true (acc.set j (fixRes want (accOf acc j)))) (K false (acc.set j (fixRes (!want) (accOf acc j)))) (K false acc)
    | Option.none => Option.none)
def exD {ρ : Type} (P : Program) (G : Orc) (ops : Array Oper) (A : List (List Nat)) (st0 : St) (D : Sl) : List Oper → List Res → (List Res → Option ρ) → Option ρ
  | [], acc, K => K acc
  | o :: rest, acc, K => guardD (drawV st0 D ops acc (ancOf A acc.length) acc.length) ops (ancOf A acc.length) acc o.guard fun b acc => match b with
    | true => stepQ P G o (drawV st0 D ops acc (ancOf A acc.length) acc.length) fun av news => exD P G ops A st0 D rest (acc ++ [some (av, news)]) K
    | false => exD P G ops A st0 D rest (acc ++ [Option.none]) K
def nodupD : List (Option Nat) → Bool
  | [] => true
  | some d :: ds => !(ds.contains (some d)) && nodupD ds
  | Option.none :: ds => nodupD ds
def lateC (ops : Array Oper) (i : Nat) : Bool := match ops[i]? with
  | some o => (match o.op with | .move _ => true | .extract _ _ => true | _ => false) && o.guard.isNone && Region.free .any ops ((List.range ops.size).map fun j => (ancOf (ancs ops.toList) i).contains j).toArray i
  | Option.none => false
def quietOp (o : Oper) : Bool := match o.op with
  | .store _ _ _ => false
  | .call { callee := .builtin .append, .. } => false
  | .call { callee := .value _, .. } => false
  | _ => true
def prefL (A : List (List Nat)) (ls : List Nat) : Nat → Nat
  | 0 => 0
  | n + 1 => match (List.range n).all fun k => (ancOf A n).contains k || ls.contains k with
    | true => prefL A ls n
    | false => n + 1
def fullOk (A : List (List Nat)) (ls : List Nat) (p n : Nat) : Bool := (List.range n).all fun i => decide (i < p) || (List.range i).all fun k => (ancOf A i).contains k || (ls.contains k && (ancOf A k).all fun j => (ancOf A i).contains j || ls.contains j)
def exRp {ρ : Type} (P : Program) (G : Orc) (ops : Array Oper) (A : List (List Nat)) (p : Nat) (ls : List Nat) (st : St) (K : St → Option ρ) : Option ρ :=
  let ds := (ops.toList.take p).map (·.dst)
  chk (nodupD ds) (chk ((List.range ops.size).all fun i => ((ops[i]?).map fun o => (dirs o).all fun j => decide (j < i)).getD true) (
    exD P G ops A st (deadD ds st.slots) (ops.toList.take p) [] fun acc =>
      exL P G ops (ops.toList.drop p) ⟨setK ops acc (List.range p) st.slots, st.obs ++ newsK acc (List.range p), st.ks⟩ K))
def planR (ops : Array Oper) (A : List (List Nat)) : Nat × List Nat :=
  match (ops.toList.take (prefN A ops.size)).all quietOp with
  | true => (prefN A ops.size, [])
  | false =>
    let ls := (List.range ops.size).filter (lateC ops)
    let p := prefL A ls ops.size
    match Region.noSelect ops && fullOk A (ls.filter fun k => decide (k < p)) p ops.size with
    | true => (p, ls.filter fun k => decide (k < p))
    | false => (prefN A ops.size, [])
def exR0 {ρ : Type} (P : Program) (G : Orc) (ops : Array Oper) (st : St) (K : St → Option ρ) : Option ρ :=
  let A := ancs ops.toList
  exRp P G ops A (planR ops A).1 (planR ops A).2 st K
theorem ancsGo_len : ∀ (l : List Oper) (acc : List (List Nat)), (ancsGo l acc).length = acc.length + l.length
  | [], acc => by simp [ancsGo]
  | o :: rest, acc => by rw [ancsGo, ancsGo_len rest]; simp; omega
theorem ancsGo_old : ∀ (l : List Oper) (acc : List (List Nat)) (i : Nat), i < acc.length → (ancsGo l acc)[i]? = acc[i]?
  | [], acc, i, _ => rfl
  | o :: rest, acc, i, h => by
    rw [ancsGo, ancsGo_old rest _ i (by simp; omega), List.getElem?_append_left h]
theorem ancsGo_at : ∀ (l : List Oper) (acc : List (List Nat)) (i : Nat) (o : Oper), l[i]? = some o →
    (ancsGo l acc)[acc.length + i]? = some ((List.range (acc.length + i)).filter fun k => (dirs o).any fun j => j == k || (((ancsGo l acc).take (acc.length + i))[j]?.getD []).contains k)
  | [], acc, i, o, h => by simp at h
  | o' :: rest, acc, 0, o, h => by
    simp only [List.getElem?_cons_zero, Option.some.injEq] at h
    subst h
    rw [ancsGo]
    have hl : acc.length + 0 < (acc ++ [(List.range acc.length).filter fun k => (dirs o').any fun j => j == k || ((acc[j]?).getD []).contains k]).length := by simp
    rw [ancsGo_old _ _ _ hl]
    simp only [Nat.add_zero]
    rw [List.getElem?_append_right (Nat.le_refl _)]
    simp only [Nat.sub_self, List.getElem?_cons_zero, Option.some.injEq]
    congr 1
    funext k
    congr 1
    funext j
    congr 2
    rw [List.getElem?_take]
    split
    · rename_i hj
      rw [ancsGo_old _ _ _ (by simp; omega), List.getElem?_append_left hj]
    · rename_i hj
      rw [List.getElem?_eq_none (by omega)]
  | o' :: rest, acc, i + 1, o, h => by
    have := ancsGo_at rest (acc ++ [(List.range acc.length).filter fun k => (dirs o').any fun j => j == k || ((acc[j]?).getD []).contains k]) i o (by simpa using h)
    rw [ancsGo]
    simp only [List.length_append, List.length_singleton] at this
    rw [show acc.length + (i + 1) = acc.length + 1 + i by omega]
    exact this
theorem anc_iff {ops : List Oper} {i : Nat} {o : Oper} (ho : ops[i]? = some o) (hd : ∀ j ∈ dirs o, j < i) (k : Nat) :
    k ∈ ancOf (ancs ops) i ↔ k < i ∧ ∃ j ∈ dirs o, j = k ∨ k ∈ ancOf (ancs ops) j := by
  have h := ancsGo_at ops [] i o ho
  simp only [List.length_nil, Nat.zero_add] at h
  unfold ancOf ancs
  rw [h]
  simp only [Option.getD_some, List.mem_filter, List.mem_range, List.any_eq_true, Bool.or_eq_true, beq_iff_eq, List.contains_iff_mem]
  constructor
  · rintro ⟨h1, j, hj, h2⟩
    refine ⟨h1, j, hj, h2.imp_right fun h => ?_⟩
    rwa [List.getElem?_take_of_lt (hd j hj)] at h
  · rintro ⟨h1, j, hj, h2⟩
    refine ⟨h1, j, hj, h2.imp_right fun h => ?_⟩
    rwa [List.getElem?_take_of_lt (hd j hj)]
theorem anc_lt {ops : List Oper} {i k : Nat} (h : k ∈ ancOf (ancs ops) i) : k < i := by
  unfold ancOf at h
  cases ho : ops[i]? with
  | none =>
    have : (ancs ops)[i]? = none := by
      rw [List.getElem?_eq_none_iff]
      have := ancsGo_len ops []
      simp only [List.length_nil, Nat.zero_add] at this
      have h2 := List.getElem?_eq_none_iff.1 ho
      unfold ancs
      omega
    rw [this] at h
    simp at h
  | some o =>
    have h1 := ancsGo_at ops [] i o ho
    simp only [List.length_nil, Nat.zero_add] at h1
    unfold ancs at h
    rw [h1] at h
    simp only [Option.getD_some, List.mem_filter, List.mem_range] at h
    exact h.1
theorem anc_closed {ops : List Oper} (hd : ∀ i o, ops[i]? = some o → ∀ j ∈ dirs o, j < i) {L : Nat → Prop} (hL : ∀ i o, ops[i]? = some o → L i → ∀ j ∈ dirs o, L j) :
    ∀ (i : Nat) (o : Oper), ops[i]? = some o → (∀ j ∈ dirs o, L j) → ∀ k ∈ ancOf (ancs ops) i, L k := by
  intro i
  induction i using Nat.strongRecOn with
  | _ i ih =>
    intro o ho hj k hk
    obtain ⟨h1, j, hjd, h2⟩ := (anc_iff ho (hd i o ho) k).1 hk
    rcases h2 with rfl | h2
    · exact hj _ hjd
    · have hji := hd i o ho j hjd
      have hlt : j < ops.length := by have := (List.getElem?_eq_some_iff.1 ho).1; omega
      exact ih j hji ops[j] (List.getElem?_eq_getElem hlt) (hL j _ (List.getElem?_eq_getElem hlt) (hj j hjd)) k h2
theorem anc_filter {ops : List Oper} {i p : Nat} (hip : i ≤ p) : ancOf (ancs ops) i = (List.range p).filter fun k => decide (k ∈ ancOf (ancs ops) i) := by
  cases ho : ops[i]? with
  | none =>
    have : (ancs ops)[i]? = none := by
      rw [List.getElem?_eq_none_iff]
      have := ancsGo_len ops []
      simp only [List.length_nil, Nat.zero_add] at this
      have h2 := List.getElem?_eq_none_iff.1 ho
      unfold ancs
      omega
    have e : ancOf (ancs ops) i = [] := by unfold ancOf; rw [this]; rfl
    rw [e]
    simp
  | some o =>
    have h1 := ancsGo_at ops [] i o ho
    simp only [List.length_nil, Nat.zero_add] at h1
    have e : ancOf (ancs ops) i = (List.range i).filter fun k => (dirs o).any fun j => j == k || (((ancsGo ops []).take i)[j]?.getD []).contains k := by
      unfold ancOf ancs
      rw [h1]; rfl
    obtain ⟨d, rfl⟩ : ∃ d, p = i + d := ⟨p - i, by omega⟩
    rw [List.range_add, List.filter_append]
    have e2 : (((List.range d).map (i + ·)).filter fun k => decide (k ∈ ancOf (ancs ops) i)) = [] := by
      rw [List.filter_eq_nil_iff]
      intro k hk
      simp only [List.mem_map, List.mem_range] at hk
      obtain ⟨q, -, rfl⟩ := hk
      simp only [decide_eq_true_eq]
      intro h
      have := anc_lt h
      omega
    rw [e2, List.append_nil]
    conv => lhs; rw [e]
    refine List.filter_congr fun k hk => ?_
    rw [e]
    simp only [List.mem_filter, hk, true_and, Bool.decide_eq_true]
section
variable {ops : Array Oper} {acc res : List Res}
theorem setD_length (l : Sl) (d : Option Nat) (v : AV) : (setD l d v).length = l.length := by cases d <;> simp [setD]
theorem setD_f (l : Sl) (d : Option Nat) (v : AV) (t : Nat) : (setD l d v).f t = if d = some t then v else l.f t := by
  cases d with
  | none => simp [setD]
  | some d =>
    simp only [setD, Sl.set, Sl.sel_beq, Option.some.injEq]
    by_cases h : t = d
    · simp [h]
    · have : ¬ d = t := fun e => h e.symm
      simp [h, this]
theorem setK_length : ∀ (ks : List Nat) (l : Sl), (setK ops acc ks l).length = l.length
  | [], _ => rfl
  | k :: ks, l => by rw [setK, setK_length ks, setD_length]
theorem setK_other {t : Nat} : ∀ (ks : List Nat) (l : Sl), (∀ k ∈ ks, dstOf ops k ≠ some t) → (setK ops acc ks l).f t = l.f t
  | [], _, _ => rfl
  | k :: ks, l, h => by
    rw [setK, setK_other ks _ fun k hk => h k (List.mem_cons_of_mem _ hk), setD_f, if_neg (h k List.mem_cons_self)]
theorem setK_get {t j : Nat} (hj : dstOf ops j = some t) : ∀ (ks : List Nat) (l : Sl), (∀ k ∈ ks, dstOf ops k = some t → k = j) → j ∈ ks → (setK ops acc ks l).f t = resV (accOf acc j)
  | [], _, _, h => by simp at h
  | k :: ks, l, h, hm => by
    rw [setK]
    by_cases hj2 : j ∈ ks
    · exact setK_get hj ks _ (fun k hk => h k (List.mem_cons_of_mem _ hk)) hj2
    · have e : j = k := by simpa [hj2] using hm
      subst e
      rw [setK_other ks _ fun k hk hd => hj2 (h k (List.mem_cons_of_mem _ hk) hd ▸ hk), setD_f, if_pos hj]
theorem setK_congr : ∀ (ks : List Nat) (l : Sl), (∀ k ∈ ks, accOf acc k = accOf res k) → setK ops acc ks l = setK ops res ks l
  | [], _, _ => rfl
  | k :: ks, l, h => by rw [setK, setK, h k List.mem_cons_self, setK_congr ks _ fun k hk => h k (List.mem_cons_of_mem _ hk)]
theorem blkP_length (b : Bool) (l : List Ob) : (blkP b l).length = l.length := by cases b <;> simp [blkP]
theorem newsP_congr {L : Nat → Bool} : ∀ (n : Nat), (∀ k, k < n → accOf acc k = accOf res k) → newsP acc L n = newsP res L n
  | 0, _ => rfl
  | n + 1, h => by
    have ih := newsP_congr (L := L) n fun k hk => h k (by omega)
    unfold newsP at ih ⊢
    rw [List.range_succ, List.flatMap_append, List.flatMap_append, ih]
    simp only [List.flatMap_cons, List.flatMap_nil, h n (Nat.lt_succ_self n)]
theorem zW (L : Nat → Bool) (n : Nat) : newsP res L (n + 1) = newsP res L n ++ blkP (L n) (resN (accOf res n)) := by
  unfold newsP
  rw [List.range_succ, List.flatMap_append]
  simp
theorem newsP_len (L L' : Nat → Bool) : ∀ n, (newsP res L n).length = (newsP res L' n).length
  | 0 => rfl
  | n + 1 => by rw [zW, zW, List.length_append, List.length_append, blkP_length, blkP_length, newsP_len L L' n]
theorem newsP_same {L L' : Nat → Bool} : ∀ (n : Nat), (∀ k, k < n → L k = L' k) → newsP res L n = newsP res L' n
  | 0, _ => rfl
  | n + 1, h => by rw [zW, zW, newsP_same n fun k hk => h k (by omega), h n (Nat.lt_succ_self n)]
theorem newsP_split {L L' : Nat → Bool} {i : Nat} (h : ∀ k, k ≠ i → L k = L' k) : ∀ (p : Nat), i < p → ∃ T, newsP res L p = newsP res L i ++ blkP (L i) (resN (accOf res i)) ++ T ∧ newsP res L' p = newsP res L i ++ blkP (L' i) (resN (accOf res i)) ++ T
  | 0, hi => by omega
  | p + 1, hi => by
    by_cases hip : i = p
    · subst hip
      refine ⟨[], ?_, ?_⟩
      · rw [zW, List.append_nil]
      · rw [zW, List.append_nil, newsP_same i fun k hk => (h k (by omega)).symm]
    · obtain ⟨T, h1, h2⟩ := newsP_split h p (by omega)
      refine ⟨T ++ blkP (L p) (resN (accOf res p)), ?_, ?_⟩
      · rw [zW, h1]; simp
      · rw [zW, h2, ← h p (fun e => hip e.symm)]; simp
theorem newsP_get {X Y : Nat → Bool} : ∀ (n : Nat), (∀ k, k < n → X k = true → Y k = true) → ∀ (q : Nat) (o : Ob), (newsP res X n)[q]? = some o → (newsP res Y n)[q]? = some o ∨ o = .none
  | 0, _, q, o, hq => by simp [newsP] at hq
  | n + 1, h, q, o, hq => by
    rw [zW] at hq ⊢
    have hl := newsP_len (res := res) X Y n
    by_cases hlt : q < (newsP res X n).length
    · rw [List.getElem?_append_left hlt] at hq
      rw [List.getElem?_append_left (by omega)]
      exact newsP_get n (fun k hk => h k (by omega)) q o hq
    · rw [List.getElem?_append_right (by omega)] at hq
      rw [List.getElem?_append_right (by omega), ← hl]
      cases hX : X n with
      | true => rw [hX] at hq; rw [h n (Nat.lt_succ_self n) hX]; exact .inl hq
      | false =>
        rw [hX] at hq
        right
        have := List.mem_of_getElem? hq
        exact List.eq_of_mem_replicate this
theorem newsP_all {L : Nat → Bool} : ∀ (n : Nat), (∀ k, k < n → L k = true) → newsP res L n = newsK res (List.range n)
  | 0, _ => rfl
  | n + 1, h => by
    rw [zW, newsP_all n fun k hk => h k (by omega), h n (Nat.lt_succ_self n), List.range_succ]
    simp [newsK, blkP]
theorem drawV_congr {st0 : St} {D : Sl} {ks : List Nat} {i : Nat} (hks : ∀ k ∈ ks, k < i) (h : ∀ k, k < i → accOf acc k = accOf res k) : drawV st0 D ops acc ks i = drawV st0 D ops res ks i := by
  unfold drawV
  rw [setK_congr ks D fun k hk => h k (hks k hk), newsP_congr i h]
theorem deadD_length : ∀ (ds : List (Option Nat)) (l : Sl), (deadD ds l).length = l.length
  | [], _ => rfl
  | d :: ds, l => by rw [deadD, deadD_length ds, setD_length]
theorem deadD_other {t : Nat} : ∀ (ds : List (Option Nat)) (l : Sl), some t ∉ ds → (deadD ds l).f t = l.f t
  | [], _, _ => rfl
  | d :: ds, l, h => by
    simp only [List.mem_cons, not_or] at h
    rw [deadD, deadD_other ds _ h.2, setD_f, if_neg (fun e => h.1 e.symm)]
theorem deadD_dead {t : Nat} : ∀ (ds : List (Option Nat)) (l : Sl), (some t ∈ ds ∨ l.f t = .dead) → (deadD ds l).f t = .dead
  | [], l, h => by simpa [deadD] using h
  | d :: ds, l, h => by
    rw [deadD]
    refine deadD_dead ds _ ?_
    by_cases h1 : some t ∈ ds
    · exact .inl h1
    · right
      rw [setD_f]
      split
      · rfl
      · rename_i hne
        rcases h with h | h
        · simp [h1] at h; exact absurd h.symm hne
        · exact h
theorem nodupD_inj {ds : List (Option Nat)} (h : nodupD ds = true) : ∀ (i j t : Nat), ds[i]? = some (some t) → ds[j]? = some (some t) → i = j := by
  induction ds with
  | nil => intro i j t h; simp at h
  | cons d ds ih =>
    have h2 : nodupD ds = true := by
      cases d with
      | none => exact h
      | some d => simp only [nodupD, Bool.and_eq_true] at h; exact h.2
    intro i j t hi hj
    cases i with
    | zero =>
      cases j with
      | zero => rfl
      | succ j =>
        simp at hi hj
        subst hi
        simp only [nodupD, Bool.and_eq_true, Bool.not_eq_true'] at h
        have := List.mem_of_getElem? hj
        have h3 := h.1
        rw [← Bool.not_eq_true, List.contains_iff_mem] at h3
        exact absurd this h3
    | succ i =>
      cases j with
      | zero =>
        simp at hi hj
        subst hj
        simp only [nodupD, Bool.and_eq_true, Bool.not_eq_true'] at h
        have := List.mem_of_getElem? hi
        have h3 := h.1
        rw [← Bool.not_eq_true, List.contains_iff_mem] at h3
        exact absurd this h3
      | succ j =>
        have := ih h2 i j t (by simpa using hi) (by simpa using hj)
        omega
end
def Fact (P : Program) (G : Orc) (ops : Array Oper) (A : List (List Nat)) (st0 : St) (D : Sl) (res : List Res) (i : Nat) : Prop :=
  ∃ o b, ops[i]? = some o ∧
    (∀ (a : Act) (w : World) (I : Nat → Prop) (β : List Value) (S : Nat → Nat → Prop), RelV (drawV st0 D ops res (ancOf A i) i) a w I β S → Region.wanted o (yielded ops a.tmps) = b) ∧
    (b = true → ∃ p : AV × List Ob, accOf res i = some p ∧ stepQ P G o (drawV st0 D ops res (ancOf A i) i) (fun a n => some (a, n)) = some p) ∧
    (b = false → accOf res i = Option.none)
section
variable {P : Program} {G : Orc} {ops : Array Oper} {A : List (List Nat)} {st0 : St} {D : Sl} {ρ : Type} {r : ρ}
theorem Fact.congr {acc res : List Res} {i : Nat} (hA : ∀ k ∈ ancOf A i, k < i) (h : ∀ k, k ≤ i → accOf acc k = accOf res k) (hf : Fact P G ops A st0 D acc i) : Fact P G ops A st0 D res i := by
  obtain ⟨o, b, h1, h2, h3, h4⟩ := hf
  have e : drawV st0 D ops acc (ancOf A i) i = drawV st0 D ops res (ancOf A i) i := drawV_congr hA fun k hk => h k (Nat.le_of_lt hk)
  rw [e] at h2 h3
  refine ⟨o, b, h1, h2, fun hb => ?_, fun hb => by rw [← h i (Nat.le_refl _)]; exact h4 hb⟩
  obtain ⟨p, h5, h6⟩ := h3 hb
  exact ⟨p, by rw [← h i (Nat.le_refl _)]; exact h5, h6⟩
theorem accOf_old {acc : List Res} {x : List Res} {k : Nat} (h : k < acc.length) : accOf (acc ++ x) k = accOf acc k := by
  unfold accOf
  rw [List.getElem?_append_left h]
theorem accOf_new {acc : List Res} {x : Res} : accOf (acc ++ [x]) acc.length = x := by
  unfold accOf
  rw [List.getElem?_append_right (Nat.le_refl _)]
  simp
theorem guardD_is {acc : List Res} {n : Nat} (hn : acc.length = n) (hA : ∀ k ∈ ancOf A n, k < n) (hinj : ∀ i j t, i < n → j < n → dstOf ops i = some t → dstOf ops j = some t → i = j)
    {o : Oper} {K : Bool → List Res → Option ρ} (h : guardD (drawV st0 D ops acc (ancOf A n) n) ops (ancOf A n) acc o.guard K = some r) :
    ∃ b, (∀ (a : Act) (w : World) (I : Nat → Prop) (β : List Value) (S : Nat → Nat → Prop), RelV (drawV st0 D ops acc (ancOf A n) n) a w I β S → Region.wanted o (yielded ops a.tmps) = b) ∧ K b acc = some r := by
  unfold guardD at h
  split at h
  · rename_i hg
    exact ⟨true, fun a w I β S _ => by simp [Region.wanted, hg], h⟩
  · rename_i j want hg
    obtain ⟨hj, h⟩ := zM h
    have hj' : j ∈ ancOf A n := by rwa [List.contains_iff_mem] at hj
    split at h
    · rename_i t ht
      have ht' : (ops[j]?).bind (·.dst) = some t := ht
      have key : ∀ av, (drawV st0 D ops acc (ancOf A n) n).get t = av → av ≠ .dead → ∀ (a : Act) (w : World) (I : Nat → Prop) (β : List Value) (S : Nat → Nat → Prop), RelV (drawV st0 D ops acc (ancOf A n) n) a w I β S → ∃ v, a.tmps[t]? = some v ∧ AVR w I β av v := by
        intro av he hne a w I β S hr
        rw [St.get_eq] at he
        cases hs : (drawV st0 D ops acc (ancOf A n) n).slots[t]? with
        | none => simp [hs] at he; exact absurd he.symm hne
        | some x =>
          simp [hs] at he
          subst he
          have hlt : t < a.tmps.size := by rw [hr.sz]; exact (Sl.some_iff.1 hs).1
          exact ⟨a.tmps[t], by simp [hlt], hr.slot t x _ hs (by simp [hlt])⟩
      unfold guard2O at h
      split at h
      · rename_i b hb
        have hw : ∀ (a : Act) (w : World) (I : Nat → Prop) (β : List Value) (S : Nat → Nat → Prop), RelV (drawV st0 D ops acc (ancOf A n) n) a w I β S → Region.wanted o (yielded ops a.tmps) = (b == want) := by
          intro a w I β S hr
          obtain ⟨v, hv, hav⟩ := key _ hb (by simp) a w I β S hr
          obtain ⟨rfl, -⟩ := hav.val
          unfold Region.wanted
          simp only [hg]
          have hy : yielded ops a.tmps j = some b := by simp [yielded, ht', hv]
          rw [hy]
          cases b <;> cases want <;> rfl
        have same : ∀ b', b = b' → acc.set j (fixRes b' (accOf acc j)) = acc := by
          rintro b' rfl
          have hjl : j < acc.length := by rw [hn]; exact hA j hj'
          have hf : fixRes b (accOf acc j) = accOf acc j := by
            unfold fixRes
            split
            · rename_i b1 he
              have h1 := setK_get (acc := acc) ht (ancOf A n) D (fun k hk hd => hinj k j t (hA k hk) (hA j hj') hd ht) hj'
              have hbf : (drawV st0 D ops acc (ancOf A n) n).slots.f t = .c (.n (.v (.bool b))) := by
                unfold St.get at hb
                cases hc : Nat.blt t (drawV st0 D ops acc (ancOf A n) n).slots.length with
                | true => rw [hc] at hb; exact hb
                | false => rw [hc] at hb; cases hb
              simp only [drawV, Sl.map, h1, he, resV] at hbf
              have hb := hbf
              simp only [AV.kill, C.kill, AV.c.injEq, C.n.injEq, N.v.injEq, Value.bool.injEq] at hb
              subst hb
              rw [he]
              rfl
            · rfl
          rw [hf]
          unfold accOf
          rw [List.getElem?_eq_getElem hjl]
          simp
        refine ⟨b == want, hw, ?_⟩
        cases want with
        | true =>
          cases b with
          | true => rw [← same true rfl]; exact h
          | false => rw [← same false rfl]; exact h
        | false =>
          cases b with
          | true => rw [← same true rfl]; exact h
          | false => rw [← same false rfl]; exact h
      · rename_i vs hb
        refine ⟨false, fun a w I β S hr => ?_, h⟩
        obtain ⟨v, hv, hav⟩ := key _ hb (by simp) a w I β S hr
        obtain ⟨arr, rfl, -⟩ := hav
        unfold Region.wanted
        simp [hg, yielded, ht', hv]
      · cases h
    · cases h
theorem exD_facts (hG : G.ok P) (hA : ∀ i, ∀ k ∈ ancOf A i, k < i) {p : Nat} (hinj : ∀ i j t, i < p → j < p → dstOf ops i = some t → dstOf ops j = some t → i = j) :
    ∀ (rest : List Oper) (acc : List Res) (K : List Res → Option ρ), acc.length + rest.length = p → (∀ j o, rest[j]? = some o → ops[acc.length + j]? = some o) → exD P G ops A st0 D rest acc K = some r →
    ∃ res, res.length = p ∧ (∀ k, k < acc.length → accOf res k = accOf acc k) ∧ K res = some r ∧ ∀ k, acc.length ≤ k → k < p → Fact P G ops A st0 D res k
  | [], acc, K, hl, _, h => ⟨acc, by simpa using hl, fun _ _ => rfl, h, fun k h1 h2 => by simp at hl; omega⟩
  | o :: rest, acc, K, hl, ho, h => by
    simp only [List.length_cons] at hl
    obtain ⟨b, hw, h⟩ := guardD_is rfl (hA _) (fun i j t hi hj => hinj i j t (by omega) (by omega)) h
    have ho0 : ops[acc.length]? = some o := ho 0 o rfl
    have next : ∀ (x : Res) (hx : exD P G ops A st0 D rest (acc ++ [x]) K = some r) (hf : Fact P G ops A st0 D (acc ++ [x]) acc.length),
        ∃ res, res.length = p ∧ (∀ k, k < acc.length → accOf res k = accOf acc k) ∧ K res = some r ∧ ∀ k, acc.length ≤ k → k < p → Fact P G ops A st0 D res k := by
      intro x hx hf
      obtain ⟨res, h1, h2, h3, h4⟩ := exD_facts hG hA hinj rest (acc ++ [x]) K (by simp; omega) (fun j o hj => by
        simp only [List.length_append, List.length_singleton]
        rw [show acc.length + 1 + j = acc.length + (j + 1) by omega]
        exact ho (j + 1) o (by simpa using hj)) hx
      refine ⟨res, h1, fun k hk => by rw [h2 k (by simp; omega), accOf_old hk], h3, fun k hk hkp => ?_⟩
      by_cases hk0 : k = acc.length
      · subst hk0
        exact hf.congr (hA _) fun k hk => (h2 k (by simp; omega)).symm
      · exact h4 k (by simp; omega) hkp
    have hV : ∀ x : Res, drawV st0 D ops (acc ++ [x]) (ancOf A acc.length) acc.length = drawV st0 D ops acc (ancOf A acc.length) acc.length := fun x => drawV_congr (hA _) fun k hk => accOf_old hk
    cases b with
    | false =>
      refine next Option.none h ⟨o, false, ho0, ?_, (fun hb => Bool.noConfusion hb), fun _ => accOf_new⟩
      rw [hV]
      exact hw
    | true =>
      obtain ⟨q, hq, h⟩ := stepQ_det hG h
      refine next (some (q.1, q.2)) h ⟨o, true, ho0, ?_, fun _ => ⟨q, accOf_new, ?_⟩, fun hb => by cases hb⟩
      · rw [hV]; exact hw
      · rw [hV]; exact hq
theorem AB.kill {w : World} {J : Nat → Prop} {bad : Nat → Bool} {x : AV} {v : Value} (h : AB w J x v) : AB w J (x.kill bad) v := by
  have hC : ∀ {x : C} {v : Value}, CB w J x v → CB w J (x.kill bad) v := by
    intro x v h
    cases x <;> first | exact h | (simp only [C.kill]; split <;> trivial)
  have hCs : ∀ {cs : List C} {arr : Array Value}, CsB w J cs arr → CsB w J (cs.map (C.kill bad)) arr := fun h j x v hx hv => by
    simp only [List.getElem?_map, Option.map_eq_some_iff] at hx
    obtain ⟨y, hy, rfl⟩ := hx
    exact hC (h j y v hy hv)
  cases x with
  | c x => exact hC h
  | a cs => exact fun arr e => hCs (h arr e)
  | fn f cs => exact fun arr e => hCs (h arr e)
  | ea i sz idx f => simp only [AV.kill]; split <;> trivial
  | _ => exact h
def badV : Value := .tuple #[]
theorem step_at {c : Cx} {st : St} {a : Act} {w : World} {I : Nat → Prop} {β : List Value} {S : Nat → Nat → Prop} (hr : RelV st a w I β S) (hc : RelC c st a w I β S) (hb : BorR st a w (fun b => I b ∨ ∃ i, S i b)) {N : Nat} {av : AV} {news : List Ob} {v : Value} {w' : World}
    (hN : N + news.length ≤ st.obs.length) (hbad : ∀ q, N ≤ q → q < N + news.length → β[q]? = some badV) (hSn : ∀ q, N ≤ q → q < N + news.length → ∀ b, ¬ S q b) (hkl : ∀ i, i < c.β0.length → kb st.ks i = true → i < N)
    (hq : QPB (fun b => I b ∨ ∃ i, S i b) w I (β.take N) av news v w') (d : Option Nat) :
    ∃ I' β' S', RelV ⟨setD st.slots d av, st.obs.take N ++ news ++ st.obs.drop (N + news.length), st.ks⟩ (a.put d v) w' I' β' S' ∧ RelC c ⟨setD st.slots d av, st.obs.take N ++ news ++ st.obs.drop (N + news.length), st.ks⟩ (a.put d v) w' I' β' S' ∧
      BorR ⟨setD st.slots d av, st.obs.take N ++ news ++ st.obs.drop (N + news.length), st.ks⟩ (a.put d v) w' (fun b => I' b ∨ ∃ i, S' i b) ∧ (∀ q, (q < N ∨ N + news.length ≤ q) → β'[q]? = β[q]? ∧ ∀ b, S' q b → S q b) := by
  obtain ⟨I', βn, Sn, hfr, hI, hI2, hIl, hbn, hav, hob, hslt, hsd, hab⟩ := hq
  generalize hm : news.length = m at *
  have hbl := hr.bl
  have hNb : N ≤ β.length := by omega
  have hsame : ∀ b, b < w.heap.size → w'.heap[b]? = w.heap[b]? := fun b hb => hfr.block b hb (fun h => h)
  have hIw : ∀ b, I b → w'.heap[b]? = w.heap[b]? := fun b hb => hsame b (hr.ilt b hb)
  -- the headers
  have hl1 : (β.take N).length = N := by rw [List.length_take]; omega
  have hl2 : (β.take N ++ βn).length = N + m := by rw [List.length_append, hl1, hbn]
  have hget : ∀ q, (β.take N ++ βn ++ β.drop (N + m))[q]? = if q < N then β[q]? else if q < N + m then βn[q - N]? else β[q]? := by
    intro q
    split
    · rename_i h
      rw [List.getElem?_append_left (by omega), List.getElem?_append_left (by omega), List.getElem?_take_of_lt h]
    · split
      · rw [List.getElem?_append_left (by omega), List.getElem?_append_right (by omega), hl1]
      · rw [List.getElem?_append_right (by omega), hl2, List.getElem?_drop]
        congr 1
        omega
  have hobs : ∀ q, (st.obs.take N ++ news ++ st.obs.drop (N + m))[q]? = if q < N then st.obs[q]? else if q < N + m then news[q - N]? else st.obs[q]? := by
    intro q
    have h1 : (st.obs.take N).length = N := by rw [List.length_take]; omega
    have h2 : (st.obs.take N ++ news).length = N + m := by rw [List.length_append, h1, hm]
    split
    · rename_i h
      rw [List.getElem?_append_left (by omega), List.getElem?_append_left (by omega), List.getElem?_take_of_lt h]
    · split
      · rw [List.getElem?_append_left (by omega), List.getElem?_append_right (by omega), h1]
      · rw [List.getElem?_append_right (by omega), h2, List.getElem?_drop]
        congr 1
        omega
  have hβ : ∀ (i : Nat) (b : Value), b.oneCell' = true → β[i]? = some b → (β.take N ++ βn ++ β.drop (N + m))[i]? = some b := by
    intro i b h1 hib
    rw [hget]
    split
    · exact hib
    · split
      · rw [hbad i (by omega) (by omega)] at hib
        obtain rfl := Option.some.inj hib
        cases h1
      · exact hib
  have hβ2 : ∀ (i : Nat) (b : Value), (β.take N ++ βn)[i]? = some b → (β.take N ++ βn ++ β.drop (N + m))[i]? = some b := fun i b h => by
    rw [List.getElem?_append_left (List.getElem?_eq_some_iff.1 h).1]; exact h
  let S' : Nat → Nat → Prop := fun i b => (i < N ∨ N + m ≤ i) ∧ S i b ∨ (N ≤ i ∧ i < N + m) ∧ Sn (i - N) b
  have hslots : (⟨setD st.slots d av, st.obs.take N ++ news ++ st.obs.drop (N + m), st.ks⟩ : St) = (⟨st.slots, st.obs.take N ++ news ++ st.obs.drop (N + m), st.ks⟩ : St).put d av := by
    cases d <;> rfl
  have hJ : ∀ b, (I b ∨ ∃ i, S i b) → I' b ∨ ∃ i, S' i b := by
    rintro b (h | ⟨i, h⟩)
    · exact .inl (hI b h)
    · by_cases hi : N ≤ i ∧ i < N + m
      · exact absurd h (hSn i hi.1 hi.2 b)
      · exact .inr ⟨i, .inl ⟨by omega, h⟩⟩
  refine ⟨I', β.take N ++ βn ++ β.drop (N + m), S', ?_, ?_, ?_, ?_⟩
  · rw [hslots]
    refine RelV.put ?_ d (hav.mono (fun _ h => h) (fun _ _ => rfl) hβ2)
    refine ⟨hr.sz, ?_, fun t u x hu hx => (hr.slot t u x hu hx).mono2 hI hIw hβ, ?_, ?_, ?_, hr.il.mono hI hIw hIl⟩
    · simp only [List.length_append, List.length_take, List.length_drop, hbn, hm]
      omega
    · intro i o b ho hb
      rw [hobs] at ho
      rw [hget] at hb
      by_cases h1 : i < N
      · rw [if_pos h1] at ho hb
        exact (hr.ob i o b ho hb).mono2 hI hIw hβ (fun q hq => hsame q (hr.slt i q hq).2.1) (fun q h => .inl ⟨.inl h1, h⟩)
      · rw [if_neg h1] at ho hb
        by_cases h2 : i < N + m
        · rw [if_pos h2] at ho hb
          exact (hob _ o b ho hb).mono (fun _ h => h) (fun _ _ => rfl) hβ2 (fun _ _ => rfl) (fun q h => .inr ⟨⟨by omega, h2⟩, h⟩)
        · rw [if_neg h2] at ho hb
          exact (hr.ob i o b ho hb).mono2 hI hIw hβ (fun q hq => hsame q (hr.slt i q hq).2.1) (fun q h => .inl ⟨.inr (by omega), h⟩)
    · rintro i j b (⟨h1, hb⟩ | ⟨h1, hb⟩) (⟨h2, hb'⟩ | ⟨h2, hb'⟩)
      · exact hr.sdis i j b hb hb'
      · have := (hr.slt i b hb).2.1; have := (hslt _ b hb').2.1; omega
      · have := (hr.slt j b hb').2.1; have := (hslt _ b hb).2.1; omega
      · have := hsd _ _ b hb hb'; omega
    · rintro i b (⟨h0, hb⟩ | ⟨h0, hb⟩)
      · obtain ⟨h1, h2, h3⟩ := hr.slt i b hb
        refine ⟨by simp only [List.length_append, List.length_take, List.length_drop, hm]; omega, Nat.lt_of_lt_of_le h2 hfr.size, fun h => ?_⟩
        rcases hI2 b h with h | h
        · exact h3 h
        · omega
      · obtain ⟨h1, h2, h3, h4⟩ := hslt _ b hb
        exact ⟨by simp only [List.length_append, List.length_take, List.length_drop, hm]; omega, h3, h4⟩
  · rw [hslots]
    refine RelC.put (⟨?_, fun b hb => hI b (hc.isub b hb), ?_, ?_, ?_, hc.defers⟩) d av v
    · rintro i b (⟨h0, hb⟩ | ⟨h0, hb⟩)
      · exact hc.own i b hb
      · exact .inl (Nat.le_trans hc.frame.size (hslt _ b hb).2.1)
    · intro b hb
      rcases hI2 b hb with h | h
      · exact hc.iinv b h
      · exact .inr (.inl (Nat.le_trans hc.frame.size h))
    · exact hc.frame.trans hfr (fun _ h => h.elim)
    · intro i hi hk
      rw [hget, if_pos (hkl i hi hk)]
      exact hc.keep i hi hk
  · have hJw : ∀ b, (I b ∨ ∃ i, S i b) → w'.heap[b]? = w.heap[b]? := by
      rintro b (hb | ⟨i, hb⟩)
      · exact hsame b (hr.ilt b hb)
      · exact hsame b (hr.slt i b hb).2.1
    have hn : AB w' (fun b => I' b ∨ ∃ i, S' i b) av v := by
      refine hab.mono ?_ (fun _ _ => rfl)
      rintro b (hb | hb)
      · exact hJ b hb
      · exact .inl hb
    intro t x u hx hu
    cases d with
    | none => exact (hb t x u hx hu).mono hJ hJw
    | some d =>
      have hx' : (st.slots.set d av)[t]? = some x := hx
      have hu' : (a.tmps.setIfInBounds d v)[t]? = some u := hu
      rw [Sl.getElem?_set] at hx'
      rw [Array.getElem?_setIfInBounds] at hu'
      split at hx'
      · rename_i he
        subst he
        rw [if_pos rfl] at hu'
        split at hx'
        · simp only [Option.some.injEq] at hx'
          subst hx'
          split at hu'
          · simp only [Option.some.injEq] at hu'
            subst hu'
            exact hn
          · cases hu'
        · cases hx'
      · rename_i he
        rw [if_neg he] at hu'
        exact (hb t x u hx' hu').mono hJ hJw
  · intro q hq
    rw [hget]
    refine ⟨?_, ?_⟩
    · by_cases h1 : q < N
      · rw [if_pos h1]
      · rw [if_neg h1, if_neg (by omega)]
    · rintro b (⟨h1, h2⟩ | ⟨h1, h2⟩)
      · exact h2
      · omega
structure DInv (st0 : St) (ops : Array Oper) (res : List Res) (p : Nat) (L : Nat → Bool) (st : St) : Prop where
  len : st.slots.length = st0.slots.length
  done : ∀ k, k < p → L k = true → ∀ t, dstOf ops k = some t → st.slots.f t = resV (accOf res k)
  old : ∀ t, (∀ k, k < p → L k = true → dstOf ops k ≠ some t) → st.slots.f t = st0.slots.f t
  obs : st.obs = st0.obs ++ newsP res L p
  ks : st.ks = st0.ks
def offP (st0 : St) (res : List Res) (k : Nat) : Nat := (st0.obs ++ newsP res (fun _ => false) k).length
structure PH (st0 : St) (res : List Res) (p : Nat) (L : Nat → Bool) (β : List Value) (S : Nat → Nat → Prop) : Prop where
  val : ∀ k, k < p → L k = false → ∀ q, offP st0 res k ≤ q → q < offP st0 res k + (resN (accOf res k)).length → β[q]? = some badV
  own : ∀ k, k < p → L k = false → ∀ q, offP st0 res k ≤ q → q < offP st0 res k + (resN (accOf res k)).length → ∀ b, ¬ S q b
def RelP (c : Cx) (st0 : St) (res : List Res) (p : Nat) (L : Nat → Bool) (st : St) (a : Act) (w : World) : Prop :=
  ∃ I β S, RelV st a w I β S ∧ RelC c st a w I β S ∧ BorR st a w (fun b => I b ∨ ∃ i, S i b) ∧ PH st0 res p L β S
theorem RelP.relB {c : Cx} {st0 : St} {res : List Res} {p : Nat} {L : Nat → Bool} {st : St} {a : Act} {w : World} (h : RelP c st0 res p L st a w) : RelB c st a w := by
  obtain ⟨I, β, S, h1, h2, h3, -⟩ := h
  exact ⟨I, β, S, h1, h2, h3⟩
theorem offP_succ {st0 : St} {res : List Res} (k : Nat) : offP st0 res (k + 1) = offP st0 res k + (resN (accOf res k)).length := by
  unfold offP
  rw [zW, List.length_append, List.length_append, List.length_append, blkP_length]
  omega
theorem offP_lt {st0 : St} {res : List Res} {i k : Nat} (h : i < k) : offP st0 res i + (resN (accOf res i)).length ≤ offP st0 res k := by
  induction k with
  | zero => omega
  | succ k ih =>
    rw [offP_succ]
    by_cases hik : i = k
    · subst hik; omega
    · have := ih (by omega); omega
theorem offP_eq {st0 : St} {res : List Res} (L : Nat → Bool) (k : Nat) : offP st0 res k = (st0.obs ++ newsP res L k).length := by
  unfold offP
  rw [List.length_append, List.length_append, newsP_len (fun _ => false) L]
section
variable {c : Cx} {p : Nat} {res : List Res}
variable (hd : ∀ i o, ops.toList[i]? = some o → ∀ j ∈ dirs o, j < i) (hp : p ≤ ops.size)
    (hinj : ∀ i j t, i < p → j < p → dstOf ops i = some t → dstOf ops j = some t → i = j)
    (hF : ∀ k, k < p → Fact P G ops (ancs ops.toList) st0 (deadD ((ops.toList.take p).map (·.dst)) st0.slots) res k)
include hd hp hinj hF
theorem draw_known {L : Nat → Bool} {st : St} {a : Act} {w : World} {I : Nat → Prop} {β : List Value} {S : Nat → Nat → Prop} (hI : DInv st0 ops res p L st) (hr : RelV st a w I β S) {i : Nat} (hip : i < p) (hiL : L i = false)
    (hanc : ∀ k ∈ ancOf (ancs ops.toList) i, L k = true) :
    RelV (drawV st0 (deadD ((ops.toList.take p).map (·.dst)) st0.slots) ops res (ancOf (ancs ops.toList) i) i) a w I (β.take (offP st0 res i)) (fun k b => k < offP st0 res i ∧ S k b) ∧
    (∀ J, BorR st a w J → BorR (drawV st0 (deadD ((ops.toList.take p).map (·.dst)) st0.slots) ops res (ancOf (ancs ops.toList) i) i) a w J) := by
  have hsz : ops.toList.length = ops.size := rfl
  have hNl : offP st0 res i = (st0.obs ++ newsP res (ancOf (ancs ops.toList) i).contains i).length := offP_eq _ i
  obtain ⟨T, hT, -⟩ := newsP_split (res := res) (L := L) (L' := L) (fun _ _ => rfl) p hip
  have hobs : st.obs = st0.obs ++ newsP res L i ++ (blkP (L i) (resN (accOf res i)) ++ T) := by rw [hI.obs, hT]; simp
  have hDl : (deadD ((ops.toList.take p).map (·.dst)) st0.slots).length = st0.slots.length := deadD_length _ _
  -- a slot of what is known
  have hslot : ∀ (t : Nat) (av : AV), (drawV st0 (deadD ((ops.toList.take p).map (·.dst)) st0.slots) ops res (ancOf (ancs ops.toList) i) i).slots[t]? = some av →
      ∃ (bad : Nat → Bool) (x : AV), bad = (fun i' => decide (offP st0 res i ≤ i')) ∧ av = x.kill bad ∧ (x = .dead ∨ st.slots[t]? = some x) := by
    intro t av hv
    obtain ⟨hlt0, hv⟩ := Sl.some_iff.1 hv
    have hlt : t < st.slots.length := by
      rw [hI.len]
      have h2 : t < ((setK ops res (ancOf (ancs ops.toList) i) (deadD ((ops.toList.take p).map (·.dst)) st0.slots)).map _).length := hlt0
      rw [Sl.length_map, setK_length, hDl] at h2
      exact h2
    have hv' : ((setK ops res (ancOf (ancs ops.toList) i) (deadD ((ops.toList.take p).map (·.dst)) st0.slots)).f t).kill (fun i' => decide (offP st0 res i ≤ i')) = av := by rw [hNl]; exact hv
    subst hv'
    refine ⟨_, _, rfl, rfl, ?_⟩
    by_cases h1 : ∃ k ∈ ancOf (ancs ops.toList) i, dstOf ops k = some t
    · obtain ⟨k, hk, hkt⟩ := h1
      have hki := anc_lt hk
      rw [setK_get hkt _ _ (fun k' hk' hd' => hinj k' k t (by have := anc_lt hk'; omega) (by omega) hd' hkt) hk]
      right
      rw [Sl.get_lt hlt, hI.done k (by omega) (hanc k hk) t hkt]
    · rw [setK_other _ _ (fun k hk hkt => h1 ⟨k, hk, hkt⟩)]
      by_cases h2 : some t ∈ (ops.toList.take p).map (·.dst)
      · exact .inl (deadD_dead _ _ (.inl h2))
      · rw [deadD_other _ _ h2]
        right
        rw [Sl.get_lt hlt, hI.old t fun k hk _ hkt => h2 ?_]
        refine List.mem_map.2 ?_
        unfold dstOf at hkt
        cases ho : ops[k]? with
        | none => rw [ho] at hkt; cases hkt
        | some o =>
          rw [ho] at hkt
          refine ⟨o, List.mem_of_getElem? (i := k) ?_, by simpa using hkt⟩
          rw [List.getElem?_take_of_lt hk, Array.getElem?_toList, ho]
  refine ⟨?_, ?_⟩
  · generalize hn : offP st0 res i = n at *
    have hnL : (st0.obs ++ newsP res L i).length = n := by rw [← offP_eq L i]; exact hn
    have hnl : n ≤ st.obs.length := by rw [hobs, List.length_append, hnL]; exact Nat.le_add_right _ _
    have hβ : ∀ (j : Nat) (b : Value), (fun i' => decide (n ≤ i')) j = false → β[j]? = some b → (β.take n)[j]? = some b := by
      intro j b hj hb
      have : j < n := by simpa using hj
      rw [List.getElem?_take_of_lt this]
      exact hb
    refine ⟨?_, ?_, fun t v u hv hu => ?_, fun j o b ho hb => ?_, fun j k b hj hk => hr.sdis j k b hj.2 hk.2, fun j b hb => ?_, hr.il⟩
    · rw [hr.sz, hI.len]; simp only [drawV, Sl.length_map, setK_length, hDl]
    · simp only [drawV, List.length_map, List.length_take, hr.bl, ← hNl]
      omega
    · obtain ⟨bad, x, rfl, rfl, hx⟩ := hslot t v hv
      rcases hx with rfl | hx
      · trivial
      · exact (hr.slot t x u hx hu).kill hβ
    · simp only [drawV, List.getElem?_map, Option.map_eq_some_iff] at ho
      obtain ⟨o', ho', rfl⟩ := ho
      have hj : j < n := by rw [hNl]; exact (List.getElem?_eq_some_iff.1 ho').1
      rw [List.getElem?_take_of_lt hj] at hb
      rw [← hNl]
      have ho2 : st.obs[j]? = some o' ∨ o' = .none := by
        rw [hobs, List.getElem?_append_left (by rw [hnL]; exact hj)]
        by_cases hj0 : j < st0.obs.length
        · rw [List.getElem?_append_left hj0] at ho' ⊢
          exact .inl ho'
        · rw [List.getElem?_append_right (by omega)] at ho' ⊢
          exact newsP_get i (fun k _ hk => hanc k (by rwa [List.contains_iff_mem] at hk)) _ _ ho'
      rcases ho2 with ho2 | rfl
      · exact ((hr.ob j o' b ho2 hb).mono (β' := β) (S' := fun q => j < n ∧ S j q) (fun _ h => h) (fun _ _ => rfl) (fun _ _ h => h) (fun _ _ => rfl) (fun q hq => ⟨hj, hq⟩)).kill hβ
      · trivial
    · obtain ⟨h1, h2, h3⟩ := hr.slt j b hb.2
      exact ⟨by simp only [drawV, List.length_map, ← hNl]; exact hb.1, h2, h3⟩
  · intro J hJ t v u hv hu
    obtain ⟨bad, x, -, rfl, hx⟩ := hslot t v hv
    rcases hx with rfl | hx
    · trivial
    · exact (hJ t x u hx hu).kill
theorem draw_step (hG : G.ok P) {L : Nat → Bool} {st : St} {a : Act} {w : World} (hI : DInv st0 ops res p L st) (hkl : ∀ i, i < c.β0.length → kb st0.ks i = true → i < st0.obs.length) (hrel : RelP c st0 res p L st a w) {i : Nat} (hip : i < p) (hiL : L i = false)
    (hanc : ∀ k ∈ ancOf (ancs ops.toList) i, L k = true) {Q : Exit → Act → World → Prop} {next : Act → World → Prop}
    (hn : ∀ st' a' w', DInv st0 ops res p (fun k => L k || k == i) st' → RelP c st0 res p (fun k => L k || k == i) st' a' w' → next a' w') : wpOp P ops Q i next a w := by
  obtain ⟨I, β, S, hr, hc, hb, hph⟩ := hrel
  obtain ⟨hV, hbV⟩ := draw_known hd hp hinj hF hI hr hip hiL hanc
  obtain ⟨o, b, ho, hw, ht, hff⟩ := hF i hip
  have hdst : dstOf ops i = o.dst := by simp [dstOf, ho]
  have hwb := hw _ _ _ _ _ hV
  have hLi : ∀ k, k ≠ i → L k = (L k || k == i) := fun k hk => by
    have e : (k == i) = false := by simp [hk]
    rw [e, Bool.or_false]
  obtain ⟨T, hT1, hT2⟩ := newsP_split (res := res) (L := L) (L' := fun k => L k || k == i) hLi p hip
  have hLi2 : (L i || i == i) = true := by simp
  rw [hiL] at hT1
  simp only [hLi2] at hT2
  have hN := offP_eq (st0 := st0) (res := res) L i
  -- the slots behind it
  have hslotI : ∀ (x : Res) (obs : List Ob), accOf res i = x → obs = st0.obs ++ newsP res (fun k => L k || k == i) p → DInv st0 ops res p (fun k => L k || k == i) ⟨setD st.slots o.dst (resV x), obs, st.ks⟩ := by
    intro x obs hx hobs
    refine ⟨?_, fun k hk hL t hkt => ?_, fun t h => ?_, hobs, hI.ks⟩
    · show (setD _ _ _).length = _
      rw [setD_length]; exact hI.len
    · show (setD _ _ _).f t = _
      rw [setD_f]
      by_cases hki : k = i
      · subst hki
        rw [hdst] at hkt
        rw [if_pos hkt, hx]
      · have hL' : L k = true := by simpa [hki] using hL
        rw [if_neg (fun hod => hki (hinj k i t hk hip hkt (by rw [hdst, hod])))]
        exact hI.done k hk hL' t hkt
    · show (setD _ _ _).f t = _
      rw [setD_f]
      have h1 : o.dst ≠ some t := by rw [← hdst]; exact h i hip (by simp)
      rw [if_neg h1]
      exact hI.old t fun k hk hL => h k hk (by simp [hL])
  have hphI : ∀ (β' : List Value) (S' : Nat → Nat → Prop), (∀ q, (q < offP st0 res i ∨ offP st0 res i + (resN (accOf res i)).length ≤ q) → β'[q]? = β[q]? ∧ ∀ b, S' q b → S q b) → PH st0 res p (fun k => L k || k == i) β' S' := by
    intro β' S' h
    have hk0 : ∀ k, (L k || k == i) = false → L k = false ∧ k ≠ i := fun k hk => by
      rw [Bool.or_eq_false_iff] at hk
      exact ⟨hk.1, by simpa using hk.2⟩
    have hout : ∀ k, k ≠ i → ∀ q, offP st0 res k ≤ q → q < offP st0 res k + (resN (accOf res k)).length → q < offP st0 res i ∨ offP st0 res i + (resN (accOf res i)).length ≤ q := by
      intro k hki q h1 h2
      rcases Nat.lt_or_gt_of_ne hki with h3 | h3
      · have := offP_lt (st0 := st0) (res := res) h3; omega
      · have := offP_lt (st0 := st0) (res := res) h3; omega
    refine ⟨fun k hkp hk q h1 h2 => ?_, fun k hkp hk q h1 h2 b hb => ?_⟩
    · obtain ⟨h3, h4⟩ := hk0 k hk
      rw [(h q (hout k h4 q h1 h2)).1]
      exact hph.val k hkp h3 q h1 h2
    · obtain ⟨h3, h4⟩ := hk0 k hk
      exact hph.own k hkp h3 q h1 h2 b ((h q (hout k h4 q h1 h2)).2 b hb)
  unfold wpOp
  simp only [ho]
  cases b with
  | false =>
    rw [if_neg (by simp [hwb])]
    have hnone := hff rfl
    have hobs : st.obs = st0.obs ++ newsP res (fun k => L k || k == i) p := by
      rw [hI.obs, hT1, hT2, hnone]; rfl
    have h1 := hslotI _ st.obs hnone hobs
    simp only [resV] at h1
    have he : (⟨setD st.slots o.dst skipAV, st.obs, st.ks⟩ : St) = st.put o.dst skipAV := by cases o.dst <;> rfl
    rw [he] at h1
    obtain ⟨I2, β2, S2, r1, r2, r3, r4⟩ : ∃ I2 β2 S2, RelV (st.put o.dst skipAV) (a.put o.dst undef) w I2 β2 S2 ∧ RelC c (st.put o.dst skipAV) (a.put o.dst undef) w I2 β2 S2 ∧ BorR (st.put o.dst skipAV) (a.put o.dst undef) w (fun b => I2 b ∨ ∃ i, S2 i b) ∧ (β2 = β ∧ S2 = S) := by
      refine ⟨I, β, S, RelV.put hr o.dst ?_, RelC.put hc o.dst _ _, ?_, rfl, rfl⟩
      · exact ⟨#[], rfl, rfl, fun j x v hx => by simp at hx⟩
      · intro t x u hx hu
        cases hod : o.dst with
        | none => rw [hod] at hx hu; exact hb t x u hx hu
        | some d =>
          rw [hod] at hx hu
          have hx' : (st.slots.set d skipAV)[t]? = some x := hx
          have hu' : (a.tmps.setIfInBounds d undef)[t]? = some u := hu
          rw [Sl.getElem?_set] at hx'
          rw [Array.getElem?_setIfInBounds] at hu'
          split at hx'
          · split at hx'
            · simp only [Option.some.injEq] at hx'
              subst hx'
              trivial
            · cases hx'
          · rename_i he
            rw [if_neg he] at hu'
            exact hb t x u hx' hu'
    obtain ⟨rfl, rfl⟩ := r4
    exact hn _ _ _ h1 ⟨I2, β2, S2, r1, r2, r3, hphI β2 S2 fun q _ => ⟨rfl, fun _ h => h⟩⟩
  | true =>
    rw [if_pos hwb]
    obtain ⟨q, hq, hs⟩ := ht rfl
    refine .inl ((stepQ_sound hG hV (J := fun b => I b ∨ ∃ i, S i b) ?_ ?_ (hbV _ hb) hs).wp ?_)
    · rintro b (h | ⟨j, -, h⟩)
      · exact .inl h
      · exact .inr ⟨j, h⟩
    · refine hr.il.mono (fun _ h => .inl h) (fun _ _ => rfl) ?_
      rintro b (hb | ⟨i, hb⟩)
      · exact hr.ilt b hb
      · exact (hr.slt i b hb).2.1
    · rintro v w' ⟨av, news, hK, hqp⟩
      simp only [Option.some.injEq] at hK
      subst hK
      have hrn : resN (accOf res i) = news := by rw [hq]; rfl
      have hph' := hph
      have hlen : offP st0 res i + news.length ≤ st.obs.length := by
        rw [hI.obs, hT1, hN, ← hrn]
        simp only [List.length_append, blkP_length]
        omega
      obtain ⟨I', β', S', r1, r2, r3, r4⟩ := step_at hr hc hb (N := offP st0 res i) hlen (fun q h1 h2 => hph.val i hip hiL q h1 (by rw [hrn]; exact h2)) (fun q h1 h2 => hph.own i hip hiL q h1 (by rw [hrn]; exact h2)) (fun k hk hkk => by
        have := hkl k hk (by rw [← hI.ks]; exact hkk)
        rw [hN, List.length_append]; omega) hqp o.dst
      have hobs : st.obs.take (offP st0 res i) ++ news ++ st.obs.drop (offP st0 res i + news.length) = st0.obs ++ newsP res (fun k => L k || k == i) p := by
        have e1 : st.obs = (st0.obs ++ newsP res L i) ++ (blkP false news ++ T) := by rw [hI.obs, hT1, hrn]; simp
        have e2 : ∀ (X Y T : List Ob), (X ++ (Y ++ T)).take X.length = X ∧ (X ++ (Y ++ T)).drop (X.length + Y.length) = T := fun X Y T => by
          constructor
          · simp
          · rw [← List.drop_drop]; simp
        have e3 := e2 (st0.obs ++ newsP res L i) (blkP false news) T
        rw [blkP_length, ← hN] at e3
        rw [e1, e3.1, e3.2, hT2, hrn]
        simp [blkP]
      have h1 := hslotI (some (av, news)) _ hq hobs
      exact hn _ _ _ h1 ⟨I', β', S', r1, r2, r3, hphI β' S' (fun q h => r4 q (by rw [hrn] at h; exact h))⟩
end
end
theorem mem_ready {ops : Array Oper} {listed : Array Bool} {i : Nat} : i ∈ Region.ready .any ops listed ↔ i < ops.size ∧ listed.getD i true = false ∧ ∃ o, ops[i]? = some o ∧ ∀ j ∈ dirs o, listed.getD j false = true := by
  unfold Region.ready
  simp only [List.mem_filter, List.mem_range, Bool.and_eq_true, Bool.not_eq_true']
  constructor
  · rintro ⟨h1, h2, h3⟩
    refine ⟨h1, h2, ops[i], Array.getElem?_eq_getElem h1, fun j hj => ?_⟩
    rw [Array.getElem?_eq_getElem h1] at h3
    simp only [Option.map_some, Option.getD_some, Array.all_eq_true_iff_forall_mem, Bool.or_eq_true, Bool.not_eq_true'] at h3
    unfold dirs at hj
    simp only [List.mem_map, List.mem_filter, Array.mem_toList_iff] at hj
    obtain ⟨e, ⟨he, hb⟩, rfl⟩ := hj
    rcases h3 e he with h | h
    · rw [hb] at h; cases h
    · exact h
  · rintro ⟨h1, h2, o, ho, h3⟩
    refine ⟨h1, h2, ?_⟩
    rw [ho]
    simp only [Option.map_some, Option.getD_some, Array.all_eq_true_iff_forall_mem, Bool.or_eq_true, Bool.not_eq_true']
    intro e he
    by_cases hb : Region.binds .any e = true
    · exact .inr (h3 e.on (by
        unfold dirs
        simp only [List.mem_map, List.mem_filter, Array.mem_toList_iff]
        exact ⟨e, ⟨he, hb⟩, rfl⟩))
    · exact .inl (by simpa using hb)
theorem countP_one {X Y : Nat → Bool} {i : Nat} (h : ∀ k, k ≠ i → X k = Y k) (hX : X i = true) (hY : Y i = false) : ∀ n, i < n → (List.range n).countP X = (List.range n).countP Y + 1
  | 0, hn => by omega
  | n + 1, hn => by
    rw [List.range_succ, List.countP_append, List.countP_append]
    by_cases hin : i = n
    · subst hin
      have : (List.range i).countP X = (List.range i).countP Y := List.countP_congr fun k hk => by
        rw [h k (by have := List.mem_range.1 hk; omega)]
      rw [this]
      simp [hX, hY]
    · rw [countP_one h hX hY n (by omega)]
      have := h n (fun e => hin e.symm)
      simp [this]
      omega
theorem filter_full {X : Nat → Bool} {n : Nat} (h : ((List.range n).filter X).length = n) : ∀ k, k < n → X k = true := by
  intro k hk
  have h1 : (List.range n).filter X = List.range n := List.Sublist.eq_of_length List.filter_sublist (by rw [h, List.length_range])
  rw [List.filter_eq_self] at h1
  exact h1 k (List.mem_range.2 hk)
theorem prefN_le (A : List (List Nat)) : ∀ n, prefN A n ≤ n
  | 0 => Nat.le_refl _
  | n + 1 => by
    unfold prefN
    split
    · exact Nat.le_trans (prefN_le A n) (by omega)
    · exact Nat.le_refl _
theorem prefN_all (A : List (List Nat)) : ∀ n i, prefN A n ≤ i → i < n → (ancOf A i).length = i
  | 0, i, _, h => by omega
  | n + 1, i, h1, h2 => by
    unfold prefN at h1
    split at h1
    · rename_i he
      by_cases hin : i = n
      · subst hin; simpa using he
      · exact prefN_all A n i h1 (by omega)
    · omega
theorem RelB.drawn {c : Cx} {st : St} {a : Act} {w w' : World} (h : RelB c st a w) (hh : w'.heap = w.heap) (h1 : w'.os = w.os) (h2 : w'.tape = w.tape) (h3 : w'.output = w.output) : RelB c st a w' := by
  obtain ⟨I, β, S, hr, hc, hb⟩ := h
  have hw : ∀ b : Nat, w'.heap[b]? = w.heap[b]? := fun b => by rw [hh]
  refine ⟨I, β, S, ⟨hr.sz, hr.bl, fun t v u hv hu => (hr.slot t v u hv hu).mono (fun _ h => h) (fun b _ => hw b) (fun _ _ h => h), fun i o b ho hb => (hr.ob i o b ho hb).mono (fun _ h => h) (fun b _ => hw b) (fun _ _ h => h) (fun b _ => hw b) (fun _ h => h), hr.sdis,
    fun i b hb => by rw [hh]; exact hr.slt i b hb, hr.il.mono (fun _ h => h) (fun b _ => hw b) (fun b hb => by rw [hh]; exact hr.ilt b hb)⟩, ⟨hc.own, hc.isub, hc.iinv, ⟨h1.trans hc.frame.os, h2.trans hc.frame.tape, h3.trans hc.frame.output, by rw [hh]; exact hc.frame.size, fun b hb hX => by rw [hh]; exact hc.frame.block b hb hX⟩, hc.keep, hc.defers⟩,
    fun t v u hv hu => (hb t v u hv hu).mono (fun _ h => h) (fun b _ => hw b)⟩
def YieldsOr (o : Oper) : Prop := ∀ (P : Program) (a : Act) (w : World), (∃ v, ∀ w', (execOp a.eval o).run P w' = .ok (.value v) w') ∨
  ∀ (next : Act → World → Prop) (Q : Exit → Act → World → Prop), (∀ e a w, Q e a w → False) → ¬ o.upon P a next Q ((execOp a.eval o).run P w)
theorem yields_extract {dst : Option Tmp} {t : Operand} {ix : Nat} {ty : TypeId} {pos : String} {after : Array Edge} {g : Option (Nat × Bool)} : YieldsOr ⟨dst, .extract t ix, ty, pos, after, g⟩ := by
  intro P a w
  by_cases h : ∃ v, (Instr.extract (a.eval t) ix).run P w = .ok v w
  · obtain ⟨v, hv⟩ := h
    left
    refine ⟨v, fun w' => ?_⟩
    have : (Instr.extract (a.eval t) ix).run P w' = .ok v w' := by
      unfold Instr.extract at hv ⊢
      split at hv
      · split at hv
        · simp at hv ⊢; exact hv
        · simp at hv
      · simp at hv
    simp [execOp, this]
  · right
    intro next Q hQ hh
    apply h
    simp only [execOp] at hh
    unfold Instr.extract at hh ⊢
    split at hh
    · split at hh
      · exact ⟨_, rfl⟩
      · simp [Oper.upon, Result.andThen] at hh
    · simp [Oper.upon, Result.andThen] at hh
theorem lateC_spec {ops : Array Oper} {i : Nat} (h : lateC ops i = true) : ∃ o, ops[i]? = some o ∧ o.guard = Option.none ∧ Region.free .any ops ((List.range ops.size).map fun j => (ancOf (ancs ops.toList) i).contains j).toArray i = true ∧ YieldsOr o := by
  unfold lateC at h
  split at h
  · rename_i o ho
    simp only [Bool.and_eq_true, Option.isNone_iff_eq_none] at h
    obtain ⟨⟨h1, h2⟩, h4⟩ := h
    refine ⟨o, ho, h2, h4, ?_⟩
    obtain ⟨dst, op, ty, pos, after, g⟩ := o
    simp only at h1
    split at h1
    · rename_i x
      exact fun P a w => .inl ⟨a.eval x, fun w' => by simp [execOp]⟩
    · exact yields_extract
    · cases h1
  · cases h
theorem free_mono {ops : Array Oper} {i : Nat} {listed : Array Bool} (hl : ∀ j ∈ ancOf (ancs ops.toList) i, listed.getD j false = true) (hsz : listed.size = ops.size) (h : Region.free .any ops ((List.range ops.size).map fun j => (ancOf (ancs ops.toList) i).contains j).toArray i = true) : Region.free .any ops listed i = true := by
  unfold Region.free at h ⊢
  split
  · rename_i ho; rw [ho] at h; exact h
  · rename_i o ho
    rw [ho] at h
    simp only [List.all_eq_true, List.mem_range] at h ⊢
    intro j hj
    have h1 := h j hj
    have e : ((List.range ops.size).map fun j => (ancOf (ancs ops.toList) i).contains j).toArray.getD j true = (ancOf (ancs ops.toList) i).contains j := by simp [Array.getD, hj]
    rw [e] at h1
    rw [Bool.or_eq_true, Bool.or_eq_true] at h1
    rcases h1 with (h1 | h1) | h1
    · rw [h1]; rfl
    · rw [List.contains_iff_mem] at h1
      have h9 := hl j h1
      have : listed.getD j true = true := by
        rw [← h9]
        simp [Array.getD, hsz, hj]
      rw [this, Bool.or_true]; rfl
    · rw [h1, Bool.or_true]
section
variable {P : Program} {G : Orc} {ops : Array Oper} {st0 : St} {ρ : Type} {r : ρ} {c : Cx} {p : Nat} {ls : List Nat} {res : List Res} {Q : Exit → Act → World → Prop} {K : St → Option ρ}
variable (hd : ∀ i o, ops.toList[i]? = some o → ∀ j ∈ dirs o, j < i) (hp : p ≤ ops.size)
    (hinj : ∀ i j t, i < p → j < p → dstOf ops i = some t → dstOf ops j = some t → i = j)
    (hF : ∀ k, k < p → Fact P G ops (ancs ops.toList) st0 (deadD ((ops.toList.take p).map (·.dst)) st0.slots) res k)
    (hfull : ∀ i, p ≤ i → i < ops.size → ∀ k, k < i → k ∈ ancOf (ancs ops.toList) i ∨ (k ∈ ls ∧ ∀ j ∈ ancOf (ancs ops.toList) k, j ∈ ancOf (ancs ops.toList) i ∨ j ∈ ls)) (hls : ∀ k ∈ ls, k < p)
    (hlc : ∀ k ∈ ls, lateC ops k = true) (hns : ls = [] ∨ Region.noSelect ops = true) (hQp : ∀ ch a w, Q (.panic ch) a w → False) (hkl : ∀ i, i < c.β0.length → kb st0.ks i = true → i < st0.obs.length)
    (hG : G.ok P) (hK : ∀ st' a' w', K st' = some r → Rel c st' a' w' → Q .normal a' w')
include hd hp hinj hF hfull hls hlc hns hQp hkl hG hK
omit hd hp hF hfull hls hlc hns hQp hkl hG hK in
theorem all_done {L : Nat → Bool} {st : St} (hI : DInv st0 ops res p L st) (hall : ∀ k, k < p → L k = true) : st = ⟨setK ops res (List.range p) st0.slots, st0.obs ++ newsK res (List.range p), st0.ks⟩ := by
  have h1 : st.slots = setK ops res (List.range p) st0.slots := by
    have hf : st.slots.f = (setK ops res (List.range p) st0.slots).f := by
      funext t
      by_cases h : ∃ k, k < p ∧ dstOf ops k = some t
      · obtain ⟨k, hk, hkt⟩ := h
        rw [hI.done k hk (hall k hk) t hkt, setK_get hkt _ _ (fun k' hk' hd' => hinj k' k t (List.mem_range.1 hk') hk hd' hkt) (List.mem_range.2 hk)]
      · rw [hI.old t fun k hk _ hkt => h ⟨k, hk, hkt⟩, setK_other _ _ fun k hk hkt => h ⟨k, List.mem_range.1 hk, hkt⟩]
    have hl : st.slots.length = (setK ops res (List.range p) st0.slots).length := by rw [setK_length]; exact hI.len
    generalize setK ops res (List.range p) st0.slots = s1 at hf hl ⊢
    generalize st.slots = s2 at hf hl ⊢
    obtain ⟨n1, f1⟩ := s1
    obtain ⟨n2, f2⟩ := s2
    simp only at hf hl
    rw [hf, hl]
  have h3 := hI.obs
  rw [newsP_all p hall] at h3
  have h4 := hI.ks
  obtain ⟨s, o, k⟩ := st
  simp only at h1 h3 h4
  subst h1; subst h3; subst h4
  rfl
theorem phaseB : ∀ (l : List Oper) (i : Nat) (st : St) (a : Act) (w : World) (listed : Array Bool), ops.toList.drop i = l → listed.size = ops.size → (∀ k, k < ops.size → (listed.getD k false = true ↔ k < i)) → p ≤ i →
    RelB c st a w → exL P G ops l st K = some r → wpAny P .any ops Q l.length listed a w
  | [], i, st, a, w, listed, hl, hsz, hL, hpi, hrel, h => by
    refine ⟨?_, hK _ _ _ h hrel.drop⟩
    have hi : ops.size ≤ i := by
      have := congrArg List.length hl
      simp at this
      omega
    rw [List.eq_nil_iff_forall_not_mem]
    intro k hk
    obtain ⟨h1, h2, -⟩ := mem_ready.1 hk
    have := (hL k h1).2 (by omega)
    have e : listed.getD k true = listed.getD k false := by simp [Array.getD, hsz, h1]
    rw [e, this] at h2
    cases h2
  | o :: l, i, st, a, w, listed, hl, hsz, hL, hpi, hrel, h => by
    have hi : i < ops.size := by
      have := congrArg List.length hl
      simp at this
      omega
    have ho : ops[i]? = some o := by
      have := congrArg (·[0]?) hl
      simpa [List.getElem?_drop] using this
    have hoL : ops.toList[i]? = some o := by rw [Array.getElem?_toList]; exact ho
    have hgd : ∀ k, k < ops.size → listed.getD k true = listed.getD k false := fun k hk => by simp [Array.getD, hsz, hk]
    have hready : ∀ k, k ∈ Region.ready .any ops listed ↔ k = i := by
      intro k
      rw [mem_ready]
      constructor
      · rintro ⟨h1, h2, o', ho', h3⟩
        rw [hgd k h1] at h2
        have hki : ¬ k < i := fun hlt => by rw [(hL k h1).2 hlt] at h2; cases h2
        by_cases hlt : i < k
        · have hcl := anc_closed hd (L := fun j => listed.getD j false = true) (fun m om hom hm j hj => by
            have hms : m < ops.size := by have := (List.getElem?_eq_some_iff.1 hom).1; simpa using this
            have := (hL m hms).1 hm
            have hjm := hd m om hom j hj
            exact (hL j (by omega)).2 (by omega)) k o' (by rw [Array.getElem?_toList]; exact ho') h3 i ((hfull k (by omega) h1 i hlt).resolve_right fun h => by have := hls i h.1; omega)
          have := (hL i hi).1 hcl
          omega
        · omega
      · rintro rfl
        refine ⟨hi, ?_, o, ho, fun j hj => ?_⟩
        · rw [hgd k hi]
          cases hb : listed.getD k false with
          | false => rfl
          | true => have := (hL k hi).1 hb; omega
        · have := hd k o hoL j hj
          exact (hL j (by omega)).2 this
    have hdrop : ops.toList.drop (i + 1) = l := by
      have := congrArg (List.drop 1) hl
      simpa [List.drop_drop, Nat.add_comm] using this
    have hL' : ∀ k, k < ops.size → ((listed.setIfInBounds i true).getD k false = true ↔ k < i + 1) := by
      intro k hk
      by_cases hki : k = i
      · subst hki
        simp [Array.getD, hsz, hi]
      · have : (listed.setIfInBounds i true).getD k false = listed.getD k false := by
          simp only [Array.getD, Array.size_setIfInBounds, hsz, hk, dite_true]
          rw [Array.getInternal_eq_getElem, Array.getInternal_eq_getElem, Array.getElem_setIfInBounds_ne _ (fun e => hki e.symm)]
        rw [this, hL k hk]
        omega
    have next : ∀ (st' : St) (a' : Act) (w' : World), RelB c st' a' w' → exL P G ops l st' K = some r → wpAny P .any ops Q l.length (listed.setIfInBounds i true) a' w' :=
      fun st' a' w' h1 h2 => phaseB l (i + 1) st' a' w' _ hdrop (by simpa using hsz) hL' (by omega) h1 h2
    refine ⟨fun he => ?_, fun k hk => ?_⟩
    · have := (hready i).2 rfl
      rw [he] at this
      simp at this
    · rw [(hready k).1 hk]
      obtain ⟨b, hb, h⟩ := guard_is hrel.choose_spec.choose_spec.choose_spec.1 h
      unfold wpOp
      simp only [ho]
      cases b with
      | true =>
        rw [if_pos hb]
        exact .inl (stepO_sound hG hrel h fun st2 a2 w2 h2 hr2 => next st2 a2 w2 hr2 h2)
      | false =>
        rw [if_neg (by simp [hb])]
        exact next _ _ _ (hrel.skip o.dst) h
theorem phaseA (h : exL P G ops (ops.toList.drop p) ⟨setK ops res (List.range p) st0.slots, st0.obs ++ newsK res (List.range p), st0.ks⟩ K = some r) :
    ∀ (n : Nat) (st : St) (a : Act) (w : World) (listed : Array Bool), listed.size = ops.size → (List.range ops.size).countP (fun k => !listed.getD k false) = n → (∀ k, p ≤ k → listed.getD k false = false) →
    (∀ i o, ops.toList[i]? = some o → listed.getD i false = true → ∀ j ∈ dirs o, listed.getD j false = true) → DInv st0 ops res p (fun k => listed.getD k false) st → RelP c st0 res p (fun k => listed.getD k false) st a w → wpAny P .any ops Q n listed a w := by
  intro n
  induction n with
  | zero =>
    intro st a w listed hsz hcnt hpl hcl hI hrel
    have hall : ∀ k, k < ops.size → listed.getD k false = true := by
      intro k hk
      have := List.countP_eq_zero.1 hcnt k (List.mem_range.2 hk)
      simpa using this
    have hpe : ops.size ≤ p := Classical.byContradiction fun hlt => by
      have h1 := hall p (by omega)
      rw [hpl p (Nat.le_refl _)] at h1
      cases h1
    have hst : st = ⟨setK ops res (List.range p) st0.slots, st0.obs ++ newsK res (List.range p), st0.ks⟩ := all_done hinj hI (fun k hk => hall k (by omega))
    have hdn : ops.toList.drop p = [] := List.drop_eq_nil_of_le (by simpa using hpe)
    have := phaseB hd hp hinj hF hfull hls hlc hns hQp hkl hG hK (ops.toList.drop p) p st a w listed rfl hsz (fun k hk => ⟨fun _ => by omega, fun _ => hall k hk⟩) (Nat.le_refl _) hrel.relB (by rw [hst]; exact h)
    rw [hdn] at this
    exact this
  | succ n ih =>
    intro st a w listed hsz hcnt hpl hcl hI hrel
    by_cases hall : ∀ k, k < p → listed.getD k false = true
    · have hst : st = ⟨setK ops res (List.range p) st0.slots, st0.obs ++ newsK res (List.range p), st0.ks⟩ := all_done hinj hI hall
      have := phaseB hd hp hinj hF hfull hls hlc hns hQp hkl hG hK (ops.toList.drop p) p st a w listed rfl hsz (fun k hk => ⟨(fun hk' => Classical.byContradiction fun hlt => (by rw [hpl k (by omega)] at hk'; cases hk')), fun hk' => hall k hk'⟩) (Nat.le_refl _) hrel.relB (by rw [hst]; exact h)
      have hlen : (ops.toList.drop p).length = n + 1 := by
        rw [← hcnt, List.length_drop]
        have h1 : (List.range ops.size).countP (fun k => !listed.getD k false) = (List.range ops.size).countP (fun k => decide (p ≤ k)) := List.countP_congr fun k hk => by
          by_cases hkp : k < p
          · have := hall k hkp; simp [this]; omega
          · have := hpl k (by omega); simp [this]; omega
        rw [h1]
        obtain ⟨d, hd'⟩ : ∃ d, ops.size = p + d := ⟨ops.size - p, by omega⟩
        rw [show ops.toList.length = ops.size from rfl, hd', List.range_add, List.countP_append]
        have e1 : (List.range p).countP (fun k => decide (p ≤ k)) = 0 := List.countP_eq_zero.2 fun k hk => by have := List.mem_range.1 hk; simp; omega
        have e2 : ((List.range d).map (p + ·)).countP (fun k => decide (p ≤ k)) = d := by
          rw [List.countP_map]
          rw [List.countP_eq_length.2 fun k hk => by simp]
          simp
        rw [e1, e2]
        omega
      rw [hlen] at this
      exact this
    · have hgd : ∀ k, k < ops.size → listed.getD k true = listed.getD k false := fun k hk => by simp [Array.getD, hsz, hk]
      have hanc : ∀ i ∈ Region.ready .any ops listed, ∀ k ∈ ancOf (ancs ops.toList) i, listed.getD k false = true := by
        intro i hi
        obtain ⟨h1, h2, o, ho, h3⟩ := mem_ready.1 hi
        exact anc_closed hd (L := fun k => listed.getD k false = true) hcl i o (by rw [Array.getElem?_toList]; exact ho) h3
      have hset : ∀ (i : Nat), i < ops.size → ∀ k, (listed.setIfInBounds i true).getD k false = (listed.getD k false || k == i) := by
        intro i h1 k
        by_cases hki : k = i
        · subst hki
          simp [Array.getD, hsz, h1]
        · have e : (k == i) = false := by simp [hki]
          rw [e, Bool.or_false]
          by_cases hks : k < ops.size
          · simp only [Array.getD, Array.size_setIfInBounds, hsz, hks, dite_true]
            rw [Array.getInternal_eq_getElem, Array.getInternal_eq_getElem, Array.getElem_setIfInBounds_ne _ (fun e => hki e.symm)]
          · simp [Array.getD, hsz, hks]
      -- behind operation i
      have goOn : ∀ (i : Nat) (o : Oper), ops[i]? = some o → i < p → listed.getD i false = false → (∀ j ∈ dirs o, listed.getD j false = true) → ∀ st' a' w', DInv st0 ops res p (fun k => listed.getD k false || k == i) st' → RelP c st0 res p (fun k => listed.getD k false || k == i) st' a' w' →
          wpAny P .any ops Q n (listed.setIfInBounds i true) a' w' := by
        intro i o ho hip h2 h3 st' a' w' hI' hrel'
        have h1 : i < ops.size := by omega
        have e : (fun k => (listed.setIfInBounds i true).getD k false) = (fun k => listed.getD k false || k == i) := funext (hset i h1)
        refine ih st' a' w' _ (by simpa using hsz) ?_ (fun k hk => ?_) (fun k ok hok hL j hj => ?_) (by rw [e]; exact hI') (by rw [e]; exact hrel')
        · have := countP_one (X := fun k => !listed.getD k false) (Y := fun k => !(listed.setIfInBounds i true).getD k false) (i := i) (fun k hk => by
            rw [hset i h1]; have e : (k == i) = false := by simp [hk]
            rw [e, Bool.or_false]) (by simp [h2]) (by rw [hset i h1]; simp) ops.size h1
          omega
        · rw [hset i h1, hpl k hk]
          simp
          omega
        · rw [hset i h1] at hL ⊢
          rw [Bool.or_eq_true] at hL ⊢
          rcases hL with hL | hL
          · exact .inl (hcl k ok hok hL j hj)
          · have hki : k = i := by simpa using hL
            subst hki
            rw [Array.getElem?_toList, ho] at hok
            obtain rfl := Option.some.inj hok
            exact .inl (h3 j hj)
      by_cases hlate : ∃ i, i ∈ ls ∧ i ∈ Region.ready .any ops listed
      · obtain ⟨i, hil, hi⟩ := hlate
        obtain ⟨h1, h2, o, ho, h3⟩ := mem_ready.1 hi
        rw [hgd i h1] at h2
        have hip := hls i hil
        obtain ⟨o', ho', hg, hfree, hyd⟩ := lateC_spec (hlc i hil)
        rw [ho] at ho'
        obtain rfl := Option.some.inj ho'
        have hds := draw_step hd hp hinj hF (c := c) hG (L := fun k => listed.getD k false) hI hkl hrel hip h2 (hanc i hi) (Q := fun _ _ _ => False)
          (next := fun a' w' => ∃ st', DInv st0 ops res p (fun k => listed.getD k false || k == i) st' ∧ RelP c st0 res p (fun k => listed.getD k false || k == i) st' a' w') (fun st' a' w' q1 q2 => ⟨st', q1, q2⟩)
        have hw : Region.wanted o (yielded ops a.tmps) = true := by simp [Region.wanted, hg]
        have hds2 : ∃ v, Yields P ops o v a ∧ ∃ st', DInv st0 ops res p (fun k => listed.getD k false || k == i) st' ∧ RelP c st0 res p (fun k => listed.getD k false || k == i) st' (a.put o.dst v) w := by
          unfold wpOp at hds
          simp only [ho, hw, if_true] at hds
          rcases hds with hds | ⟨-, a', w', hf⟩
          · unfold Oper.wp at hds
            rcases hyd P a w with ⟨v, hv⟩ | hno
            · rw [hv w] at hds
              exact ⟨v, .inl ⟨hw, hv⟩, hds⟩
            · exact (hno _ _ (fun _ _ _ => id) hds).elim
          · exact hf.elim
        obtain ⟨v, hy, st', hI', hr'⟩ := hds2
        have hsl : Region.noSelect ops = true := hns.resolve_left (fun e => by rw [e] at hil; cases hil)
        exact wpAny_take ho hsl (free_mono (fun j hj => hanc i hi j hj) hsz hfree) (by rw [List.contains_iff_mem]; exact hi) (fun ch a' w' hq => (hQp ch (a'.put o.dst v) w' hq).elim) hy (goOn i o ho hip h2 h3 st' _ w hI' hr')
      have hnl : ∀ i ∈ ls, i ∉ Region.ready .any ops listed := fun i h1 h2 => hlate ⟨i, h1, h2⟩
      refine ⟨fun he => ?_, fun i hi => ?_⟩
      · -- the least that is not done is ready
        exfalso
        obtain ⟨k, hk⟩ : ∃ k, k < p ∧ listed.getD k false = false := by
          apply Classical.byContradiction
          intro hno
          apply hall
          intro k hk
          cases hb : listed.getD k false with
          | true => rfl
          | false => exact absurd ⟨k, hk, hb⟩ hno
        obtain ⟨m, ⟨hm1, hm2⟩, hm3⟩ := least (fun k => k < p ∧ listed.getD k false = false) ⟨k, hk⟩
        have hms : m < ops.size := by omega
        have : m ∈ Region.ready .any ops listed := by
          refine mem_ready.2 ⟨hms, by rw [hgd m hms]; exact hm2, ops[m], Array.getElem?_eq_getElem hms, fun j hj => ?_⟩
          have hjm := hd m ops[m] (by rw [Array.getElem?_toList]; exact Array.getElem?_eq_getElem hms) j hj
          cases hb : listed.getD j false with
          | true => rfl
          | false => have := hm3 j ⟨by omega, hb⟩; omega
        rw [he] at this
        simp at this
      · obtain ⟨h1, h2, o, ho, h3⟩ := mem_ready.1 hi
        rw [hgd i h1] at h2
        have hip : i < p := by
          apply Classical.byContradiction
          intro hge
          apply hall
          have key : ∀ k, k < p → listed.getD k false = true := by
            intro k
            induction k using Nat.strongRecOn with
            | _ k ihk =>
              intro hk
              rcases hfull i (by omega) h1 k (by omega) with h9 | ⟨hkl', h9⟩
              · exact hanc i hi k h9
              · cases hb : listed.getD k false with
                | true => rfl
                | false =>
                  exfalso
                  have hks : k < ops.size := by omega
                  refine hnl k hkl' (mem_ready.2 ⟨hks, by rw [hgd k hks]; exact hb, ops[k], Array.getElem?_eq_getElem hks, fun j hj => ?_⟩)
                  have hko : ops.toList[k]? = some ops[k] := by rw [Array.getElem?_toList]; exact Array.getElem?_eq_getElem hks
                  have hjk := hd k _ hko j hj
                  exact ihk j hjk (by omega)
          exact key
        exact draw_step hd hp hinj hF hG hI hkl hrel hip h2 (hanc i hi) (goOn i o ho hip h2 h3)
end
theorem upon_Q {P : Program} {o : Oper} {a : Act} {K : Act → World → Prop} {Q Q' : Exit → Act → World → Prop} (h : ∀ e a w, Q' e a w → Q e a w) {x : Result Next} (hh : o.upon P a K Q' x) : o.upon P a K Q x := by
  have hl : LetsOut Q' → LetsOut Q := fun ⟨a, w, q⟩ => ⟨a, w, h _ _ _ q⟩
  cases x with
  | ok n w' =>
    cases n <;> simp only [Oper.upon] at hh ⊢ <;> try exact hh
    refine hh.mono fun e w'' he => ?_
    cases e with
    | returned u => exact he
    | panicked c => exact h _ _ _ he
    | outgrown => exact hl he
  | halt x w' =>
    cases x <;> simp only [Oper.upon] at hh ⊢
    exact h _ _ _ hh
theorem wpAny_Q {P : Program} {md : Region.Mode} {ops : Array Oper} {Q Q' : Exit → Act → World → Prop} (h : ∀ e a w, Q' e a w → Q e a w) : ∀ (n : Nat) (listed : Array Bool) (a : Act) (w : World), wpAny P md ops Q' n listed a w → wpAny P md ops Q n listed a w
  | 0, listed, a, w, hh => ⟨hh.1, h _ _ _ hh.2⟩
  | n + 1, listed, a, w, hh => by
    refine ⟨fun e => h _ _ _ (hh.1 e), fun i hi => ?_⟩
    have h1 := wpOp_mono (fun a w => wpAny_Q h n _ a w) (hh.2 i hi)
    unfold wpOp at h1 ⊢
    split
    · rename_i ho; rw [ho] at h1; exact h1
    · rename_i o ho
      rw [ho] at h1
      simp only at h1
      split
      · rename_i hw
        rw [if_pos hw] at h1
        rcases h1 with h1 | ⟨h1, a', w', h2⟩
        · exact .inl (upon_Q h h1)
        · exact .inr ⟨h1, a', w', h _ _ _ h2⟩
      · rename_i hw
        rw [if_neg hw] at h1
        exact h1
theorem exRp_sound {P : Program} {G : Orc} (hG : G.ok P) (hm : P.follows .mixedOrders = true) {id : Nat} {ops : Array Oper} {st : St} {c : Cx} {a : Act} {w : World} {ρ : Type} {r : ρ} {K : St → Option ρ} {Q : Exit → Act → World → Prop} {p : Nat} {ls : List Nat}
    (hp : p ≤ ops.size) (hfull : ∀ i, p ≤ i → i < ops.size → ∀ k, k < i → k ∈ ancOf (ancs ops.toList) i ∨ (k ∈ ls ∧ ∀ j ∈ ancOf (ancs ops.toList) k, j ∈ ancOf (ancs ops.toList) i ∨ j ∈ ls)) (hls : ∀ k ∈ ls, k < p) (hlc : ∀ k ∈ ls, lateC ops k = true) (hns : ls = [] ∨ Region.noSelect ops = true)
    (h : exRp P G ops (ancs ops.toList) p ls st K = some r) (hrel : RelB c st a w) (hK : ∀ st' a' w', K st' = some r → Rel c st' a' w' → Q .normal a' w') : (Code.region id ops true).wp P Q a w := by
  unfold exRp at h
  simp only at h
  obtain ⟨h1, h⟩ := zM h
  obtain ⟨h2, h⟩ := zM h
  have hd : ∀ i o, ops.toList[i]? = some o → ∀ j ∈ dirs o, j < i := by
    intro i o ho j hj
    rw [Array.getElem?_toList] at ho
    have hi : i < ops.size := (Array.getElem?_eq_some_iff.1 ho).1
    have := List.all_eq_true.1 h2 i (List.mem_range.2 hi)
    rw [ho] at this
    simp only [Option.map_some, Option.getD_some, List.all_eq_true, decide_eq_true_eq] at this
    exact this j hj
  have hdst : ∀ i t, i < p → dstOf ops i = some t → ((ops.toList.take p).map (·.dst))[i]? = some (some t) := by
    intro i t hi ht
    unfold dstOf at ht
    cases ho : ops[i]? with
    | none => rw [ho] at ht; cases ht
    | some o =>
      rw [ho] at ht
      rw [List.getElem?_map, List.getElem?_take_of_lt hi, Array.getElem?_toList, ho]
      simpa using ht
  have hinj : ∀ i j t, i < p → j < p → dstOf ops i = some t → dstOf ops j = some t → i = j := fun i j t hi hj h3 h4 => nodupD_inj h1 i j t (hdst i t hi h3) (hdst j t hj h4)
  obtain ⟨res, hlen, -, h3, hF⟩ := exD_facts hG (fun i k hk => anc_lt hk) hinj _ [] _ (by simp; omega) (fun j o hj => by
    simp only [List.length_nil, Nat.zero_add]
    rw [List.getElem?_take] at hj
    split at hj
    · rwa [Array.getElem?_toList] at hj
    · cases hj) h
  have hF' : ∀ k, k < p → Fact P G ops (ancs ops.toList) st (deadD ((ops.toList.take p).map (·.dst)) st.slots) res k := fun k hk => hF k (by simp) hk
  let Q' : Exit → Act → World → Prop := fun e a w => match e with | .panic _ => False | e => Q e a w
  have hQ' : ∀ e a w, Q' e a w → Q e a w := fun e a w hq => by cases e <;> first | exact hq | exact hq.elim
  have hK' : ∀ st' a' w', K st' = some r → Rel c st' a' w' → Q' .normal a' w' := fun st' a' w' q1 q2 => hK st' a' w' q1 q2
  obtain ⟨I, β, S, hr, hc, hb⟩ := hrel
  have hkl : ∀ i, i < c.β0.length → kb st.ks i = true → i < st.obs.length := fun i h1 h2 => by rw [← hr.bl]; exact hc.klt h1 h2
  let L0 : Nat → Bool := fun k => (Array.replicate ops.size false).getD k false
  have hL0 : ∀ k, L0 k = false := fun k => by simp [L0, Array.getD]
  have hN0 : newsP res L0 p = newsP res (fun _ => false) p := newsP_same p fun k _ => hL0 k
  have hall : ∀ (n : Nat) (o : Ob), o ∈ newsP res (fun _ => false) n → o = .none := by
    intro n
    induction n with
    | zero => intro o ho; simp [newsP] at ho
    | succ n ih =>
      intro o ho
      rw [zW, List.mem_append] at ho
      rcases ho with ho | ho
      · exact ih o ho
      · exact List.eq_of_mem_replicate ho
  let st1 : St := ⟨st.slots, st.obs ++ newsP res L0 p, st.ks⟩
  have hβ : ∀ (i : Nat) (b : Value), β[i]? = some b → (β ++ List.replicate (newsP res L0 p).length badV)[i]? = some b := fun i b hb => by rw [List.getElem?_append_left (List.getElem?_eq_some_iff.1 hb).1]; exact hb
  have hw1 : ∀ (Z : Nat → Prop) (b : Nat), Z b → ({ w with drawn := w.drawn + 1 } : World).heap[b]? = w.heap[b]? := fun _ _ _ => rfl
  have hst1 : RelP c st res p L0 st1 a { w with drawn := w.drawn + 1 } := by
    refine ⟨I, β ++ List.replicate (newsP res L0 p).length badV, S, ⟨hr.sz, by simp [st1, hr.bl], fun t v u hv hu => (hr.slot t v u hv hu).mono (fun _ h => h) (hw1 _) hβ, ?_, hr.sdis, fun i b hb => ?_, ⟨hr.il.lt, hr.il.am⟩⟩, ⟨hc.own, hc.isub, hc.iinv, ⟨hc.frame.os, hc.frame.tape, hc.frame.output, hc.frame.size, hc.frame.block⟩, fun i h1 h2 => ?_, hc.defers⟩, fun t v u hv hu => (hb t v u hv hu).mono (fun _ h => h) (hw1 _), ⟨fun k hk _ q h1 h2 => ?_, fun k hk _ q h1 h2 b hb => ?_⟩⟩
    · intro i o b ho hb'
      simp only [st1] at ho
      by_cases hi : i < st.obs.length
      · rw [List.getElem?_append_left hi] at ho
        rw [List.getElem?_append_left (by rw [hr.bl]; exact hi)] at hb'
        exact (hr.ob i o b ho hb').mono (fun _ h => h) (hw1 _) hβ (hw1 _) (fun _ h => h)
      · rw [List.getElem?_append_right (by omega), hN0] at ho
        obtain rfl := hall p o (List.mem_of_getElem? ho)
        trivial
    · obtain ⟨h1, h2, h3⟩ := hr.slt i b hb
      exact ⟨by simp only [st1, List.length_append]; omega, h2, h3⟩
    · rw [List.getElem?_append_left (hc.klt h1 h2)]
      exact hc.keep i h1 h2
    · have h3 := offP_lt (st0 := st) (res := res) hk
      have h4 : offP st res p = st.obs.length + (newsP res L0 p).length := by rw [offP_eq L0, List.length_append]
      have h5 : st.obs.length ≤ offP st res k := by unfold offP; rw [List.length_append]; omega
      rw [List.getElem?_append_right (by rw [hr.bl]; omega), hr.bl, List.getElem?_replicate, if_pos (by omega)]
    · have h5 : st.obs.length ≤ offP st res k := by unfold offP; rw [List.length_append]; omega
      have := (hr.slt q b hb).1
      omega
  have hI1 : DInv st ops res p L0 st1 := ⟨rfl, fun k _ hL => (by rw [hL0] at hL; cases hL), fun _ _ => rfl, rfl, rfl⟩
  have hstart := phaseA hd hp hinj hF' hfull hls hlc hns (fun ch a w hq => hq) hkl hG hK' h3 _ st1 a { w with drawn := w.drawn + 1 } (Array.replicate ops.size false) (by simp) rfl (fun k _ => hL0 k) (fun i o _ hL => by rw [show (Array.replicate ops.size false).getD i false = false from hL0 i] at hL; cases hL) hI1 hst1
  rw [List.countP_eq_length.2 fun k hk => by simp [Array.getD], List.length_range] at hstart
  exact wp_region_any hm (wpAny_Q hQ' _ _ _ _ hstart)
def BlindM (P : Program) {α : Type} (m : Sem α) : Prop := (∃ v, ∀ w, m.run P w = .ok v w) ∨ (∀ w, ∃ h w', m.run P w = .halt h w')
section
variable {P : Program}
theorem BlindM.pure {α : Type} (x : α) : BlindM P (pure x : Sem α) := .inl ⟨x, fun w => by simp⟩
theorem BlindM.bind {α β : Type} {m : Sem α} {f : α → Sem β} (h : BlindM P m) (hf : ∀ x, BlindM P (f x)) : BlindM P (m >>= f) := by
  rcases h with ⟨v, hv⟩ | hh
  · rcases hf v with ⟨u, hu⟩ | hg
    · exact .inl ⟨u, fun w => by simp only [Sem.run_bind, hv w, Result.andThen_ok, hu w]⟩
    · exact .inr fun w => by
        obtain ⟨x, w', e⟩ := hg w
        exact ⟨x, w', by simp only [Sem.run_bind, hv w, Result.andThen_ok, e]⟩
  · exact .inr fun w => by
      obtain ⟨x, w', e⟩ := hh w
      exact ⟨x, w', by simp only [Sem.run_bind, e, Result.andThen]⟩
theorem BlindM.ite {α : Type} {c : Prop} [Decidable c] {m n : Sem α} (h : BlindM P m) (h2 : BlindM P n) : BlindM P (if c then m else n) := by
  split
  · exact h
  · exact h2
theorem BlindM.stuck {α : Type} (s : String) : BlindM P (stuck s : Sem α) := .inr fun w => ⟨.stuck s, w, by simp⟩
theorem BlindM.unsupported {α : Type} (u : Unsupported) : BlindM P (unsupported u : Sem α) := .inr fun w => ⟨.unsupported u, w, rfl⟩
theorem BlindM.underlying (t : TypeId) : BlindM P (underlying t) := by
  cases h : P.underlying t with
  | none => exact .inr fun w => ⟨.stuck "no such type", w, by simp [Go.underlying, h]⟩
  | some d => exact .inl ⟨d, fun w => by simp [Go.underlying, h]⟩
theorem BlindM.sizeOf (t : TypeId) : BlindM P (sizeOf t) := by
  cases h : P.info? t with
  | none => exact .inr fun w => ⟨.stuck "no such type", w, by simp [Go.sizeOf, typeInfo, h]⟩
  | some d => exact .inl ⟨d.size, fun w => by simp [Go.sizeOf, typeInfo, h]⟩
theorem BlindM.sureAddr (v : Value) : BlindM P (Instr.sureAddr v) := by
  unfold Instr.sureAddr
  split
  · exact .pure _
  · exact .stuck _
theorem BlindM.asIntOf (v : Value) : BlindM P (asIntOf v) := by
  unfold Go.asIntOf
  split
  · exact .pure _
  · exact .unsupported _
  · exact .stuck _
theorem BlindM.bounds {α : Type} (k : IntKind) (x y : Int) (code : BoundsCode) : BlindM P (boundsPanic k x y code : Sem α) := .inr fun w => by
  obtain ⟨s, w', e⟩ := run_boundsPanic (α := α) (P := P) (w := w) k x y code
  exact ⟨_, w', e⟩
theorem BlindM.indexAt (t : TypeId) (x i : Value) : BlindM P (Instr.indexAt t x i) := by
  unfold Instr.indexAt
  refine (BlindM.asIntOf i).bind ?_
  rintro ⟨k, i⟩
  refine (BlindM.underlying t).bind fun d => ?_
  extract_lets jp
  have hj : ∀ p, BlindM P (jp p) := by
    rintro ⟨base, len, elem⟩
    refine BlindM.bind (BlindM.underlying t) fun d2 => ?_
    simp only
    split
    · exact .ite ((BlindM.sizeOf _).bind fun _ => .pure _) (.ite (.unsupported _) (.bounds _ _ _ _))
    · exact .bounds _ _ _ _
  split
  · exact (BlindM.sureAddr _).bind fun _ => (BlindM.pure _).bind hj
  · exact (BlindM.pure _).bind hj
  · exact (BlindM.stuck _).bind hj
end
def BlindO (P : Program) (o : Oper) : Prop := ∀ a : Act, (∃ v, ∀ w, (execOp a.eval o).run P w = .ok (.value v) w) ∨ (∀ w, ∃ h w', (execOp a.eval o).run P w = .halt h w')
theorem blindO_v {P : Program} {o : Oper} {m : Act → Sem Value} (hm : ∀ a, BlindM P (m a)) (he : ∀ a : Act, execOp a.eval o = (do pure (.value (← m a)))) : BlindO P o := by
  intro a
  rcases hm a with ⟨v, hv⟩ | hh
  · exact .inl ⟨v, fun w => by rw [he a]; simp [hv w]⟩
  · refine .inr fun w => ?_
    obtain ⟨x, w', e⟩ := hh w
    exact ⟨x, w', by rw [he a]; simp [e, Result.andThen]⟩
def fldNz (P : Program) (s : TypeId) (f : Nat) : Bool := match P.underlying s with
  | some (.struct fs) => match fs[f]? with
    | some d => match P.info? d.type with
      | some i => !(i.size == 0)
      | Option.none => false
    | Option.none => false
  | _ => false
theorem blind_fieldAt {P : Program} {s : TypeId} {f : Nat} (h : fldNz P s f = true) (v : Value) : BlindM P (Instr.fieldAt s v f) := by
  unfold fldNz at h
  split at h
  · rename_i fs hs
    split at h
    · rename_i d hd
      split at h
      · rename_i i hi
        have hi0 : i.size ≠ 0 := by simpa using h
        by_cases hx : ∃ ad, v = .pointer (some ad)
        · obtain ⟨ad, rfl⟩ := hx
          exact .inl ⟨.pointer (some (ad.add d.offset)), fun w' => by simp [Instr.fieldAt, Go.underlying, hs, hd, Instr.sureAddr, fieldPlace, Go.sizeOf, typeInfo, hi, hi0]⟩
        · right
          intro w
          have e : (Instr.sureAddr v).run P w = .halt (.stuck "an address expected (no nilCheck in front?)") w := by
            unfold Instr.sureAddr
            split
            · rename_i ad; exact absurd ⟨ad, rfl⟩ hx
            · rfl
          exact ⟨.stuck "an address expected (no nilCheck in front?)", w, by simp [Instr.fieldAt, Go.underlying, hs, hd, e, Result.andThen]⟩
      · cases h
    · cases h
  · cases h
theorem blind_extract {P : Program} (v : Value) (ix : Nat) : BlindM P (Instr.extract v ix) := by
  unfold Instr.extract
  split
  · split
    · exact .pure _
    · exact .stuck _
  · exact .stuck _
def pureF (P : Program) (o : Oper) : Bool := match o.op with
  | .move _ => true
  | .extract _ _ => true
  | .fieldAddr s _ f => fldNz P s f
  | .indexAddr _ _ _ => true
  | _ => false
theorem pureF_blind {P : Program} {o : Oper} (h : pureF P o = true) : BlindO P o := by
  obtain ⟨dst, op, ty, pos, after, g⟩ := o
  unfold pureF at h
  simp only at h
  split at h
  · rename_i x
    exact fun a => .inl ⟨a.eval x, fun w' => by simp [execOp]⟩
  · rename_i x ix
    exact blindO_v (m := fun a => Instr.extract (a.eval x) ix) (fun a => blind_extract _ _) (fun a => rfl)
  · rename_i s x f
    exact blindO_v (m := fun a => Instr.fieldAt s (a.eval x) f) (fun a => blind_fieldAt h _) (fun a => rfl)
  · rename_i t x i
    exact blindO_v (m := fun a => Instr.indexAt t (a.eval x) (a.eval i)) (fun a => BlindM.indexAt _ _ _) (fun a => rfl)
  · cases h
def wpAnyL (P : Program) (ops : Array Oper) (Q : Exit → Act → World → Prop) (S : World → Prop) (cls : Nat → Nat) : Nat → Array Bool → Act → World → Prop
  | 0, listed, a, w => Region.ready .any ops listed = [] ∧ Q .normal a w
  | fuel + 1, listed, a, w =>
    (Region.ready .any ops listed = [] → Q .normal a w) ∧
    ∀ i ∈ Region.ready .any ops listed, wpOp P ops Q i (fun a' w' => (cls i = 0 → S w') ∧ wpAnyL P ops Q S cls fuel (listed.setIfInBounds i true) a' w') a w
def Closed (ops : Array Oper) (listed : Array Bool) : Prop := ∀ i o, ops.toList[i]? = some o → listed.getD i false = true → ∀ j ∈ dirs o, listed.getD j false = true
section
variable {P : Program} {ops : Array Oper} {Q : Exit → Act → World → Prop} {S : World → Prop} {cls : Nat → Nat}
theorem Closed.put {listed : Array Bool} (h : Closed ops listed) {i : Nat} (hi : i ∈ Region.ready .any ops listed) : Closed ops (listed.setIfInBounds i true) := by
  obtain ⟨h1, h2, o, ho, h3⟩ := Go.Al.mem_ready.1 hi
  intro k ok hok hk j hj
  by_cases hki : k = i
  · subst hki
    rw [Array.getElem?_toList, ho] at hok
    obtain rfl := Option.some.inj hok
    exact getD_set_true (h3 j hj)
  · rw [getD_set_ne false (fun e => hki e.symm)] at hk
    exact getD_set_true (h k ok hok hk j hj)
theorem wpAny_of_L : ∀ (fuel : Nat) (listed : Array Bool) (a : Act) (w : World), wpAnyL P ops Q S cls fuel listed a w → wpAny P .any ops Q fuel listed a w
  | 0, _, _, _, h => h
  | fuel + 1, _, _, _, h => ⟨h.1, fun i hi => wpOp_mono (fun a' w' h' => wpAny_of_L fuel _ a' w' h'.2) (h.2 i hi)⟩
theorem wpAnyL_pure {i : Nat} {oi : Oper} {v : Value} (hi : ops[i]? = some oi) (hsel : ∀ (j : Nat) (o : Oper) cs b, ops[j]? = some o → o.op ≠ .select cs b)
    (hQ : ∀ c a w, Q (.panic c) (a.put oi.dst v) w → Q (.panic c) a w) (hc : cls i ≠ 0) :
    ∀ (fuel : Nat) (listed : Array Bool) (a : Act) (w : World),
      (∀ j oj, ops[j]? = some oj → j ≠ i → listed.getD j true = false → (∀ e ∈ oj.after, Region.binds .any e = true → e.on ≠ i) → oi.apart ops oj = true) →
      i ∈ Region.ready .any ops listed → YieldsIf P ops (fun _ => True) oi v a →
      wpAnyL P ops Q S cls fuel (listed.setIfInBounds i true) (a.put oi.dst v) w → wpAnyL P ops Q S cls (fuel + 1) listed a w := by
  intro fuel
  induction fuel with
  | zero =>
    intro listed a w _ hr hy H
    refine ⟨fun h => (by rw [h] at hr; cases hr), fun j hj => ?_⟩
    by_cases hji : j = i
    · subst hji; exact hy.wpOp hi trivial ⟨fun h => absurd h hc, H⟩
    · have := ready_mono hj hji
      rw [H.1] at this
      cases this
  | succ fuel ih =>
    intro listed a w hfree hr hy H
    refine ⟨fun h => (by rw [h] at hr; cases hr), fun j hj => ?_⟩
    by_cases hji : j = i
    · subst hji; exact hy.wpOp hi trivial ⟨fun h => absurd h hc, H⟩
    · have h1 := H.2 j (ready_mono hj hji)
      obtain ⟨hjun, oj, hoj, hall⟩ := Go.mem_ready.1 hj
      have hnot : ∀ e ∈ oj.after, Region.binds .any e = true → e.on ≠ i := fun e he hb heq => by
        have h1 := hall e he hb
        have h0 := (Go.mem_ready.1 hr).1
        rw [heq] at h1
        rcases Nat.lt_or_ge i listed.size with h' | h'
        · simp [h'] at h0 h1; rw [h0] at h1; cases h1
        · simp [Array.getElem?_eq_none h'] at h1
      have h2 := wpOp_putIf hoj (hfree j oj hoj hji hjun hnot) (fun cs b => hsel i oi cs b hi) (fun cs b => hsel j oj cs b hoj) hQ hy h1
      have hfree' : ∀ k ok, ops[k]? = some ok → k ≠ i → (listed.setIfInBounds j true).getD k true = false →
          (∀ e ∈ ok.after, Region.binds .any e = true → e.on ≠ i) → oi.apart ops ok = true := fun k ok hk hki hun hno => by
        refine hfree k ok hk hki ?_ hno
        by_cases hjk : j = k
        · subst hjk; exact hjun
        · rw [getD_set_ne true hjk] at hun; exact hun
      refine wpOp_mono (fun a' w' h3 => ⟨h3.2.1, ih (listed.setIfInBounds j true) a' w' hfree' (ready_mono hr (Ne.symm hji)) h3.1 ?_⟩) h2
      rw [Array.setIfInBounds_comm _ _ hji]
      exact h3.2.2
end
def refsC : C → List Nat
  | .h k => [k]
  | .p k _ => [k]
  | _ => []
def showO (H : List Nat) : Nat → List Ob → List Ob → List Ob
  | _, _, [] => []
  | _, [], l => l
  | i, o0 :: l0, o :: l => (match H.contains i with | true => o0 | false => o) :: showO H (i + 1) l0 l
theorem showO_at (H : List Nat) : ∀ (l0 l : List Ob) (i j : Nat), j < l.length → (showO H i l0 l)[j]? = match H.contains (i + j), l0[j]? with | true, some o0 => some o0 | _, _ => l[j]?
  | l0, [], _, j, h => by simp at h
  | [], o :: l, i, j, _ => by
    simp only [showO, List.getElem?_nil]
    cases H.contains (i + j) <;> rfl
  | o0 :: l0, o :: l, i, 0, _ => by
    simp only [showO, List.getElem?_cons_zero, Nat.add_zero]
    cases H.contains i <;> rfl
  | o0 :: l0, o :: l, i, j + 1, h => by
    simp only [showO, List.getElem?_cons_succ]
    rw [showO_at H l0 l (i + 1) j (by simpa using h), show i + 1 + j = i + (j + 1) by omega]
def keptA (st cur : St) : Bool := decide (cur.obs.length = st.obs.length) && (List.range st.obs.length).all fun i => kb cur.ks i
section
variable {c : Cx} {st : St} {a0 a : Act} {w1 w : World} {I I' : Nat → Prop} {β β' : List Value} {S S2 : Nat → Nat → Prop} {H : List Nat} {cur : St}
abbrev hidX (S : Nat → Nat → Prop) (H : List Nat) : Nat → Prop := fun b => ∃ i, H.contains i = false ∧ S i b
theorem CR.kept {x : C} {v : Value} (h : CR w1 I β x v) (hI : ∀ b, I b → I' b) (hw : ∀ b, I b → w.heap[b]? = w1.heap[b]?) (hβ : ∀ k ∈ refsC x, ∀ b, β[k]? = some b → β'[k]? = some b) : CR w I' β' x v := by
  cases x with
  | n x => exact Im.mono hI hw h
  | h i => exact ⟨hβ i (by simp [refsC]) v h.1, h.2⟩
  | p i off => obtain ⟨g, h1, h2⟩ := h; exact ⟨g, hβ i (by simp [refsC]) _ h1, h2⟩
  | z => exact h
  | u => exact h
  | b x loc => exact h
end
def flo1 (ops : Array Oper) (listed : Array Bool) (i : Nat) : Bool := (Region.ready .any ops listed).contains i && Region.free .any ops listed i
def gV (st : St) (ops : Array Oper) (o : Oper) : Option Bool := guardO st ops o.guard fun b _ => some b
def gT (st : St) (ops : Array Oper) (o : Oper) : Bool := match gV st ops o with
  | some true => true
  | _ => false
def loadF {ρ : Type} (P : Program) (H : List Nat) (st cur : St) (t : TypeId) (x : Operand) (K : AV → Option ρ) : Option ρ :=
  match cur.ev x with
  | .c (.p q off) => chk (H.contains q) (chk (keptA st cur) (match st.obj q with
    | .box cs => (loadC (tyOf P t) (cs.drop off)).bind fun av => K av.unb
    | _ => Option.none))
  | .ra cs => (loadC (tyOf P t) (cs.map toC)).bind fun av => K av.unb
  | _ => Option.none
def exF {ρ : Type} (P : Program) (G : Orc) (ops : Array Oper) (H : List Nat) (st0 : St) : List Nat → Array Bool → St → (Array Bool → St → Option ρ) → Option ρ
  | [], listed, cur, K => K listed cur
  | i :: rest, listed, cur, K => match ops[i]? with
    | Option.none => Option.none
    | some o => chk (flo1 ops listed i && gT cur ops o) (match pureF P o with
      | true => stepO P G o cur fun st' => exF P G ops H st0 rest (listed.setIfInBounds i true) st' K
      | false => match o.op with
        | .load t x => loadF P H st0 cur t x fun av => exF P G ops H st0 rest (listed.setIfInBounds i true) (cur.put o.dst av) K
        | _ => Option.none)
def exO {ρ : Type} (P : Program) (G : Orc) (ops : Array Oper) (sk : Bool) : List (Nat × Nat) → Array Bool → St → (Array Bool → St → Option ρ) → Option ρ
  | [], listed, cur, K => K listed cur
  | (i, k) :: rest, listed, cur, K => match ops[i]? with
    | Option.none => Option.none
    | some o => match k with
      | 0 => chk (Region.ready .any ops listed == [i]) (guardO cur ops o.guard fun b st => match b with
        | true => stepO P G o st fun st' => exO P G ops sk rest (listed.setIfInBounds i true) st' K
        | false => exO P G ops sk rest (listed.setIfInBounds i true) (st.put o.dst skipAV) K)
      | _ => chk (flo1 ops listed i) (match gV cur ops o with
        | some true => chk (pureF P o) (stepO P G o cur fun st' => exO P G ops sk rest (listed.setIfInBounds i true) st' K)
        | some false => chk (sk || pureF P o) (exO P G ops sk rest (listed.setIfInBounds i true) (cur.put o.dst skipAV) K)
        | Option.none => Option.none)
def planO (P : Program) (ops : Array Oper) (st : St) : Nat → Array Bool → List (Nat × Nat)
  | 0, _ => []
  | n + 1, listed => match (Region.ready .any ops listed).find? (fun i => match ops[i]? with | some o => pureF P o && gT st ops o && flo1 ops listed i | Option.none => false) with
      | some i => (i, 1) :: planO P ops st n (listed.setIfInBounds i true)
      | Option.none => match Region.ready .any ops listed with
        | i :: _ => (i, 0) :: planO P ops st n (listed.setIfInBounds i true)
        | [] => []
section
variable {P : Program} {G : Orc} {ops : Array Oper} {c : Cx} {st : St} {a0 a : Act} {w1 w : World} {I I' : Nat → Prop} {β β' : List Value} {S S2 : Nat → Nat → Prop} {H : List Nat} {cur : St} {ρ : Type} {r : ρ} {Q : Exit → Act → World → Prop}
def left (w1 : World) (S : Nat → Nat → Prop) (H : List Nat) (w : World) : Prop := ∀ b, b < w1.heap.size → ¬ hidX S H b → w.heap[b]? = w1.heap[b]?
end
section
variable {P : Program} {G : Orc} {ops : Array Oper} {c : Cx} {st : St} {ρ : Type} {r : ρ} {Q : Exit → Act → World → Prop} {K : Array Bool → St → Option ρ} {S' : World → Prop} {cls : Nat → Nat}
theorem flo1_spec {listed : Array Bool} {i : Nat} (h : flo1 ops listed i = true) : i ∈ Region.ready .any ops listed ∧ Region.free .any ops listed i = true := by
  unfold flo1 at h
  simp only [Bool.and_eq_true] at h
  exact ⟨by simpa using h.1, h.2⟩
theorem gV_is {a : Act} {w : World} {I : Nat → Prop} {β : List Value} {S : Nat → Nat → Prop} (hr : RelV st a w I β S) {o : Oper} {b : Bool} (h : gV st ops o = some b) : Region.wanted o (yielded ops a.tmps) = b := by
  obtain ⟨b', h1, h2⟩ := guard_is hr h
  rw [h1]
  exact Option.some.inj h2
theorem pure_goes {o : Oper} {a : Act} {w : World} (hb : BlindO P o) {next : Act → World → Prop} (hs : o.wp P a w next (fun _ _ _ => False)) : ∃ v, (∀ w', (execOp a.eval o).run P w' = .ok (.value v) w') ∧ next (a.put o.dst v) w := by
  unfold Oper.wp at hs
  rcases hb a with ⟨v, hv⟩ | hh
  · rw [hv w] at hs
    exact ⟨v, hv, hs⟩
  · obtain ⟨x, w', e⟩ := hh w
    rw [e] at hs
    cases x <;> exact hs.elim
theorem exO_left (hG : G.ok P) (hsl : Region.noSelect ops = true) (hQp : ∀ ch a w, Q (.panic ch) a w → False) {n : Nat} {sk : Bool} (hsk : sk = true → ∀ i, cls i ≠ 0) (hcls : ∀ i o, ops[i]? = some o → pureF P o = true → cls i ≠ 0)
    (hS : ∀ cur a w, RelB c cur a w → S' w) (hK : ∀ listed cur a w, Closed ops listed → K listed cur = some r → RelB c cur a w → wpAnyL P ops Q S' cls n listed a w) :
    ∀ (l : List (Nat × Nat)) (listed : Array Bool) (cur : St) (a : Act) (w : World), Closed ops listed → RelB c cur a w → exO P G ops sk l listed cur K = some r → wpAnyL P ops Q S' cls (l.length + n) listed a w
  | [], listed, cur, a, w, hcl, hrel, h => by
    rw [exO] at h
    simpa using hK _ _ _ _ hcl h hrel
  | (i, k) :: rest, listed, cur, a, w, hcl, hrel, h => by
    have next := exO_left hG hsl hQp hsk hcls hS hK rest
    rw [List.length_cons, show rest.length + 1 + n = (rest.length + n) + 1 by omega]
    unfold exO at h
    split at h
    · cases h
    rename_i o ho
    split at h
    · obtain ⟨hrd, h⟩ := zM h
      have hrd : Region.ready .any ops listed = [i] := by simpa using hrd
      have hmem : i ∈ Region.ready .any ops listed := by rw [hrd]; simp
      refine ⟨fun he => (by rw [hrd] at he; cases he), fun k hk => ?_⟩
      rw [hrd] at hk
      obtain rfl : k = i := by simpa using hk
      obtain ⟨b, hb, h⟩ := guard_is hrel.choose_spec.choose_spec.choose_spec.1 h
      unfold wpOp
      simp only [ho]
      cases b with
      | true =>
        rw [if_pos hb]
        exact .inl (stepO_sound hG hrel h fun st2 a2 w2 h2 hr2 => ⟨fun _ => hS _ _ _ hr2, next _ st2 a2 w2 (hcl.put hmem) hr2 h2⟩)
      | false =>
        rw [if_neg (by simp [hb])]
        exact ⟨fun _ => hS _ _ _ hrel, next _ _ _ _ (hcl.put hmem) (hrel.skip o.dst) h⟩
    · obtain ⟨hf, h⟩ := zM h
      obtain ⟨hmem, hfree⟩ := flo1_spec hf
      split at h
      · rename_i hgv
        have hw := gV_is hrel.choose_spec.choose_spec.choose_spec.1 hgv
        obtain ⟨hpf, h⟩ := zM h
        obtain ⟨v, hv, hs⟩ := pure_goes (pureF_blind hpf) (stepO_sound hG hrel h (Q := fun _ _ _ => False) (next := fun a' w' => wpAnyL P ops Q S' cls (rest.length + n) (listed.setIfInBounds i true) a' w') (fun st2 a2 w2 h2 hr2 => next _ st2 a2 w2 (hcl.put hmem) hr2 h2))
        exact wpAnyL_pure ho (Region.noSelect_spec hsl) (fun ch a' w' hq => (hQp ch (a'.put o.dst v) w' hq).elim) (hcls i o ho hpf) _ listed a w (Region.free_spec ho hfree) hmem (.inl ⟨hw, fun w2 _ => hv w2⟩) hs
      · rename_i hgv
        have hw := gV_is hrel.choose_spec.choose_spec.choose_spec.1 hgv
        obtain ⟨hpf, h⟩ := zM h
        have hc0 : cls i ≠ 0 := by
          rcases Bool.or_eq_true _ _ ▸ hpf with h5 | h5
          · exact hsk h5 i
          · exact hcls i o ho h5
        exact wpAnyL_pure ho (Region.noSelect_spec hsl) (fun ch a' w' hq => (hQp ch (a'.put o.dst undef) w' hq).elim) hc0 _ listed a w (Region.free_spec ho hfree) hmem (.inr ⟨hw, rfl⟩) (next _ _ _ _ (hcl.put hmem) (hrel.skip o.dst) h)
      · cases h
end
theorem prefN_full {ops : Array Oper} : ∀ i, prefN (ancs ops.toList) ops.size ≤ i → i < ops.size → ∀ k, k < i → k ∈ ancOf (ancs ops.toList) i := by
  intro i hpi hi k hk
  have hl := prefN_all (ancs ops.toList) ops.size i hpi hi
  have hf := anc_filter (ops := ops.toList) (i := i) (p := i) (Nat.le_refl _)
  rw [hf] at hl
  simpa using filter_full hl k hk
theorem prefL_le (A : List (List Nat)) (ls : List Nat) : ∀ n, prefL A ls n ≤ n
  | 0 => Nat.le_refl _
  | n + 1 => by
    unfold prefL
    split
    · exact Nat.le_trans (prefL_le A ls n) (by omega)
    · exact Nat.le_refl _
theorem exR0_sound {P : Program} {G : Orc} (hG : G.ok P) (hm : P.follows .mixedOrders = true) {id : Nat} {ops : Array Oper} {st : St} {c : Cx} {a : Act} {w : World} {ρ : Type} {r : ρ} {K : St → Option ρ} {Q : Exit → Act → World → Prop}
    (h : exR0 P G ops st K = some r) (hrel : RelB c st a w) (hK : ∀ st' a' w', K st' = some r → Rel c st' a' w' → Q .normal a' w') : (Code.region id ops true).wp P Q a w := by
  unfold exR0 at h
  simp only at h
  have old : ∀ {p : Nat × List Nat}, p = (prefN (ancs ops.toList) ops.size, []) → exRp P G ops (ancs ops.toList) p.1 p.2 st K = some r → (Code.region id ops true).wp P Q a w := by
    rintro p rfl h
    exact exRp_sound hG hm (prefN_le _ _) (fun i h1 h2 k h3 => .inl (prefN_full i h1 h2 k h3)) (by simp) (by simp) (.inl rfl) h hrel hK
  unfold planR at h
  cases hq : (ops.toList.take (prefN (ancs ops.toList) ops.size)).all quietOp with
  | true => rw [hq] at h; exact old rfl h
  | false =>
    rw [hq] at h
    simp only at h
    generalize hle : (List.range ops.size).filter (lateC ops) = l0 at h
    have hpl := prefL_le (ancs ops.toList) l0 ops.size
    generalize prefL (ancs ops.toList) l0 ops.size = p at h hpl
    generalize hl1 : (l0.filter fun k => decide (k < p)) = l1 at h
    cases hf : Region.noSelect ops && fullOk (ancs ops.toList) l1 p ops.size with
    | false => rw [hf] at h; exact old rfl h
    | true =>
      rw [hf] at h
      rw [Bool.and_eq_true] at hf
      refine exRp_sound hG hm hpl (fun i h1 h2 k h3 => ?_) (fun k hk => ?_) (fun k hk => ?_) (.inr hf.1) h hrel hK
      · have h4 := List.all_eq_true.1 hf.2 i (List.mem_range.2 h2)
        have h5 : decide (i < p) = false := by simp; omega
        rw [h5, Bool.false_or] at h4
        have h6 := List.all_eq_true.1 h4 k (List.mem_range.2 h3)
        rw [Bool.or_eq_true, Bool.and_eq_true] at h6
        refine h6.imp (fun h => by rwa [List.contains_iff_mem] at h) (fun h => ⟨by have := h.1; rwa [List.contains_iff_mem] at this, fun j hj => ?_⟩)
        have h7 := List.all_eq_true.1 h.2 j hj
        rw [Bool.or_eq_true] at h7
        exact h7.imp (fun h => by rwa [List.contains_iff_mem] at h) (fun h => by rwa [List.contains_iff_mem] at h)
      · rw [← hl1] at hk
        simpa using (List.mem_filter.1 hk).2
      · rw [← hl1] at hk
        have h4 := (List.mem_filter.1 hk).1
        rw [← hle] at h4
        exact (List.mem_filter.1 h4).2
def quietOp2 (o : Oper) : Bool := match o.op with
  | .buildSlice _ _ _ => false
  | _ => quietOp o
def oldOk (ops : Array Oper) (A : List (List Nat)) : Bool := (ops.toList.take (planR ops A).1).all quietOp2
def unguarded (ops : Array Oper) (i : Nat) : Bool := match ops[i]? with | some o => o.guard.isNone | Option.none => false
def noisyO (G : Orc) (st : St) (o : Oper) : Bool := match o.op with
  | .store _ _ _ => true
  | .call { callee := .builtin .append, .. } => true
  | .call { callee := .value x, .. } => match st.ev x with
    | .fn g _ => !decide (G.kd g < 2)
    | _ => true
  | _ => false
open Classical in
noncomputable def both {ρ : Type} (x y : Option ρ) : Option ρ := if x = y then x else Option.none
theorem both_some {ρ : Type} {x y : Option ρ} {r : ρ} (h : both x y = some r) : x = some r ∧ y = some r := by
  unfold both at h
  split at h
  · rename_i e; exact ⟨h, e ▸ h⟩
  · cases h
theorem both_self {ρ : Type} (x : Option ρ) : both x x = x := by simp [both]
noncomputable def allO {ρ : Type} : List Nat → (Nat → Option ρ) → Option ρ
  | [], _ => Option.none
  | i :: l, f => match l with
    | [] => f i
    | _ => both (f i) (allO l f)
theorem allO_some {ρ : Type} {f : Nat → Option ρ} {r : ρ} : ∀ {l : List Nat}, allO l f = some r → ∀ i ∈ l, f i = some r
  | [], h, _, _ => by cases h
  | [j], h, i, hi => by
    obtain rfl : i = j := by simpa using hi
    exact h
  | j :: k :: l, h, i, hi => by
    obtain ⟨h1, h2⟩ := both_some h
    rcases List.mem_cons.1 hi with rfl | hi
    · exact h1
    · exact allO_some h2 i hi
noncomputable def exA {ρ : Type} (P : Program) (G : Orc) (ops : Array Oper) : Nat → Array Bool → St → (St → Option ρ) → Option ρ
  | 0, listed, cur, K => chk ((Region.ready .any ops listed).isEmpty) (K cur)
  | n + 1, listed, cur, K => match (Region.ready .any ops listed).find? (fun i => match ops[i]? with | some o => (match gV cur ops o with | some true => pureF P o | some false => true | Option.none => false) && flo1 ops listed i | Option.none => false) with
    | some i => exO P G ops true [(i, 1)] listed cur fun listed cur => exA P G ops n listed cur K
    | Option.none => allO (Region.ready .any ops listed) fun i => match ops[i]? with
      | Option.none => Option.none
      | some o => guardO cur ops o.guard fun b st => match b with
        | true => stepO P G o st fun st' => exA P G ops n (listed.setIfInBounds i true) st' K
        | false => exA P G ops n (listed.setIfInBounds i true) (st.put o.dst skipAV) K
theorem exA_left {P : Program} {G : Orc} (hG : G.ok P) {ops : Array Oper} {c : Cx} {ρ : Type} {r : ρ} {K : St → Option ρ} {Q : Exit → Act → World → Prop} (hsl : Region.noSelect ops = true) (hQp : ∀ ch a w, Q (.panic ch) a w → False)
    (hK : ∀ st' a' w', K st' = some r → Rel c st' a' w' → Q .normal a' w') :
    ∀ (n : Nat) (listed : Array Bool) (cur : St) (a : Act) (w : World), Closed ops listed → RelB c cur a w → exA P G ops n listed cur K = some r → wpAnyL P ops Q (fun _ => True) (fun _ => 1) n listed a w
  | 0, listed, cur, a, w, hcl, hrel, h => by
    unfold exA at h
    obtain ⟨he, hh⟩ := zM h
    exact ⟨by simpa using he, hK _ _ _ hh hrel.drop⟩
  | n + 1, listed, cur, a, w, hcl, hrel, h => by
    have next := exA_left hG hsl hQp hK n
    unfold exA at h
    split at h
    · rename_i i hi
      have := exO_left hG hsl (Q := Q) (S' := fun _ => True) (cls := fun _ => 1) (n := n) hQp (fun _ _ => by decide) (fun _ _ _ _ => by decide) (fun _ _ _ _ => trivial) (fun listed cur a w hcl hh hrl => next listed cur a w hcl hrl hh) _ _ _ _ _ hcl hrel h
      rw [List.length_singleton, Nat.add_comm] at this
      exact this
    · refine ⟨fun he => ?_, fun i hi => ?_⟩
      · rw [he] at h; cases h
      · have h2 := allO_some h i hi
        split at h2
        · cases h2
        rename_i o ho
        obtain ⟨b, hb, h3⟩ := guard_is hrel.choose_spec.choose_spec.choose_spec.1 h2
        unfold wpOp
        simp only [ho]
        cases b with
        | true =>
          rw [if_pos hb]
          exact .inl (stepO_sound hG hrel h3 fun st2 a2 w2 h4 hr2 => ⟨fun _ => trivial, next _ st2 a2 w2 (hcl.put hi) hr2 h4⟩)
        | false =>
          rw [if_neg (by simp [hb])]
          exact ⟨fun _ => trivial, next _ _ _ _ (hcl.put hi) (hrel.skip o.dst) h3⟩
noncomputable def exRg {ρ : Type} (P : Program) (G : Orc) (ops : Array Oper) (st : St) (K : St → Option ρ) : Option ρ :=
  let ord := planO P ops st ops.size (Array.replicate ops.size false)
  let lp := ord.takeWhile fun p => unguarded ops p.1
  let m := ops.size - lp.length
  match (ord.drop lp.length).head?.bind fun p => ops[p.1]? with
  | Option.none => Option.none
  | some o => chk (decide (lp.length ≤ ops.size)) (exO P G ops true lp (Array.replicate ops.size false) st fun listed cur => guardO cur ops o.guard fun b cur => match b with
    | _ => exA P G ops m listed cur K)
def bigB (P : Program) (o : Oper) : Bool := match o.op with
  | .buildSlice t _ _ => match (tyOf P t).sl with
    | some e => decide (1 < (tyOf P e).size) && (zeroNs (tyOf P e)).any fun x => match x with | .sl _ _ => true | _ => false
    | Option.none => false
  | _ => false
noncomputable def exR {ρ : Type} (P : Program) (G : Orc) (ops : Array Oper) (st : St) (K : St → Option ρ) : Option ρ :=
  match oldOk ops (ancs ops.toList) with
  | true => exR0 P G ops st K
  | false => chk (Region.noSelect ops && ((List.range ops.size).all fun i => ((ops[i]?).map fun o => (dirs o).all fun j => decide (j < i)).getD true)) (
    match (ops.toList.take (planR ops (ancs ops.toList)).1).any (fun o => noisyO G st o || bigB P o) with
        | false => exR0 P G ops st K
        | true => match (List.range ops.size).all (unguarded ops) with
          | true => exA P G ops ops.size (Array.replicate ops.size false) st K
          | false => exRg P G ops st K)
theorem exR_sound {P : Program} {G : Orc} (hG : G.ok P) (hm : P.follows .mixedOrders = true) {id : Nat} {ops : Array Oper} {st : St} {c : Cx} {a : Act} {w : World} {ρ : Type} {r : ρ} {K : St → Option ρ} {Q : Exit → Act → World → Prop}
    (h : exR P G ops st K = some r) (hrel : RelB c st a w) (hK : ∀ st' a' w', K st' = some r → Rel c st' a' w' → Q .normal a' w') : (Code.region id ops true).wp P Q a w := by
  unfold exR at h
  split at h
  · exact exR0_sound hG hm h hrel hK
  obtain ⟨h1, h⟩ := zM h
  rw [Bool.and_eq_true] at h1
  obtain ⟨hsl, h1⟩ := h1
  have hd : ∀ i o, ops.toList[i]? = some o → ∀ j ∈ dirs o, j < i := by
    intro i o ho j hj
    rw [Array.getElem?_toList] at ho
    have hi : i < ops.size := (Array.getElem?_eq_some_iff.1 ho).1
    have := List.all_eq_true.1 h1 i (List.mem_range.2 hi)
    rw [ho] at this
    simp only [Option.map_some, Option.getD_some, List.all_eq_true, decide_eq_true_eq] at this
    exact this j hj
  let Q' : Exit → Act → World → Prop := fun e a w => match e with | .panic _ => False | e => Q e a w
  have hQ' : ∀ e a w, Q' e a w → Q e a w := fun e a w hq => by cases e <;> first | exact hq | exact hq.elim
  have hQp : ∀ ch a w, Q' (.panic ch) a w → False := fun ch a w hq => hq
  have hrel1 : RelB c st a { w with drawn := w.drawn + 1 } := hrel.drawn rfl rfl rfl rfl
  have hcl0 : Closed ops (Array.replicate ops.size false) := fun i o _ hL => by simp [Array.getD] at hL
  have hK' : ∀ st' a' w', K st' = some r → Rel c st' a' w' → Q' .normal a' w' := hK
  split at h
  · exact exR0_sound hG hm h hrel hK
  split at h
  · exact wp_region_any hm (wpAny_Q hQ' _ _ _ _ (wpAny_of_L _ _ _ _ (exA_left hG hsl hQp hK' _ _ _ _ _ hcl0 hrel1 h)))
  · unfold exRg at h
    simp only at h
    split at h
    · cases h
    · rename_i o0 ho0
      obtain ⟨hle, h⟩ := zM h
      have hle := of_decide_eq_true hle
      generalize (planO P ops st ops.size (Array.replicate ops.size false)).takeWhile (fun p => unguarded ops p.1) = lp at h hle
      have hend : ∀ (S : World → Prop) (cls : Nat → Nat) (listed : Array Bool) (cur : St) (a : Act) (w : World), Closed ops listed → (chk ((Region.ready .any ops listed).isEmpty) (K cur)) = some r → RelB c cur a w → wpAnyL P ops Q' S cls 0 listed a w := by
        intro S cls listed cur a w _ hh hr
        obtain ⟨he, hh⟩ := zM hh
        exact ⟨by simpa using he, hK' _ _ _ hh hr.drop⟩
      have key := exO_left hG hsl (Q := Q') (S' := fun _ => True) (cls := fun _ => 1) (n := ops.size - lp.length) hQp (fun _ _ => by decide) (fun _ _ _ _ => by decide) (fun _ _ _ _ => trivial) (fun listed cur a w hcl hh hrl => ?_) lp _ st a _ hcl0 hrel1 h
      · have := wpAny_of_L _ _ _ _ key
        rw [show lp.length + (ops.size - lp.length) = ops.size by omega] at this
        exact wp_region_any hm (wpAny_Q hQ' _ _ _ _ this)
      · obtain ⟨b, -, hh⟩ := guard_is hrl.choose_spec.choose_spec.choose_spec.1 hh
        exact exA_left hG hsl hQp hK' _ _ _ _ _ hcl hrl hh
end Go.Al
