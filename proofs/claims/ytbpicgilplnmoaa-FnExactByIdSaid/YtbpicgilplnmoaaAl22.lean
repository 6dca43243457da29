import Derived.Test.YtbpicgilplnmoaaAl21
set_option linter.unusedVariables false
set_option linter.unusedSimpArgs false
namespace Go.Al

/-! ### 26. The calculus as a function: what is left to show stands as a Bool -/
def chk {ρ : Type} (b : Bool) (k : Option ρ) : Option ρ := match b with
  | true => k
  | false => Option.none
theorem chk_some {ρ : Type} {b : Bool} {k : Option ρ} {r : ρ} (h : chk b k = some r) : b = true ∧ k = some r := by
  cases b with
  | true => exact ⟨rfl, h⟩
  | false => cases h
theorem chk_dec {ρ : Type} {p : Prop} [Decidable p] {k : Option ρ} {r : ρ} (h : chk (decide p) k = some r) : p ∧ k = some r := by
  obtain ⟨h1, h2⟩ := chk_some h
  exact ⟨of_decide_eq_true h1, h2⟩
theorem bind_some {α ρ : Type} {o : Option α} {k : α → Option ρ} {r : ρ} (h : o.bind k = some r) : is o fun x => k x = some r := by
  cases o with
  | none => cases h
  | some x => exact h

def natO {ρ : Type} (v : AV) (K : Int → Option ρ) : Option ρ := match v with
  | .c (.n (.v (.int .i64 n))) => K n
  | _ => Option.none
def optO {ρ : Type} (v : Option AV) (d : Int) (K : Int → Option ρ) : Option ρ := match v with
  | some v => natO v K
  | Option.none => K d
theorem natO_vc {ρ : Type} {v : AV} {K : Int → Option ρ} {r : ρ} (h : natO v K = some r) : natArg v fun n => K n = some r := by
  unfold natO at h
  unfold natArg
  split at h
  · exact h
  · cases h
theorem optO_vc {ρ : Type} {v : Option AV} {d : Int} {K : Int → Option ρ} {r : ρ} (h : optO v d K = some r) : optArg v d fun n => K n = some r := by
  cases v with
  | none => exact h
  | some v => exact natO_vc h
theorem natArg_mono {v : AV} {K K' : Int → Prop} (h : natArg v K) (hk : ∀ n, K n → K' n) : natArg v K' := by
  unfold natArg at h ⊢
  split at h
  · exact hk _ h
  · exact h.elim
theorem optArg_mono {v : Option AV} {d : Int} {K K' : Int → Prop} (h : optArg v d K) (hk : ∀ n, K n → K' n) : optArg v d K' := by
  cases v with
  | none => exact hk _ h
  | some v => exact natArg_mono h hk
theorem is_mono {α : Type} {o : Option α} {K K' : α → Prop} (h : is o K) (hk : ∀ x, K x → K' x) : is o K' := by
  cases o with
  | none => exact h
  | some x => exact hk _ h

def lenO {ρ : Type} (st : St) (ty : TyI) (v : AV) (K : AV → List Ob → Option ρ) : Option ρ :=
  match v with
  | .c (.n (.v (.string s))) => chk ty.str (K (.c (.n (.v (.int .i64 s.size)))) [])
  | .c (.n (.sl _ xs)) => chk ty.sl.isSome (K (.c (.n (.v (.int .i64 xs.n)))) [])
  | .c .z => chk ty.sl.isSome (K (.c (.n (.v (.int .i64 0)))) [])
  | .c (.h i) => match st.obj i with
    | .row _ xs _ => chk ty.sl.isSome (K (.c (.n (.v (.int .i64 xs.n)))) [])
    | .fro _ xs => chk ty.sl.isSome (K (.c (.n (.v (.int .i64 xs.n)))) [])
    | _ => Option.none
  | _ => Option.none

def loadO {ρ : Type} (st : St) (ty : TyI) (v : AV) (K : AV → List Ob → Option ρ) : Option ρ :=
  match v with
  | .c (.p i off) => match st.obj i with
    | .box cs => (loadC ty (cs.drop off)).bind fun av => K av []
    | _ => Option.none
  | .ra cs => (loadC ty (cs.map toC)).bind fun av => K av []
  | .ea i sz idx f => match st.obj i with
    | .row sz' xs [] => chk (decide (sz = sz')) (chk (decide (idx < xs.n)) ((allSome ((((xs.g idx).drop f).take ty.size).map toCo)).bind fun cs => (loadC ty cs).bind fun av => K av []))
    | _ => Option.none
  | _ => Option.none

def idxO {ρ : Type} (st : St) (esz : Nat) (v : AV) (k : Int) (K : AV → List Ob → Option ρ) : Option ρ :=
  match v with
  | .c (.n (.sl sz xs)) => chk (decide (sz = esz)) (chk (decide (0 ≤ k ∧ k < xs.n)) (K (.ra (xs.g k.toNat)) []))
  | .c (.h i) => match st.obj i with
    | .row sz xs _ => chk (decide (sz = esz)) (chk (decide (0 ≤ k ∧ k < xs.n)) (K (.ea i sz k.toNat 0) []))
    | .fro sz xs => chk (decide (sz = esz)) (chk (decide (0 ≤ k ∧ k < xs.n)) (K (.ra (xs.g k.toNat)) []))
    | _ => Option.none
  | _ => Option.none

def sliceO {ρ : Type} (P : Program) (ty : TyI) (v : AV) (lo hi mx : Option AV) (K : AV → List Ob → Option ρ) : Option ρ :=
  match v, mx with
  | .c (.n (.v (.string s))), Option.none => optO lo 0 fun l => optO hi s.size fun h => chk ty.str (chk (decide (0 ≤ l ∧ l ≤ h ∧ h ≤ s.size)) (K (.c (.n (.v (.string (s.extract l.toNat h.toNat))))) []))
  | .c (.n (.sl sz xs)), Option.none => optO lo 0 fun l => optO hi xs.n fun h => ty.sl.bind fun e => chk (tyOf P e).ok (chk (decide ((tyOf P e).size = sz)) (chk (decide (0 ≤ l ∧ l ≤ h ∧ h ≤ xs.n)) (K (.c (.n (.sl sz (xs.sub l.toNat h.toNat)))) [])))
  | .c .z, Option.none => optO lo 0 fun l => optO hi 0 fun h => ty.sl.bind fun e => chk (tyOf P e).ok (chk (decide (l = 0 ∧ h = 0)) (K (.c .z) []))
  | _, _ => Option.none

def fieldAddrO {ρ : Type} (P : Program) (ty : TyI) (v : AV) (f : Nat) (K : AV → List Ob → Option ρ) : Option ρ :=
  (fldOf ty f).bind fun p => chk (tyOf P p.2).ok (chk (decide ((tyOf P p.2).size ≠ 0)) (match v with
    | .c (.p i o) => K (.c (.p i (o + p.1))) []
    | .ea i sz idx o => K (.ea i sz idx (o + p.1)) []
    | .ra cs => K (.ra (cs.drop p.1)) []
    | _ => Option.none))

def convO {ρ : Type} (P : Program) (st : St) (src dst : TyI) (v : AV) (K : AV → List Ob → Option ρ) : Option ρ :=
  match v with
  | .c (.n (.v (.int k n))) => chk src.ok (dst.int.bind fun k' => K (.c (.n (.v (.int k' (k'.wrap n))))) [])
  | .c (.n (.v (.string s))) => chk src.ok (sel dst.str (K (.c (.n (.v (.string s)))) []) (dst.sl.bind fun e => chk (decide ((tyOf P e).int = some .u8)) (chk (decide (s.size ≤ maxN)) (K (.c (.h st.obs.length)) [.row 1 (bytesRw s) []]))))
  | .c (.h i) => match st.obj i with
    | .row sz xs [] => chk (decide (sz = 1)) (chk dst.str (src.sl.bind fun e => chk (decide ((tyOf P e).int = some .u8)) (chk (decide (∀ i, i < xs.n → isB (xs.g i) = true)) (K (.c (.n (.v (.string (rwBytes xs))))) []))))
    | _ => Option.none
  | _ => Option.none

def binO {ρ : Type} (op : BinOp) (ty : TyI) (x y : Value) (K : Value → Option ρ) : Option ρ :=
  match x, y with
  | .int k a, .int k' b =>
    match op with
    | .shl => chk (decide (0 ≤ b)) ((shI .shl k a b).bind fun r => K (.int k r))
    | .shr => chk (decide (0 ≤ b)) ((shI .shr k a b).bind fun r => K (.int k r))
    | op => chk (decide (k = k')) (chk (!isDiv op || decide (b ≠ 0)) (match cmpI op a b with
      | some r => K (.bool r)
      | Option.none => (arI op k a b).bind fun r => K (.int k r)))
  | .string a, .string b => match op with
    | .add => chk (decide (a.size + b.size ≤ maxN)) (K (.string (a ++ b)))
    | op => (strV op a b).bind K
  | .bool a, .bool b => chk ty.bl ((boolV op a b).bind K)
  | _, _ => Option.none

section
variable {ρ : Type} {P : Program} {st : St} {K : AV → List Ob → Option ρ} {r : ρ}

theorem lenO_vc {ty : TyI} {v : AV} (h : lenO st ty v K = some r) : lenK st ty v fun av news => K av news = some r := by
  unfold lenO at h
  unfold lenK
  split at h <;> first
    | exact chk_some h
    | (split at h <;> first
        | (rename_i ho; simp only [ho]; exact chk_some h)
        | cases h)
    | cases h

theorem loadO_vc {ty : TyI} {v : AV} (h : loadO st ty v K = some r) : loadK P st ty v fun av news => K av news = some r := by
  unfold loadO at h
  unfold loadK
  split at h
  · split at h
    · rename_i ho
      simp only [ho]
      exact bind_some h
    · cases h
  · exact bind_some h
  · split at h
    · rename_i ho
      simp only [ho]
      obtain ⟨h1, h⟩ := chk_dec h
      obtain ⟨h2, h⟩ := chk_dec h
      exact ⟨h1, h2, is_mono (bind_some h) fun _ h => bind_some h⟩
    · cases h
  · cases h

theorem idxO_vc {esz : Nat} {v : AV} {k : Int} (h : idxO st esz v k K = some r) : idxK P st esz v k fun av news => K av news = some r := by
  unfold idxO at h
  unfold idxK
  split at h
  · obtain ⟨h1, h⟩ := chk_dec h
    obtain ⟨⟨h2, h3⟩, h⟩ := chk_dec h
    exact ⟨h1, h2, h3, h⟩
  · split at h
    · rename_i ho
      simp only [ho]
      obtain ⟨h1, h⟩ := chk_dec h
      obtain ⟨⟨h2, h3⟩, h⟩ := chk_dec h
      exact ⟨h1, h2, h3, h⟩
    · rename_i ho
      simp only [ho]
      obtain ⟨h1, h⟩ := chk_dec h
      obtain ⟨⟨h2, h3⟩, h⟩ := chk_dec h
      exact ⟨h1, h2, h3, h⟩
    · cases h
  · cases h

theorem sliceO_vc {ty : TyI} {v : AV} {lo hi mx : Option AV} (h : sliceO P ty v lo hi mx K = some r) : sliceK P st ty v lo hi mx fun av news => K av news = some r := by
  unfold sliceO at h
  unfold sliceK
  split at h
  · refine optArg_mono (optO_vc h) fun l h => optArg_mono (optO_vc h) fun u h => ?_
    obtain ⟨h1, h⟩ := chk_some h
    obtain ⟨⟨h2, h3, h4⟩, h⟩ := chk_dec h
    exact ⟨h1, h2, h3, h4, h⟩
  · refine optArg_mono (optO_vc h) fun l h => optArg_mono (optO_vc h) fun u h => ?_
    obtain ⟨e, he, h⟩ := is_iff (bind_some h)
    obtain ⟨h1, h⟩ := chk_some h
    obtain ⟨h2, h⟩ := chk_dec h
    obtain ⟨⟨h3, h4, h5⟩, h⟩ := chk_dec h
    exact ⟨h3, h4, h5, by rw [he]; exact ⟨h1, h2⟩, h⟩
  · refine optArg_mono (optO_vc h) fun l h => optArg_mono (optO_vc h) fun u h => ?_
    obtain ⟨e, he, h⟩ := is_iff (bind_some h)
    obtain ⟨h1, h⟩ := chk_some h
    obtain ⟨⟨h3, h4⟩, h⟩ := chk_dec h
    exact ⟨by rw [he]; exact h1, h3, h4, h⟩
  · cases h

theorem fieldAddrO_vc {ty : TyI} {v : AV} {f : Nat} (h : fieldAddrO P ty v f K = some r) : fieldAddrK P ty v f fun av news => K av news = some r := by
  unfold fieldAddrO at h
  unfold fieldAddrK
  refine is_mono (bind_some h) fun p h => ?_
  obtain ⟨h1, h⟩ := chk_some h
  obtain ⟨h2, h⟩ := chk_dec h
  refine ⟨h1, h2, ?_⟩
  split at h
  · exact h
  · exact h
  · exact h
  · cases h

theorem convO_vc {s d : TyI} {v : AV} (h : convO P st s d v K = some r) : convK P st s d v fun av news => K av news = some r := by
  unfold convO at h
  unfold convK
  split at h
  · obtain ⟨h1, h⟩ := chk_some h
    exact ⟨h1, bind_some h⟩
  · obtain ⟨h1, h⟩ := chk_some h
    refine ⟨h1, ?_⟩
    cases hd : d.str with
    | true => rw [hd] at h; simp only [if_true]; exact h
    | false =>
      rw [hd] at h
      simp only [Bool.false_eq_true, if_false]
      refine is_mono (bind_some (show _ = some r from h)) fun e h => ?_
      obtain ⟨h2, h⟩ := chk_dec h
      obtain ⟨h3, h⟩ := chk_dec h
      exact ⟨h2, h3, h⟩
  · split at h
    · rename_i ho
      simp only [ho]
      obtain ⟨h1, h⟩ := chk_dec h
      obtain ⟨h2, h⟩ := chk_some h
      obtain ⟨e, he, h⟩ := is_iff (bind_some h)
      obtain ⟨h3, h⟩ := chk_dec h
      obtain ⟨h4, h⟩ := chk_dec h
      exact ⟨h1, h2, by rw [he]; exact h3, h4, h⟩
    · cases h
  · cases h

theorem binO_vc {op : BinOp} {ty : TyI} {x y : Value} {K : Value → Option ρ} (h : binO op ty x y K = some r) : binK op ty x y fun v => K v = some r := by
  unfold binO at h
  unfold binK
  split at h
  · rename_i k a k' b
    have key : ∀ op', op' ≠ .shl → op' ≠ .shr → chk (decide (k = k')) (chk (!isDiv op' || decide (b ≠ 0)) (match cmpI op' a b with
      | some r => K (.bool r)
      | Option.none => (arI op' k a b).bind fun r => K (.int k r))) = some r → k = k' ∧ (isDiv op' = true → b ≠ 0) ∧ (match cmpI op' a b with
      | some r' => K (.bool r') = some r
      | Option.none => is (arI op' k a b) fun r' => K (.int k r') = some r) := by
      intro op' _ _ h
      obtain ⟨h1, h⟩ := chk_dec h
      obtain ⟨h2, h⟩ := chk_some h
      refine ⟨h1, fun hd => by simpa [hd] using h2, ?_⟩
      split at h
      · exact h
      · exact bind_some h
    cases op
    case shl => obtain ⟨h1, h⟩ := chk_dec h; exact ⟨h1, bind_some h⟩
    case shr => obtain ⟨h1, h⟩ := chk_dec h; exact ⟨h1, bind_some h⟩
    all_goals exact key _ (by simp) (by simp) h
  · cases op
    case add => obtain ⟨h1, h⟩ := chk_dec h; exact ⟨fun _ => h1, h⟩
    all_goals exact ⟨fun h => (by cases h), bind_some h⟩
  · obtain ⟨h1, h⟩ := chk_some h
    exact ⟨h1, bind_some h⟩
  · cases h
end

end Go.Al
