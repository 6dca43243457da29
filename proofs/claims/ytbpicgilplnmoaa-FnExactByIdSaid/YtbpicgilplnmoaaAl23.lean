import Derived.Test.YtbpicgilplnmoaaAl22
set_option linter.unusedVariables false
set_option linter.unusedSimpArgs false
namespace Go.Al

/-! ### 27. Operations as functions -/
def pickO {ρ : Type} (c : AV) (x y : Option ρ) : Option ρ := match c with
  | .c (.n (.v (.bool b))) => sel b x y
  | _ => Option.none
def bin2O {ρ : Type} (op : BinOp) (ty : TyI) (x y : AV) (K : Value → Option ρ) : Option ρ := match x, y with
  | .c (.n (.v a)), .c (.n (.v b)) => binO op ty a b K
  | _, _ => Option.none

def qO {ρ : Type} (P : Program) (o : Oper) (st : St) (K : AV → List Ob → Option ρ) : Option ρ :=
  match o.op with
  | .move x | .assign x => K (st.ev x) []
  | .pick c a b => pickO (st.ev c) (K (st.ev a) []) (K (st.ev b) [])
  | .alloc e => chk (tyOf P e).ok (chk ((tyOf P e).zero.all (·.oneCell')) (K (.c (.p st.obs.length 0)) [.box ((tyOf P e).zero.map zC)]))
  | .box e x => (partCs (st.ev x)).bind fun cs => K (.c (.p st.obs.length 0)) [.box cs]
  | .build t parts => chk (tyOf P t).ok (chk (tyOf P t).st (chk ((tyOf P t).fields.all (fun f => (tyOf P f.2).ok)) (chk ((tyOf P t).zero.all (·.oneCell'))
      ((fillC P (tyOf P t) (parts.toList.map fun p => (p.1, st.ev p.2)) ((tyOf P t).zero.map zC)).bind fun cs => K (.a cs) []))))
  | .load t a => loadO st (tyOf P t) (st.ev a) K
  | .binOp op t x y _ => bin2O op (tyOf P t) (st.ev x) (st.ev y) fun r => K (.c (.n (.v r))) []
  | .unOp op _ x => match op, st.ev x with
    | .not, .c (.n (.v (.bool b))) => K (.c (.n (.v (.bool (!b))))) []
    | .neg, .c (.n (.v (.int k n))) => K (.c (.n (.v (.int k (k.wrap (0 - n)))))) []
    | _, _ => Option.none
  | .convert s d x => convO P st (tyOf P s) (tyOf P d) (st.ev x) K
  | .slice t x lo hi mx => sliceO P (tyOf P t) (st.ev x) (lo.map st.ev) (hi.map st.ev) (mx.map st.ev) K
  | .fieldAddr t x f => fieldAddrO P (tyOf P t) (st.ev x) f K
  | .field t x f => match st.ev x with
    | .a cs => (fldOf (tyOf P t) f).bind fun p => (loadC (tyOf P p.2) (cs.drop p.1)).bind fun av => K av []
    | _ => Option.none
  | .indexAddr t x i => (tyOf P t).sl.bind fun e => natO (st.ev i) fun k => chk (tyOf P e).ok (idxO st (tyOf P e).size (st.ev x) k K)
  | .index t x i => natO (st.ev i) fun k => match st.ev x with
    | .c (.n (.v (.string s))) => chk (tyOf P t).str (chk (decide (0 ≤ k ∧ k < s.size)) (K (.c (.n (.v (.int .u8 (s.data.toList.getD k.toNat 0).toNat)))) []))
    | _ => Option.none
  | .extract x i => match st.ev x with
    | .tup vs => vs[i]?.bind fun v => K (K2AV v) []
    | _ => Option.none
  | .nilCheck x => match st.ev x with
    | .c (.p i off) => K (.c (.p i off)) []
    | .ra cs => K (.ra cs) []
    | .ea i sz idx f => K (.ea i sz idx f) []
    | .fn f cs => K (.fn f cs) []
    | _ => Option.none
  | .makeFunc (.func f) first captured => chk (decide (first.size = 0)) ((allSome (captured.toList.map fun x => match st.ev x with | .c x => some x | _ => Option.none)).bind fun cs => K (.fn f cs) [])
  | .makeSlice t len cap => (tyOf P t).sl.bind fun e => natO (st.ev len) fun l => natO (st.ev cap) fun c => chk (decide (l = c ∧ 0 ≤ l)) (chk (tyOf P e).ok (chk (decide ((tyOf P e).size ≠ 0)) (chk (zsOk (tyOf P e))
      (chk (decide (l * ((tyOf P e).bytes + 1) ≤ maxN)) (K (.c (.h st.obs.length)) [.row (tyOf P e).size (Rw.rep l.toNat (zeroNs (tyOf P e))) []])))))
  | .call { callee := .builtin .len, args, argTypes } => args[0]?.bind fun x => argTypes[0]?.bind fun t => lenO st (tyOf P t) (st.ev x) K
  | .call { callee := .builtin .max, args, .. } => match args.toList with
    | [x, y] => match st.ev x, st.ev y with
      | .c (.n (.v (.int k a))), .c (.n (.v (.int _ b))) => K (.c (.n (.v (.int k (sel (decide (b > a)) b a))))) []
      | _, _ => Option.none
    | _ => Option.none
  | .call { callee := .builtin .min, args, .. } => match args.toList with
    | [x, y] => match st.ev x, st.ev y with
      | .c (.n (.v (.int k a))), .c (.n (.v (.int _ b))) => K (.c (.n (.v (.int k (sel (decide (b < a)) b a))))) []
      | _, _ => Option.none
    | _ => Option.none
  | _ => Option.none

theorem sel_ite {α : Type} {p : Prop} [Decidable p] (x y : α) : sel (decide p) x y = if p then x else y := by
  by_cases h : p <;> simp [h, sel]

section
variable {ρ : Type} {P : Program} {st : St} {r : ρ}
theorem qO_vc {o : Oper} {K : AV → List Ob → Option ρ} (h : qO P o st K = some r) : vcQ P o st fun av news => K av news = some r := by
  obtain ⟨dst, op, ty, pos, after, guard⟩ := o
  unfold qO at h
  split at h <;> rename_i hop <;> first | (cases h; done) | (simp only at hop; subst hop; simp only [vcQ])
  · exact h
  · exact h
  · unfold pickO at h
    unfold pickK
    split at h
    · rename_i b hc
      simp only [hc]
      cases b <;> exact h
    · cases h
  · obtain ⟨h1, h⟩ := chk_some h
    obtain ⟨h2, h⟩ := chk_some h
    exact ⟨h1, h2, h⟩
  · exact bind_some h
  · obtain ⟨h1, h⟩ := chk_some h
    obtain ⟨h2, h⟩ := chk_some h
    obtain ⟨h3, h⟩ := chk_some h
    obtain ⟨h4, h⟩ := chk_some h
    exact ⟨h1, h2, h3, h4, bind_some h⟩
  · exact loadO_vc h
  · unfold bin2O at h
    split at h
    · rename_i hx hy
      simp only [hx, hy]
      exact binO_vc h
    · cases h
  · split at h
    · rename_i hx
      simp only [hx]
      exact h
    · rename_i hx
      simp only [hx]
      exact h
    · cases h
  · exact convO_vc h
  · exact sliceO_vc h
  · exact fieldAddrO_vc h
  · split at h
    · rename_i hx
      simp only [hx]
      exact is_mono (bind_some h) fun p h => bind_some h
    · cases h
  · refine is_mono (bind_some h) fun e h => natArg_mono (natO_vc h) fun k h => ?_
    obtain ⟨h1, h⟩ := chk_some h
    exact ⟨h1, idxO_vc h⟩
  · refine natArg_mono (natO_vc h) fun k h => ?_
    split at h
    · rename_i s hx
      simp only [hx]
      obtain ⟨h1, h⟩ := chk_some h
      obtain ⟨⟨h2, h3⟩, h⟩ := chk_dec h
      refine ⟨h1, h2, ?_⟩
      have hlt : k.toNat < s.data.toList.length := by
        have : s.data.toList.length = s.size := rfl
        omega
      have hd : s.data[k.toNat]? = some (s.data.toList.getD k.toNat 0) := by
        rw [← Array.getElem?_toList, List.getD_eq_getElem?_getD, List.getElem?_eq_getElem hlt]
        rfl
      rw [hd]
      exact h
    · cases h
  · split at h
    · rename_i hx
      simp only [hx]
      exact bind_some h
    · cases h
  · split at h <;> first | (rename_i hx; simp only [hx]; exact h) | cases h
  · obtain ⟨h1, h⟩ := chk_dec h
    exact ⟨h1, bind_some h⟩
  · refine is_mono (bind_some h) fun e h => natArg_mono (natO_vc h) fun l h => natArg_mono (natO_vc h) fun c h => ?_
    obtain ⟨⟨h1, h2⟩, h⟩ := chk_dec h
    obtain ⟨h3, h⟩ := chk_some h
    obtain ⟨h4, h⟩ := chk_dec h
    obtain ⟨h5, h⟩ := chk_some h
    obtain ⟨h6, h⟩ := chk_dec h
    exact ⟨h1, h2, h3, h4, h5, h6, h⟩
  · exact is_mono (bind_some h) fun x h => is_mono (bind_some h) fun t h => lenO_vc h
  · split at h
    · rename_i hx
      simp only [hx]
      split at h
      · rename_i h1 h2
        simp only [h1, h2]
        rw [sel_ite] at h
        exact h
      · cases h
    · cases h
  · split at h
    · rename_i hx
      simp only [hx]
      split at h
      · rename_i h1 h2
        simp only [h1, h2]
        rw [sel_ite] at h
        exact h
      · cases h
    · cases h
end

end Go.Al
