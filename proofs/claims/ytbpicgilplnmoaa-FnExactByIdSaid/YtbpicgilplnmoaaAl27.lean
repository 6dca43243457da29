import Derived.Test.YtbpicgilplnmoaaAl26
set_option linter.unusedVariables false
set_option linter.unusedSimpArgs false
namespace Go.Al

/-! ### 33. Steps and regions in the text's order -/
def St.cleanK {ρ : Type} (st : St) (K : St → Option ρ) : Option ρ := K st.unb
theorem St.cleanK_eq {ρ : Type} (st : St) (K : St → Option ρ) : st.cleanK K = K st.unb := rfl

def stepO {ρ : Type} (P : Program) (G : Orc) (o : Oper) (st : St) (K : St → Option ρ) : Option ρ :=
  match o.op with
  | .store t a x => st.cleanK fun st => storeO P st t (st.ev a) (st.ev x) fun st' => (st'.put o.dst skipAV).cleanK K
  | .buildSlice t len parts => st.cleanK fun st => buildOwnO P st t len (parts.toList.map fun p => (p.1, st.ev p.2)) o.dst fun st' => st'.cleanK K
  | .call { callee := .builtin .append, args, argTypes } => st.cleanK fun st => match args.toList, argTypes.toList with
    | [s, x], [t, t'] => chk (decide (t = t')) (appendO P st t (st.ev s) (st.ev x) o.dst fun st' => st'.cleanK K)
    | _, _ => Option.none
  | .call { callee := .value f, args, argTypes } => match st.ev f with
    | .fn g caps => sel (decide (G.kd g < 2)) (stepQ P G o st fun av news => K ((st.new news).put o.dst av))
        (st.cleanK fun st => match st.ev f with
          | .fn g caps => G.e ρ g st (args.toList.map st.ev ++ caps.map .c) o.dst fun st' => st'.cleanK K
          | _ => Option.none)
    | _ => Option.none
  | _ => qB P o st fun av news => K ((st.new news).put o.dst av)

def guard2O {ρ : Type} (x : AV) (want : Bool) (A B C : Option ρ) : Option ρ := match x with
  | .c (.n (.v (.bool b))) => match want with
    | true => sel b A B
    | false => sel b B A
  | .tup _ => C
  | _ => Option.none
def guardO {ρ : Type} (st : St) (ops : Array Oper) (g : Option (Nat × Bool)) (K : Bool → St → Option ρ) : Option ρ :=
  match g with
  | Option.none => K true st
  | some (j, want) => match (ops[j]?).bind (·.dst) with
    | some t => guard2O (st.get t) want (K true (st.put (some t) (boolAV want))) (K false (st.put (some t) (boolAV !want))) (K false st)
    | Option.none => Option.none

def exL {ρ : Type} (P : Program) (G : Orc) (ops : Array Oper) : List Oper → St → (St → Option ρ) → Option ρ
  | [], st, K => K st
  | o :: rest, st, K => guardO st ops o.guard fun b st => match b with
    | true => stepO P G o st fun st' => exL P G ops rest st' K
    | false => exL P G ops rest (st.put o.dst skipAV) K

section
variable {P : Program} {G : Orc} {st : St} {a : Act} {w : World} {c : Cx} {ρ : Type} {r : ρ}
theorem RelV.unb {I : Nat → Prop} {β : List Value} {S : Nat → Nat → Prop} (hr : RelV st a w I β S) : RelV st.unb a w I β S :=
  ⟨by simpa [St.unb] using hr.sz, hr.bl, fun t v u hv hu => by
    simp only [St.unb, Sl.getElem?_map, Option.map_eq_some_iff] at hv
    obtain ⟨v', hv', rfl⟩ := hv
    exact (hr.slot t v' u hv' hu).unb, hr.ob, hr.sdis, hr.slt, hr.il⟩
theorem BorR_unb (J : Nat → Prop) : BorR st.unb a w J := fun t v u hv hu => by
  simp only [St.unb, Sl.getElem?_map, Option.map_eq_some_iff] at hv
  obtain ⟨v', hv', rfl⟩ := hv
  exact AB_unb _ _
theorem RelB.rel (h : RelB c st a w) : Rel c st.unb a w := by
  obtain ⟨I, β, S, hr, hc, -⟩ := h
  exact ⟨I, β, S, hr.unb, ⟨hc.own, hc.isub, hc.iinv, hc.frame, hc.keep, hc.defers⟩⟩
theorem RelB.drop (h : RelB c st a w) : Rel c st a w := by
  obtain ⟨I, β, S, hr, hc, -⟩ := h
  exact ⟨I, β, S, hr, hc⟩
theorem Rel.relB (h : Rel c st a w) : RelB c st.unb a w := by
  obtain ⟨I, β, S, hr, hc⟩ := h
  exact ⟨I, β, S, hr.unb, ⟨hc.own, hc.isub, hc.iinv, hc.frame, hc.keep, hc.defers⟩, BorR_unb _⟩

theorem stepO_sound (hG : G.ok P) (hrel : RelB c st a w) {o : Oper} {K : St → Option ρ} (h : stepO P G o st K = some r) {next : Act → World → Prop} {Q : Exit → Act → World → Prop}
    (hn : ∀ st' a' w', K st' = some r → RelB c st' a' w' → next a' w') : o.wp P a w next Q := by
  have hn' : ∀ st' a' w', K st'.unb = some r → Rel c st' a' w' → next a' w' := fun st' a' w' h1 h2 => hn _ _ _ h1 h2.relB
  unfold stepO at h
  split at h
  · rename_i t x y hop
    rw [St.cleanK_eq] at h
    refine vcOp_sound hrel.rel (K := fun st' => K st'.unb = some r) ?_ hn'
    unfold vcOp
    rw [hop]
    exact storeO_vc (by simpa only [St.cleanK_eq] using h)
  · rename_i t len parts hop
    rw [St.cleanK_eq] at h
    refine vcOp_sound hrel.rel (K := fun st' => K st'.unb = some r) ?_ hn'
    unfold vcOp
    rw [hop]
    exact buildOwnO_vc (by simpa only [St.cleanK_eq] using h)
  · rename_i args ts hop
    rw [St.cleanK_eq] at h
    refine vcOp_sound hrel.rel (K := fun st' => K st'.unb = some r) ?_ hn'
    unfold vcOp
    rw [hop]
    split at h
    · rename_i hs ht
      simp only [hs, ht]
      obtain ⟨h1, h⟩ := chk_dec h
      exact ⟨h1, appendO_vc (by simpa only [St.cleanK_eq] using h)⟩
    · cases h
  · rename_i f args ts hop
    split at h
    · rename_i g caps hf
      cases hk : decide (G.kd g < 2) with
      | true =>
        rw [hk] at h
        obtain ⟨I, β, S, hr, hc, hb⟩ := hrel
        refine (stepQ_sound hG hr (J := fun b => I b ∨ ∃ i, S i b) (fun _ h => h) ?_ hb h).wp ?_
        · refine hr.il.mono (fun _ h => .inl h) (fun _ _ => rfl) ?_
          rintro b (hb | ⟨i, hb⟩)
          · exact hr.ilt b hb
          · exact (hr.slt i b hb).2.1
        · rintro v w' ⟨av, news, hK, hq⟩
          exact hn _ _ _ hK (step_QPB hr hc hb hq o.dst)
      | false =>
        rw [hk] at h
        have h' : (st.cleanK fun st => match st.ev f with
          | .fn g caps => G.e ρ g st (args.toList.map st.ev ++ caps.map .c) o.dst fun st' => st'.cleanK K
          | _ => Option.none) = some r := h
        rw [St.cleanK_eq] at h'
        refine vcOp_sound hrel.rel (K := fun st' => K st'.unb = some r) ?_ hn'
        unfold vcOp
        rw [hop]
        simp only
        split at h'
        · rename_i g' caps' hf'
          rw [hf']
          simp only [St.cleanK_eq] at h'
          exact hG.e _ _ _ _ _ _ _ _ h'
        · cases h'
    · cases h
  · obtain ⟨I, β, S, hr, hc, hb⟩ := hrel
    obtain ⟨v, w', av, news, h1, h2, h3⟩ := qB_sound hr (J := fun b => I b ∨ ∃ i, S i b) (fun _ h => h) (by
      refine hr.il.mono (fun _ h => .inl h) (fun _ _ => rfl) ?_
      rintro b (hb | ⟨i, hb⟩)
      · exact hr.ilt b hb
      · exact (hr.slt i b hb).2.1) hb h
    unfold Oper.wp
    rw [h1]
    exact hn _ _ _ h2 (step_QPB hr hc hb h3 o.dst)

theorem guard_is {I : Nat → Prop} {β : List Value} {S : Nat → Nat → Prop} (hr : RelV st a w I β S) {ops : Array Oper} {o : Oper} {K : Bool → St → Option ρ} (h : guardO st ops o.guard K = some r) :
    ∃ b, Region.wanted o (yielded ops a.tmps) = b ∧ K b st = some r := by
  unfold guardO at h
  unfold Region.wanted
  split at h
  · rename_i hg
    exact ⟨true, by simp [hg], h⟩
  · rename_i j want hg
    simp only [hg]
    split at h
    · rename_i t ht
      have key : ∀ av, st.get t = av → av ≠ .dead → ∃ v, a.tmps[t]? = some v ∧ AVR w I β av v ∧ st.slots[t]? = some av := by
        intro av he hne
        rw [St.get_eq] at he
        cases hs : st.slots[t]? with
        | none => simp [hs] at he; exact absurd he.symm hne
        | some x =>
          simp [hs] at he
          subst he
          have hlt : t < a.tmps.size := by rw [hr.sz]; exact (Sl.some_iff.1 hs).1
          exact ⟨a.tmps[t], by simp [hlt], hr.slot t x _ hs (by simp [hlt]), rfl⟩
      unfold guard2O at h
      split at h
      · rename_i b hb
        obtain ⟨v, hv, hav, hst⟩ := key _ hb (by simp)
        obtain ⟨rfl, -⟩ := hav.val
        have hy : yielded ops a.tmps j = some b := by simp [yielded, ht, hv]
        have same : ∀ b', b = b' → st.put (some t) (boolAV b') = st := by
          rintro b' rfl
          obtain ⟨hlt, he⟩ := Sl.some_iff.1 hst
          show ({ st with slots := st.slots.set t (boolAV b) } : St) = st
          unfold boolAV
          rw [← he, Sl.set_self]
        by_cases hw : b = want
        · refine ⟨true, by simp [hy, hw], ?_⟩
          rw [← same want hw]
          subst hw
          cases b <;> exact h
        · have hw' : b = !want := by cases b <;> cases want <;> simp_all
          refine ⟨false, by simp [hy, hw], ?_⟩
          rw [← same (!want) hw']
          subst hw'
          cases want <;> exact h
      · rename_i vs hb
        obtain ⟨v, hv, hav, -⟩ := key _ hb (by simp)
        obtain ⟨arr, rfl, -⟩ := hav
        exact ⟨false, by simp [yielded, ht, hv], h⟩
      · cases h
    · cases h

theorem RelB.skip (hrel : RelB c st a w) (dst : Option Nat) : RelB c (st.put dst skipAV) (a.put dst undef) w := by
  obtain ⟨I, β, S, hr, hc, hb⟩ := hrel
  have h := step_QPB hr hc hb (av := skipAV) (v := undef) (news := []) (w' := w) (QPB.same hr ⟨#[], rfl, rfl, by simp⟩ trivial) dst
  have e : st.new [] = st := by simp [St.new]
  rwa [e] at h

/-- A region in the text's order. -/
theorem exL_sound (hG : G.ok P) {ops : Array Oper} {Q : Exit → Act → World → Prop} {K : St → Option ρ} (hK : ∀ st' a' w', K st' = some r → Rel c st' a' w' → Q .normal a' w') :
    ∀ (l : List Oper) (st : St) (a : Act) (w : World), RelB c st a w → exL P G ops l st K = some r → wpList P ops Q l a w
  | [], st, a, w, hrel, h => hK _ _ _ h hrel.drop
  | o :: rest, st, a, w, hrel, h => by
    obtain ⟨b, hb, h⟩ := guard_is hrel.choose_spec.choose_spec.choose_spec.1 h
    unfold wpList
    cases b with
    | true =>
      rw [if_pos hb]
      exact .inl (stepO_sound hG hrel h fun st2 a2 w2 h2 hr2 => exL_sound hG hK rest st2 a2 w2 hr2 h2)
    | false =>
      rw [if_neg (by simp [hb])]
      exact exL_sound hG hK rest _ _ _ (hrel.skip o.dst) h
end

end Go.Al
