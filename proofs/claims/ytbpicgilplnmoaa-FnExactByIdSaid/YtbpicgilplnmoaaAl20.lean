import Derived.Test.YtbpicgilplnmoaaAl19
set_option linter.unusedVariables false
set_option linter.unusedSimpArgs false
namespace Go.Al

/-! ### 23. Code -/
def AW (P : Program) (c : Code) (st : St) (Φ : Exit → St → Prop) : Prop :=
  ∀ (cx : Cx) (a : Act) (w : World), Rel cx st a w → c.wp P (fun e a' w' => ∃ st', Φ e st' ∧ Rel cx st' a' w') a w

def thenK (K : St → Prop) (Φ : Exit → St → Prop) : Exit → St → Prop
  | .normal, st => K st
  | e, st => Φ e st
def blockK (id : Nat) (Φ : Exit → St → Prop) : Exit → St → Prop
  | .exit i, st => if i = id then Φ .normal st else Φ (.exit i) st
  | e, st => Φ e st
def condK (st : St) (x : Operand) (K : Bool → St → Prop) : Prop :=
  match x with
  | .tmp t => pickK (st.get t) (K true (st.put (some t) (boolAV true))) (K false (st.put (some t) (boolAV false)))
  | .const (.bool b) => K b st
  | _ => False

def vcC (P : Program) : Code → St → (Exit → St → Prop) → Prop
  | .skip, st, Φ => Φ .normal st
  | .seq x y, st, Φ => vcC P x st (thenK (fun st' => vcC P y st' Φ) Φ)
  | .cond x t f, st, Φ => condK st x fun b st' => match b with
    | true => vcC P t st' Φ
    | false => vcC P f st' Φ
  | .block id c, st, Φ => vcC P c st (blockK id Φ)
  | .exit id, st, Φ => Φ (.exit id) st
  | .ret, st, Φ => Φ .ret st
  | .region _ ops false, st, Φ => vcL P ops ops.toList st (Φ .normal)
  | c, st, Φ => AW P c st Φ

theorem AW.mono {P : Program} {c : Code} {st : St} {Φ Ψ : Exit → St → Prop} (h : AW P c st Φ) (hk : ∀ e st', Φ e st' → Ψ e st') : AW P c st Ψ :=
  fun cx a w hr => wp_mono (h cx a w hr) fun e a' w' ⟨st', h1, h2⟩ => ⟨st', hk _ _ h1, h2⟩

theorem put_same {st : St} {t : Nat} {av : AV} (h : st.get t = av) (hne : av ≠ .dead) : st.put (some t) av = st := by
  rw [St.get_eq] at h
  cases hs : st.slots[t]? with
  | none => simp [hs] at h; exact absurd h.symm hne
  | some x =>
    simp [hs] at h
    subst h
    obtain ⟨hlt, he⟩ := Sl.some_iff.1 hs
    show ({ st with slots := st.slots.set t x } : St) = st
    rw [← he, Sl.set_self]

theorem vcC_sound {P : Program} : ∀ (c : Code) (st : St) (Φ : Exit → St → Prop), vcC P c st Φ → AW P c st Φ := by
  intro c
  induction c with
  | skip => exact fun st Φ h cx a w hr => wp_skip ⟨st, h, hr⟩
  | seq x y ihx ihy =>
    intro st Φ h cx a w hr
    refine wp_seq (wp_mono (ihx st _ h cx a w hr) ?_)
    rintro e a' w' ⟨st', h1, h2⟩
    cases e with
    | normal => exact ihy st' Φ h1 cx a' w' h2
    | _ => exact ⟨st', h1, h2⟩
  | cond x t f iht ihf =>
    intro st Φ h cx a w hr
    simp only [vcC, condK] at h
    split at h
    · rename_i t'
      unfold pickK at h
      split at h
      · rename_i b hb
        have hput : ∀ b', b = b' → st.put (some t') (boolAV b') = st := by
          rintro b' rfl
          exact put_same hb (by simp [boolAV])
        have hv : a.eval (.tmp t') = .bool b := by
          obtain ⟨I, β, S, hrv, -⟩ := hr
          have := ev_sound hrv (.tmp t')
          simp only [St.ev, hb] at this
          exact this.val.1
        cases b with
        | true =>
          have h1 : vcC P t (st.put (some t') (boolAV true)) Φ := h
          rw [hput true rfl] at h1
          exact wp_cond_true hv (iht st Φ h1 cx a w hr)
        | false =>
          have h1 : vcC P f (st.put (some t') (boolAV false)) Φ := h
          rw [hput false rfl] at h1
          exact wp_cond_false hv (ihf st Φ h1 cx a w hr)
      · exact h.elim
    · rename_i b
      cases b with
      | true => exact wp_cond_true rfl (iht st Φ h cx a w hr)
      | false => exact wp_cond_false rfl (ihf st Φ h cx a w hr)
    · exact h.elim
  | block id c ih =>
    intro st Φ h cx a w hr
    refine wp_block (wp_mono (ih st _ h cx a w hr) ?_)
    rintro e a' w' ⟨st', h1, h2⟩
    cases e with
    | exit i =>
      simp only [blockK] at h1
      simp only [Exit.inBlock]
      split at h1
      · rename_i he; rw [if_pos he]; exact ⟨st', h1, h2⟩
      · rename_i he; rw [if_neg he]; exact ⟨st', h1, h2⟩
    | _ => exact ⟨st', h1, h2⟩
  | exit id => exact fun st Φ h cx a w hr => wp_exit ⟨st, h, hr⟩
  | ret => exact fun st Φ h cx a w hr => wp_ret ⟨st, h, hr⟩
  | region id ops d =>
    intro st Φ h
    cases d with
    | false =>
      intro cx a w hr
      exact wp_region_list (vcL_sound (fun st' a' w' h1 h2 => ⟨st', h1, h2⟩) _ _ _ _ hr h)
    | true => exact h
  | _ => exact fun st Φ h => h

/-! ### 24. Weakening -/
def StLe (st st' : St) : Prop := ∀ (cx : Cx) (a : Act) (w : World), Rel cx st a w → Rel cx st' a w
theorem StLe.refl (st : St) : StLe st st := fun _ _ _ h => h
theorem StLe.of_eq {st st' : St} (h : st = st') : StLe st st' := h ▸ StLe.refl st
theorem StLe.trans {a b c : St} (h : StLe a b) (k : StLe b c) : StLe a c := fun cx x w hr => k cx x w (h cx x w hr)
theorem AW.le {P : Program} {c : Code} {st st' : St} {Φ : Exit → St → Prop} (h : StLe st st') (k : AW P c st' Φ) : AW P c st Φ := fun cx a w hr => k cx a w (h cx a w hr)

theorem least (p : Nat → Prop) (h : ∃ n, p n) : ∃ n, p n ∧ ∀ m, p m → n ≤ m := by
  obtain ⟨n, hn⟩ := h
  induction n using Nat.strongRecOn with
  | _ n ih =>
    by_cases h : ∃ m, m < n ∧ p m
    · obtain ⟨m, hm, hp⟩ := h
      exact ih m hm hp
    · exact ⟨n, hn, fun m hm => Nat.le_of_not_lt fun hlt => h ⟨m, hlt, hm⟩⟩

/-- A loop: a family of states, and a number that falls. -/
theorem AW_loop {P : Program} {c : Code} {st : St} {Φ : Exit → St → Prop} {ι : Type} (Inv : ι → St) (μ : ι → Nat) (i0 : ι) (h0 : StLe st (Inv i0))
    (hround : ∀ i, AW P c (Inv i) (thenK (fun st' => ∃ i', μ i' < μ i ∧ StLe st' (Inv i')) Φ)) : AW P (.loop c) st Φ := by
  intro cx a w hr
  classical
  let μ' : Act → World → Nat := fun a w => if h : ∃ n, ∃ i, μ i = n ∧ Rel cx (Inv i) a w then Classical.choose (least _ h) else 0
  have hμ : ∀ a w i, Rel cx (Inv i) a w → μ' a w ≤ μ i := by
    intro a w i hi
    have h : ∃ n, ∃ i, μ i = n ∧ Rel cx (Inv i) a w := ⟨_, i, rfl, hi⟩
    simp only [μ', dif_pos h]
    exact (Classical.choose_spec (least _ h)).2 _ ⟨i, rfl, hi⟩
  have hμ2 : ∀ a w, (∃ i, Rel cx (Inv i) a w) → ∃ i, μ i = μ' a w ∧ Rel cx (Inv i) a w := by
    rintro a w ⟨i, hi⟩
    have h : ∃ n, ∃ i, μ i = n ∧ Rel cx (Inv i) a w := ⟨_, i, rfl, hi⟩
    simp only [μ', dif_pos h]
    exact (Classical.choose_spec (least _ h)).1
  refine wp_loop (fun a w => ∃ i, Rel cx (Inv i) a w) μ' ⟨i0, h0 cx a w hr⟩ fun a w hI => ?_
  obtain ⟨i, hi, hrel⟩ := hμ2 a w hI
  refine wp_mono (hround i cx a w hrel) ?_
  rintro e a' w' ⟨st', h1, h2⟩
  cases e with
  | normal =>
    obtain ⟨i', hlt, hle⟩ := h1
    have hrel' := hle cx a' w' h2
    refine ⟨⟨i', hrel'⟩, ?_⟩
    have := hμ a' w' i' hrel'
    omega
  | _ => exact ⟨st', h1, h2⟩

/-- Slots forgotten. -/
def maskL : List AV → List AV → Prop
  | [], [] => True
  | x :: xs, y :: ys => (y = .dead ∨ x = y) ∧ maskL xs ys
  | _, _ => False
def maskO : List Ob → List Ob → Prop
  | [], [] => True
  | x :: xs, y :: ys => (y = .none ∨ x = y) ∧ maskO xs ys
  | _, _ => False

theorem maskL_get : ∀ {xs ys : List AV}, maskL xs ys → xs.length = ys.length ∧ ∀ (t : Nat) (y : AV), ys[t]? = some y → y = .dead ∨ xs[t]? = some y
  | [], [], _ => ⟨rfl, by simp⟩
  | x :: xs, y :: ys, h => by
    obtain ⟨h1, h2⟩ := h
    obtain ⟨e, ih⟩ := maskL_get h2
    refine ⟨by simp [e], fun t z hz => ?_⟩
    cases t with
    | zero =>
      simp at hz
      subst hz
      rcases h1 with h1 | h1
      · exact .inl h1
      · exact .inr (by simp [h1])
    | succ t => simpa using ih t z (by simpa using hz)
  | [], _ :: _, h => h.elim
  | _ :: _, [], h => h.elim
theorem maskO_get : ∀ {xs ys : List Ob}, maskO xs ys → xs.length = ys.length ∧ ∀ (t : Nat) (y : Ob), ys[t]? = some y → y = .none ∨ xs[t]? = some y
  | [], [], _ => ⟨rfl, by simp⟩
  | x :: xs, y :: ys, h => by
    obtain ⟨h1, h2⟩ := h
    obtain ⟨e, ih⟩ := maskO_get h2
    refine ⟨by simp [e], fun t z hz => ?_⟩
    cases t with
    | zero =>
      simp at hz
      subst hz
      rcases h1 with h1 | h1
      · exact .inl h1
      · exact .inr (by simp [h1])
    | succ t => simpa using ih t z (by simpa using hz)
  | [], _ :: _, h => h.elim
  | _ :: _, [], h => h.elim

theorem StLe.mask {st st' : St} (e1 : st.slots.length = st'.slots.length) (g1 : ∀ (t : Nat) (y : AV), st'.slots[t]? = some y → y = .dead ∨ st.slots[t]? = some y) (h2 : maskO st.obs st'.obs) (h3 : ∀ i, kb st'.ks i = true → kb st.ks i = true) : StLe st st' := by
  rintro cx a w ⟨I, β, S, hr, hc⟩
  obtain ⟨e2, g2⟩ := maskO_get h2
  refine ⟨I, β, S, ⟨by rw [← e1]; exact hr.sz, by rw [← e2]; exact hr.bl, fun t v u hv hu => ?_, fun i o b ho hb => ?_, hr.sdis, fun i b hb => by rw [← e2]; exact hr.slt i b hb, hr.il⟩,
    ⟨hc.own, hc.isub, hc.iinv, hc.frame, fun i hi hk => hc.keep i hi (h3 i hk), hc.defers⟩⟩
  · rcases g1 t v hv with rfl | h
    · trivial
    · exact hr.slot t v u h hu
  · rcases g2 i o ho with rfl | h
    · trivial
    · exact hr.ob i o b h hb

/-- The objects from number n on forgotten. -/
def St.trunc (st : St) (n : Nat) : St := { slots := st.slots.map (AV.kill fun i => decide (n ≤ i)), obs := (st.obs.take n).map (Ob.kill fun i => decide (n ≤ i)), ks := st.ks }
theorem StLe.trunc {st : St} {n : Nat} (hk : ∀ i, kb st.ks i = true → i < n) : StLe st (st.trunc n) := by
  rintro cx a w ⟨I, β, S, hr, hc⟩
  have hβ : ∀ (i : Nat) (b : Value), decide (n ≤ i) = false → β[i]? = some b → (β.take n)[i]? = some b := by
    intro i b hi hb
    have : i < n := by simpa using hi
    rw [List.getElem?_take_of_lt this]
    exact hb
  refine ⟨I, β.take n, fun i b => i < n ∧ S i b, ⟨by simpa [St.trunc] using hr.sz, by simp [St.trunc, hr.bl], fun t v u hv hu => ?_, fun i o b ho hb => ?_, fun i j b hi hj => hr.sdis i j b hi.2 hj.2, fun i b hb => ?_, hr.il⟩,
    ⟨fun i b hb => hc.own i b hb.2, hc.isub, hc.iinv, hc.frame, fun i hi hki => ?_, hc.defers⟩⟩
  · simp only [St.trunc, Sl.getElem?_map, Option.map_eq_some_iff] at hv
    obtain ⟨v', hv', rfl⟩ := hv
    exact (hr.slot t v' u hv' hu).kill hβ
  · simp only [St.trunc, List.getElem?_map, Option.map_eq_some_iff] at ho
    obtain ⟨o', ho', rfl⟩ := ho
    rw [List.getElem?_take] at ho' hb
    split at ho'
    · rename_i hlt
      rw [if_pos hlt] at hb
      exact ((hr.ob i o' b ho' hb).mono (β' := β) (S' := fun q => i < n ∧ S i q) (fun _ h => h) (fun _ _ => rfl) (fun _ _ h => h) (fun _ _ => rfl) (fun q hq => ⟨hlt, hq⟩)).kill hβ
    · cases ho'
  · obtain ⟨h1, h2, h3⟩ := hr.slt i b hb.2
    refine ⟨?_, h2, h3⟩
    simp only [St.trunc, List.length_map, List.length_take]
    omega
  · rw [List.getElem?_take_of_lt (hk i hki)]
    exact hc.keep i hi hki

/-- A row is made immutable. -/
def St.freeze (st : St) (i : Nat) : St := match st.obj i with
  | .row sz xs [] => { st with obs := st.obs.set i (.fro sz xs) }
  | _ => st
theorem StLe.freeze (st : St) (i : Nat) : StLe st (st.freeze i) := by
  unfold St.freeze
  split
  · rename_i sz xs hobj
    rintro cx a w ⟨I, β, S, hr, hc⟩
    have hio := obj_some hobj (by simp)
    have hi : i < st.obs.length := (List.getElem?_eq_some_iff.1 hio).1
    refine ⟨fun b => I b ∨ S i b, β, fun k b => k ≠ i ∧ S k b, ⟨hr.sz, by simpa using hr.bl, fun t v u hv hu => (hr.slot t v u hv hu).mono (fun _ h => .inl h) (fun _ _ => rfl) (fun _ _ h => h), fun k o b ho hb => ?_,
      fun k j b hk hj => hr.sdis k j b hk.2 hj.2, fun k b hb => ?_, hr.il.mono (fun _ h => .inl h) (fun _ _ => rfl) fun b hb => ?_⟩, ⟨fun k b hb => hc.own k b hb.2, fun b hb => .inl (hc.isub b hb), fun b hb => ?_, hc.frame, hc.keep, hc.defers⟩⟩
    · rw [List.getElem?_set] at ho
      split at ho
      · rename_i he
        subst he
        simp only [Option.some.injEq] at ho
        subst ho
        exact (RowR.own (hr.ob i _ b hio hb)).lend (fun _ h => .inl h) (fun _ h => .inr h)
      · rename_i hne
        exact (hr.ob k o b ho hb).mono (fun _ h => .inl h) (fun _ _ => rfl) (fun _ _ h => h) (fun _ _ => rfl) (fun q hq => ⟨fun h => hne h.symm, hq⟩)
    · obtain ⟨h1, h2, h3⟩ := hr.slt k b hb.2
      refine ⟨by simpa using h1, h2, ?_⟩
      rintro (h | h)
      · exact h3 h
      · exact hb.1 (hr.sdis k i b hb.2 h)
    · rcases hb with hb | hb
      · exact hr.ilt b hb
      · exact (hr.slt i b hb).2.1
    · rcases hb with hb | hb
      · exact hc.iinv b hb
      · exact .inr (hc.own i b hb)
  · exact StLe.refl st

end Go.Al
