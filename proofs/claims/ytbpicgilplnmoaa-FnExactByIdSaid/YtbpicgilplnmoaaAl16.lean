import Derived.Test.YtbpicgilplnmoaaAl15
set_option linter.unusedVariables false
set_option linter.unusedSimpArgs false
set_option linter.constructorNameAsVariable false
namespace Go.Al
section
variable {P : Program} {st : St} {a : Act} {w : World} {I : Nat → Prop} {β : List Value} {S : Nat → Nat → Prop} {c : Cx}

/-! ### 19. append, state to state -/
theorem roN_sound {x : N} {v : Value} (h : Im w I x v) (T : Nat → Prop) : Own w I (roN x) v T := by
  cases h with
  | v h => exact Own.v h
  | im h => exact Own.im h
  | sl A cap ad c hu hn hcap hA hc H => exact Own.im (Im.sl A cap ad c hu hn hcap hA hc H)

theorem at2_map {α β : Type} (f : α → β) (xs : Rw α) (i j : Nat) : at2 (xs.map f) i j = (at2 xs i j).map f := by
  unfold at2 Rw.map
  by_cases h : i < xs.n
  · simp [h]
  · simp [h]
theorem unif_map {α β : Type} {sz : Nat} (f : α → β) {xs : Rw α} (h : unif sz xs) : unif sz (xs.map f) := by
  intro i hi
  show ((xs.g i).map f).length = sz
  rw [List.length_map]
  exact h i hi

theorem Src.ro {sz : Nat} {ys : Rw N} {v : Value} (h : Im w I (.sl sz ys) v) : ∃ c, Src w I v sz (ys.map roN) c (fun _ _ _ => False) := by
  cases h with
  | sl A cap ad c hu hn hcap hA hc H =>
    refine ⟨c, unif_map _ hu, A, cap, rfl, fun hne => ?_, fun i j n hn => ?_, by simp⟩
    · obtain ⟨rfl, -⟩ := hA hne
      refine ⟨ad, rfl, fun i j n hn => ?_⟩
      rw [at2_map, Option.map_eq_some_iff] at hn
      obtain ⟨x, hx, rfl⟩ := hn
      exact hc i j x hx
    · rw [at2_map, Option.map_eq_some_iff] at hn
      obtain ⟨x, hx, rfl⟩ := hn
      exact roN_sound (H i j x hx) _

theorem Src.zero {sz : Nat} {ys : Rw N} (h0 : ys.n = 0) (A : Option Addr) : Src w I (.slice A 0 0) sz ys (fun _ _ => undef) (fun _ _ _ => False) :=
  ⟨unif_zero h0 _, A, 0, by rw [h0], ⟨fun h => absurd h0 h, ⟨fun i j n hn => (by rw [at2_zero h0] at hn; cases hn), fun _ _ _ _ _ h => h.elim⟩⟩⟩

theorem Src.own {sz : Nat} {ys : Rw N} {v : Value} {T : Nat → Prop} (h : RowR w I β v T sz ys []) : ∃ c F, Src w I v sz ys c F ∧ ∀ i j q, F i j q → T q := by
  rcases h with ⟨h0, A, rfl⟩ | ⟨g, cap, e, cur, fr, c, F, rfl, hu, hn, hcap, hm, hg, hb, hfr, hs, hc, H, -, hF, hD⟩
  · exact ⟨fun _ _ => undef, fun _ _ _ => False, Src.zero h0 A, by simp⟩
  · refine ⟨c, F, ⟨hu, _, cap, rfl, fun _ => ⟨_, rfl, fun i j n hn => ?_⟩, fun i j n hn => H i j n hn (by rintro ⟨k, hk⟩; cases hk), hD⟩, fun i j q hq => (hF i j q hq).1⟩
    rw [add0, cells_at hb]
    exact hc i j n hn

theorem src_sound (hr : RelV st a w I β S) {x : AV} {v : Value} (hv : AVR w I β x v) {p : Rw N × Option Nat} (h : srcOf st x = some p) {sz : Nat} (hz : match srcSz st x with | some z => z = sz | Option.none => True) :
    ∃ c F, Src w I v sz p.1 c F ∧ (∀ i j q, F i j q → ∃ k, p.2 = some k ∧ S k q) := by
  unfold srcOf at h
  split at h
  · simp only [Option.some.injEq] at h
    subst h
    simp only [srcSz] at hz
    subst hz
    obtain ⟨c, hc⟩ := Src.ro hv
    exact ⟨c, _, hc, by simp⟩
  · simp only [Option.some.injEq] at h
    subst h
    obtain ⟨A, rfl⟩ := hv
    exact ⟨fun _ _ => undef, fun _ _ _ => False, Src.zero rfl A, by simp⟩
  · rename_i j
    split at h
    · rename_i sz' ys hobj
      simp only [Option.some.injEq] at h
      subst h
      simp only [srcSz, hobj] at hz
      subst hz
      obtain ⟨c, F, hs, hF⟩ := Src.own (hr.hdr (i := j) hv hobj (by simp))
      exact ⟨c, F, hs, fun i j' q hq => ⟨j, rfl, hF i j' q hq⟩⟩
    · rename_i sz' ys hobj
      simp only [Option.some.injEq] at h
      subst h
      simp only [srcSz, hobj] at hz
      subst hz
      obtain ⟨c, hc⟩ := Src.ro (hr.hdr (i := j) hv hobj (by simp))
      exact ⟨c, _, hc, by simp⟩
    · cases h
  · cases h

/-- After an object's header has turned (and perhaps another one was used up). -/
theorem RelV.kill (hr : RelV st a w I β S) {bad : Nat → Bool} {β' : List Value} (hl : β'.length = β.length) (hβ : ∀ (i : Nat) (b : Value), bad i = false → β[i]? = some b → β'[i]? = some b)
    (hob : ∀ (i : Nat) (o : Ob) (b : Value), bad i = true → st.obs[i]? = some o → β'[i]? = some b → ObR w I β' b (S i) (o.kill bad)) : RelV (st.kill bad) a w I β' S := by
  refine ⟨by simpa [St.kill] using hr.sz, by simpa [St.kill, hl] using hr.bl, fun t v u hv hu => ?_, fun i o b ho hb => ?_, hr.sdis, fun i q hq => by simpa [St.kill] using hr.slt i q hq, hr.il⟩
  · simp only [St.kill, Sl.getElem?_map, Option.map_eq_some_iff] at hv
    obtain ⟨v', hv', rfl⟩ := hv
    exact (hr.slot t v' u hv' hu).kill hβ
  · simp only [St.kill, List.getElem?_map, Option.map_eq_some_iff] at ho
    obtain ⟨o', ho', rfl⟩ := ho
    cases hbd : bad i with
    | true => exact hob i o' b hbd ho' hb
    | false =>
      have hlt : i < β.length := by rw [hr.bl]; exact (List.getElem?_eq_some_iff.1 ho').1
      have h1 := List.getElem?_eq_getElem hlt
      have h2 := hβ i _ hbd h1
      rw [hb] at h2
      obtain rfl := Option.some.inj h2
      exact (hr.ob i o' _ ho' h1).kill hβ

theorem append_sound (hr : RelV st a w I β S) (hc : RelC c st a w I β S) {t ty : TypeId} {s x : AV} {vs vx : Value} (hs : AVR w I β s vs) (hx : AVR w I β x vx) {dst : Option Nat} {K : St → Prop}
    (h : appendK P st t s x dst K) : ∃ v w' st', (Builtin.append_ #[t, t] ty #[vs, vx]).run P w = .ok v w' ∧ K st' ∧ Rel c st' (a.put dst v) w' := by
  obtain ⟨e, ht, hok, hs0, hh⟩ := is_iff h
  clear h
  obtain ⟨p, hp, h⟩ := is_iff hh
  clear hh
  have hz := h.1
  obtain ⟨cc, F, hsrc, hF⟩ := src_sound hr hx hp hz
  have hsz : ∀ (T : Nat → Prop), (∀ q, T q → q < w.heap.size) → (∀ q, T q → ¬ I q) → (∀ k q, p.2 = some k → S k q → ¬ T q) → ∀ {b : Value} {xs : Rw N}, RowR w I β b T (tyOf P e).size xs [] →
      (xs.n + p.1.n) * ((tyOf P e).bytes + 1) ≤ maxN → ∃ b' w', (Builtin.append_ #[t, t] ty #[b, vx]).run P w = .ok b' w' ∧ Fr T w w' ∧
        RowR w' I β b' (fun q => T q ∨ (∃ k, p.2 = some k ∧ S k q) ∨ (w.heap.size ≤ q ∧ q < w'.heap.size)) (tyOf P e).size (xs.app p.1) [] := by
    intro T hT hTI hTS b xs hd hlen
    exact append_run ht hok rfl hs0 hd hsrc hTI hT hr.ilt (U := fun q => ∃ k, p.2 = some k ∧ S k q) hF (fun q ⟨k, hk, hq⟩ => hTS k q hk hq) (fun q ⟨k, hk, hq⟩ => (hr.slt k q hq).2.1) hlen
  replace h := h.2
  split at h
  · rename_i i
    split at h
    · rename_i sz xs hobj
      obtain ⟨rfl, hks, hne, hlen, hK⟩ := h
      have hrow := hr.hdr (i := i) hs hobj (by simp)
      obtain ⟨b', w', hrun, hfr, hres⟩ := hsz (S i) (fun q hq => (hr.slt i q hq).2.1) (fun q hq => (hr.slt i q hq).2.2) (fun k q hk hq hq' => hne (by rw [hk, hr.sdis k i q hq hq'])) hrow hlen
      have hio := obj_some hobj (by simp)
      have hi : i < st.obs.length := (List.getElem?_eq_some_iff.1 hio).1
      have hib : i < β.length := by rw [hr.bl]; exact hi
      have hIw : ∀ q, I q → w'.heap[q]? = w.heap[q]? := fun q hq => hfr.block q (hr.ilt q hq) (fun h => (hr.slt i q h).2.2 hq)
      refine ⟨b', w', _, hrun, hK, ?_⟩
      let S' : Nat → Nat → Prop := fun k q => if k = i then S i q ∨ (∃ k, p.2 = some k ∧ S k q) ∨ (w.heap.size ≤ q ∧ q < w'.heap.size) else S k q ∧ p.2 ≠ some k
      let st1 : St := { st with obs := consume i p.2.toList (st.obs.set i .none) }
      -- all but object i
      have h1 : RelV st1 a w' I β S' := by
        refine ⟨hr.sz, by simpa [st1, consume_length] using hr.bl, fun t v u hv hu => (hr.slot t v u hv hu).mono (fun _ h => h) hIw (fun _ _ h => h), ?_, ?_, ?_, hr.il.mono (fun _ h => h) hIw (fun q hq => Nat.lt_of_lt_of_le (hr.ilt q hq) hfr.size)⟩
        · intro k o b ho hb
          simp only [st1, consume_get, List.length_set] at ho
          split at ho
          · simp only [Option.some.injEq] at ho
            subst ho
            trivial
          · rename_i hnk
            rw [List.getElem?_set] at ho
            by_cases hki : i = k
            · subst hki
              simp only [if_true, hi, Option.some.injEq] at ho
              subst ho
              trivial
            · rw [if_neg hki] at ho
              have hki' : ¬ k = i := fun h => hki h.symm
              have hlt : k < st.obs.length := (List.getElem?_eq_some_iff.1 ho).1
              refine (hr.ob k o b ho hb).mono (fun _ h => h) hIw (fun _ _ h => h) (fun q hq => hfr.block q (hr.slt k q hq).2.1 (fun h => hki' (hr.sdis k i q hq h))) (fun q hq => ?_)
              simp only [S', hki', if_false]
              exact ⟨hq, fun h => hnk ⟨by simp [h], hki', hlt⟩⟩
        · intro j k q hq hq'
          simp only [S'] at hq hq'
          split at hq <;> split at hq'
          · omega
          · rename_i h1 h2
            rcases hq with hq | ⟨m, hm, hq⟩ | ⟨hq, -⟩
            · exact absurd (hr.sdis i k q hq hq'.1).symm h2
            · have := hr.sdis m k q hq hq'.1
              subst this
              exact absurd hm hq'.2
            · have := (hr.slt k q hq'.1).2.1
              omega
          · rename_i h1 h2
            rcases hq' with hq' | ⟨m, hm, hq'⟩ | ⟨hq', -⟩
            · exact absurd (hr.sdis i j q hq' hq.1).symm h1
            · have := hr.sdis m j q hq' hq.1
              subst this
              exact absurd hm hq.2
            · have := (hr.slt j q hq.1).2.1
              omega
          · exact hr.sdis j k q hq.1 hq'.1
        · intro k q hq
          simp only [S'] at hq
          simp only [st1, consume_length, List.length_set]
          split at hq
          · rename_i h1
            subst h1
            rcases hq with hq | ⟨m, hm, hq⟩ | ⟨hq, hq2⟩
            · exact ⟨hi, Nat.lt_of_lt_of_le (hr.slt k q hq).2.1 hfr.size, (hr.slt k q hq).2.2⟩
            · exact ⟨hi, Nat.lt_of_lt_of_le (hr.slt m q hq).2.1 hfr.size, (hr.slt m q hq).2.2⟩
            · exact ⟨hi, hq2, fun h => by have := hr.ilt q h; omega⟩
          · exact ⟨(hr.slt k q hq.1).1, Nat.lt_of_lt_of_le (hr.slt k q hq.1).2.1 hfr.size, (hr.slt k q hq.1).2.2⟩
      have hb'1 : b'.oneCell' = true := by obtain ⟨A, cp, rfl, -⟩ := hres.slice; rfl
      have hβ : ∀ (k : Nat) (b : Value), (k == i) = false → β[k]? = some b → (β.set i b')[k]? = some b := by
        intro k b hk hb
        have hk' : i ≠ k := fun h => by subst h; simp at hk
        rw [List.getElem?_set_ne hk']
        exact hb
      have h2 : RelV ({ st with obs := consume i p.2.toList (st.obs.set i (.row (tyOf P e).size (xs.app p.1) [])) } : St) a w' I β S' → True := fun _ => trivial
      have h3 : RelV (({ st with obs := consume i p.2.toList (st.obs.set i (.row (tyOf P e).size (xs.app p.1) [])) } : St).kill (fun k => k == i)) a w' I (β.set i b') S' := by
        refine ⟨by simpa [St.kill] using hr.sz, by simpa [St.kill, consume_length] using hr.bl, ?_, ?_, h1.sdis, ?_, h1.il⟩
        · intro t v u hv hu
          simp only [St.kill, Sl.getElem?_map, Option.map_eq_some_iff] at hv
          obtain ⟨v', hv', rfl⟩ := hv
          exact (h1.slot t v' u hv' hu).kill hβ
        · intro k o b ho hb
          simp only [St.kill, List.getElem?_map, Option.map_eq_some_iff, consume_get, List.length_set] at ho
          obtain ⟨o', ho', rfl⟩ := ho
          by_cases hki : k = i
          · subst hki
            simp only [ne_eq, not_true_eq_false, false_and, and_false, if_false, List.getElem?_set, if_true, hi, Option.some.injEq] at ho'
            subst ho'
            rw [List.getElem?_set_self hib] at hb
            obtain rfl := Option.some.inj hb
            simp only [Ob.kill, S', if_true]
            have := ObR.mono (o := .row (tyOf P e).size (xs.app p.1) []) (I' := I) (β' := β.set k b') (S' := fun q => S k q ∨ (∃ k, p.2 = some k ∧ S k q) ∨ (w.heap.size ≤ q ∧ q < w'.heap.size)) (w' := w') (fun _ h => h) (fun _ _ => rfl) (β := []) (fun _ _ h => by simp at h) (b := b') (w := w') (I := I)
              (S := fun q => S k q ∨ (∃ k, p.2 = some k ∧ S k q) ∨ (w.heap.size ≤ q ∧ q < w'.heap.size)) (RowR.of_own hres.own) (fun _ _ => rfl) (fun _ h => h)
            exact this
          · have hki2 : (k == i) = false := by simpa using hki
            have hb2 : β[k]? = some b := by
              rw [List.getElem?_set_ne (fun h => hki h.symm)] at hb
              exact hb
            have ho2 : st1.obs[k]? = some o' := by
              simp only [st1, consume_get, List.length_set]
              rw [List.getElem?_set_ne (fun h => hki h.symm)] at ho' ⊢
              exact ho'
            exact (h1.ob k o' b ho2 hb2).kill hβ
        · intro k q hq
          have := h1.slt k q hq
          simpa [St.kill, st1, consume_length] using this
      refine ⟨I, β.set i b', S', h3.put dst ⟨List.getElem?_set_self hib, hb'1⟩, RelC.put ?_ dst _ _⟩
      refine ⟨fun k q hq => ?_, hc.isub, hc.iinv, hc.frame.trans hfr (fun q hq => (hc.own i q hq).symm), fun k hk hkk => ?_, hc.defers⟩
      · simp only [S'] at hq
        split at hq
        · rcases hq with hq | ⟨m, hm, hq⟩ | ⟨hq, -⟩
          · exact hc.own i q hq
          · exact hc.own m q hq
          · exact .inl (Nat.le_trans hc.frame.size hq)
        · exact hc.own k q hq.1
      · have hki : i ≠ k := by
          rintro rfl
          simp only [St.kill] at hkk
          rw [hks] at hkk
          cases hkk
        rw [List.getElem?_set_ne hki]
        exact hc.keep k hk hkk
    · exact h.elim
  · obtain ⟨hlen, hK⟩ := h
    obtain ⟨A, rfl⟩ := hs
    obtain ⟨b', w', hrun, hfr, hres⟩ := hsz (fun _ => False) (fun _ h => h.elim) (fun _ h => h.elim) (fun _ _ _ _ h => h) (b := .slice A 0 0) (xs := Rw.nil) (.inl ⟨rfl, A, rfl⟩) (by simpa [Rw.nil] using hlen)
    have hIw : ∀ q, I q → w'.heap[q]? = w.heap[q]? := fun q hq => hfr.block q (hr.ilt q hq) (fun h => h)
    have happ : Rw.nil.app p.1 = p.1 := by simp [Rw.app_eq, Rw.nil]
    have hres' := hres
    rw [happ] at hres'
    have hb'1 : b'.oneCell' = true := by obtain ⟨A, cp, rfl, -⟩ := hres.slice; rfl
    have hβ : ∀ (i : Nat) (b : Value), β[i]? = some b → (β ++ [b'])[i]? = some b := fun i b hb => by rw [List.getElem?_append_left (List.getElem?_eq_some_iff.1 hb).1]; exact hb
    refine ⟨b', w', _, hrun, hK, ?_⟩
    let S' : Nat → Nat → Prop := fun k q => if k = st.obs.length then (∃ k, p.2 = some k ∧ S k q) ∨ (w.heap.size ≤ q ∧ q < w'.heap.size) else S k q ∧ p.2 ≠ some k
    refine ⟨I, β ++ [b'], S', RelV.put ?_ dst ⟨by rw [← hr.bl]; simp, hb'1⟩, RelC.put ?_ dst _ _⟩
    · refine ⟨hr.sz, by simp [St.new, consume_length, hr.bl], fun t v u hv hu => (hr.slot t v u hv hu).mono (fun _ h => h) hIw hβ, ?_, ?_, ?_, hr.il.mono (fun _ h => h) hIw (fun q hq => Nat.lt_of_lt_of_le (hr.ilt q hq) hfr.size)⟩
      · intro k o b ho hb
        simp only [St.new] at ho
        rcases Nat.lt_or_ge k st.obs.length with hlt | hge
        · rw [List.getElem?_append_left (by rw [consume_length]; exact hlt), consume_get] at ho
          rw [List.getElem?_append_left (by rw [hr.bl]; exact hlt)] at hb
          have hkn : k ≠ st.obs.length := by omega
          simp only [S', hkn, if_false]
          split at ho
          · simp only [Option.some.injEq] at ho
            subst ho
            trivial
          · rename_i hnk
            exact (hr.ob k o b ho hb).mono (fun _ h => h) hIw hβ (fun q hq => hfr.block q (hr.slt k q hq).2.1 (fun h => h)) (fun q hq => ⟨hq, fun h => hnk ⟨by simp [h], hkn, hlt⟩⟩)
        · rw [List.getElem?_append_right (by rw [consume_length]; exact hge), consume_length] at ho
          rw [List.getElem?_append_right (by rw [hr.bl]; exact hge), hr.bl] at hb
          have hk0 : k - st.obs.length = 0 := by
            by_cases h : k - st.obs.length = 0
            · exact h
            · rw [show k - st.obs.length = (k - st.obs.length - 1) + 1 by omega] at ho
              simp at ho
          have hk : k = st.obs.length := by omega
          rw [hk0] at ho hb
          simp at ho hb
          subst ho; subst hb; subst hk
          simp only [S', if_true]
          have := ObR.mono (o := .row (tyOf P e).size p.1 []) (I' := I) (β' := β ++ [b']) (S' := fun q => (∃ k, p.2 = some k ∧ S k q) ∨ (w.heap.size ≤ q ∧ q < w'.heap.size)) (w' := w') (fun _ h => h) (fun _ _ => rfl) (β := []) (fun _ _ h => by simp at h) (b := b') (w := w') (I := I)
            (RowR.of_own hres'.own) (fun _ _ => rfl) (fun q h => h.elim (fun h => h.elim) id)
          simpa using this
      · intro j k q hq hq'
        simp only [S'] at hq hq'
        split at hq <;> split at hq'
        · omega
        · rcases hq with ⟨m, hm, hq⟩ | ⟨hq, -⟩
          · have := hr.sdis m k q hq hq'.1
            subst this
            exact absurd hm hq'.2
          · have := (hr.slt k q hq'.1).2.1
            omega
        · rcases hq' with ⟨m, hm, hq'⟩ | ⟨hq', -⟩
          · have := hr.sdis m j q hq' hq.1
            subst this
            exact absurd hm hq.2
          · have := (hr.slt j q hq.1).2.1
            omega
        · exact hr.sdis j k q hq.1 hq'.1
      · intro k q hq
        simp only [S'] at hq
        simp only [St.new, List.length_append, consume_length, List.length_singleton]
        split at hq
        · rename_i h1
          rcases hq with ⟨m, hm, hq⟩ | ⟨hq, hq2⟩
          · exact ⟨by omega, Nat.lt_of_lt_of_le (hr.slt m q hq).2.1 hfr.size, (hr.slt m q hq).2.2⟩
          · exact ⟨by omega, hq2, fun h => by have := hr.ilt q h; omega⟩
        · exact ⟨by have := (hr.slt k q hq.1).1; omega, Nat.lt_of_lt_of_le (hr.slt k q hq.1).2.1 hfr.size, (hr.slt k q hq.1).2.2⟩
    · refine ⟨fun k q hq => ?_, hc.isub, hc.iinv, hc.frame.trans hfr (fun q hq => hq.elim), fun k hk hkk => ?_, hc.defers⟩
      · simp only [S'] at hq
        split at hq
        · rcases hq with ⟨m, hm, hq⟩ | ⟨hq, -⟩
          · exact hc.own m q hq
          · exact .inl (Nat.le_trans hc.frame.size hq)
        · exact hc.own k q hq.1
      · rw [List.getElem?_append_left (hc.klt hk hkk)]
        exact hc.keep k hk hkk
  · exact h.elim

end
end Go.Al
