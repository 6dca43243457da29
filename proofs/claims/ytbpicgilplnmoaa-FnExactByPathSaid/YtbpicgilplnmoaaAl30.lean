import Derived.Test.YtbpicgilplnmoaaAl29
set_option linter.unusedVariables false
set_option linter.unusedSimpArgs false
set_option linter.unusedSectionVars false
namespace Go.Al

/-! ### 38. Drawn regions are sound -/
/-- What is known of operation i of a drawn region. -/
def Fact (P : Program) (G : Orc) (ops : Array Oper) (A : List (List Nat)) (st0 : St) (D : Sl) (res : List Res) (i : Nat) : Prop :=
  ∃ o b, ops[i]? = some o ∧
    (∀ (a : Act) (w : World) (I : Nat → Prop) (β : List Value) (S : Nat → Nat → Prop), RelV (drawV st0 D ops res (ancOf A i)) a w I β S → Region.wanted o (yielded ops a.tmps) = b) ∧
    (b = true → ∃ p : AV × List Ob, accOf res i = some p ∧ stepQ P G o (drawV st0 D ops res (ancOf A i)) (fun a n => some (a, n)) = some p ∧ (p.2 = [] ∨ ∀ k, k < i → k ∈ ancOf A i ∨ resN (accOf res k) = [])) ∧
    (b = false → accOf res i = Option.none)

section
variable {P : Program} {G : Orc} {ops : Array Oper} {A : List (List Nat)} {st0 : St} {D : Sl} {ρ : Type} {r : ρ}

theorem Fact.congr {acc res : List Res} {i : Nat} (hA : ∀ k ∈ ancOf A i, k < i) (h : ∀ k, k ≤ i → accOf acc k = accOf res k) (hf : Fact P G ops A st0 D acc i) : Fact P G ops A st0 D res i := by
  obtain ⟨o, b, h1, h2, h3, h4⟩ := hf
  have e : drawV st0 D ops acc (ancOf A i) = drawV st0 D ops res (ancOf A i) := drawV_congr fun k hk => h k (Nat.le_of_lt (hA k hk))
  rw [e] at h2 h3
  refine ⟨o, b, h1, h2, fun hb => ?_, fun hb => by rw [← h i (Nat.le_refl _)]; exact h4 hb⟩
  obtain ⟨p, h5, h6, h7⟩ := h3 hb
  exact ⟨p, by rw [← h i (Nat.le_refl _)]; exact h5, h6, h7.imp_right fun h8 k hk => by rw [← h k (Nat.le_of_lt hk)]; exact h8 k hk⟩

theorem accOf_old {acc : List Res} {x : List Res} {k : Nat} (h : k < acc.length) : accOf (acc ++ x) k = accOf acc k := by
  unfold accOf
  rw [List.getElem?_append_left h]
theorem accOf_new {acc : List Res} {x : Res} : accOf (acc ++ [x]) acc.length = x := by
  unfold accOf
  rw [List.getElem?_append_right (Nat.le_refl _)]
  simp

theorem guardD_is {acc : List Res} {n : Nat} (hn : acc.length = n) (hA : ∀ k ∈ ancOf A n, k < n) (hinj : ∀ i j t, i < n → j < n → dstOf ops i = some t → dstOf ops j = some t → i = j)
    {o : Oper} {K : Bool → List Res → Option ρ} (h : guardD (drawV st0 D ops acc (ancOf A n)) ops (ancOf A n) acc o.guard K = some r) :
    ∃ b, (∀ (a : Act) (w : World) (I : Nat → Prop) (β : List Value) (S : Nat → Nat → Prop), RelV (drawV st0 D ops acc (ancOf A n)) a w I β S → Region.wanted o (yielded ops a.tmps) = b) ∧ K b acc = some r := by
  unfold guardD at h
  split at h
  · rename_i hg
    exact ⟨true, fun a w I β S _ => by simp [Region.wanted, hg], h⟩
  · rename_i j want hg
    obtain ⟨hj, h⟩ := chk_some h
    have hj' : j ∈ ancOf A n := by rwa [List.contains_iff_mem] at hj
    split at h
    · rename_i t ht
      have ht' : (ops[j]?).bind (·.dst) = some t := ht
      have key : ∀ av, (drawV st0 D ops acc (ancOf A n)).get t = av → av ≠ .dead → ∀ (a : Act) (w : World) (I : Nat → Prop) (β : List Value) (S : Nat → Nat → Prop), RelV (drawV st0 D ops acc (ancOf A n)) a w I β S → ∃ v, a.tmps[t]? = some v ∧ AVR w I β av v := by
        intro av he hne a w I β S hr
        rw [St.get_eq] at he
        cases hs : (drawV st0 D ops acc (ancOf A n)).slots[t]? with
        | none => simp [hs] at he; exact absurd he.symm hne
        | some x =>
          simp [hs] at he
          subst he
          have hlt : t < a.tmps.size := by rw [hr.sz]; exact (Sl.some_iff.1 hs).1
          exact ⟨a.tmps[t], by simp [hlt], hr.slot t x _ hs (by simp [hlt])⟩
      unfold guard2O at h
      split at h
      · rename_i b hb
        have hw : ∀ (a : Act) (w : World) (I : Nat → Prop) (β : List Value) (S : Nat → Nat → Prop), RelV (drawV st0 D ops acc (ancOf A n)) a w I β S → Region.wanted o (yielded ops a.tmps) = (b == want) := by
          intro a w I β S hr
          obtain ⟨v, hv, hav⟩ := key _ hb (by simp) a w I β S hr
          obtain ⟨rfl, -⟩ := hav.val
          unfold Region.wanted
          simp only [hg]
          have hy : yielded ops a.tmps j = some b := by simp [yielded, ht', hv]
          rw [hy]
          cases b <;> cases want <;> rfl
        have same : ∀ b', b = b' → acc.set j (fixRes b' (accOf acc j)) = acc := by
          rintro b' rfl
          have hjl : j < acc.length := by rw [hn]; exact hA j hj'
          have hf : fixRes b (accOf acc j) = accOf acc j := by
            unfold fixRes
            split
            · rename_i b1 he
              have h1 := setK_get (acc := acc) ht (ancOf A n) D (fun k hk hd => hinj k j t (hA k hk) (hA j hj') hd ht) hj'
              have hbf : (drawV st0 D ops acc (ancOf A n)).slots.f t = .c (.n (.v (.bool b))) := by
                unfold St.get at hb
                cases hc : Nat.blt t (drawV st0 D ops acc (ancOf A n)).slots.length with
                | true => rw [hc] at hb; exact hb
                | false => rw [hc] at hb; cases hb
              simp only [drawV, Sl.map, h1, he, resV] at hbf
              have hb := hbf
              simp only [AV.kill, C.kill, AV.c.injEq, C.n.injEq, N.v.injEq, Value.bool.injEq] at hb
              subst hb
              rw [he]
              rfl
            · rfl
          rw [hf]
          unfold accOf
          rw [List.getElem?_eq_getElem hjl]
          simp
        refine ⟨b == want, hw, ?_⟩
        cases want with
        | true =>
          cases b with
          | true => rw [← same true rfl]; exact h
          | false => rw [← same false rfl]; exact h
        | false =>
          cases b with
          | true => rw [← same true rfl]; exact h
          | false => rw [← same false rfl]; exact h
      · rename_i vs hb
        refine ⟨false, fun a w I β S hr => ?_, h⟩
        obtain ⟨v, hv, hav⟩ := key _ hb (by simp) a w I β S hr
        obtain ⟨arr, rfl, -⟩ := hav
        unfold Region.wanted
        simp [hg, yielded, ht', hv]
      · cases h
    · cases h

theorem exD_facts (hG : G.ok P) (hA : ∀ i, ∀ k ∈ ancOf A i, k < i) {p : Nat} (hinj : ∀ i j t, i < p → j < p → dstOf ops i = some t → dstOf ops j = some t → i = j) :
    ∀ (rest : List Oper) (acc : List Res) (K : List Res → Option ρ), acc.length + rest.length = p → (∀ j o, rest[j]? = some o → ops[acc.length + j]? = some o) → exD P G ops A st0 D rest acc K = some r →
    ∃ res, res.length = p ∧ (∀ k, k < acc.length → accOf res k = accOf acc k) ∧ K res = some r ∧ ∀ k, acc.length ≤ k → k < p → Fact P G ops A st0 D res k
  | [], acc, K, hl, _, h => ⟨acc, by simpa using hl, fun _ _ => rfl, h, fun k h1 h2 => by simp at hl; omega⟩
  | o :: rest, acc, K, hl, ho, h => by
    simp only [List.length_cons] at hl
    obtain ⟨b, hw, h⟩ := guardD_is rfl (hA _) (fun i j t hi hj => hinj i j t (by omega) (by omega)) h
    have ho0 : ops[acc.length]? = some o := ho 0 o rfl
    have next : ∀ (x : Res) (hx : exD P G ops A st0 D rest (acc ++ [x]) K = some r) (hf : Fact P G ops A st0 D (acc ++ [x]) acc.length),
        ∃ res, res.length = p ∧ (∀ k, k < acc.length → accOf res k = accOf acc k) ∧ K res = some r ∧ ∀ k, acc.length ≤ k → k < p → Fact P G ops A st0 D res k := by
      intro x hx hf
      obtain ⟨res, h1, h2, h3, h4⟩ := exD_facts hG hA hinj rest (acc ++ [x]) K (by simp; omega) (fun j o hj => by
        simp only [List.length_append, List.length_singleton]
        rw [show acc.length + 1 + j = acc.length + (j + 1) by omega]
        exact ho (j + 1) o (by simpa using hj)) hx
      refine ⟨res, h1, fun k hk => by rw [h2 k (by simp; omega), accOf_old hk], h3, fun k hk hkp => ?_⟩
      by_cases hk0 : k = acc.length
      · subst hk0
        exact hf.congr (hA _) fun k hk => (h2 k (by simp; omega)).symm
      · exact h4 k (by simp; omega) hkp
    have hV : ∀ x : Res, drawV st0 D ops (acc ++ [x]) (ancOf A acc.length) = drawV st0 D ops acc (ancOf A acc.length) := fun x => drawV_congr fun k hk => accOf_old (hA _ k hk)
    cases b with
    | false =>
      refine next Option.none h ⟨o, false, ho0, ?_, (fun hb => Bool.noConfusion hb), fun _ => accOf_new⟩
      rw [hV]
      exact hw
    | true =>
      obtain ⟨q, hq, h⟩ := stepQ_det hG h
      obtain ⟨hc, h⟩ := chk_some h
      refine next (some (q.1, q.2)) h ⟨o, true, ho0, ?_, fun _ => ⟨q, accOf_new, ?_, ?_⟩, fun hb => by cases hb⟩
      · rw [hV]; exact hw
      · rw [hV]; exact hq
      · unfold newOk at hc
        simp only [Bool.or_eq_true, noNew_iff, List.all_eq_true, List.mem_range, List.contains_iff_mem] at hc
        refine hc.imp_right fun h k hk => ?_
        rw [accOf_old hk]
        exact h k hk

theorem AB.kill {w : World} {J : Nat → Prop} {bad : Nat → Bool} {x : AV} {v : Value} (h : AB w J x v) : AB w J (x.kill bad) v := by
  have hC : ∀ {x : C} {v : Value}, CB w J x v → CB w J (x.kill bad) v := by
    intro x v h
    cases x <;> first | exact h | (simp only [C.kill]; split <;> trivial)
  have hCs : ∀ {cs : List C} {arr : Array Value}, CsB w J cs arr → CsB w J (cs.map (C.kill bad)) arr := fun h j x v hx hv => by
    simp only [List.getElem?_map, Option.map_eq_some_iff] at hx
    obtain ⟨y, hy, rfl⟩ := hx
    exact hC (h j y v hy hv)
  cases x with
  | c x => exact hC h
  | a cs => exact fun arr e => hCs (h arr e)
  | fn f cs => exact fun arr e => hCs (h arr e)
  | ea i sz idx f => simp only [AV.kill]; split <;> trivial
  | _ => exact h

/-- The state of a drawn region of which the operations of L are done. -/
structure DInv (st0 : St) (ops : Array Oper) (res : List Res) (p : Nat) (L : Nat → Bool) (st : St) : Prop where
  len : st.slots.length = st0.slots.length
  done : ∀ k, k < p → L k = true → ∀ t, dstOf ops k = some t → st.slots.f t = resV (accOf res k)
  old : ∀ t, (∀ k, k < p → L k = true → dstOf ops k ≠ some t) → st.slots.f t = st0.slots.f t
  obs : st.obs = st0.obs ++ newsK res ((List.range p).filter L)
  ks : st.ks = st0.ks

section
variable {c : Cx} {p : Nat} {res : List Res}
variable (hd : ∀ i o, ops.toList[i]? = some o → ∀ j ∈ dirs o, j < i) (hp : p ≤ ops.size)
    (hinj : ∀ i j t, i < p → j < p → dstOf ops i = some t → dstOf ops j = some t → i = j)
    (hF : ∀ k, k < p → Fact P G ops (ancs ops.toList) st0 (deadD ((ops.toList.take p).map (·.dst)) st0.slots) res k)
include hd hp hinj hF

theorem draw_new {k' k : Nat} (hk' : k' < p) (hkk : k < k') (h1 : resN (accOf res k') ≠ []) (h2 : resN (accOf res k) ≠ []) : k ∈ ancOf (ancs ops.toList) k' := by
  obtain ⟨o', b', ho', hw', ht', hff'⟩ := hF k' hk'
  have hb' : b' = true := by
    cases b' with
    | true => rfl
    | false => rw [hff' rfl] at h1; exact absurd rfl h1
  obtain ⟨q, hq, -, hcr⟩ := ht' hb'
  rw [hq] at h1
  rcases hcr with h | h
  · exact absurd h h1
  · exact (h k hkk).resolve_right h2

/-- What is known when operation i runs, holds then. -/
theorem draw_known {L : Nat → Bool} {st : St} {a : Act} {w : World} {I : Nat → Prop} {β : List Value} {S : Nat → Nat → Prop} (hI : DInv st0 ops res p L st) (hr : RelV st a w I β S) {i : Nat} (hip : i < p) (hiL : L i = false)
    (hanc : ∀ k ∈ ancOf (ancs ops.toList) i, L k = true) (hcl : ∀ k, k < p → L k = true → ∀ j ∈ ancOf (ancs ops.toList) k, L j = true) :
    (∃ Z, st.obs = (st0.obs ++ newsK res (ancOf (ancs ops.toList) i)) ++ Z ∧ (resN (accOf res i) ≠ [] → Z = [])) ∧
    (let n := (st0.obs ++ newsK res (ancOf (ancs ops.toList) i)).length
     RelV (drawV st0 (deadD ((ops.toList.take p).map (·.dst)) st0.slots) ops res (ancOf (ancs ops.toList) i)) a w I (β.take n) (fun k b => k < n ∧ S k b)) ∧
    (∀ J, BorR st a w J → BorR (drawV st0 (deadD ((ops.toList.take p).map (·.dst)) st0.slots) ops res (ancOf (ancs ops.toList) i)) a w J) := by
  have hf := anc_filter (ops := ops.toList) (i := i) (p := p) (Nat.le_of_lt hip)
  have hsz : ops.toList.length = ops.size := rfl
  have hpre : ∃ Z, st.obs = (st0.obs ++ newsK res (ancOf (ancs ops.toList) i)) ++ Z ∧ (resN (accOf res i) ≠ [] → Z = []) := by
    rw [hI.obs, hf]
    by_cases hri : resN (accOf res i) = []
    · obtain ⟨Z, hZ⟩ := newsK_pre (res := res) (X := fun k => decide (k ∈ ancOf (ancs ops.toList) i)) (Y := L) p (fun k _ hk => hanc k (by simpa using hk)) (fun k k' hkk hk' hX hr' hr hY => by
        have hX' : k' ∈ ancOf (ancs ops.toList) i := by simpa using hX
        have := anc_trans hd i (by rw [hsz]; omega) k' hX' k (draw_new hd hp hinj hF hk' hkk hr' hr)
        simpa using this)
      exact ⟨Z, by rw [hZ, List.append_assoc], fun h => absurd hri h⟩
    · refine ⟨[], ?_, fun _ => rfl⟩
      rw [List.append_nil]
      congr 1
      refine newsK_eq p fun k hk hr => ?_
      have key : L k = true → k ∈ ancOf (ancs ops.toList) i := by
        intro hL
        rcases Nat.lt_trichotomy k i with h | h | h
        · exact draw_new hd hp hinj hF hip h hri hr
        · subst h; rw [hiL] at hL; cases hL
        · have := hcl k hk hL i (draw_new hd hp hinj hF hk h hr hri)
          rw [hiL] at this; cases this
      cases hL : L k with
      | true => simpa using key hL
      | false =>
        symm
        simp only [decide_eq_false_iff_not]
        intro h
        rw [hanc k h] at hL
        cases hL
  have hDl : (deadD ((ops.toList.take p).map (·.dst)) st0.slots).length = st0.slots.length := deadD_length _ _
  -- a slot of what is known
  have hslot : ∀ (t : Nat) (av : AV), (drawV st0 (deadD ((ops.toList.take p).map (·.dst)) st0.slots) ops res (ancOf (ancs ops.toList) i)).slots[t]? = some av →
      ∃ (bad : Nat → Bool) (x : AV), bad = (fun i' => decide ((st0.obs ++ newsK res (ancOf (ancs ops.toList) i)).length ≤ i')) ∧ av = x.kill bad ∧ (x = .dead ∨ st.slots[t]? = some x) := by
    intro t av hv
    obtain ⟨hlt0, hv⟩ := Sl.some_iff.1 hv
    have hlt : t < st.slots.length := by
      rw [hI.len]
      have h2 : t < ((setK ops res (ancOf (ancs ops.toList) i) (deadD ((ops.toList.take p).map (·.dst)) st0.slots)).map _).length := hlt0
      rw [Sl.length_map, setK_length, hDl] at h2
      exact h2
    have hv' : ((setK ops res (ancOf (ancs ops.toList) i) (deadD ((ops.toList.take p).map (·.dst)) st0.slots)).f t).kill (fun i' => decide ((st0.obs ++ newsK res (ancOf (ancs ops.toList) i)).length ≤ i')) = av := hv
    subst hv'
    refine ⟨_, _, rfl, rfl, ?_⟩
    by_cases h1 : ∃ k ∈ ancOf (ancs ops.toList) i, dstOf ops k = some t
    · obtain ⟨k, hk, hkt⟩ := h1
      have hki := anc_lt hk
      rw [setK_get hkt _ _ (fun k' hk' hd' => hinj k' k t (by have := anc_lt hk'; omega) (by omega) hd' hkt) hk]
      right
      rw [Sl.get_lt hlt, hI.done k (by omega) (hanc k hk) t hkt]
    · rw [setK_other _ _ (fun k hk hkt => h1 ⟨k, hk, hkt⟩)]
      by_cases h2 : some t ∈ (ops.toList.take p).map (·.dst)
      · exact .inl (deadD_dead _ _ (.inl h2))
      · rw [deadD_other _ _ h2]
        right
        rw [Sl.get_lt hlt, hI.old t fun k hk _ hkt => h2 ?_]
        refine List.mem_map.2 ?_
        unfold dstOf at hkt
        cases ho : ops[k]? with
        | none => rw [ho] at hkt; cases hkt
        | some o =>
          rw [ho] at hkt
          refine ⟨o, List.mem_of_getElem? (i := k) ?_, by simpa using hkt⟩
          rw [List.getElem?_take_of_lt hk, Array.getElem?_toList, ho]
  obtain ⟨Z, hZ, hZ0⟩ := hpre
  refine ⟨⟨Z, hZ, hZ0⟩, ?_, ?_⟩
  · intro n
    have hnl : n ≤ st.obs.length := by rw [hZ, List.length_append]; exact Nat.le_add_right _ _
    have hβ : ∀ (j : Nat) (b : Value), (fun i' => decide (n ≤ i')) j = false → β[j]? = some b → (β.take n)[j]? = some b := by
      intro j b hj hb
      have : j < n := by simpa using hj
      rw [List.getElem?_take_of_lt this]
      exact hb
    refine ⟨?_, ?_, fun t v u hv hu => ?_, fun j o b ho hb => ?_, fun j k b hj hk => hr.sdis j k b hj.2 hk.2, fun j b hb => ?_, hr.il⟩
    · rw [hr.sz, hI.len]; simp only [drawV, Sl.length_map, setK_length, hDl]
    · simp only [drawV, List.length_map, List.length_take, hr.bl]
      omega
    · obtain ⟨bad, x, rfl, rfl, hx⟩ := hslot t v hv
      rcases hx with rfl | hx
      · trivial
      · exact (hr.slot t x u hx hu).kill hβ
    · simp only [drawV, List.getElem?_map, Option.map_eq_some_iff] at ho
      obtain ⟨o', ho', rfl⟩ := ho
      have hj : j < n := (List.getElem?_eq_some_iff.1 ho').1
      rw [List.getElem?_take_of_lt hj] at hb
      have ho2 : st.obs[j]? = some o' := by rw [hZ, List.getElem?_append_left hj]; exact ho'
      exact ((hr.ob j o' b ho2 hb).mono (β' := β) (S' := fun q => j < n ∧ S j q) (fun _ h => h) (fun _ _ => rfl) (fun _ _ h => h) (fun _ _ => rfl) (fun q hq => ⟨hj, hq⟩)).kill hβ
    · obtain ⟨h1, h2, h3⟩ := hr.slt j b hb.2
      exact ⟨by simp only [drawV, List.length_map]; exact hb.1, h2, h3⟩
  · intro J hJ t v u hv hu
    obtain ⟨bad, x, -, rfl, hx⟩ := hslot t v hv
    rcases hx with rfl | hx
    · trivial
    · exact (hJ t x u hx hu).kill

/-- One operation of the first part. -/
theorem draw_step (hG : G.ok P) {L : Nat → Bool} {st : St} {a : Act} {w : World} (hI : DInv st0 ops res p L st) (hrel : RelB c st a w) {i : Nat} (hip : i < p) (hiL : L i = false)
    (hanc : ∀ k ∈ ancOf (ancs ops.toList) i, L k = true) (hcl : ∀ k, k < p → L k = true → ∀ j ∈ ancOf (ancs ops.toList) k, L j = true) {Q : Exit → Act → World → Prop} {next : Act → World → Prop}
    (hn : ∀ st' a' w', DInv st0 ops res p (fun k => L k || k == i) st' → RelB c st' a' w' → next a' w') : wpOp P ops Q i next a w := by
  obtain ⟨I, β, S, hr, hc, hb⟩ := hrel
  obtain ⟨⟨Z, hZ, hZ0⟩, hV, hbV⟩ := draw_known hd hp hinj hF hI hr hip hiL hanc hcl
  obtain ⟨o, b, ho, hw, ht, hff⟩ := hF i hip
  have hdst : dstOf ops i = o.dst := by simp [dstOf, ho]
  have hwb := hw _ _ _ _ _ hV
  -- the state behind it
  have hinv : ∀ (x : Res), accOf res i = x → DInv st0 ops res p (fun k => L k || k == i) ((st.new (resN x)).put o.dst (resV x)) := by
    intro x hx
    have hput : ((st.new (resN x)).put o.dst (resV x)).slots = setD st.slots o.dst (resV x) := by cases o.dst <;> rfl
    refine ⟨?_, fun k hk hL t hkt => ?_, fun t h => ?_, ?_, ?_⟩
    · rw [hput, setD_length]; exact hI.len
    · rw [hput, setD_f]
      by_cases hki : k = i
      · subst hki
        rw [hdst] at hkt
        rw [if_pos hkt, hx]
      · have hL' : L k = true := by simpa [hki] using hL
        rw [if_neg (fun hod => hki (hinj k i t hk hip hkt (by rw [hdst, hod])))]
        exact hI.done k hk hL' t hkt
    · rw [hput, setD_f]
      have h1 : o.dst ≠ some t := by rw [← hdst]; exact h i hip (by simp)
      rw [if_neg h1]
      exact hI.old t fun k hk hL => h k hk (by simp [hL])
    · rw [put_obs]
      simp only [St.new]
      rw [hI.obs]
      by_cases hri : resN (accOf res i) = []
      · rw [newsK_eq (X := fun k => L k || k == i) (Y := L) p fun k hk hr => by
          have : (k == i) = false := by
            simp only [beq_eq_false_iff_ne, ne_eq]
            rintro rfl
            exact hr hri
          simp [this], ← hx, hri, List.append_nil]
      · rw [newsK_ins p hip hiL fun k hik hk hL => Classical.byContradiction fun hrk => ?_, ← hx, List.append_assoc]
        have := hcl k hk hL i (draw_new hd hp hinj hF hk hik hrk hri)
        rw [hiL] at this
        cases this
    · rw [put_ks]; exact hI.ks
  unfold wpOp
  simp only [ho]
  cases b with
  | false =>
    rw [if_neg (by simp [hwb])]
    have h1 := hinv _ (hff rfl)
    have e : st.new [] = st := by simp [St.new]
    simp only [resN, resV, e] at h1
    exact hn _ _ _ h1 (RelB.skip ⟨I, β, S, hr, hc, hb⟩ o.dst)
  | true =>
    rw [if_pos hwb]
    obtain ⟨q, hq, hs, hcr⟩ := ht rfl
    refine .inl ((stepQ_sound hG hV (J := fun b => I b ∨ ∃ i, S i b) ?_ ?_ (hbV _ hb) hs).wp ?_)
    · rintro b (h | ⟨j, -, h⟩)
      · exact .inl h
      · exact .inr ⟨j, h⟩
    · refine hr.il.mono (fun _ h => .inl h) (fun _ _ => rfl) ?_
      rintro b (hb | ⟨i, hb⟩)
      · exact hr.ilt b hb
      · exact (hr.slt i b hb).2.1
    · rintro v w' ⟨av, news, hK, hqp⟩
      simp only [Option.some.injEq] at hK
      subst hK
      have h1 := hinv _ hq
      simp only [resN, resV] at h1
      refine hn _ _ _ h1 (step_QPB hr hc hb ?_ o.dst)
      obtain ⟨I', βn, Sn, hfr, hI1, hI2, hIl, hbn, hav, hob, hslt, hsd, hab⟩ := hqp
      by_cases hnews : news = []
      · subst hnews
        obtain rfl : βn = [] := by simpa using hbn
        refine ⟨I', [], Sn, hfr, hI1, hI2, hIl, rfl, hav.mono (fun _ h => h) (fun _ _ => rfl) (fun j b hb => ?_), by simp, hslt, hsd, hab⟩
        rw [List.append_nil] at hb ⊢
        rw [List.getElem?_take] at hb
        split at hb
        · exact hb
        · cases hb
      · have hZn : Z = [] := hZ0 (by rw [hq]; exact hnews)
        have e : β.take (st0.obs ++ newsK res (ancOf (ancs ops.toList) i)).length = β := by
          rw [List.take_of_length_le]
          rw [hr.bl, hZ, hZn, List.append_nil]
          exact Nat.le_refl _
        rw [e] at hav hob
        exact ⟨I', βn, Sn, hfr, hI1, hI2, hIl, hbn, hav, hob, hslt, hsd, hab⟩
end
end

end Go.Al
