import Derived.Test.YtbpicgilplnmoaaAl30
set_option linter.unusedVariables false
set_option linter.unusedSimpArgs false
set_option linter.unusedSectionVars false
namespace Go.Al

/-! ### 39. Drawn regions, in any order -/
theorem mem_ready {ops : Array Oper} {listed : Array Bool} {i : Nat} : i ∈ Region.ready .any ops listed ↔ i < ops.size ∧ listed.getD i true = false ∧ ∃ o, ops[i]? = some o ∧ ∀ j ∈ dirs o, listed.getD j false = true := by
  unfold Region.ready
  simp only [List.mem_filter, List.mem_range, Bool.and_eq_true, Bool.not_eq_true']
  constructor
  · rintro ⟨h1, h2, h3⟩
    refine ⟨h1, h2, ops[i], Array.getElem?_eq_getElem h1, fun j hj => ?_⟩
    rw [Array.getElem?_eq_getElem h1] at h3
    simp only [Option.map_some, Option.getD_some, Array.all_eq_true_iff_forall_mem, Bool.or_eq_true, Bool.not_eq_true'] at h3
    unfold dirs at hj
    simp only [List.mem_map, List.mem_filter, Array.mem_toList_iff] at hj
    obtain ⟨e, ⟨he, hb⟩, rfl⟩ := hj
    rcases h3 e he with h | h
    · rw [hb] at h; cases h
    · exact h
  · rintro ⟨h1, h2, o, ho, h3⟩
    refine ⟨h1, h2, ?_⟩
    rw [ho]
    simp only [Option.map_some, Option.getD_some, Array.all_eq_true_iff_forall_mem, Bool.or_eq_true, Bool.not_eq_true']
    intro e he
    by_cases hb : Region.binds .any e = true
    · exact .inr (h3 e.on (by
        unfold dirs
        simp only [List.mem_map, List.mem_filter, Array.mem_toList_iff]
        exact ⟨e, ⟨he, hb⟩, rfl⟩))
    · exact .inl (by simpa using hb)

theorem countP_one {X Y : Nat → Bool} {i : Nat} (h : ∀ k, k ≠ i → X k = Y k) (hX : X i = true) (hY : Y i = false) : ∀ n, i < n → (List.range n).countP X = (List.range n).countP Y + 1
  | 0, hn => by omega
  | n + 1, hn => by
    rw [List.range_succ, List.countP_append, List.countP_append]
    by_cases hin : i = n
    · subst hin
      have : (List.range i).countP X = (List.range i).countP Y := List.countP_congr fun k hk => by
        rw [h k (by have := List.mem_range.1 hk; omega)]
      rw [this]
      simp [hX, hY]
    · rw [countP_one h hX hY n (by omega)]
      have := h n (fun e => hin e.symm)
      simp [this]
      omega
theorem filter_full {X : Nat → Bool} {n : Nat} (h : ((List.range n).filter X).length = n) : ∀ k, k < n → X k = true := by
  intro k hk
  have h1 : (List.range n).filter X = List.range n := List.Sublist.eq_of_length List.filter_sublist (by rw [h, List.length_range])
  rw [List.filter_eq_self] at h1
  exact h1 k (List.mem_range.2 hk)
theorem prefN_le (A : List (List Nat)) : ∀ n, prefN A n ≤ n
  | 0 => Nat.le_refl _
  | n + 1 => by
    unfold prefN
    split
    · exact Nat.le_trans (prefN_le A n) (by omega)
    · exact Nat.le_refl _
theorem prefN_all (A : List (List Nat)) : ∀ n i, prefN A n ≤ i → i < n → (ancOf A i).length = i
  | 0, i, _, h => by omega
  | n + 1, i, h1, h2 => by
    unfold prefN at h1
    split at h1
    · rename_i he
      by_cases hin : i = n
      · subst hin; simpa using he
      · exact prefN_all A n i h1 (by omega)
    · omega

theorem RelB.drawn {c : Cx} {st : St} {a : Act} {w w' : World} (h : RelB c st a w) (hh : w'.heap = w.heap) (h1 : w'.os = w.os) (h2 : w'.tape = w.tape) (h3 : w'.output = w.output) : RelB c st a w' := by
  obtain ⟨I, β, S, hr, hc, hb⟩ := h
  have hw : ∀ b : Nat, w'.heap[b]? = w.heap[b]? := fun b => by rw [hh]
  refine ⟨I, β, S, ⟨hr.sz, hr.bl, fun t v u hv hu => (hr.slot t v u hv hu).mono (fun _ h => h) (fun b _ => hw b) (fun _ _ h => h), fun i o b ho hb => (hr.ob i o b ho hb).mono (fun _ h => h) (fun b _ => hw b) (fun _ _ h => h) (fun b _ => hw b) (fun _ h => h), hr.sdis,
    fun i b hb => by rw [hh]; exact hr.slt i b hb, hr.il.mono (fun _ h => h) (fun b _ => hw b) (fun b hb => by rw [hh]; exact hr.ilt b hb)⟩, ⟨hc.own, hc.isub, hc.iinv, ⟨h1.trans hc.frame.os, h2.trans hc.frame.tape, h3.trans hc.frame.output, by rw [hh]; exact hc.frame.size, fun b hb hX => by rw [hh]; exact hc.frame.block b hb hX⟩, hc.keep, hc.defers⟩,
    fun t v u hv hu => (hb t v u hv hu).mono (fun _ h => h) (fun b _ => hw b)⟩

section
variable {P : Program} {G : Orc} {ops : Array Oper} {st0 : St} {ρ : Type} {r : ρ} {c : Cx} {p : Nat} {res : List Res} {Q : Exit → Act → World → Prop} {K : St → Option ρ}
variable (hd : ∀ i o, ops.toList[i]? = some o → ∀ j ∈ dirs o, j < i) (hp : p ≤ ops.size)
    (hinj : ∀ i j t, i < p → j < p → dstOf ops i = some t → dstOf ops j = some t → i = j)
    (hF : ∀ k, k < p → Fact P G ops (ancs ops.toList) st0 (deadD ((ops.toList.take p).map (·.dst)) st0.slots) res k)
    (hfull : ∀ i, p ≤ i → i < ops.size → ∀ k, k < i → k ∈ ancOf (ancs ops.toList) i)
    (hG : G.ok P) (hK : ∀ st' a' w', K st' = some r → Rel c st' a' w' → Q .normal a' w')
include hd hp hinj hF hfull hG hK

omit hd hp hF hfull hG hK in
theorem all_done {L : Nat → Bool} {st : St} (hI : DInv st0 ops res p L st) (hall : ∀ k, k < p → L k = true) : st = ⟨setK ops res (List.range p) st0.slots, st0.obs ++ newsK res (List.range p), st0.ks⟩ := by
  have h1 : st.slots = setK ops res (List.range p) st0.slots := by
    have hf : st.slots.f = (setK ops res (List.range p) st0.slots).f := by
      funext t
      by_cases h : ∃ k, k < p ∧ dstOf ops k = some t
      · obtain ⟨k, hk, hkt⟩ := h
        rw [hI.done k hk (hall k hk) t hkt, setK_get hkt _ _ (fun k' hk' hd' => hinj k' k t (List.mem_range.1 hk') hk hd' hkt) (List.mem_range.2 hk)]
      · rw [hI.old t fun k hk _ hkt => h ⟨k, hk, hkt⟩, setK_other _ _ fun k hk hkt => h ⟨k, List.mem_range.1 hk, hkt⟩]
    have hl : st.slots.length = (setK ops res (List.range p) st0.slots).length := by rw [setK_length]; exact hI.len
    generalize setK ops res (List.range p) st0.slots = s1 at hf hl ⊢
    generalize st.slots = s2 at hf hl ⊢
    obtain ⟨n1, f1⟩ := s1
    obtain ⟨n2, f2⟩ := s2
    simp only at hf hl
    rw [hf, hl]
  have h2 : (List.range p).filter L = List.range p := List.filter_eq_self.2 fun k hk => hall k (List.mem_range.1 hk)
  have h3 := hI.obs
  rw [h2] at h3
  have h4 := hI.ks
  obtain ⟨s, o, k⟩ := st
  simp only at h1 h3 h4
  subst h1; subst h3; subst h4
  rfl

theorem phaseB : ∀ (l : List Oper) (i : Nat) (st : St) (a : Act) (w : World) (listed : Array Bool), ops.toList.drop i = l → listed.size = ops.size → (∀ k, k < ops.size → (listed.getD k false = true ↔ k < i)) → p ≤ i →
    RelB c st a w → exL P G ops l st K = some r → wpAny P .any ops Q l.length listed a w
  | [], i, st, a, w, listed, hl, hsz, hL, hpi, hrel, h => by
    refine ⟨?_, hK _ _ _ h hrel.drop⟩
    have hi : ops.size ≤ i := by
      have := congrArg List.length hl
      simp at this
      omega
    rw [List.eq_nil_iff_forall_not_mem]
    intro k hk
    obtain ⟨h1, h2, -⟩ := mem_ready.1 hk
    have := (hL k h1).2 (by omega)
    have e : listed.getD k true = listed.getD k false := by simp [Array.getD, hsz, h1]
    rw [e, this] at h2
    cases h2
  | o :: l, i, st, a, w, listed, hl, hsz, hL, hpi, hrel, h => by
    have hi : i < ops.size := by
      have := congrArg List.length hl
      simp at this
      omega
    have ho : ops[i]? = some o := by
      have := congrArg (·[0]?) hl
      simpa [List.getElem?_drop] using this
    have hoL : ops.toList[i]? = some o := by rw [Array.getElem?_toList]; exact ho
    have hgd : ∀ k, k < ops.size → listed.getD k true = listed.getD k false := fun k hk => by simp [Array.getD, hsz, hk]
    have hready : ∀ k, k ∈ Region.ready .any ops listed ↔ k = i := by
      intro k
      rw [mem_ready]
      constructor
      · rintro ⟨h1, h2, o', ho', h3⟩
        rw [hgd k h1] at h2
        have hki : ¬ k < i := fun hlt => by rw [(hL k h1).2 hlt] at h2; cases h2
        by_cases hlt : i < k
        · have hcl := anc_closed hd (L := fun j => listed.getD j false = true) (fun m om hom hm j hj => by
            have hms : m < ops.size := by have := (List.getElem?_eq_some_iff.1 hom).1; simpa using this
            have := (hL m hms).1 hm
            have hjm := hd m om hom j hj
            exact (hL j (by omega)).2 (by omega)) k o' (by rw [Array.getElem?_toList]; exact ho') h3 i (hfull k (by omega) h1 i hlt)
          have := (hL i hi).1 hcl
          omega
        · omega
      · rintro rfl
        refine ⟨hi, ?_, o, ho, fun j hj => ?_⟩
        · rw [hgd k hi]
          cases hb : listed.getD k false with
          | false => rfl
          | true => have := (hL k hi).1 hb; omega
        · have := hd k o hoL j hj
          exact (hL j (by omega)).2 this
    have hdrop : ops.toList.drop (i + 1) = l := by
      have := congrArg (List.drop 1) hl
      simpa [List.drop_drop, Nat.add_comm] using this
    have hL' : ∀ k, k < ops.size → ((listed.setIfInBounds i true).getD k false = true ↔ k < i + 1) := by
      intro k hk
      by_cases hki : k = i
      · subst hki
        simp [Array.getD, hsz, hi]
      · have : (listed.setIfInBounds i true).getD k false = listed.getD k false := by
          simp only [Array.getD, Array.size_setIfInBounds, hsz, hk, dite_true]
          rw [Array.getInternal_eq_getElem, Array.getInternal_eq_getElem, Array.getElem_setIfInBounds_ne _ (fun e => hki e.symm)]
        rw [this, hL k hk]
        omega
    have next : ∀ (st' : St) (a' : Act) (w' : World), RelB c st' a' w' → exL P G ops l st' K = some r → wpAny P .any ops Q l.length (listed.setIfInBounds i true) a' w' :=
      fun st' a' w' h1 h2 => phaseB l (i + 1) st' a' w' _ hdrop (by simpa using hsz) hL' (by omega) h1 h2
    refine ⟨fun he => ?_, fun k hk => ?_⟩
    · have := (hready i).2 rfl
      rw [he] at this
      simp at this
    · rw [(hready k).1 hk]
      obtain ⟨b, hb, h⟩ := guard_is hrel.choose_spec.choose_spec.choose_spec.1 h
      unfold wpOp
      simp only [ho]
      cases b with
      | true =>
        rw [if_pos hb]
        exact .inl (stepO_sound hG hrel h fun st2 a2 w2 h2 hr2 => next st2 a2 w2 hr2 h2)
      | false =>
        rw [if_neg (by simp [hb])]
        exact next _ _ _ (hrel.skip o.dst) h

theorem phaseA (h : exL P G ops (ops.toList.drop p) ⟨setK ops res (List.range p) st0.slots, st0.obs ++ newsK res (List.range p), st0.ks⟩ K = some r) :
    ∀ (n : Nat) (st : St) (a : Act) (w : World) (listed : Array Bool), listed.size = ops.size → (List.range ops.size).countP (fun k => !listed.getD k false) = n → (∀ k, p ≤ k → listed.getD k false = false) →
    (∀ i o, ops.toList[i]? = some o → listed.getD i false = true → ∀ j ∈ dirs o, listed.getD j false = true) → DInv st0 ops res p (fun k => listed.getD k false) st → RelB c st a w → wpAny P .any ops Q n listed a w := by
  intro n
  induction n with
  | zero =>
    intro st a w listed hsz hcnt hpl hcl hI hrel
    have hall : ∀ k, k < ops.size → listed.getD k false = true := by
      intro k hk
      have := List.countP_eq_zero.1 hcnt k (List.mem_range.2 hk)
      simpa using this
    have hpe : ops.size ≤ p := Classical.byContradiction fun hlt => by
      have h1 := hall p (by omega)
      rw [hpl p (Nat.le_refl _)] at h1
      cases h1
    have hst : st = ⟨setK ops res (List.range p) st0.slots, st0.obs ++ newsK res (List.range p), st0.ks⟩ := all_done hinj hI (fun k hk => hall k (by omega))
    have hdn : ops.toList.drop p = [] := List.drop_eq_nil_of_le (by simpa using hpe)
    have := phaseB hd hp hinj hF hfull hG hK (ops.toList.drop p) p st a w listed rfl hsz (fun k hk => ⟨fun _ => by omega, fun _ => hall k hk⟩) (Nat.le_refl _) hrel (by rw [hst]; exact h)
    rw [hdn] at this
    exact this
  | succ n ih =>
    intro st a w listed hsz hcnt hpl hcl hI hrel
    by_cases hall : ∀ k, k < p → listed.getD k false = true
    · have hst : st = ⟨setK ops res (List.range p) st0.slots, st0.obs ++ newsK res (List.range p), st0.ks⟩ := all_done hinj hI hall
      have := phaseB hd hp hinj hF hfull hG hK (ops.toList.drop p) p st a w listed rfl hsz (fun k hk => ⟨(fun hk' => Classical.byContradiction fun hlt => (by rw [hpl k (by omega)] at hk'; cases hk')), fun hk' => hall k hk'⟩) (Nat.le_refl _) hrel (by rw [hst]; exact h)
      have hlen : (ops.toList.drop p).length = n + 1 := by
        rw [← hcnt, List.length_drop]
        have h1 : (List.range ops.size).countP (fun k => !listed.getD k false) = (List.range ops.size).countP (fun k => decide (p ≤ k)) := List.countP_congr fun k hk => by
          by_cases hkp : k < p
          · have := hall k hkp; simp [this]; omega
          · have := hpl k (by omega); simp [this]; omega
        rw [h1]
        obtain ⟨d, hd'⟩ : ∃ d, ops.size = p + d := ⟨ops.size - p, by omega⟩
        rw [show ops.toList.length = ops.size from rfl, hd', List.range_add, List.countP_append]
        have e1 : (List.range p).countP (fun k => decide (p ≤ k)) = 0 := List.countP_eq_zero.2 fun k hk => by have := List.mem_range.1 hk; simp; omega
        have e2 : ((List.range d).map (p + ·)).countP (fun k => decide (p ≤ k)) = d := by
          rw [List.countP_map]
          rw [List.countP_eq_length.2 fun k hk => by simp]
          simp
        rw [e1, e2]
        omega
      rw [hlen] at this
      exact this
    · have hgd : ∀ k, k < ops.size → listed.getD k true = listed.getD k false := fun k hk => by simp [Array.getD, hsz, hk]
      have hanc : ∀ i ∈ Region.ready .any ops listed, ∀ k ∈ ancOf (ancs ops.toList) i, listed.getD k false = true := by
        intro i hi
        obtain ⟨h1, h2, o, ho, h3⟩ := mem_ready.1 hi
        exact anc_closed hd (L := fun k => listed.getD k false = true) hcl i o (by rw [Array.getElem?_toList]; exact ho) h3
      refine ⟨fun he => ?_, fun i hi => ?_⟩
      · -- the least that is not done is ready
        exfalso
        obtain ⟨k, hk⟩ : ∃ k, k < p ∧ listed.getD k false = false := by
          apply Classical.byContradiction
          intro hno
          apply hall
          intro k hk
          cases hb : listed.getD k false with
          | true => rfl
          | false => exact absurd ⟨k, hk, hb⟩ hno
        obtain ⟨m, ⟨hm1, hm2⟩, hm3⟩ := least (fun k => k < p ∧ listed.getD k false = false) ⟨k, hk⟩
        have hms : m < ops.size := by omega
        have : m ∈ Region.ready .any ops listed := by
          refine mem_ready.2 ⟨hms, by rw [hgd m hms]; exact hm2, ops[m], Array.getElem?_eq_getElem hms, fun j hj => ?_⟩
          have hjm := hd m ops[m] (by rw [Array.getElem?_toList]; exact Array.getElem?_eq_getElem hms) j hj
          cases hb : listed.getD j false with
          | true => rfl
          | false => have := hm3 j ⟨by omega, hb⟩; omega
        rw [he] at this
        simp at this
      · obtain ⟨h1, h2, o, ho, h3⟩ := mem_ready.1 hi
        rw [hgd i h1] at h2
        have hip : i < p := by
          apply Classical.byContradiction
          intro hge
          apply hall
          intro k hk
          exact hanc i hi k (hfull i (by omega) h1 k (by omega))
        refine draw_step hd hp hinj hF hG hI hrel hip h2 (hanc i hi) (fun k hk hL j hj => ?_) fun st' a' w' hI' hrel' => ?_
        · have hks : k < ops.size := by omega
          have hko : ops.toList[k]? = some ops[k] := by rw [Array.getElem?_toList]; exact Array.getElem?_eq_getElem hks
          exact anc_closed hd (L := fun k => listed.getD k false = true) hcl k _ hko (hcl k _ hko hL) j hj
        · have hset : ∀ k, (listed.setIfInBounds i true).getD k false = (listed.getD k false || k == i) := by
            intro k
            by_cases hki : k = i
            · subst hki
              simp [Array.getD, hsz, h1]
            · have e : (k == i) = false := by simp [hki]
              rw [e, Bool.or_false]
              by_cases hks : k < ops.size
              · simp only [Array.getD, Array.size_setIfInBounds, hsz, hks, dite_true]
                rw [Array.getInternal_eq_getElem, Array.getInternal_eq_getElem, Array.getElem_setIfInBounds_ne _ (fun e => hki e.symm)]
              · simp [Array.getD, hsz, hks]
          refine ih st' a' w' _ (by simpa using hsz) ?_ (fun k hk => ?_) (fun k ok hok hL j hj => ?_) ?_ hrel'
          · have := countP_one (X := fun k => !listed.getD k false) (Y := fun k => !(listed.setIfInBounds i true).getD k false) (i := i) (fun k hk => by
              rw [hset]; have e : (k == i) = false := by simp [hk]
              rw [e, Bool.or_false]) (by simp [h2]) (by rw [hset]; simp) ops.size h1
            omega
          · rw [hset, hpl k hk]
            simp
            omega
          · rw [hset] at hL ⊢
            simp only [Bool.or_eq_true, beq_iff_eq] at hL ⊢
            left
            rcases hL with hL | rfl
            · exact hcl k ok hok hL j hj
            · rw [Array.getElem?_toList, ho] at hok
              obtain rfl := Option.some.inj hok
              exact h3 j hj
          · have e : (fun k => (listed.setIfInBounds i true).getD k false) = fun k => listed.getD k false || k == i := funext hset
            rw [e]
            exact hI'
end

/-- A drawn region. -/
theorem exR_sound {P : Program} {G : Orc} (hG : G.ok P) (hm : P.follows .mixedOrders = true) {id : Nat} {ops : Array Oper} {st : St} {c : Cx} {a : Act} {w : World} {ρ : Type} {r : ρ} {K : St → Option ρ} {Q : Exit → Act → World → Prop}
    (h : exR P G ops st K = some r) (hrel : RelB c st a w) (hK : ∀ st' a' w', K st' = some r → Rel c st' a' w' → Q .normal a' w') : (Code.region id ops true).wp P Q a w := by
  unfold exR at h
  simp only at h
  obtain ⟨h1, h⟩ := chk_some h
  obtain ⟨h2, h⟩ := chk_some h
  have hd : ∀ i o, ops.toList[i]? = some o → ∀ j ∈ dirs o, j < i := by
    intro i o ho j hj
    rw [Array.getElem?_toList] at ho
    have hi : i < ops.size := (Array.getElem?_eq_some_iff.1 ho).1
    have := List.all_eq_true.1 h2 i (List.mem_range.2 hi)
    rw [ho] at this
    simp only [Option.map_some, Option.getD_some, List.all_eq_true, decide_eq_true_eq] at this
    exact this j hj
  have hp := prefN_le (ancs ops.toList) ops.size
  generalize hpe : prefN (ancs ops.toList) ops.size = p at *
  have hdst : ∀ i t, i < p → dstOf ops i = some t → ((ops.toList.take p).map (·.dst))[i]? = some (some t) := by
    intro i t hi ht
    unfold dstOf at ht
    cases ho : ops[i]? with
    | none => rw [ho] at ht; cases ht
    | some o =>
      rw [ho] at ht
      rw [List.getElem?_map, List.getElem?_take_of_lt hi, Array.getElem?_toList, ho]
      simpa using ht
  have hinj : ∀ i j t, i < p → j < p → dstOf ops i = some t → dstOf ops j = some t → i = j := fun i j t hi hj h3 h4 => nodupD_inj h1 i j t (hdst i t hi h3) (hdst j t hj h4)
  obtain ⟨res, hlen, -, h3, hF⟩ := exD_facts hG (fun i k hk => anc_lt hk) hinj _ [] _ (by simp; omega) (fun j o hj => by
    simp only [List.length_nil, Nat.zero_add]
    rw [List.getElem?_take] at hj
    split at hj
    · rwa [Array.getElem?_toList] at hj
    · cases hj) h
  have hfull : ∀ i, p ≤ i → i < ops.size → ∀ k, k < i → k ∈ ancOf (ancs ops.toList) i := by
    intro i hpi hi k hk
    have hl := prefN_all (ancs ops.toList) ops.size i (by omega) hi
    have hf := anc_filter (ops := ops.toList) (i := i) (p := i) (Nat.le_refl _)
    rw [hf] at hl
    simpa using filter_full hl k hk
  refine wp_region_any hm (phaseA hd hp hinj (fun k hk => hF k (by simp) hk) hfull hG hK h3 ops.size st a _ _ (by simp) ?_ (fun k _ => ?_) (fun i o _ hL => ?_) ⟨rfl, fun k _ hL => ?_, fun _ _ => rfl, ?_, rfl⟩ (hrel.drawn rfl rfl rfl rfl))
  · rw [List.countP_eq_length.2 fun k hk => by simp [Array.getD]]
    simp
  · simp [Array.getD]
  · simp [Array.getD] at hL
  · simp [Array.getD] at hL
  · have : (List.range p).filter (fun k => (Array.replicate ops.size false).getD k false) = [] := by
      rw [List.filter_eq_nil_iff]
      intro k _
      simp [Array.getD]
    rw [this]
    simp [newsK]

end Go.Al
