import Derived.Test.YtbpicgilplnmoaaAl28
set_option linter.unusedVariables false
set_option linter.unusedSimpArgs false
namespace Go.Al

/-! ### 36. Drawn regions: which come before which -/
theorem ancsGo_len : ∀ (l : List Oper) (acc : List (List Nat)), (ancsGo l acc).length = acc.length + l.length
  | [], acc => by simp [ancsGo]
  | o :: rest, acc => by rw [ancsGo, ancsGo_len rest]; simp; omega
theorem ancsGo_old : ∀ (l : List Oper) (acc : List (List Nat)) (i : Nat), i < acc.length → (ancsGo l acc)[i]? = acc[i]?
  | [], acc, i, _ => rfl
  | o :: rest, acc, i, h => by
    rw [ancsGo, ancsGo_old rest _ i (by simp; omega), List.getElem?_append_left h]
theorem ancsGo_at : ∀ (l : List Oper) (acc : List (List Nat)) (i : Nat) (o : Oper), l[i]? = some o →
    (ancsGo l acc)[acc.length + i]? = some ((List.range (acc.length + i)).filter fun k => (dirs o).any fun j => j == k || (((ancsGo l acc).take (acc.length + i))[j]?.getD []).contains k)
  | [], acc, i, o, h => by simp at h
  | o' :: rest, acc, 0, o, h => by
    simp only [List.getElem?_cons_zero, Option.some.injEq] at h
    subst h
    rw [ancsGo]
    have hl : acc.length + 0 < (acc ++ [(List.range acc.length).filter fun k => (dirs o').any fun j => j == k || ((acc[j]?).getD []).contains k]).length := by simp
    rw [ancsGo_old _ _ _ hl]
    simp only [Nat.add_zero]
    rw [List.getElem?_append_right (Nat.le_refl _)]
    simp only [Nat.sub_self, List.getElem?_cons_zero, Option.some.injEq]
    congr 1
    funext k
    congr 1
    funext j
    congr 2
    rw [List.getElem?_take]
    split
    · rename_i hj
      rw [ancsGo_old _ _ _ (by simp; omega), List.getElem?_append_left hj]
    · rename_i hj
      rw [List.getElem?_eq_none (by omega)]
  | o' :: rest, acc, i + 1, o, h => by
    have := ancsGo_at rest (acc ++ [(List.range acc.length).filter fun k => (dirs o').any fun j => j == k || ((acc[j]?).getD []).contains k]) i o (by simpa using h)
    rw [ancsGo]
    simp only [List.length_append, List.length_singleton] at this
    rw [show acc.length + (i + 1) = acc.length + 1 + i by omega]
    exact this

theorem anc_iff {ops : List Oper} {i : Nat} {o : Oper} (ho : ops[i]? = some o) (hd : ∀ j ∈ dirs o, j < i) (k : Nat) :
    k ∈ ancOf (ancs ops) i ↔ k < i ∧ ∃ j ∈ dirs o, j = k ∨ k ∈ ancOf (ancs ops) j := by
  have h := ancsGo_at ops [] i o ho
  simp only [List.length_nil, Nat.zero_add] at h
  unfold ancOf ancs
  rw [h]
  simp only [Option.getD_some, List.mem_filter, List.mem_range, List.any_eq_true, Bool.or_eq_true, beq_iff_eq, List.contains_iff_mem]
  constructor
  · rintro ⟨h1, j, hj, h2⟩
    refine ⟨h1, j, hj, h2.imp_right fun h => ?_⟩
    rwa [List.getElem?_take_of_lt (hd j hj)] at h
  · rintro ⟨h1, j, hj, h2⟩
    refine ⟨h1, j, hj, h2.imp_right fun h => ?_⟩
    rwa [List.getElem?_take_of_lt (hd j hj)]
theorem anc_lt {ops : List Oper} {i k : Nat} (h : k ∈ ancOf (ancs ops) i) : k < i := by
  unfold ancOf at h
  cases ho : ops[i]? with
  | none =>
    have : (ancs ops)[i]? = none := by
      rw [List.getElem?_eq_none_iff]
      have := ancsGo_len ops []
      simp only [List.length_nil, Nat.zero_add] at this
      have h2 := List.getElem?_eq_none_iff.1 ho
      unfold ancs
      omega
    rw [this] at h
    simp at h
  | some o =>
    have h1 := ancsGo_at ops [] i o ho
    simp only [List.length_nil, Nat.zero_add] at h1
    unfold ancs at h
    rw [h1] at h
    simp only [Option.getD_some, List.mem_filter, List.mem_range] at h
    exact h.1
/-- A set that is closed under what comes before. -/
theorem anc_closed {ops : List Oper} (hd : ∀ i o, ops[i]? = some o → ∀ j ∈ dirs o, j < i) {L : Nat → Prop} (hL : ∀ i o, ops[i]? = some o → L i → ∀ j ∈ dirs o, L j) :
    ∀ (i : Nat) (o : Oper), ops[i]? = some o → (∀ j ∈ dirs o, L j) → ∀ k ∈ ancOf (ancs ops) i, L k := by
  intro i
  induction i using Nat.strongRecOn with
  | _ i ih =>
    intro o ho hj k hk
    obtain ⟨h1, j, hjd, h2⟩ := (anc_iff ho (hd i o ho) k).1 hk
    rcases h2 with rfl | h2
    · exact hj _ hjd
    · have hji := hd i o ho j hjd
      have hlt : j < ops.length := by have := (List.getElem?_eq_some_iff.1 ho).1; omega
      exact ih j hji ops[j] (List.getElem?_eq_getElem hlt) (hL j _ (List.getElem?_eq_getElem hlt) (hj j hjd)) k h2
theorem anc_trans {ops : List Oper} (hd : ∀ i o, ops[i]? = some o → ∀ j ∈ dirs o, j < i) : ∀ (i : Nat), i < ops.length → ∀ k' ∈ ancOf (ancs ops) i, ∀ k ∈ ancOf (ancs ops) k', k ∈ ancOf (ancs ops) i := by
  intro i
  induction i using Nat.strongRecOn with
  | _ i ih =>
    intro hi k' hk' k hk
    have ho := List.getElem?_eq_getElem hi
    obtain ⟨h1, j, hjd, h2⟩ := (anc_iff ho (hd i _ ho) k').1 hk'
    have hji := hd i _ ho j hjd
    refine (anc_iff ho (hd i _ ho) k).2 ⟨Nat.lt_trans (anc_lt hk) h1, j, hjd, .inr ?_⟩
    rcases h2 with rfl | h2
    · exact hk
    · exact ih j hji (by omega) k' h2 k hk
theorem anc_filter {ops : List Oper} {i p : Nat} (hip : i ≤ p) : ancOf (ancs ops) i = (List.range p).filter fun k => decide (k ∈ ancOf (ancs ops) i) := by
  cases ho : ops[i]? with
  | none =>
    have : (ancs ops)[i]? = none := by
      rw [List.getElem?_eq_none_iff]
      have := ancsGo_len ops []
      simp only [List.length_nil, Nat.zero_add] at this
      have h2 := List.getElem?_eq_none_iff.1 ho
      unfold ancs
      omega
    have e : ancOf (ancs ops) i = [] := by unfold ancOf; rw [this]; rfl
    rw [e]
    simp
  | some o =>
    have h1 := ancsGo_at ops [] i o ho
    simp only [List.length_nil, Nat.zero_add] at h1
    have e : ancOf (ancs ops) i = (List.range i).filter fun k => (dirs o).any fun j => j == k || (((ancsGo ops []).take i)[j]?.getD []).contains k := by
      unfold ancOf ancs
      rw [h1]; rfl
    obtain ⟨d, rfl⟩ : ∃ d, p = i + d := ⟨p - i, by omega⟩
    rw [List.range_add, List.filter_append]
    have e2 : (((List.range d).map (i + ·)).filter fun k => decide (k ∈ ancOf (ancs ops) i)) = [] := by
      rw [List.filter_eq_nil_iff]
      intro k hk
      simp only [List.mem_map, List.mem_range] at hk
      obtain ⟨q, -, rfl⟩ := hk
      simp only [decide_eq_true_eq]
      intro h
      have := anc_lt h
      omega
    rw [e2, List.append_nil]
    conv => lhs; rw [e]
    refine List.filter_congr fun k hk => ?_
    rw [e]
    simp only [List.mem_filter, hk, true_and, Bool.decide_eq_true]

/-! ### 37. Slots and objects of a drawn region -/
section
variable {ops : Array Oper} {acc res : List Res}
theorem setD_length (l : Sl) (d : Option Nat) (v : AV) : (setD l d v).length = l.length := by cases d <;> simp [setD]
theorem setD_f (l : Sl) (d : Option Nat) (v : AV) (t : Nat) : (setD l d v).f t = if d = some t then v else l.f t := by
  cases d with
  | none => simp [setD]
  | some d =>
    simp only [setD, Sl.set, Sl.sel_beq, Option.some.injEq]
    by_cases h : t = d
    · simp [h]
    · have : ¬ d = t := fun e => h e.symm
      simp [h, this]
theorem setK_length : ∀ (ks : List Nat) (l : Sl), (setK ops acc ks l).length = l.length
  | [], _ => rfl
  | k :: ks, l => by rw [setK, setK_length ks, setD_length]
theorem setK_other {t : Nat} : ∀ (ks : List Nat) (l : Sl), (∀ k ∈ ks, dstOf ops k ≠ some t) → (setK ops acc ks l).f t = l.f t
  | [], _, _ => rfl
  | k :: ks, l, h => by
    rw [setK, setK_other ks _ fun k hk => h k (List.mem_cons_of_mem _ hk), setD_f, if_neg (h k List.mem_cons_self)]
theorem setK_get {t j : Nat} (hj : dstOf ops j = some t) : ∀ (ks : List Nat) (l : Sl), (∀ k ∈ ks, dstOf ops k = some t → k = j) → j ∈ ks → (setK ops acc ks l).f t = resV (accOf acc j)
  | [], _, _, h => by simp at h
  | k :: ks, l, h, hm => by
    rw [setK]
    by_cases hj2 : j ∈ ks
    · exact setK_get hj ks _ (fun k hk => h k (List.mem_cons_of_mem _ hk)) hj2
    · have e : j = k := by simpa [hj2] using hm
      subst e
      rw [setK_other ks _ fun k hk hd => hj2 (h k (List.mem_cons_of_mem _ hk) hd ▸ hk), setD_f, if_pos hj]
theorem setK_congr : ∀ (ks : List Nat) (l : Sl), (∀ k ∈ ks, accOf acc k = accOf res k) → setK ops acc ks l = setK ops res ks l
  | [], _, _ => rfl
  | k :: ks, l, h => by rw [setK, setK, h k List.mem_cons_self, setK_congr ks _ fun k hk => h k (List.mem_cons_of_mem _ hk)]
theorem newsK_congr : ∀ (ks : List Nat), (∀ k ∈ ks, accOf acc k = accOf res k) → newsK acc ks = newsK res ks
  | [], _ => rfl
  | k :: ks, h => by
    have := newsK_congr ks fun k hk => h k (List.mem_cons_of_mem _ hk)
    simp only [newsK, List.flatMap_cons] at this ⊢
    rw [h k List.mem_cons_self, this]
theorem drawV_congr {st0 : St} {D : Sl} {ks : List Nat} (h : ∀ k ∈ ks, accOf acc k = accOf res k) : drawV st0 D ops acc ks = drawV st0 D ops res ks := by
  unfold drawV
  rw [setK_congr ks D h, newsK_congr ks h]
theorem deadD_length : ∀ (ds : List (Option Nat)) (l : Sl), (deadD ds l).length = l.length
  | [], _ => rfl
  | d :: ds, l => by rw [deadD, deadD_length ds, setD_length]
theorem deadD_other {t : Nat} : ∀ (ds : List (Option Nat)) (l : Sl), some t ∉ ds → (deadD ds l).f t = l.f t
  | [], _, _ => rfl
  | d :: ds, l, h => by
    simp only [List.mem_cons, not_or] at h
    rw [deadD, deadD_other ds _ h.2, setD_f, if_neg (fun e => h.1 e.symm)]
theorem deadD_dead {t : Nat} : ∀ (ds : List (Option Nat)) (l : Sl), (some t ∈ ds ∨ l.f t = .dead) → (deadD ds l).f t = .dead
  | [], l, h => by simpa [deadD] using h
  | d :: ds, l, h => by
    rw [deadD]
    refine deadD_dead ds _ ?_
    by_cases h1 : some t ∈ ds
    · exact .inl h1
    · right
      rw [setD_f]
      split
      · rfl
      · rename_i hne
        rcases h with h | h
        · simp [h1] at h; exact absurd h.symm hne
        · exact h
theorem nodupD_inj {ds : List (Option Nat)} (h : nodupD ds = true) : ∀ (i j t : Nat), ds[i]? = some (some t) → ds[j]? = some (some t) → i = j := by
  induction ds with
  | nil => intro i j t h; simp at h
  | cons d ds ih =>
    have h2 : nodupD ds = true := by
      cases d with
      | none => exact h
      | some d => simp only [nodupD, Bool.and_eq_true] at h; exact h.2
    intro i j t hi hj
    cases i with
    | zero =>
      cases j with
      | zero => rfl
      | succ j =>
        simp at hi hj
        subst hi
        simp only [nodupD, Bool.and_eq_true, Bool.not_eq_true'] at h
        have := List.mem_of_getElem? hj
        have h3 := h.1
        rw [← Bool.not_eq_true, List.contains_iff_mem] at h3
        exact absurd this h3
    | succ i =>
      cases j with
      | zero =>
        simp at hi hj
        subst hj
        simp only [nodupD, Bool.and_eq_true, Bool.not_eq_true'] at h
        have := List.mem_of_getElem? hi
        have h3 := h.1
        rw [← Bool.not_eq_true, List.contains_iff_mem] at h3
        exact absurd this h3
      | succ j =>
        have := ih h2 i j t (by simpa using hi) (by simpa using hj)
        omega

theorem newsK_app (X Y : List Nat) : newsK res (X ++ Y) = newsK res X ++ newsK res Y := by simp [newsK]
theorem newsK_one (k : Nat) : newsK res [k] = resN (accOf res k) := by simp [newsK]
theorem newsK_eq {X Y : Nat → Bool} : ∀ (n : Nat), (∀ k, k < n → resN (accOf res k) ≠ [] → X k = Y k) → newsK res ((List.range n).filter X) = newsK res ((List.range n).filter Y)
  | 0, _ => rfl
  | n + 1, h => by
    rw [List.range_succ, List.filter_append, List.filter_append, newsK_app, newsK_app, newsK_eq n fun k hk => h k (by omega)]
    congr 1
    by_cases hn : resN (accOf res n) = []
    · have : ∀ (Z : Nat → Bool), newsK res ([n].filter Z) = [] := by
        intro Z
        cases hz : Z n <;> simp [List.filter, hz, newsK, hn]
      rw [this, this]
    · simp [List.filter, h n (by omega) hn]
theorem newsK_pre {X Y : Nat → Bool} : ∀ (n : Nat), (∀ k, k < n → X k = true → Y k = true) → (∀ k k', k < k' → k' < n → X k' = true → resN (accOf res k') ≠ [] → resN (accOf res k) ≠ [] → Y k = true → X k = true) →
    ∃ Z, newsK res ((List.range n).filter Y) = newsK res ((List.range n).filter X) ++ Z
  | 0, _, _ => ⟨[], rfl⟩
  | n + 1, h1, h2 => by
    rw [List.range_succ, List.filter_append, List.filter_append, newsK_app, newsK_app]
    cases hX : X n with
    | true =>
      have hY := h1 n (by omega) hX
      by_cases hrn : resN (accOf res n) = []
      · obtain ⟨Z, hZ⟩ := newsK_pre n (fun k hk => h1 k (by omega)) (fun k k' hk hk' => h2 k k' hk (by omega))
        exact ⟨Z, by rw [hZ]; simp [List.filter, hX, hY, newsK, hrn]⟩
      · refine ⟨[], ?_⟩
        rw [newsK_eq (X := Y) (Y := X) n fun k hk hr => ?_]
        · simp [List.filter, hX, hY]
        · cases hy : Y k with
          | true => exact (h2 k n hk (by omega) hX hrn hr hy).symm
          | false =>
            cases hx : X k with
            | true => rw [h1 k (by omega) hx] at hy; cases hy
            | false => rfl
    | false =>
      obtain ⟨Z, hZ⟩ := newsK_pre n (fun k hk => h1 k (by omega)) (fun k k' hk hk' => h2 k k' hk (by omega))
      exact ⟨Z ++ newsK res ([n].filter Y), by rw [hZ]; simp [List.filter, hX, newsK]⟩
theorem newsK_ins {L : Nat → Bool} {i : Nat} : ∀ (n : Nat), i < n → L i = false → (∀ k, i < k → k < n → L k = true → resN (accOf res k) = []) →
    newsK res ((List.range n).filter fun k => L k || k == i) = newsK res ((List.range n).filter L) ++ resN (accOf res i)
  | 0, h, _, _ => by omega
  | n + 1, h, hi, hk => by
    rw [List.range_succ, List.filter_append, List.filter_append, newsK_app, newsK_app]
    by_cases hin : i = n
    · subst hin
      rw [newsK_eq (X := fun k => L k || k == i) (Y := L) i fun k hk _ => by
        have : (k == i) = false := by simp; omega
        simp [this]]
      simp [List.filter, hi, newsK]
    · rw [newsK_ins n (by omega) hi fun k h1 h2 => hk k h1 (by omega)]
      have e : (n == i) = false := by simp; omega
      cases hL : L n with
      | false => simp [List.filter, hL, e, newsK]
      | true => simp [List.filter, hL, newsK_one, hk n (by omega) (by omega) hL]
end
theorem noNew_iff {α : Type} {l : List α} : noNew l = true ↔ l = [] := by cases l <;> simp [noNew]

end Go.Al
