import Derived.Test.YtbpicgilplnmoaaAl16
set_option linter.unusedVariables false
set_option linter.unusedSimpArgs false
namespace Go.Al

/-! ### 20. Slice literals -/
def fillS (size : Nat) : List (Nat × AV) → List C → Option (List C)
  | [], cs => some cs
  | (i, v) :: rest, cs => match partCs v with
    | some new => if new.length = size ∧ i * size + new.length ≤ cs.length then fillS size rest (setAt cs (i * size) new) else Option.none
    | Option.none => Option.none
def repN {α : Type} : Nat → List α → List α
  | 0, _ => []
  | n + 1, l => l ++ repN n l
def chunkG (sz : Nat) : Nat → List N → Nat → List N
  | 0, l, _ => l.take sz
  | k + 1, l, i => mrgE (decide (i = 0)) (l.take sz) (chunkG sz k (l.drop sz) (i - 1))
def chunk (sz n : Nat) (l : List N) : Rw N := ⟨n, fun i => chunkG sz (n - 1) l i⟩
theorem chunkG_eq (sz : Nat) : ∀ (k : Nat) (l : List N) (i : Nat), i ≤ k → chunkG sz k l i = (l.drop (i * sz)).take sz
  | 0, l, i, h => by
    have : i = 0 := by omega
    subst this
    simp [chunkG]
  | k + 1, l, i, h => by
    rw [chunkG, mrgE_eq, sel_if]
    split
    · rename_i h0; subst h0; simp
    · rw [chunkG_eq sz k _ _ (by omega), List.drop_drop]
      congr 2
      obtain ⟨j, rfl⟩ : ∃ j, i = j + 1 := ⟨i - 1, by omega⟩
      simp [Nat.add_mul, Nat.add_comm]
theorem chunk_g {sz n : Nat} {l : List N} {i : Nat} (h : i < n) : (chunk sz n l).g i = (l.drop (i * sz)).take sz := chunkG_eq sz _ _ _ (by omega)
/-- A cell of an immutable row. -/
def immC (st : St) (z : Option ZE) : C → Option N
  | .n x => some x
  | .z => z.map ZE.nil
  | .h j => match st.obj j with
    | .fro sz xs => some (.sl sz xs)
    | _ => Option.none
  | _ => Option.none
def immCs (st : St) : List (Option ZE) → List C → Option (List N)
  | [], [] => some []
  | z :: zs, c :: cs => match immC st z c, immCs st zs cs with
    | some x, some xs => some (x :: xs)
    | _, _ => Option.none
  | _, _ => Option.none

/-- What the literal's cells are. -/
def litK (P : Program) (t : TypeId) (len : Nat) (parts : List (Nat × AV)) (K : TyI → List C → Prop) : Prop :=
  is (tyOf P t).sl fun e => (tyOf P e).ok = true ∧ len * (tyOf P e).size ≤ 16777216 ∧ (tyOf P e).zero.all (·.oneCell') = true ∧ (tyOf P e).size ≠ 0 ∧
    is (fillS (tyOf P e).size parts (List.replicate (len * (tyOf P e).size) .u)) fun cs => K (tyOf P e) cs

def buildImmK (P : Program) (st : St) (t : TypeId) (len : Nat) (parts : List (Nat × AV)) (K : AV → List Ob → Prop) : Prop :=
  litK P t len parts fun ty cs => if len = 0 then K (.c .z) [] else is (immCs st (repN len ty.zs) cs) fun ns => K (.c (.n (.sl ty.size (chunk ty.size len ns)))) []

def buildOwnK (P : Program) (st : St) (t : TypeId) (len : Nat) (parts : List (Nat × AV)) (dst : Option Nat) (K : St → Prop) : Prop :=
  litK P t len parts fun ty cs => if len = 0 then K (st.put dst (.c .z)) else is (inlN st [] (repN len ty.zs) cs) fun p =>
    K ((({ st with obs := consume st.obs.length p.2 st.obs } : St).new [.row ty.size (chunk ty.size len p.1) []]).put dst (.c (.h st.obs.length)))

section
variable {P : Program} {st : St} {a : Act} {w : World} {I : Nat → Prop} {β : List Value} {S : Nat → Nat → Prop} {c : Cx}

theorem fillS_sound (hr : RelV st a w I β S) {size : Nat} : ∀ (parts : List (Nat × Operand)) (cs cs' : List C) (arr : Array Value), CsR w I β cs arr →
    fillS size (parts.map fun p => (p.1, st.ev p.2)) cs = some cs' →
    ∃ arr', Instr.fill (fun i => some (i * size, size)) arr (parts.map fun p => (p.1, a.eval p.2)) = some arr' ∧ CsR w I β cs' arr' := by
  intro parts
  induction parts with
  | nil =>
    intro cs cs' arr h hf
    simp only [List.map_nil, fillS, Option.some.injEq] at hf
    subst hf
    exact ⟨arr, rfl, h⟩
  | cons p r ih =>
    intro cs cs' arr h hf
    simp only [List.map_cons, fillS] at hf
    split at hf
    · rename_i new h2
      split at hf
      · rename_i hc
        have hn := partCs_sound (ev_sound hr p.2) h2
        obtain ⟨arr', h3, h4⟩ := ih _ cs' _ (h.setAt hn hc.2) hf
        refine ⟨arr', ?_, h4⟩
        have hsz : (a.eval p.2).cells.size = size := by rw [hn.1, hc.1]
        have hno : ¬ (p.1 * size + (a.eval p.2).cells.size > arr.size) := by rw [hn.1, h.1]; omega
        simp only [List.map_cons, Instr.fill, hsz, ne_eq, not_true_eq_false, decide_false, Bool.false_or]
        rw [hsz] at hno
        simp only [hno, decide_false, Bool.false_eq_true, if_false]
        exact h3
      · cases hf
    · cases hf

theorem fillS_length {size : Nat} : ∀ (parts : List (Nat × AV)) (cs cs' : List C), fillS size parts cs = some cs' → cs'.length = cs.length := by
  intro parts
  induction parts with
  | nil =>
    intro cs cs' h
    simp only [fillS, Option.some.injEq] at h
    rw [h]
  | cons p r ih =>
    intro cs cs' h
    simp only [fillS] at h
    split at h
    · split at h
      · rename_i hc
        rw [ih _ _ h, setAt_length hc.2]
      · cases h
    · cases h

/-- The literal's row: its cells. -/
theorem lit_sound (hr : RelV st a w I β S) {t : TypeId} {len : Nat} {parts : Array (Nat × Operand)} {K : TyI → List C → Prop} (h : litK P t len (parts.toList.map fun p => (p.1, st.ev p.2)) K) :
    ∃ e arr cs, (tyOf P t).sl = some e ∧ (tyOf P e).size ≠ 0 ∧ len * (tyOf P e).size ≤ 16777216 ∧ K (tyOf P e) cs ∧ CsR w I β cs arr ∧ cs.length = len * (tyOf P e).size ∧
      (Instr.buildSlice t len (parts.map fun p => (p.1, a.eval p.2))).run P w = .ok (.slice (some ⟨w.heap.size, 0, none⟩) len len) (w.alloc (.cells arr e)) := by
  obtain ⟨e, ht, hok, hle, h1, hs0, h⟩ := is_iff h
  obtain ⟨cs, hf, hK⟩ := is_iff h
  obtain ⟨i, d, z, hi, hd, hz, hzs, -, hsz, hze, hby⟩ := tyOf_ok hok
  let arr0 : Array Value := (Array.range (len * i.size)).map (fun k => (if len * i.size = 0 then (#[] : Array Value) else z.cells)[k % (if len * i.size = 0 then (#[] : Array Value) else z.cells).size]!)
  have h0 : CsR w I β (List.replicate (len * (tyOf P e).size) .u) arr0 := by
    refine ⟨by simp [arr0, hsz], fun j x v hx hv => ?_⟩
    rw [List.getElem?_replicate] at hx
    split at hx
    · rename_i hj
      simp only [Option.some.injEq] at hx
      subst hx
      rw [hsz] at hj
      have hne : len * i.size ≠ 0 := by omega
      simp only [arr0, hne, if_false] at hv
      simp only [Array.getElem?_map, Option.map_eq_some_iff] at hv
      obtain ⟨k, hk, rfl⟩ := hv
      have hpos : 0 < z.cells.size := by rw [hzs, ← hsz]; omega
      have hlt : k % z.cells.size < z.cells.size := Nat.mod_lt _ hpos
      have := List.all_eq_true.1 h1 (z.cells[k % z.cells.size]!) (by rw [hze]; simp [hlt])
      exact this
    · cases hx
  obtain ⟨arr, harr, hcs⟩ := fillS_sound (size := (tyOf P e).size) hr parts.toList _ cs arr0 h0 hf
  refine ⟨e, arr, cs, ht, hs0, hle, hK, hcs, by rw [fillS_length _ _ _ hf, List.length_replicate], ?_⟩
  rw [hsz] at hle harr
  have hno : ¬ (len * i.size > 2 ^ 24) := by omega
  have hu := tyOf_sl ht
  unfold Instr.buildSlice
  simp only [Sem.run_bind, run_underlying hu, Result.andThen_ok, run_sizeOf' hi, hno, if_false, Sem.run_pure]
  by_cases h0 : len * i.size = 0
  · simp only [h0, if_true, Sem.run_bind, Sem.run_pure, Result.andThen_ok]
    simp only [arr0, h0, if_true] at harr
    simp only [Array.toList_map]
    rw [harr]
    simp [newRow]
  · simp only [h0, if_false, Sem.run_bind, run_zeroValue' hi hz, Sem.run_pure, Result.andThen_ok]
    simp only [arr0, h0, if_false] at harr
    simp only [Array.toList_map]
    rw [harr]
    simp [newRow]

theorem chunk_length (sz n : Nat) (l : List N) : (chunk sz n l).n = n := rfl
theorem chunk_unif (sz n : Nat) (l : List N) (h : l.length = n * sz) : unif sz (chunk sz n l) := by
  intro i hi
  have hi' : i < n := hi
  rw [chunk_g hi']
  have h1 : (i + 1) * sz ≤ n * sz := Nat.mul_le_mul_right _ hi'
  rw [Nat.add_mul, Nat.one_mul] at h1
  simp
  omega
theorem chunk_at (sz n : Nat) (l : List N) (i j : Nat) (x : N) (h : at2 (chunk sz n l) i j = some x) : i < n ∧ j < sz ∧ l[i * sz + j]? = some x := by
  obtain ⟨h1, h2⟩ := at2_pos h
  have h3 : ((l.drop (i * sz)).take sz)[j]? = some x := by rw [← chunk_g (show i < n from h1)]; exact h2
  rw [List.getElem?_take] at h3
  split at h3
  · exact ⟨h1, ‹_›, by simpa using h3⟩
  · cases h3

theorem immC_sound (hr : RelV st a w I β S) {z : Option ZE} {x : C} {n : N} {v : Value} (h : immC st z x = some n) (hv : CR w I β x v) : Im w I n v := by
  unfold immC at h
  split at h
  · simp only [Option.some.injEq] at h
    subst h
    exact hv
  · simp only [Option.map_eq_some_iff] at h
    obtain ⟨s, -, rfl⟩ := h
    obtain ⟨A, rfl⟩ := hv
    exact Im.zero rfl A
  · rename_i j
    split at h
    · rename_i sz xs hobj
      simp only [Option.some.injEq] at h
      subst h
      exact hr.hdr (i := j) hv hobj (by simp)
    · cases h
  · cases h

theorem immCs_sound (hr : RelV st a w I β S) : ∀ {zs : List (Option ZE)} {cs : List C} {ns : List N}, immCs st zs cs = some ns → ns.length = cs.length ∧
    ∀ (k : Nat) (x : C) (v : Value), cs[k]? = some x → CR w I β x v → ∃ n, ns[k]? = some n ∧ Im w I n v
  | [], [], ns, h => by
    simp only [immCs, Option.some.injEq] at h
    subst h
    exact ⟨rfl, by simp⟩
  | z :: zs, x :: cs, ns, h => by
    simp only [immCs] at h
    split at h
    · rename_i n ns' h1 h2
      simp only [Option.some.injEq] at h
      subst h
      obtain ⟨h3, h4⟩ := immCs_sound hr h2
      refine ⟨by simp [h3], fun k y v hy hv => ?_⟩
      cases k with
      | zero =>
        simp at hy
        subst hy
        exact ⟨n, rfl, immC_sound hr h1 hv⟩
      | succ k => simpa using h4 k y v (by simpa using hy) hv
    · cases h
  | [], _ :: _, ns, h => by simp [immCs] at h
  | _ :: _, [], ns, h => by simp [immCs] at h

theorem buildImm_sound (hr : RelV st a w I β S) {t : TypeId} {len : Nat} {parts : Array (Nat × Operand)} {K : AV → List Ob → Prop} (h : buildImmK P st t len (parts.toList.map fun p => (p.1, st.ev p.2)) K) :
    ∃ v w' av news, (Instr.buildSlice t len (parts.map fun p => (p.1, a.eval p.2))).run P w = .ok v w' ∧ K av news ∧ QPost st w I β S av news v w' := by
  obtain ⟨e, arr, cs, ht, hs0, hle, h, hcs, hlen, hrun⟩ := lit_sound hr h
  split at h
  · rename_i h0
    refine ⟨_, _, _, _, hrun, h, I, [], fun _ _ => False, Fr.alloc _ _ _, fun _ h => h, fun _ h => .inl h, fun b hb => ?_, rfl, ⟨_, by rw [h0]⟩, by simp, by simp, by simp⟩
    exact Nat.lt_of_lt_of_le (hr.ilt b hb) (Fr.alloc (fun _ => False) w (.cells arr e)).size
  · rename_i h0
    obtain ⟨ns, hns, hK⟩ := is_iff h
    obtain ⟨hnl, hn⟩ := immCs_sound hr hns
    have hfr := Fr.alloc (fun _ => False) w (.cells arr e)
    refine ⟨_, _, _, _, hrun, hK, fun b => I b ∨ b = w.heap.size, [], fun _ _ => False, hfr, fun _ h => .inl h, ?_, ?_, rfl, ?_, by simp, by simp, by simp⟩
    · rintro b (h | rfl)
      · exact .inl h
      · exact .inr (Nat.le_refl _)
    · rintro b (h | rfl)
      · exact Nat.lt_of_lt_of_le (hr.ilt b h) hfr.size
      · simp
    · have hln : (chunk (tyOf P e).size len ns).n = len := chunk_length _ _ _
      have hlm : len ≤ maxN := by
        unfold maxN
        have : len * 1 ≤ len * (tyOf P e).size := Nat.mul_le_mul_left _ (by omega)
        omega
      have := Im.sl (w := w.alloc (.cells arr e)) (I := fun b => I b ∨ b = w.heap.size) (some ⟨w.heap.size, 0, none⟩) len ⟨w.heap.size, 0, none⟩ (fun i j => arr.getD (i * (tyOf P e).size + j) undef) (xs := chunk (tyOf P e).size len ns)
        (chunk_unif _ _ _ (by rw [hnl, hlen])) (by rw [hln]; exact hlm) (by rw [hln]; exact Nat.le_refl _) (fun _ => ⟨rfl, .inr rfl⟩)
        (fun i j x hx => by
          obtain ⟨h1, h2, h3⟩ := chunk_at _ _ _ _ _ _ hx
          have hlt : i * (tyOf P e).size + j < arr.size := by rw [hcs.1, ← hnl]; exact (List.getElem?_eq_some_iff.1 h3).1
          rw [add0, cells_at (heap_alloc_new w _)]
          simp [Array.getD, hlt])
        (fun i j x hx => by
          obtain ⟨h1, h2, h3⟩ := chunk_at _ _ _ _ _ _ hx
          have hlt : i * (tyOf P e).size + j < arr.size := by rw [hcs.1, ← hnl]; exact (List.getElem?_eq_some_iff.1 h3).1
          have hltc : i * (tyOf P e).size + j < cs.length := by rw [← hcs.1]; exact hlt
          have hv : arr[i * (tyOf P e).size + j]? = some (arr.getD (i * (tyOf P e).size + j) undef) := by simp [Array.getD, hlt]
          obtain ⟨n, hn1, hn2⟩ := hn _ _ _ (List.getElem?_eq_getElem hltc) (hcs.2 _ _ _ (List.getElem?_eq_getElem hltc) hv)
          rw [h3] at hn1
          obtain rfl := Option.some.inj hn1
          exact hn2.mono (fun _ h => .inl h) (fun b hb => heap_alloc_old w _ b (hr.ilt b hb)))
      rw [hln] at this
      exact this

theorem buildOwn_sound (hr : RelV st a w I β S) (hc : RelC c st a w I β S) {t : TypeId} {len : Nat} {parts : Array (Nat × Operand)} {dst : Option Nat} {K : St → Prop} (h : buildOwnK P st t len (parts.toList.map fun p => (p.1, st.ev p.2)) dst K) :
    ∃ v w' st', (Instr.buildSlice t len (parts.map fun p => (p.1, a.eval p.2))).run P w = .ok v w' ∧ K st' ∧ Rel c st' (a.put dst v) w' := by
  obtain ⟨e, arr, cs, ht, hs0, hle, h, hcs, hlen, hrun⟩ := lit_sound hr h
  have hfr := Fr.alloc (fun _ => False) w (.cells arr e)
  split at h
  · rename_i h0
    refine ⟨_, _, _, hrun, h, ?_⟩
    have := step_quiet hr hc (av := .c .z) (news := []) (v := .slice (some ⟨w.heap.size, 0, none⟩) len len) (w' := w.alloc (.cells arr e))
      ⟨I, [], fun _ _ => False, hfr, fun _ h => h, fun _ h => .inl h, fun b hb => Nat.lt_of_lt_of_le (hr.ilt b hb) hfr.size, rfl, ⟨_, by rw [h0]⟩, by simp, by simp, by simp⟩ dst
    simpa [St.new] using this
  · rename_i h0
    obtain ⟨p, hp, hK⟩ := is_iff h
    obtain ⟨hnl, hu1, hu2, Fs, hF1, hF2, hF3⟩ := inlN_sound hr hp
    have hIw : ∀ q, I q → (w.alloc (.cells arr e)).heap[q]? = w.heap[q]? := fun q hq => hfr.block q (hr.ilt q hq) (fun h => h)
    have hβ : ∀ (i : Nat) (b : Value), β[i]? = some b → (β ++ [.slice (some ⟨w.heap.size, 0, none⟩) len len])[i]? = some b := fun i b hb => by rw [List.getElem?_append_left (List.getElem?_eq_some_iff.1 hb).1]; exact hb
    refine ⟨_, _, _, hrun, hK, ?_⟩
    let S' : Nat → Nat → Prop := fun k q => if k = st.obs.length then (∃ k, k ∈ p.2 ∧ S k q) ∨ q = w.heap.size else S k q ∧ k ∉ p.2
    refine ⟨I, β ++ [.slice (some ⟨w.heap.size, 0, none⟩) len len], S', RelV.put ?_ dst ⟨by rw [← hr.bl]; simp, rfl⟩, RelC.put ?_ dst _ _⟩
    · refine ⟨hr.sz, by simp [St.new, consume_length, hr.bl], fun t v u hv hu => (hr.slot t v u hv hu).mono (fun _ h => h) hIw hβ, ?_, ?_, ?_, hr.il.mono (fun _ h => h) hIw (fun q hq => Nat.lt_of_lt_of_le (hr.ilt q hq) hfr.size)⟩
      · intro k o b ho hb
        simp only [St.new] at ho
        rcases Nat.lt_or_ge k st.obs.length with hlt | hge
        · rw [List.getElem?_append_left (by rw [consume_length]; exact hlt), consume_get] at ho
          rw [List.getElem?_append_left (by rw [hr.bl]; exact hlt)] at hb
          have hkn : k ≠ st.obs.length := by omega
          simp only [S', hkn, if_false]
          split at ho
          · simp only [Option.some.injEq] at ho
            subst ho
            trivial
          · rename_i hnk
            exact (hr.ob k o b ho hb).mono (fun _ h => h) hIw hβ (fun q hq => hfr.block q (hr.slt k q hq).2.1 (fun h => h)) (fun q hq => ⟨hq, fun h => hnk ⟨h, hkn, hlt⟩⟩)
        · rw [List.getElem?_append_right (by rw [consume_length]; exact hge), consume_length] at ho
          rw [List.getElem?_append_right (by rw [hr.bl]; exact hge), hr.bl] at hb
          have hk0 : k - st.obs.length = 0 := by
            by_cases h : k - st.obs.length = 0
            · exact h
            · rw [show k - st.obs.length = (k - st.obs.length - 1) + 1 by omega] at ho
              simp at ho
          have hk : k = st.obs.length := by omega
          rw [hk0] at ho hb
          simp at ho hb
          subst ho; subst hb; subst hk
          simp only [S', if_true]
          have hln : (chunk (tyOf P e).size len p.1).n = len := chunk_length _ _ _
          have hl24 : len ≤ 16777216 := by
            have : len * 1 ≤ len * (tyOf P e).size := Nat.mul_le_mul_left _ (by omega)
            omega
          have hlm : len ≤ maxN := by
            unfold maxN
            omega
          refine RowR.of_own ?_
          have hcell : ∀ i j x, at2 (chunk (tyOf P e).size len p.1) i j = some x → i < len ∧ j < (tyOf P e).size ∧ arr[i * (tyOf P e).size + j]? = some (arr.getD (i * (tyOf P e).size + j) undef) ∧
              Own w I x (arr.getD (i * (tyOf P e).size + j) undef) (Fs (i * (tyOf P e).size + j)) := by
            intro i j x hx
            obtain ⟨h1, h2, h3⟩ := chunk_at _ _ _ _ _ _ hx
            have hlt : i * (tyOf P e).size + j < arr.size := by rw [hcs.1, ← hnl]; exact (List.getElem?_eq_some_iff.1 h3).1
            have hltc : i * (tyOf P e).size + j < cs.length := by rw [← hcs.1]; exact hlt
            have hv : arr[i * (tyOf P e).size + j]? = some (arr.getD (i * (tyOf P e).size + j) undef) := by simp [Array.getD, hlt]
            obtain ⟨n, hn1, hn2⟩ := hF1 _ _ _ (List.getElem?_eq_getElem hltc) (hcs.2 _ _ _ (List.getElem?_eq_getElem hltc) hv)
            rw [h3] at hn1
            obtain rfl := Option.some.inj hn1
            exact ⟨h1, h2, hv, hn2⟩
          have := Own.sl (w := w.alloc (.cells arr e)) (I := I) (S := fun q => (∃ k, k ∈ p.2 ∧ S k q) ∨ q = w.heap.size) w.heap.size len e arr (0, 0)
            (fun i j => arr.getD (i * (tyOf P e).size + j) undef) (fun i j q => (i < len ∧ j < (tyOf P e).size) ∧ Fs (i * (tyOf P e).size + j) q) (xs := chunk (tyOf P e).size len p.1)
            (chunk_unif _ _ _ (by rw [hnl, hlen])) (by rw [hln]; exact hlm) (by rw [hln]; exact Nat.le_refl _) (by unfold maxLen; omega) (.inr rfl)
            (heap_alloc_new w _) (.inr (Nat.le_refl _)) (by rw [hcs.1, hlen])
            (fun i j x hx => (hcell i j x hx).2.2.1)
            (fun i j x hx => by
              obtain ⟨h1, h2, h3, h4⟩ := hcell i j x hx
              refine h4.mono (fun _ h => h) (fun b hb => heap_alloc_old w _ b (hr.ilt b hb)) (fun b hb => ?_) (fun b hb => ⟨⟨h1, h2⟩, hb⟩)
              obtain ⟨k, -, -, hk⟩ := hF2 _ _ hb
              exact heap_alloc_old w _ b (hr.slt k b hk).2.1)
            (fun i j b hb => by
              obtain ⟨k, hk, -, hk2⟩ := hF2 _ _ hb.2
              exact ⟨.inl ⟨k, hk, hk2⟩, by have := (hr.slt k b hk2).2.1; omega⟩)
            (fun i j i' j' b hb hb' => div_lt hb.1.2 hb'.1.2 (hF3 _ _ b hb.2 hb'.2))
          rw [hln] at this
          exact this
      · intro j k q hq hq'
        simp only [S'] at hq hq'
        split at hq <;> split at hq'
        · omega
        · rcases hq with ⟨m, hm, hq⟩ | rfl
          · have := hr.sdis m k q hq hq'.1
            subst this
            exact absurd hm hq'.2
          · have := (hr.slt k _ hq'.1).2.1
            omega
        · rcases hq' with ⟨m, hm, hq'⟩ | rfl
          · have := hr.sdis m j q hq' hq.1
            subst this
            exact absurd hm hq.2
          · have := (hr.slt j _ hq.1).2.1
            omega
        · exact hr.sdis j k q hq.1 hq'.1
      · intro k q hq
        simp only [S'] at hq
        simp only [St.new, List.length_append, consume_length, List.length_singleton]
        split at hq
        · rename_i h1
          rcases hq with ⟨m, hm, hq⟩ | rfl
          · exact ⟨by omega, Nat.lt_of_lt_of_le (hr.slt m q hq).2.1 hfr.size, (hr.slt m q hq).2.2⟩
          · exact ⟨by omega, by simp, fun h => by have := hr.ilt _ h; omega⟩
        · exact ⟨by have := (hr.slt k q hq.1).1; omega, Nat.lt_of_lt_of_le (hr.slt k q hq.1).2.1 hfr.size, (hr.slt k q hq.1).2.2⟩
    · refine ⟨fun k q hq => ?_, hc.isub, hc.iinv, hc.frame.trans hfr (fun q hq => hq.elim), fun k hk hkk => ?_, hc.defers⟩
      · simp only [S'] at hq
        split at hq
        · rcases hq with ⟨m, hm, hq⟩ | rfl
          · exact hc.own m q hq
          · exact .inl hc.frame.size
        · exact hc.own k q hq.1
      · rw [List.getElem?_append_left (hc.klt hk hkk)]
        exact hc.keep k hk hkk

end
end Go.Al
