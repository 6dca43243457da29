import Derived.Test.YtbpicgilplnmoaaAl2
import Derived.Laws.Cells
import Derived.Laws.CopyRow
import Derived.Laws.Tables
set_option linter.unusedVariables false
set_option linter.unusedSimpArgs false
namespace Go.Al

/-! ### 8. The effect-free operations are sound -/

/-- Behind an effect-free operation. -/
def QPost (st : St) (w : World) (I : Nat → Prop) (β : List Value) (S : Nat → Nat → Prop) (av : AV) (news : List Ob) (v : Value) (w' : World) : Prop :=
  ∃ (I' : Nat → Prop) (βn : List Value) (Sn : Nat → Nat → Prop),
    Fr (fun _ => False) w w' ∧ (∀ b, I b → I' b) ∧ (∀ b, I' b → I b ∨ w.heap.size ≤ b) ∧ (∀ b, I' b → b < w'.heap.size) ∧ βn.length = news.length ∧
    AVR w' I' (β ++ βn) av v ∧
    (∀ (k : Nat) (o : Ob) (b : Value), news[k]? = some o → βn[k]? = some b → ObR w' I' (β ++ βn) b (Sn k) o) ∧
    (∀ k b, Sn k b → k < news.length ∧ w.heap.size ≤ b ∧ b < w'.heap.size ∧ ¬ I' b) ∧ (∀ i j b, Sn i b → Sn j b → i = j)

section
variable {P : Program} {st : St} {a : Act} {w : World} {I : Nat → Prop} {β : List Value} {S : Nat → Nat → Prop}

theorem QPost.same (hr : RelV st a w I β S) {av : AV} {v : Value} (h : AVR w I β av v) : QPost st w I β S av [] v w :=
  ⟨I, [], fun _ _ => False, Fr.refl _ _, fun _ h => h, fun _ h => .inl h, hr.ilt, rfl, by simpa using h, by simp, by simp, by simp⟩

theorem ev_sound (hr : RelV st a w I β S) (x : Operand) : AVR w I β (st.ev x) (a.eval x) := by
  cases x with
  | tmp t =>
    simp only [St.ev, St.get_eq, Act.eval]
    cases hs : st.slots[t]? with
    | none => simp [AVR]
    | some av =>
      have hlt : t < a.tmps.size := by rw [hr.sz]; exact (Sl.some_iff.1 hs).1
      have hc : a.tmps[t]? = some a.tmps[t] := Array.getElem?_eq_getElem hlt
      have := hr.slot t av _ hs hc
      simpa [Array.getD, hlt] using this
  | const v =>
    simp only [St.ev, Act.eval]
    cases v with
    | agg cs =>
      simp only [constAV]
      split
      · rename_i hall
        refine ⟨cs, rfl, by simp, fun j x v hx hv => ?_⟩
        have hv' : cs.toList[j]? = some v := by simpa using hv
        simp only [List.getElem?_map, hv', Option.map_some, Option.some.injEq] at hx
        subst hx
        have h1 : v.oneCell' = true := (Array.all_eq_true_iff_forall_mem.1 hall) v (Array.mem_of_getElem? hv)
        unfold zC
        split
        · exact ⟨_, rfl⟩
        · exact Im.v h1
      · trivial
    | tuple vs => trivial
    | slice A n c =>
      simp only [constAV, zC]
      split
      · rename_i h
        simp only [Value.slice.injEq] at h
        obtain ⟨rfl, rfl, rfl⟩ := h
        exact ⟨_, rfl⟩
      · exact Im.v rfl
    | _ => exact Im.v rfl
  | global g => trivial
  | func f => exact ⟨#[], rfl, by simp, by simp⟩

theorem tyOf_ok {t : TypeId} (h : (tyOf P t).ok = true) : ∃ i d z, P.info? t = some i ∧ P.underlying t = some d ∧ i.zero = some z ∧ z.cells.size = i.size ∧ (tyOf P t).agg = isAggD d ∧ (tyOf P t).size = i.size ∧ (tyOf P t).zero = z.cells.toList ∧ (tyOf P t).bytes = i.bytes := by
  unfold tyOf at h ⊢
  cases hi : P.info? t with
  | none => simp [hi] at h
  | some i =>
    cases hd : P.underlying t with
    | none => simp [hi, hd] at h
    | some d =>
      simp only [hi, hd, tyD, Bool.and_eq_true] at h ⊢
      cases hz : i.zero with
      | none => simp [hz] at h
      | some z => exact ⟨i, d, z, rfl, rfl, hz, by simpa [hz] using h.2, rfl, rfl, by simp, rfl⟩

theorem tyOf_sl {t e : TypeId} (h : (tyOf P t).sl = some e) : P.underlying t = some (.slice e) := by
  unfold tyOf at h
  cases hi : P.info? t with
  | none => simp [hi] at h
  | some i =>
    cases hd : P.underlying t with
    | none => simp [hi, hd] at h
    | some d => cases d <;> simp [hi, hd, tyD] at h; subst h; rfl

theorem tyOf_str {t : TypeId} (h : (tyOf P t).str = true) : P.underlying t = some .string := by
  unfold tyOf at h
  cases hi : P.info? t with
  | none => simp [hi] at h
  | some i =>
    cases hd : P.underlying t with
    | none => simp [hi, hd] at h
    | some d => cases d <;> simp [hi, hd, tyD] at h; rfl

theorem tyOf_int {t : TypeId} {k : IntKind} (h : (tyOf P t).int = some k) : P.underlying t = some (.int k) := by
  unfold tyOf at h
  cases hi : P.info? t with
  | none => simp [hi] at h
  | some i =>
    cases hd : P.underlying t with
    | none => simp [hi, hd] at h
    | some d => cases d <;> simp [hi, hd, tyD] at h; subst h; rfl

theorem tyOf_fld {t : TypeId} {f off : Nat} {u : TypeId} (h : fldOf (tyOf P t) f = some (off, u)) : ∃ fs F, P.underlying t = some (.struct fs) ∧ fs[f]? = some F ∧ F.offset = off ∧ F.type = u := by
  unfold fldOf tyOf at h
  cases hi : P.info? t with
  | none => simp [hi] at h
  | some i =>
    cases hd : P.underlying t with
    | none => simp [hi, hd] at h
    | some d =>
      cases d <;> simp [hi, hd, tyD] at h
      rename_i fs
      obtain ⟨F, hF, h1, h2⟩ := h
      exact ⟨fs, F, rfl, hF, h1, h2⟩

theorem run_isAgg' {t : TypeId} {d : TypeDesc} (h : P.underlying t = some d) (w : World) : (isAgg t).run P w = .ok (isAggD d) w := by
  unfold isAgg
  rw [Sem.run_bind, run_underlying h w]
  cases d <;> rfl
theorem run_sizeOf' {t : TypeId} {i : TypeInfo} (h : P.info? t = some i) (w : World) : (sizeOf t).run P w = .ok i.size w := by
  simp [sizeOf, typeInfo, h]
theorem run_zeroValue' {t : TypeId} {i : TypeInfo} {z : Value} (h : P.info? t = some i) (hz : i.zero = some z) (w : World) : (zeroValue t).run P w = .ok z w := by
  simp [zeroValue, typeInfo, h, hz]

/-- Reading a variable whose cells are known. -/
theorem run_loadVar' {t : TypeId} {i : TypeInfo} {d : TypeDesc} (hi : P.info? t = some i) (hd : P.underlying t = some d) (ad : Addr) (f : Nat → Value)
    (h : ∀ j, j < (if isAggD d then i.size else 1) → w.cell? (ad.add j) = some (f j)) :
    (loadVar t ad).run P w = .ok (if isAggD d then .agg ((List.range i.size).map f).toArray else f 0) w := by
  simp only [loadVar, Sem.run_bind, run_isAgg' hd, Result.andThen_ok]
  by_cases ha : isAggD d = true
  · simp only [ha, if_true] at h ⊢
    simp only [Sem.run_bind, run_sizeOf' hi, Result.andThen_ok, run_loadCells w ad i.size f h, Sem.run_pure]
  · simp only [ha, if_false, Bool.false_eq_true] at h ⊢
    have h0 := h 0 (by omega)
    have hz : ad.add 0 = ad := by simp [Addr.add]
    rw [hz] at h0
    simp [run_load, h0]

/-- What loadC tells of cells is what is read. -/
theorem loadC_sound {t : TypeId} {cs : List C} {av : AV} (hl : loadC (tyOf P t) cs = some av) (ad : Addr) (f : Nat → Value)
    (hc : ∀ (j : Nat) (x : C), cs[j]? = some x → w.cell? (ad.add j) = some (f j)) (H : ∀ (j : Nat) (x : C), cs[j]? = some x → CR w I β x (f j)) :
    ∃ v, (loadVar t ad).run P w = .ok v w ∧ AVR w I β av v := by
  unfold loadC at hl
  split at hl
  · rename_i hok
    obtain ⟨i, d, z, hi, hd, hz, hzs, hag, hsz, -, -⟩ := tyOf_ok hok
    split at hl
    · rename_i ha
      split at hl
      · rename_i hle
        simp only [Option.some.injEq] at hl
        subst hl
        rw [hag] at ha
        rw [hsz] at hle ⊢
        refine ⟨_, run_loadVar' hi hd ad f (fun j hj => ?_), ?_⟩
        · rw [ha, if_pos rfl] at hj
          exact hc j _ (List.getElem?_eq_getElem (by omega))
        · rw [ha, if_pos rfl]
          refine ⟨_, rfl, by simp; omega, fun j x v hx hv => ?_⟩
          have hj : j < i.size := by
            by_cases hj : j < i.size
            · exact hj
            · simp [List.getElem?_take, hj] at hx
          simp [hj] at hv
          subst hv
          exact H j x (by simpa [List.getElem?_take, hj] using hx)
      · cases hl
    · rename_i ha
      cases cs with
      | nil => cases hl
      | cons x r =>
        simp only [Option.some.injEq] at hl
        subst hl
        have hf : isAggD d = false := by rw [← hag]; simpa using ha
        refine ⟨_, run_loadVar' hi hd ad f (fun j hj => ?_), ?_⟩
        · rw [hf] at hj
          simp at hj
          subst hj
          exact hc 0 x rfl
        · rw [hf]
          exact H 0 x rfl
  · cases hl

end
end Go.Al
