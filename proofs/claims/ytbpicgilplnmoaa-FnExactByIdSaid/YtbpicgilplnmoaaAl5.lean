import Derived.Test.YtbpicgilplnmoaaAl4
import Derived.Laws.Strings
import Derived.Laws.BytesArg
import Derived.Sort.Walk0
import Derived.WideShapes
set_option linter.unusedVariables false
set_option linter.unusedSimpArgs false
namespace Go.Al
section
variable {P : Program} {st : St} {a : Act} {w : World} {I : Nat → Prop} {β : List Value} {S : Nat → Nat → Prop}

theorem AVR.val {x v : Value} (h : AVR w I β (.c (.n (.v x))) v) : v = x ∧ x.oneCell' = true := by cases h with | v h => exact ⟨rfl, h⟩
theorem AVR.of_val {x : Value} (h : x.oneCell' = true) : AVR w I β (.c (.n (.v x))) x := Im.v h

theorem natArg_iff {av : AV} {v : Value} (hv : AVR w I β av v) {K : Int → Prop} (h : natArg av K) : ∃ n, v = .int .i64 n ∧ K n := by
  unfold natArg at h
  split at h
  · exact ⟨_, hv.val.1, h⟩
  · exact h.elim

theorem boolArg_iff {av : AV} {v : Value} (hv : AVR w I β av v) {K : Bool → Prop} (h : boolArg av K) : ∃ n, v = .bool n ∧ K n := by
  unfold boolArg at h
  split at h
  · exact ⟨_, hv.val.1, h⟩
  · exact h.elim

theorem Im.slice {sz : Nat} {xs : Rw N} {v : Value} (h : Im w I (.sl sz xs) v) : ∃ A cap, v = .slice A xs.n cap ∧ xs.n ≤ cap ∧ xs.n ≤ maxN := by
  cases h with
  | sl A cap ad c hu hn hcap hA hc H => exact ⟨A, cap, rfl, hcap, hn⟩

theorem RowR.slice {b : Value} {T : Nat → Prop} {sz : Nat} {xs : Rw N} {hl : List (Nat × Nat × Option Nat)} (h : RowR w I β b T sz xs hl) : ∃ A cap, b = .slice A xs.n cap ∧ xs.n ≤ cap ∧ xs.n ≤ maxN := by
  rcases h with ⟨h0, A, rfl⟩ | ⟨g, cap, e, cur, fr, c, F, rfl, hu, hn, hcap, hm, hg, hb, hfr, hs, hc, H, -, hF, hD⟩
  · exact ⟨A, 0, by rw [h0], by omega, by omega⟩
  · exact ⟨_, cap, rfl, hcap, hn⟩

theorem RelV.hdr (hr : RelV st a w I β S) {i : Nat} {o : Ob} {v : Value} (hv : AVR w I β (.c (.h i)) v) (h : st.obj i = o) (hne : o ≠ .none) : ObR w I β v (S i) o := by
  obtain ⟨b, hb, ho⟩ := hr.obj h hne
  obtain rfl := (Option.some.injEq _ _ ▸ hv.1.symm.trans hb : v = _)
  exact ho

theorem run_len_sl {t : TypeId} {ty : TypeId} {ts : Array TypeId} {vs : Array Value} (h : (tyOf P t).sl.isSome = true) {A : Option Addr} {n c : Nat} (ht : ts[0]? = some t) (hv : vs[0]? = some (.slice A n c)) :
    (Builtin.len_ ts ty vs).run P w = .ok (.int .i64 n) w := by
  obtain ⟨e, he⟩ := Option.isSome_iff_exists.1 h
  simp [Builtin.len_, ht, hv, run_underlying (tyOf_sl he), goInt]

/-- The length of whatever has one. -/
theorem len_sound (hr : RelV st a w I β S) {t ty : TypeId} {ts : Array TypeId} {vs : Array Value} (ht : ts[0]? = some t) {av : AV} {v : Value} (hv0 : vs[0]? = some v) (hv : AVR w I β av v) {K : AV → List Ob → Prop} (h : lenK st (tyOf P t) av K) :
    ∃ n : Int, (Builtin.len_ ts ty vs).run P w = .ok (.int .i64 n) w ∧ K (.c (.n (.v (.int .i64 n)))) [] := by
  unfold lenK at h
  split at h
  · rename_i s
    obtain ⟨rfl, -⟩ := hv.val
    exact ⟨s.size, by simp [Builtin.len_, ht, hv0, run_underlying (tyOf_str h.1), goInt], h.2⟩
  · obtain ⟨A, cap, rfl, -⟩ := Im.slice hv
    exact ⟨_, run_len_sl h.1 ht hv0, h.2⟩
  · obtain ⟨A, rfl⟩ := hv
    exact ⟨0, run_len_sl h.1 ht hv0, h.2⟩
  · rename_i i
    split at h
    · rename_i hobj
      obtain ⟨A, cap, rfl, -⟩ := RowR.slice (hr.hdr hv hobj (by simp))
      exact ⟨_, run_len_sl h.1 ht hv0, h.2⟩
    · rename_i hobj
      obtain ⟨A, cap, rfl, -⟩ := Im.slice (hr.hdr hv hobj (by simp))
      exact ⟨_, run_len_sl h.1 ht hv0, h.2⟩
    · exact h.elim
  · exact h.elim

theorem add_add (ad : Addr) (n m : Nat) : (ad.add n).add m = ad.add (n + m) := by
  unfold Addr.add
  by_cases hn : n = 0
  · simp [hn]
  · by_cases hm : m = 0
    · simp [hn, hm]
    · simp [hn, hm, Nat.add_assoc]


/-- The address of an element of an immutable slice. -/
theorem Im.elem {sz : Nat} {xs : Rw N} {v : Value} (h : Im w I (.sl sz xs) v) {i : Nat} (hi : i < xs.n) :
    ∃ ad cap, v = .slice (some ad) xs.n cap ∧ AVR w I β (.ra (xs.g i)) (.pointer (some (ad.add (i * sz)))) := by
  cases h with
  | sl A cap ad c hu hn hcap hA hc H =>
    obtain ⟨rfl, hI⟩ := hA (by omega)
    refine ⟨ad, cap, rfl, _, fun j => c i j, rfl, by rw [add_block]; exact hI, fun j x hx => ?_, fun j x hx => H i j x (by rw [at2_of hi]; exact hx)⟩
    rw [add_add]
    exact hc i j x (by rw [at2_of hi]; exact hx)

theorem run_indexAt {t e : TypeId} {i : TypeInfo} (ht : P.underlying t = some (.slice e)) (hi : P.info? e = some i) (ad : Addr) (n cap : Nat) (k : Int) (h0 : 0 ≤ k) (h1 : k < n) :
    (Instr.indexAt t (.slice (some ad) n cap) (.int .i64 k)).run P w = .ok (.pointer (some (ad.add (k.toNat * i.size)))) w := by
  simp [Instr.indexAt, asIntOf, run_underlying ht, run_sizeOf' hi, h0, h1]

theorem idx_sound (hr : RelV st a w I β S) {t e : TypeId} (ht : (tyOf P t).sl = some e) (hok : (tyOf P e).ok = true) {av : AV} {v : Value} (hv : AVR w I β av v) {k : Int} {K : AV → List Ob → Prop}
    (h : idxK P st (tyOf P e).size av k K) : ∃ v' av', (Instr.indexAt t v (.int .i64 k)).run P w = .ok v' w ∧ K av' [] ∧ AVR w I β av' v' := by
  obtain ⟨i, d, z, hi, hd, hz, hzs, -, hsz, -, -⟩ := tyOf_ok hok
  have ht' := tyOf_sl ht
  unfold idxK at h
  split at h
  · rename_i sz xs
    obtain ⟨rfl, h0, hlt, hK⟩ := h
    obtain ⟨ad, cap, rfl, hra⟩ := Im.elem (β := β) hv (i := k.toNat) (by omega)
    refine ⟨_, _, run_indexAt ht' hi ad _ cap k h0 (by omega), hK, ?_⟩
    rw [hsz] at hra
    exact hra
  · rename_i j
    split at h
    · rename_i sz xs hl hobj
      obtain ⟨rfl, h0, h1, hK⟩ := h
      have ho := hr.hdr hv hobj (by simp)
      have hv2 := hv.1
      rcases ho with ⟨hn0, -⟩ | ⟨g, cap, e', cur, fr, c, F, rfl, -⟩
      · omega
      · refine ⟨_, _, run_indexAt ht' hi _ _ cap k h0 h1, hK, g, _, cap, hv2, ?_⟩
        rw [add0, hsz, Nat.add_zero]
    · rename_i sz xs hobj
      obtain ⟨rfl, h0, hlt, hK⟩ := h
      have ho := hr.hdr hv hobj (by simp)
      obtain ⟨ad, cap, rfl, hra⟩ := Im.elem (β := β) ho (i := k.toNat) (by omega)
      refine ⟨_, _, run_indexAt ht' hi ad _ cap k h0 (by omega), hK, ?_⟩
      rw [hsz] at hra
      exact hra
    · exact h.elim
  · exact h.elim

theorem fieldAddr_sound (hr : RelV st a w I β S) {t : TypeId} {f : Nat} {av : AV} {v : Value} (hv : AVR w I β av v) {K : AV → List Ob → Prop} (h : fieldAddrK P (tyOf P t) av f K) :
    ∃ v' av', (Instr.fieldAt t v f).run P w = .ok v' w ∧ K av' [] ∧ AVR w I β av' v' := by
  obtain ⟨⟨off, u⟩, hf, hok, hne, h⟩ := is_iff h
  obtain ⟨i, d, z, hi, hd, hz, hzs, -, hsz, -, -⟩ := tyOf_ok hok
  obtain ⟨fs, F, hfs, hF, rfl, rfl⟩ := tyOf_fld hf
  rw [hsz] at hne
  have key : ∀ ad : Addr, (Instr.fieldAt t (.pointer (some ad)) f).run P w = .ok (.pointer (some (ad.add F.offset))) w := by
    intro ad
    simp [Instr.fieldAt, Instr.sureAddr, run_underlying hfs, hF, fieldPlace, run_sizeOf' hi, hne]
  split at h
  · obtain ⟨g, hg, rfl⟩ := hv
    exact ⟨_, _, key _, h, g, hg, by rw [add00]⟩
  · obtain ⟨g, n, cap, hg, rfl⟩ := hv
    exact ⟨_, _, key _, h, g, n, cap, hg, by rw [add00, Nat.add_assoc]⟩
  · rename_i cs
    obtain ⟨ad, c, rfl, hI, hc, H⟩ := hv
    refine ⟨_, _, key _, h, _, fun j => c (F.offset + j), rfl, by rw [add_block]; exact hI, fun j x hx => ?_, fun j x hx => H _ x (by simpa using hx)⟩
    rw [add_add]
    exact hc _ x (by simpa using hx)
  · exact h.elim

theorem field_sound {t : TypeId} {f : Nat} {cs : List C} {v : Value} (hv : AVR w I β (.a cs) v) {K : AV → List Ob → Prop}
    (h : is (fldOf (tyOf P t) f) fun p => is (loadC (tyOf P p.2) (cs.drop p.1)) fun av => K av []) :
    ∃ v' av', (Instr.field t v f).run P w = .ok v' w ∧ K av' [] ∧ AVR w I β av' v' := by
  obtain ⟨⟨off, u⟩, hf, h⟩ := is_iff h
  obtain ⟨av', hl, hK⟩ := is_iff h
  obtain ⟨fs, F, hfs, hF, rfl, rfl⟩ := tyOf_fld hf
  obtain ⟨arr, rfl, hsz, hc⟩ := hv
  simp only at hl
  unfold loadC at hl
  split at hl
  · rename_i hok
    obtain ⟨i, d, z, hi, hd, hz, hzs, hag, hsi, -, -⟩ := tyOf_ok hok
    split at hl
    · rename_i ha
      split at hl
      · rename_i hle
        simp only [Option.some.injEq] at hl
        subst hl
        rw [hag] at ha
        rw [hsi] at hle hK
        simp only [List.length_drop] at hle
        refine ⟨.agg (arr.extract F.offset (F.offset + i.size)), _, ?_, hK, ?_⟩
        · simp [Instr.field, run_underlying hfs, hF, asAgg, part, run_isAgg' hd, ha, run_sizeOf' hi]
        · refine ⟨_, rfl, by simp; omega, fun j x v hx hv => ?_⟩
          have hj : j < i.size := by
            by_cases hj : j < i.size
            · exact hj
            · simp [List.getElem?_take, hj] at hx
          rw [List.getElem?_take, if_pos hj] at hx
          rw [Array.getElem?_extract] at hv
          split at hv
          · exact hc _ x v (by simpa using hx) hv
          · cases hv
      · cases hl
    · rename_i ha
      cases hcs : cs.drop F.offset with
      | nil => rw [hcs] at hl; cases hl
      | cons x r =>
        rw [hcs] at hl
        simp only [Option.some.injEq] at hl
        subst hl
        have hfl : isAggD d = false := by rw [← hag]; simpa using ha
        have hx : cs[F.offset]? = some x := by
          have := congrArg (·[0]?) hcs
          simpa using this
        have hlt : F.offset < arr.size := by rw [hsz]; exact (List.getElem?_eq_some_iff.1 hx).1
        refine ⟨arr[F.offset], _, ?_, hK, hc _ x _ hx (by simp [hlt])⟩
        simp [Instr.field, run_underlying hfs, hF, asAgg, part, run_isAgg' hd, hfl, hlt]
  · cases hl

end
end Go.Al
