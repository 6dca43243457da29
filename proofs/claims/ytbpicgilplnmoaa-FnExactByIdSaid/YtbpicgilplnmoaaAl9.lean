import Derived.Test.YtbpicgilplnmoaaAl8
set_option linter.unusedVariables false
set_option linter.unusedSimpArgs false
namespace Go.Al
section
variable {P : Program} {st : St} {a : Act} {w : World} {I : Nat → Prop} {β : List Value} {S : Nat → Nat → Prop}

theorem captured_sound (hr : RelV st a w I β S) : ∀ {l : List Operand} {cs : List C}, allSome (l.map fun x => match st.ev x with | .c x => some x | _ => Option.none) = some cs → CsR w I β cs (l.map a.eval).toArray := by
  intro l cs h
  refine ⟨by have := allSome_length h; simp at this ⊢; omega, fun j x v hx hv => ?_⟩
  have h1 := allSome_get h j x hx
  simp only [List.getElem?_map, Option.map_eq_some_iff] at h1
  obtain ⟨o, ho, hc⟩ := h1
  have hv' : a.eval o = v := by simpa [ho] using hv
  subst hv'
  have he := ev_sound hr o
  split at hc
  · rename_i y hy
    rw [hy] at he
    simp only [Option.some.injEq] at hc
    subst hc
    exact he
  · cases hc

/-- Every effect-free operation does what the calculus says. -/
theorem vcQ_sound (hr : RelV st a w I β S) {o : Oper} {K : AV → List Ob → Prop} (h : vcQ P o st K) :
    ∃ v w' av news, (execOp a.eval o).run P w = .ok (.value v) w' ∧ K av news ∧ QPost st w I β S av news v w' := by
  obtain ⟨dst, op, ty, pos, after, guard⟩ := o
  unfold vcQ at h
  split at h <;> rename_i hop <;> first | exact h.elim | (simp only at hop; subst hop)
  · -- move
    exact ⟨_, w, _, _, rfl, h, QPost.same hr (ev_sound hr _)⟩
  · exact ⟨_, w, _, _, rfl, h, QPost.same hr (ev_sound hr _)⟩
  · -- pick
    rename_i c x y
    unfold pickK at h
    split at h
    · rename_i b hc
      have h1 := ev_sound hr c
      rw [hc] at h1
      have hb := h1.val.1
      cases b with
      | true => exact ⟨_, w, _, _, by simp [execOp, hb, asBool], h, QPost.same hr (ev_sound hr x)⟩
      | false => exact ⟨_, w, _, _, by simp [execOp, hb, asBool], h, QPost.same hr (ev_sound hr y)⟩
    · exact h.elim
  · -- alloc
    rename_i e
    obtain ⟨hok, h1, hK⟩ := h
    obtain ⟨i, d, z, hi, hd, hz, hzs, -, hsz, hze, -⟩ := tyOf_ok hok
    rw [hze] at h1 hK
    refine ⟨_, _, _, _, ?_, hK, QPost.box hr (zCs_sound h1) e⟩
    simp [execOp, Instr.alloc, run_zeroValue' hi hz, newVar, newRow]
  · -- box
    rename_i e x
    obtain ⟨cs, hcs, hK⟩ := is_iff h
    refine ⟨_, _, _, _, ?_, hK, QPost.box hr (partCs_sound (ev_sound hr x) hcs) e⟩
    simp [execOp, Instr.box, newVar, newRow]
  · -- build
    rename_i t parts
    obtain ⟨hok, hst, hall, h1, h⟩ := h
    obtain ⟨cs, hcs, hK⟩ := is_iff h
    obtain ⟨arr, hrun, hc⟩ := build_sound hr hok hst hall h1 hcs
    refine ⟨.agg arr, w, _, _, ?_, hK, QPost.same hr ⟨arr, rfl, hc⟩⟩
    simp only [execOp, Sem.run_bind, hrun, Result.andThen_ok, Sem.run_pure]
  · -- load
    rename_i t x
    obtain ⟨v, av, hrun, hK, hav⟩ := load_sound (P := P) hr (ev_sound hr x) h
    exact ⟨v, w, _, _, by simp only [execOp, Sem.run_bind, hrun, Result.andThen_ok, Sem.run_pure], hK, QPost.same hr hav⟩
  · -- binOp
    rename_i op t x y ty2
    split at h
    · rename_i v u hx hy
      have h1 := ev_sound hr x
      have h2 := ev_sound hr y
      rw [hx] at h1
      rw [hy] at h2
      obtain ⟨r, hrun, hK, hr1⟩ := bin_sound (P := P) (w := w) (x := x) (y := y) h
      refine ⟨r, w, _, _, ?_, hK, QPost.same hr (AVR.of_val hr1)⟩
      simp only [execOp, h1.val.1, h2.val.1]
      simp only [Sem.run_bind] at hrun ⊢
      rw [hrun]
      rfl
    · exact h.elim
  · -- unOp
    rename_i op t x
    have h1 := ev_sound hr x
    split at h
    · rename_i b hx
      rw [hx] at h1
      refine ⟨.bool (!b), w, _, _, ?_, h, QPost.same hr (AVR.of_val rfl)⟩
      simp [execOp, h1.val.1, Op.unary]
    · rename_i k n hx
      rw [hx] at h1
      refine ⟨.int k (k.wrap (0 - n)), w, _, _, ?_, h, QPost.same hr (AVR.of_val rfl)⟩
      simp [execOp, h1.val.1, Op.unary, Op.intArith]
    · exact h.elim
  · -- convert
    rename_i s d x
    obtain ⟨v, w', av, news, hrun, hK, hq⟩ := conv_sound (P := P) hr (ev_sound hr x) h
    exact ⟨v, w', av, news, by simp only [execOp, Sem.run_bind, hrun, Result.andThen_ok, Sem.run_pure], hK, hq⟩
  · -- slice
    rename_i t x lo hi mx
    obtain ⟨v, av, hrun, hK, hav⟩ := slice_sound (P := P) hr h
    exact ⟨v, w, _, _, by simp only [execOp, Sem.run_bind, hrun, Result.andThen_ok, Sem.run_pure], hK, QPost.same hr hav⟩
  · -- fieldAddr
    rename_i t x f
    obtain ⟨v, av, hrun, hK, hav⟩ := fieldAddr_sound (P := P) hr (ev_sound hr x) h
    exact ⟨v, w, _, _, by simp only [execOp, Sem.run_bind, hrun, Result.andThen_ok, Sem.run_pure], hK, QPost.same hr hav⟩
  · -- field
    rename_i t x f
    split at h
    · rename_i cs hx
      have h1 := ev_sound hr x
      rw [hx] at h1
      obtain ⟨v, av, hrun, hK, hav⟩ := field_sound (P := P) h1 h
      exact ⟨v, w, _, _, by simp only [execOp, Sem.run_bind, hrun, Result.andThen_ok, Sem.run_pure], hK, QPost.same hr hav⟩
    · exact h.elim
  · -- indexAddr
    rename_i t x i
    obtain ⟨e, he, h⟩ := is_iff h
    obtain ⟨k, hk, hok, h⟩ := natArg_iff (ev_sound hr i) h
    obtain ⟨v, av, hrun, hK, hav⟩ := idx_sound (P := P) hr he hok (ev_sound hr x) h
    exact ⟨v, w, _, _, by simp only [execOp, hk, Sem.run_bind, hrun, Result.andThen_ok, Sem.run_pure], hK, QPost.same hr hav⟩
  · -- index
    rename_i t x i
    obtain ⟨k, hk, h⟩ := natArg_iff (ev_sound hr i) h
    split at h
    · rename_i s hx
      have h1 := ev_sound hr x
      rw [hx] at h1
      obtain ⟨hs, h0, h⟩ := h
      obtain ⟨b, hb, hK⟩ := is_iff h
      refine ⟨.int .u8 b.toNat, w, _, _, ?_, hK, QPost.same hr (AVR.of_val rfl)⟩
      have hb' : s[k.toNat]? = some b := hb
      simp [execOp, h1.val.1, hk, Instr.index, asIntOf, run_underlying (tyOf_str hs), h0, hb']
    · exact h.elim
  · -- extract
    rename_i x i
    split at h
    · rename_i vs hx
      have h1 := ev_sound hr x
      rw [hx] at h1
      obtain ⟨arr, harr, hsz, hc⟩ := h1
      obtain ⟨k, hk, hK⟩ := is_iff h
      have hlt : i < arr.size := by rw [hsz]; exact (List.getElem?_eq_some_iff.1 hk).1
      have h2 := hc i k arr[i] hk (by simp [hlt])
      refine ⟨arr[i], w, _, _, ?_, hK, QPost.same hr ?_⟩
      · simp [execOp, harr, Instr.extract, hlt]
      · cases k <;> exact h2
    · exact h.elim
  · -- nilCheck
    rename_i x
    have h1 := ev_sound hr x
    split at h
    · rename_i i off hx
      rw [hx] at h1
      have h2 := h1
      obtain ⟨g, hg, hv⟩ := h1
      refine ⟨a.eval x, w, _, _, ?_, h, QPost.same hr h2⟩
      simp [execOp, hv]
    · rename_i cs hx
      rw [hx] at h1
      have h2 := h1
      obtain ⟨ad, c, hv, -⟩ := h1
      refine ⟨a.eval x, w, _, _, ?_, h, QPost.same hr h2⟩
      simp [execOp, hv]
    · rename_i i sz idx f hx
      rw [hx] at h1
      have h2 := h1
      obtain ⟨g, n, cap, hg, hv⟩ := h1
      refine ⟨a.eval x, w, _, _, ?_, h, QPost.same hr h2⟩
      simp [execOp, hv]
    · rename_i f cs hx
      rw [hx] at h1
      have h2 := h1
      obtain ⟨arr, hv, -⟩ := h1
      refine ⟨a.eval x, w, _, _, ?_, h, QPost.same hr h2⟩
      simp [execOp, hv]
    · exact h.elim
  · -- makeFunc
    rename_i f first captured
    obtain ⟨h0, h⟩ := h
    obtain ⟨cs, hcs, hK⟩ := is_iff h
    have := captured_sound hr hcs
    refine ⟨.func (.func f) #[] (captured.map a.eval), w, _, _, ?_, hK, QPost.same hr ⟨_, rfl, ?_⟩⟩
    · have h1 : first = #[] := Array.eq_empty_of_size_eq_zero h0
      simp [execOp, Instr.makeFunc, h1]
    · have e : (captured.toList.map a.eval).toArray = captured.map a.eval := by apply Array.ext'; simp only [Array.toList_map]
      rwa [e] at this
  · -- makeSlice
    rename_i t len cap
    obtain ⟨e, he, h⟩ := is_iff h
    obtain ⟨l, hl, h⟩ := natArg_iff (ev_sound hr len) h
    obtain ⟨c, hc, rfl, h0, hok, hs0, hzs, hb, hK⟩ := natArg_iff (ev_sound hr cap) h
    obtain ⟨v, w', hrun, hq⟩ := make_sound hr he hok h0 hs0 hzs hb
    exact ⟨v, w', _, _, by simp only [execOp, hl, hc, Sem.run_bind, hrun, Result.andThen_ok, Sem.run_pure], hK, hq⟩
  · -- len
    rename_i args ts
    obtain ⟨x, hx, h⟩ := is_iff h
    obtain ⟨t, ht, h⟩ := is_iff h
    obtain ⟨n, hrun, hK⟩ := len_sound (P := P) (ty := ty) hr (vs := args.map a.eval) ht (by simp [hx]) (ev_sound hr x) h
    refine ⟨_, w, _, _, ?_, hK, QPost.same hr (AVR.of_val rfl)⟩
    simp [execOp, resolve, invoke, builtin, hrun]
  · -- max
    rename_i args ts
    split at h
    · rename_i x y hxy
      split at h
      · rename_i k m k' n hx hy
        have h1 := ev_sound hr x
        have h2 := ev_sound hr y
        rw [hx] at h1
        rw [hy] at h2
        refine ⟨_, w, _, _, ?_, h, QPost.same hr (AVR.of_val rfl)⟩
        have e : args = #[x, y] := by rw [← Array.toArray_toList (xs := args), hxy]
        subst e
        simp [execOp, resolve, invoke, builtin, Builtin.max_, Builtin.max2, h1.val.1, h2.val.1]
      · exact h.elim
    · exact h.elim
  · rename_i args ts
    split at h
    · rename_i x y hxy
      split at h
      · rename_i k m k' n hx hy
        have h1 := ev_sound hr x
        have h2 := ev_sound hr y
        rw [hx] at h1
        rw [hy] at h2
        refine ⟨_, w, _, _, ?_, h, QPost.same hr (AVR.of_val rfl)⟩
        have e : args = #[x, y] := by rw [← Array.toArray_toList (xs := args), hxy]
        subst e
        simp [execOp, resolve, invoke, builtin, Builtin.min_, Builtin.min2, h1.val.1, h2.val.1]
      · exact h.elim
    · exact h.elim

end
end Go.Al
