import Derived.Test.YtbpicgilplnmoaaAl7
import Derived.Laws.MakeOwn
import Derived.Lib.ConvBytes
set_option linter.unusedVariables false
set_option linter.unusedSimpArgs false
namespace Go.Al
section
variable {P : Program} {st : St} {a : Act} {w : World} {I : Nat → Prop} {β : List Value} {S : Nat → Nat → Prop}

theorem tyOf_st {t : TypeId} (h : (tyOf P t).st = true) : ∃ i fs, P.info? t = some i ∧ P.underlying t = some (.struct fs) ∧ (tyOf P t).fields = fs.toList.map fun f => (f.offset, f.type) := by
  unfold tyOf at h ⊢
  cases hi : P.info? t with
  | none => simp [hi] at h
  | some i =>
    cases hd : P.underlying t with
    | none => simp [hi, hd] at h
    | some d => cases d <;> simp [hi, hd, tyD, isStruct] at h; exact ⟨i, _, rfl, rfl, by simp [tyD]⟩

theorem mapM_some {α β : Type} (f : α → Option β) (g : α → β) : ∀ (l : List α), (∀ x ∈ l, f x = some (g x)) → l.mapM f = some (l.map g)
  | [], _ => rfl
  | x :: l, h => by
    simp only [List.mapM_cons, h x (by simp), Option.bind_eq_bind, Option.bind_some, mapM_some f g l (fun y hy => h y (by simp [hy])), Option.pure_def, List.map_cons]

theorem build_sound (hr : RelV st a w I β S) {t : TypeId} {parts : Array (Nat × Operand)} {cs : List C} (hok : (tyOf P t).ok = true) (hst : (tyOf P t).st = true) (hall : (tyOf P t).fields.all (fun f => (tyOf P f.2).ok) = true)
    (h1 : (tyOf P t).zero.all (·.oneCell') = true) (hf : fillC P (tyOf P t) (parts.toList.map fun p => (p.1, st.ev p.2)) ((tyOf P t).zero.map zC) = some cs) :
    ∃ arr, (Instr.build t (parts.map fun (i, x) => (i, a.eval x))).run P w = .ok (.agg arr) w ∧ CsR w I β cs arr := by
  obtain ⟨i, d, z, hi, hd, hz, hzs, -, hsz, hze, -⟩ := tyOf_ok hok
  obtain ⟨i', fs, hi', hfs, hfl⟩ := tyOf_st hst
  have hall' : ∀ F ∈ fs.toList, (tyOf P F.type).ok = true := by
    intro F hF
    rw [hfl] at hall
    exact List.all_eq_true.1 hall (F.offset, F.type) (List.mem_map.2 ⟨F, hF, rfl⟩)
  have hsize : ∀ F ∈ fs.toList, (P.info? F.type).map (fun i => (F.offset, i.size)) = some (F.offset, (tyOf P F.type).size) := by
    intro F hF
    obtain ⟨j, d', z', hj, -, -, -, -, hs, -, -⟩ := tyOf_ok (hall' F hF)
    simp [hj, hs]
  have hplaces := mapM_some (fun f : Field => (P.info? f.type).map fun i => (f.offset, i.size)) (fun F => (F.offset, (tyOf P F.type).size)) fs.toList hsize
  have hz0 : CsR w I β ((tyOf P t).zero.map zC) z.cells := by
    rw [hze] at h1 ⊢
    exact zCs_sound h1
  obtain ⟨arr, harr, hcs⟩ := fill_sound hr hfs ((fs.toList.map fun F => (F.offset, (tyOf P F.type).size)).toArray[·]?) (by
      intro f off u hf hu
      obtain ⟨fs', F, hfs', hF, rfl, rfl⟩ := tyOf_fld hf
      rw [hfs] at hfs'
      obtain rfl : fs = fs' := by simpa using hfs'
      simp [hF]) parts.toList _ cs _ hz0 hf (by
      intro p hp off u hu
      obtain ⟨fs', F, hfs', hF, rfl, rfl⟩ := tyOf_fld hu
      rw [hfs] at hfs'
      obtain rfl : fs = fs' := by simpa using hfs'
      exact hall' F (by simpa using Array.mem_of_getElem? hF))
  refine ⟨arr, run_build w t _ arr ?_, hcs⟩
  unfold Program.built
  simp only [hi, hfs, hz, hplaces, Array.toList_map]
  exact harr

/-- An owned row's own value out of a zero's cell. -/
theorem zeroN_sound {z : Option ZE} {v : Value} (h : (match z with | some _ => isNilS v | Option.none => v.oneCell') = true) {T : Nat → Prop} : Own w I (zeroN z v) v T := by
  unfold zeroN
  cases z with
  | none => exact Own.v h
  | some s =>
    simp only at h ⊢
    unfold isNilS at h
    split at h
    · exact Own.nil _ rfl
    · cases h

theorem at2_replicate {α : Type} {n i j : Nat} {e : List α} {x : α} (h : at2 (Rw.rep n e) i j = some x) : i < n ∧ e[j]? = some x := at2_pos h

theorem make_sound (hr : RelV st a w I β S) {t e : TypeId} {l : Int} (ht : (tyOf P t).sl = some e) (hok : (tyOf P e).ok = true) (h0 : 0 ≤ l) (hs0 : (tyOf P e).size ≠ 0) (hzs : zsOk (tyOf P e) = true)
    (hb : l * ((tyOf P e).bytes + 1) ≤ maxN) :
    ∃ v w', (Instr.makeSlice t (.int .i64 l) (.int .i64 l)).run P w = .ok v w' ∧
      QPost st w I β S (.c (.h st.obs.length)) [.row (tyOf P e).size (Rw.rep l.toNat (zeroNs (tyOf P e))) []] v w' := by
  obtain ⟨i, d, z, hi, hd, hz, hzsz, -, hsz, hze, hby⟩ := tyOf_ok hok
  unfold maxN at hb
  rw [hby] at hb
  rw [hsz] at hs0
  have hb' : (l : Int) + l * (i.bytes : Int) ≤ 140737488355328 := by
    have : l * ((i.bytes : Int) + 1) = l + l * (i.bytes : Int) := by rw [Int.mul_add, Int.mul_one, Int.add_comm]
    omega
  have hnn : 0 ≤ l * (i.bytes : Int) := Int.mul_nonneg h0 (by omega)
  have hrun := run_make (P := P) w t e i z (tyOf_sl ht) hi hz .i64 .i64 l l h0 (Int.le_refl _) (by rw [Int.mul_comm]; omega) (by omega)
  refine ⟨_, _, hrun, QPost.one (b := .slice (some ⟨w.heap.size, 0, none⟩) l.toNat l.toNat) (Sn := fun x => x = w.heap.size) hr (Fr.alloc _ _ _) ?_ ?_ ?_⟩
  · rintro x rfl; exact ⟨Nat.le_refl _, by simp⟩
  · exact ⟨by rw [← hr.bl]; simp, rfl⟩
  · unfold zsOk at hzs
    simp only [Bool.and_eq_true, beq_iff_eq] at hzs
    have hzl : (zeroNs (tyOf P e)).length = i.size := by simp [zeroNs, hzs.1, hsz, hze, hzsz]
    have hlen : l.toNat ≤ maxN := by unfold maxN; omega
    refine RowR.of_own ?_
    rw [hsz]
    have hln : (Rw.rep l.toNat (zeroNs (tyOf P e))).n = l.toNat := rfl
    have hcell : ∀ j, j < i.size → (z.cells[j]?) = some (z.cells[j]!) := by
      intro j hj
      rw [← hzsz] at hj
      simp [hj]
    have := Own.sl (w := w.alloc (.cells (madeCells z.cells (l.toNat * i.size)) e)) (I := I) (sz := i.size) (xs := Rw.rep l.toNat (zeroNs (tyOf P e))) (S := fun x => x = w.heap.size)
      w.heap.size l.toNat e (madeCells z.cells (l.toNat * i.size)) (0, 0) (fun _ j => z.cells[j]!) (fun _ _ _ => False)
      (fun _ _ => hzl) (by rw [hln]; exact hlen) (by rw [hln]; exact Nat.le_refl _) (by unfold maxLen; omega) rfl
      (heap_alloc_new w _) (.inr (Nat.le_refl _)) (size_madeCells _ _)
      (fun i' j x hx => by
        obtain ⟨hi', hj⟩ := at2_replicate hx
        have hjl : j < i.size := by rw [← hzl]; exact (List.getElem?_eq_some_iff.1 hj).1
        have hlt : i' * i.size + j < l.toNat * i.size := by
          calc i' * i.size + j < i' * i.size + i.size := by omega
            _ = (i' + 1) * i.size := by rw [Nat.add_mul, Nat.one_mul]
            _ ≤ l.toNat * i.size := Nat.mul_le_mul_right _ hi'
        have hmod : (i' * i.size + j) % i.size = j := by rw [Nat.add_comm, Nat.add_mul_mod_self_right, Nat.mod_eq_of_lt hjl]
        simp [madeCells, hlt, hzsz, hmod])
      (fun i' j x hx => by
        obtain ⟨hi', hj⟩ := at2_replicate hx
        rw [show zeroNs (tyOf P e) = ((tyOf P e).zs.zip (tyOf P e).zero).map (fun p => zeroN p.1 p.2) from rfl, List.getElem?_map, Option.map_eq_some_iff] at hj
        obtain ⟨p, hp, rfl⟩ := hj
        have hp2 := List.all_eq_true.1 hzs.2 p (List.mem_of_getElem? hp)
        have hz2 : z.cells[j]! = p.2 := by
          have := (List.getElem?_zip_eq_some.1 hp).2
          rw [hze] at this
          have h3 : z.cells[j]? = some p.2 := by simpa using this
          rw [getElem!_def, h3]
        rw [hz2]
        exact zeroN_sound hp2) (by simp) (by simp)
    rw [hln] at this
    exact this

def intOf : List N → Int
  | [.v (.int .u8 n)] => n
  | _ => 0
theorem isB_iff {e : List N} (h : isB e = true) : e = [.v (.int .u8 (intOf e))] ∧ byteOf e = UInt8.ofNat (intOf e).toNat := by
  unfold isB at h
  split at h
  · exact ⟨rfl, rfl⟩
  · cases h

theorem conv_sound (hr : RelV st a w I β S) {s d : TypeId} {av : AV} {v : Value} (hv : AVR w I β av v) {K : AV → List Ob → Prop} (h : convK P st (tyOf P s) (tyOf P d) av K) :
    ∃ v' w' av' news, (convert s d v).run P w = .ok v' w' ∧ K av' news ∧ QPost st w I β S av' news v' w' := by
  unfold convK at h
  split at h
  · rename_i k n
    obtain ⟨rfl, -⟩ := hv.val
    obtain ⟨hok, h⟩ := h
    obtain ⟨k', hk, hK⟩ := is_iff h
    obtain ⟨i, d', z, hi, hd, -⟩ := tyOf_ok hok
    refine ⟨_, w, _, [], ?_, hK, QPost.same hr (AVR.of_val rfl)⟩
    simp [convert, run_underlying hd, run_underlying (tyOf_int hk), Conv.intToInt]
  · rename_i x
    obtain ⟨rfl, -⟩ := hv.val
    obtain ⟨hok, h⟩ := h
    obtain ⟨i, d', z, hi, hd, -⟩ := tyOf_ok hok
    split at h
    · rename_i hs
      refine ⟨_, w, _, [], ?_, h, QPost.same hr (AVR.of_val rfl)⟩
      simp [convert, run_underlying hd, run_underlying (tyOf_str hs)]
    · obtain ⟨e, he, h8, hn, hK⟩ := is_iff h
      have hrun := Lib.run_convert_string_bytes (P := P) w s d e x hd (tyOf_sl he) (tyOf_int h8)
      refine ⟨_, _, _, _, hrun, hK, QPost.one (b := .slice (some ⟨w.heap.size, 0, none⟩) x.size (grownCap w x.size 0 e)) (Sn := fun y => y = w.heap.size) hr ?_ ?_ ?_ ?_⟩
      · exact ⟨rfl, rfl, rfl, by rw [Lib.bytesWorld_size]; omega, fun b hb _ => Lib.bytesWorld_at_old w e x b hb⟩
      · rintro y rfl; exact ⟨Nat.le_refl _, by rw [Lib.bytesWorld_size]; omega⟩
      · exact ⟨by rw [← hr.bl]; simp, rfl⟩
      · refine RowR.of_own ?_
        have hln : (bytesRw x).n = x.size := rfl
        have hcap : x.size ≤ grownCap w x.size 0 e := grownCap_ge w _ _ _
        have hbs : x.data.size = x.size := rfl
        have hbc : (Lib.bytesCells w e x).size = grownCap w x.size 0 e * 1 := by
          simp only [Lib.bytesCells, Array.size_append, Array.size_map, Array.size_replicate, hbs, Nat.mul_one]
          omega
        have hmax : x.size ≤ maxLen := by unfold maxN at hn; unfold maxLen; omega
        have := Own.sl (w := Lib.bytesWorld w e x) (I := I) (sz := 1) (xs := bytesRw x) (S := fun y => y = w.heap.size)
          w.heap.size (grownCap w x.size 0 e) e (Lib.bytesCells w e x) ((Lib.bytesCells w e x).size, (Lib.bytesCells w e x).size + 1) (fun i _ => .int .u8 ((x.data.toList.getD i 0).toNat)) (fun _ _ _ => False)
          (fun _ _ => rfl) (by rw [hln]; exact hn) (by rw [hln]; exact hcap) (grownCap_le_maxLen w _ _ _ hmax) rfl
          (Lib.bytesWorld_at_new w e x) (.inl (Nat.le_refl _)) hbc
          (fun i j y hy => by
            obtain ⟨hi, hy⟩ := at2_pos hy
            have hj : j = 0 := by
              cases j with
              | zero => rfl
              | succ j => simp [bytesRw] at hy
            subst hj
            have hi : i < x.size := hi
            have := Lib.bytesWorld_cell w e x i hi
            rw [cells_at (Lib.bytesWorld_at_new w e x)] at this
            simpa using this)
          (fun i j y hy => by
            obtain ⟨hi, hy⟩ := at2_pos hy
            cases j with
            | zero =>
              simp only [bytesRw, List.getElem?_cons_zero, Option.some.injEq] at hy
              subst hy
              exact Own.v rfl
            | succ j => simp [bytesRw] at hy) (by simp) (by simp)
        rw [hln] at this
        exact this
  · rename_i j
    split at h
    · rename_i sz xs hobj
      obtain ⟨rfl, hs, h8, h⟩ := h
      obtain ⟨e, he, h8⟩ := is_iff h8
      obtain ⟨hall, hK⟩ := h
      let ns : List Int := (List.range xs.n).map fun i => intOf (xs.g i)
      have hn1 : ns.length = xs.n := by simp [ns]
      have hst : rwBytes xs = ⟨(ns.map fun n => UInt8.ofNat n.toNat).toArray⟩ := by
        unfold rwBytes
        congr 2
        simp only [ns, List.map_map]
        exact List.map_congr_left fun i hi => (isB_iff (hall i (List.mem_range.1 hi))).2
      have hn2 : ∀ i, i < xs.n → at2 xs i 0 = some (.v (.int .u8 (ns.getD i 0))) := by
        intro i hi
        rw [at2_of hi, (isB_iff (hall i hi)).1]
        simp [ns, hi]
      rw [hst] at hK
      have ho := hr.hdr hv hobj (by simp)
      refine ⟨.string ⟨(ns.map fun n => UInt8.ofNat n.toNat).toArray⟩, w, _, [], ?_, hK, QPost.same hr (AVR.of_val rfl)⟩
      clear_value ns
      rcases ho with ⟨h0, A, rfl⟩ | ⟨g, cap, e', cur, fr, c, F, rfl, hu, hn, hcap, hm, hg, hb, hfr, hsz, hc, H, -⟩
      · obtain rfl : ns = [] := List.eq_nil_of_length_eq_zero (by omega)
        cases A with
        | none => exact run_convert_bytes_nil w s e (tyOf_sl he) (tyOf_int h8) 0 0 d (tyOf_str hs)
        | some ad =>
          have := run_convert_bytes_arg (P := P) w s e (tyOf_sl he) (tyOf_int h8) ad.block ad.off 0 0 [] rfl (by simp) d (tyOf_str hs)
          simp [convert, run_underlying (tyOf_sl he), run_underlying (tyOf_str hs), run_underlying (tyOf_int h8), Conv.bytesToString, loadCells, loadCellsFrom]
          rfl
      · have := run_convert_bytes_arg (P := P) w s e (tyOf_sl he) (tyOf_int h8) g 0 xs.n cap ns hn1 (fun i hi => by
          have hx := hn2 i hi
          have h1 := hc i 0 _ hx
          have h2 := H i 0 _ hx (by rintro ⟨k, hk⟩; cases hk)
          generalize c i 0 = cv at h1 h2
          cases h2
          rw [cells_at hb]
          simpa using h1) d (tyOf_str hs)
        exact this
    · exact h.elim
  · exact h.elim

end
end Go.Al
