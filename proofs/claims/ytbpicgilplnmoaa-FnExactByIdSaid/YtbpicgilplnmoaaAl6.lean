import Derived.Test.YtbpicgilplnmoaaAl5
set_option linter.unusedVariables false
set_option linter.unusedSimpArgs false
namespace Go.Al
section
variable {P : Program} {st : St} {a : Act} {w : World} {I : Nat → Prop} {β : List Value} {S : Nat → Nat → Prop}

/-! ### Slices of strings and immutable slices -/
theorem run_bound {x : Int} {y : Nat} (h0 : 0 ≤ x) (h1 : x ≤ y) (code : BoundsCode) : (Instr.sliceBound (.int .i64 x) y code).run P w = .ok x.toNat w := by
  simp [Instr.sliceBound, asIntOf, h0, h1]

theorem optArg_iff {x : Option Operand} (hr : RelV st a w I β S) {d : Int} {K : Int → Prop} (h : optArg (x.map st.ev) d K) :
    ∃ n, K n ∧ ((x.map a.eval = some (.int .i64 n)) ∨ (x.map a.eval = Option.none ∧ n = d)) := by
  cases x with
  | none => exact ⟨d, h, .inr ⟨rfl, rfl⟩⟩
  | some x =>
    obtain ⟨n, hn, hK⟩ := natArg_iff (ev_sound hr x) h
    exact ⟨n, hK, .inl (by simp [hn])⟩

theorem run_bounds2 {sl : Bool} {len cap : Nat} {lo hi : Option Value} {l h : Int} (hl : lo = some (.int .i64 l) ∨ (lo = Option.none ∧ l = 0)) (hh : hi = some (.int .i64 h) ∨ (hi = Option.none ∧ h = len))
    (h0 : 0 ≤ l) (h1 : l ≤ h) (h2 : h ≤ cap) : (Instr.sliceBounds sl len cap lo hi Option.none).run P w = .ok (l.toNat, h.toNat, cap) w := by
  have hle : l ≤ (h.toNat : Int) := by omega
  have e1 : ∀ c, (Instr.sliceBound (.int .i64 h) cap c).run P w = .ok h.toNat w := fun c => run_bound (by omega) h2 c
  have e2 : ∀ c, (Instr.sliceBound (.int .i64 l) h.toNat c).run P w = .ok l.toNat w := fun c => run_bound h0 hle c
  rcases hl with rfl | ⟨rfl, rfl⟩ <;> rcases hh with rfl | ⟨rfl, rfl⟩
  · simp [Instr.sliceBounds, e1, e2]
  · simp only [Int.toNat_natCast] at e2
    simp [Instr.sliceBounds, e2]
  · simp [Instr.sliceBounds, e1]
  · simp [Instr.sliceBounds]


theorem at2_sub {α : Type} {xs : Rw α} {l h i j : Nat} {x : α} (h2 : h ≤ xs.n) (hx : at2 (xs.sub l h) i j = some x) : at2 xs (l + i) j = some x := by
  obtain ⟨h1, h3⟩ := at2_pos hx
  have h4 : i < h - l := h1
  rw [at2_of (by omega)]
  exact h3

/-- A piece of an immutable slice. -/
theorem Im.sub {sz : Nat} {xs : Rw N} {A : Option Addr} {n cap : Nat} (h : Im w I (.sl sz xs) (.slice A n cap)) {l hi : Nat} (h1 : l ≤ hi) (h2 : hi ≤ xs.n) :
    Im w I (.sl sz (xs.sub l hi)) (.slice (if cap = l then A else A.map (·.add (l * sz))) (hi - l) (cap - l)) := by
  generalize hv : Value.slice A n cap = v at h
  cases h with
  | sl A' cap' ad c hu hn hcap hA hc H =>
    cases hv
    have hn' : (xs.sub l hi).n = hi - l := rfl
    refine Im.sl (xs := xs.sub l hi) _ _ (ad.add (l * sz)) (fun i j => c (l + i) j) (fun i h => hu (l + i) (by rw [hn'] at h; omega)) (by rw [hn']; omega)
      (by rw [hn']; omega) (fun hne => ?_) (fun i j x hx => ?_) (fun i j x hx => ?_)
    · have hlt : l < hi := by rw [hn'] at hne; omega
      obtain ⟨rfl, hI⟩ := hA (by omega)
      rw [if_neg (by omega)]
      exact ⟨rfl, by rw [add_block]; exact hI⟩
    · rw [add_add, ← Nat.add_assoc, ← Nat.add_mul]
      exact hc _ _ x (at2_sub h2 hx)
    · exact H _ _ x (at2_sub h2 hx)

theorem slice_sound (hr : RelV st a w I β S) {t : TypeId} {x : Operand} {lo hi mx : Option Operand} {K : AV → List Ob → Prop}
    (h : sliceK P st (tyOf P t) (st.ev x) (lo.map st.ev) (hi.map st.ev) (mx.map st.ev) K) :
    ∃ v' av', (Instr.sliceAt t (a.eval x) (lo.map a.eval) (hi.map a.eval) (mx.map a.eval)).run P w = .ok v' w ∧ K av' [] ∧ AVR w I β av' v' := by
  have hv := ev_sound hr x
  unfold sliceK at h
  split at h
  · rename_i s hx hm
    rw [hx] at hv
    obtain ⟨hv, -⟩ := hv.val
    obtain ⟨l, h, hl⟩ := optArg_iff hr h
    obtain ⟨u, h, hu⟩ := optArg_iff hr h
    obtain ⟨hs, h0, h1, h2, hK⟩ := h
    have hm' : mx = Option.none := by cases mx with | none => rfl | some m => simp at hm
    subst hm'
    refine ⟨.string (s.extract l.toNat u.toNat), _, ?_, hK, Im.v rfl⟩
    rw [hv]
    simp [Instr.sliceAt, Instr.slice, run_underlying (tyOf_str hs), run_bounds2 (P := P) (w := w) (sl := false) hl hu h0 h1 h2]
  · rename_i sz xs hx hm
    rw [hx] at hv
    obtain ⟨l, h, hl⟩ := optArg_iff hr h
    obtain ⟨u, h, hu⟩ := optArg_iff hr h
    obtain ⟨h0, h1, h2, hty, hK⟩ := h
    obtain ⟨e, he, hok, hsz⟩ := is_iff hty
    have hm' : mx = Option.none := by cases mx with | none => rfl | some m => simp at hm
    subst hm'
    obtain ⟨i, d, z, hi', hd, hz, hzs, -, hsi, -, -⟩ := tyOf_ok hok
    obtain ⟨A, cap, hva, hcap, hn⟩ := Im.slice hv
    have hsub := Im.sub (l := l.toNat) (hi := u.toNat) (hva ▸ hv) (by omega) (by omega)
    refine ⟨_, _, ?_, hK, hsub⟩
    rw [hva]
    have hb := run_bounds2 (P := P) (w := w) (sl := true) (cap := cap) hl hu h0 h1 (by omega)
    simp [Instr.sliceAt, Instr.slice, run_underlying (tyOf_sl he), hb, run_sizeOf' hi', ← hsz, hsi]
  · rename_i hx hm
    rw [hx] at hv
    obtain ⟨A, hva⟩ := hv
    obtain ⟨l, h, hl⟩ := optArg_iff hr h
    obtain ⟨u, h, hu⟩ := optArg_iff hr h
    obtain ⟨hty, rfl, rfl, hK⟩ := h
    obtain ⟨e, he, hok⟩ := is_iff hty
    obtain ⟨i, d, z, hi', hd, hz, hzs, -, hsi, -, -⟩ := tyOf_ok hok
    have hm' : mx = Option.none := by cases mx with | none => rfl | some m => simp at hm
    subst hm'
    refine ⟨.slice A 0 0, _, ?_, hK, A, rfl⟩
    rw [hva]
    have hb := run_bounds2 (P := P) (w := w) (sl := true) (len := 0) (cap := 0) hl hu (by omega) (by omega) (by omega)
    simp [Instr.sliceAt, Instr.slice, run_underlying (tyOf_sl he), hb, run_sizeOf' hi']
  · rename_i sz xs m hx hm
    rw [hx] at hv
    obtain ⟨l, h, hl⟩ := optArg_iff hr h
    obtain ⟨u, h, hu⟩ := optArg_iff hr h
    cases mx with
    | none => simp at hm
    | some mo =>
      simp only [Option.map_some, Option.some.injEq] at hm
      subst hm
      obtain ⟨q, hq, h⟩ := natArg_iff (ev_sound hr mo) h
      obtain ⟨hsome, hty, rfl, rfl, rfl, hK⟩ := h
      obtain ⟨e, he, hok⟩ := is_iff hty
      obtain ⟨i, d, z, hi', hd, hz, hzs, -, hsi, -, -⟩ := tyOf_ok hok
      obtain ⟨A, cap, hva, hcap, hn⟩ := Im.slice hv
      cases hi with
      | none => simp at hsome
      | some ho =>
        have hu' : a.eval ho = .int .i64 0 := by rcases hu with hu | ⟨hu, -⟩ <;> simp at hu; exact hu
        refine ⟨.slice A 0 0, _, ?_, hK, A, rfl⟩
        rw [hva]
        have b1 := run_bound (P := P) (w := w) (x := 0) (y := cap) (by omega) (by omega) .slice3Acap
        have b2 := run_bound (P := P) (w := w) (x := 0) (y := 0) (by omega) (by omega) .slice3B
        have b3 := run_bound (P := P) (w := w) (x := 0) (y := 0) (by omega) (by omega) .slice3C
        rcases hl with hl | ⟨hl, -⟩ <;>
          simp [Instr.sliceAt, Instr.slice, run_underlying (tyOf_sl he), Instr.sliceBounds, hl, hu', hq, b1, b2, b3, run_sizeOf' hi']
  · exact h.elim

/-! ### Numbers, strings, bools -/
theorem toList_inj {x y : ByteArray} : (x.toList == y.toList) = decide (x = y) := by
  by_cases h : x = y
  · simp [h]
  · have : ¬ x.toList = y.toList := fun e => h (bytes_inj' e)
    simp [h, this]
where
  bytes_inj' {a b : ByteArray} (h : a.toList = b.toList) : a = b := by
    rw [ByteArray.toList_eq, ByteArray.toList_eq] at h
    cases a; cases b
    simp at h
    simp [h]

theorem beq_eq_decide_list (x y : List UInt8) : (x == y) = decide (x = y) := by
  by_cases h : x = y <;> simp [h]
theorem beq_eq_decide_int (x y : Int) : (x == y) = decide (x = y) := by
  by_cases h : x = y <;> simp [h]

theorem lt_or_eq_total (x y : List UInt8) : (decide (x < y) || decide (x = y)) = !decide (y < x) := by
  by_cases h1 : y < x
  · have h2 : ¬ x < y := List.lt_asymm h1
    have h3 : ¬ x = y := by rintro rfl; exact List.lt_irrefl _ h1
    simp [h1, h2, h3]
  · have h4 : x ≤ y := List.not_lt.1 h1
    rcases List.le_iff_lt_or_eq.1 h4 with h | h <;> simp [h, h1]

theorem bytesLess_eq' (x y : List UInt8) : Op.bytesLess x y = decide (x < y) := Go.Proofs.bytesLess_eq x y

theorem tyOf_bl {t : TypeId} (h : (tyOf P t).bl = true) : P.underlying t = some .bool := by
  unfold tyOf at h
  cases hi : P.info? t with
  | none => simp [hi] at h
  | some i =>
    cases hd : P.underlying t with
    | none => simp [hi, hd] at h
    | some d => cases d <;> simp [hi, hd, tyD] at h; rfl

theorem run_equalIn_bool {t : TypeId} (ht : P.underlying t = some .bool) (p q : Bool) : (Op.equalIn Op.maxDepth t (.bool p) (.bool q)).run P w = .ok (p == q) w := by
  show (Op.equalIn (9999 + 1) t (.bool p) (.bool q)).run P w = _
  rw [Op.equalIn, Sem.run_bind, run_underlying ht]
  rfl

theorem bin_sound {op : BinOp} {t : TypeId} {x y : Operand} {v u : Value} {K : Value → Prop} (h : binK op (tyOf P t) v u K) :
    ∃ r, (do eqGuard op t x y v u; binOp op t v u).run P w = .ok r w ∧ K r ∧ r.oneCell' = true := by
  unfold binK at h
  split at h
  · rename_i k i k' j
    have hg : (eqGuard op t x y (.int k i) (.int k' j)).run P w = .ok () w := by
      unfold eqGuard
      cases op <;> simp
    cases op <;> simp only [cmpI, arI, shI, isDiv, is, reduceCtorEq, false_implies, true_and, forall_const] at h <;>
      first
      | (obtain ⟨rfl, h0, hK⟩ := h; refine ⟨_, ?_, hK, rfl⟩; rw [Sem.run_bind, hg]; simp [binOp, Op.intDiv, h0]; done)
      | (obtain ⟨rfl, hK⟩ := h; refine ⟨_, ?_, hK, rfl⟩; rw [Sem.run_bind, hg]; simp [binOp, Op.intArith, Op.intBits, Op.intCmp, bne]; done)
      | (obtain ⟨rfl, hK⟩ := h; refine ⟨_, ?_, hK, rfl⟩; rw [Sem.run_bind, hg]; simp only [Result.andThen_ok, binOp, ne_eq, not_true_eq_false, if_false, Op.intCmp, beq_eq_decide_int, bne]; rfl)
      | (obtain ⟨h0, hK⟩ := h; refine ⟨_, ?_, hK, rfl⟩; rw [Sem.run_bind, hg]; simp [binOp, Op.shift, show ¬ j < 0 by omega]; done)
      | exact (And.right h).elim
  · rename_i s r
    have hg : (eqGuard op t x y (.string s) (.string r)).run P w = .ok () w := by
      unfold eqGuard
      cases op <;> simp
    have e2 := lt_or_eq_total s.toList r.toList
    have e3 := lt_or_eq_total r.toList s.toList
    have e4 : decide (s.toList = r.toList) = decide (s = r) := by rw [← toList_inj]; exact (beq_eq_decide_list _ _).symm
    cases op <;> simp only [strV, is, reduceCtorEq, false_implies, true_and, forall_const] at h <;>
      first
      | exact h.elim
      | (refine ⟨_, ?_, h, rfl⟩; rw [Sem.run_bind, hg]; simp [binOp, Op.stringOp, toList_inj, bytesLess_eq', bne]; done)
      | (refine ⟨_, ?_, h, rfl⟩; rw [Sem.run_bind, hg]; simp only [Result.andThen_ok, binOp, Op.stringOp, toList_inj, bytesLess_eq', ← e4, e2]; simp; done)
      | (obtain ⟨hle, h⟩ := h; refine ⟨_, ?_, h, rfl⟩; rw [Sem.run_bind, hg]; have hle' : ¬ ((s.size + r.size : Nat) : Int) > IntKind.i64.max := (by unfold maxN at hle; simp [IntKind.max, IntKind.bits, IntKind.signed]; omega); simp only [Result.andThen_ok, binOp, Op.stringOp, if_neg hle']; rfl)
      | skip
  · rename_i p q
    have hg : (eqGuard op t x y (.bool p) (.bool q)).run P w = .ok () w := by
      unfold eqGuard
      cases op <;> simp
    obtain ⟨hb, h⟩ := h
    have ht := tyOf_bl hb
    cases op <;> simp only [boolV, is] at h <;>
      first
      | exact h.elim
      | (refine ⟨_, ?_, h, rfl⟩; rw [Sem.run_bind, hg]; simp [binOp, Op.equal, run_equalIn_bool ht])
  · exact h.elim

end
end Go.Al
