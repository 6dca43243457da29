import Derived.Test.YtfghfdjecfkibaaPPutRaws
import Derived.Test.YtfghfdjecfkibaaGCutRaws
set_option linter.unusedVariables false
set_option linter.unusedSimpArgs false
set_option linter.constructorNameAsVariable false
set_option linter.unusedSectionVars false
namespace Go.Al
noncomputable def room (l : Vec RW) (a : Int) : Int := if 0 ≤ a ∧ a < (l.n : Int) then (if (l.g a.toNat).1 = 1 then ((l.g a.toNat).2.2.2.size : Int) else 0) else 0
theorem spec_room (l : Vec RW) (a : Int) (h0 : 0 ≤ a) : spec_l16Room.F l a = some (room l a) := by
  rw [spec_l16Room.F, spec_l16Room.B, room]
  by_cases h : a < (l.n : Int)
  · have w1 : decide ((l.n : Int) ≤ a) = false := decide_eq_false (by omega)
    have w2 : decide (0 ≤ a ∧ a < (l.n : Int)) = true := decide_eq_true ⟨h0, h⟩
    rw [w1, w2, if_pos ⟨h0, h⟩]
    by_cases h2 : (l.g a.toNat).1 = 1
    · rw [if_pos h2]; simp only [sel, chk, decide_eq_true h2, Bool.not_true]
    · rw [if_neg h2]; simp only [sel, chk, decide_eq_false h2, Bool.not_false]
  · have w1 : decide ((l.n : Int) ≤ a) = true := decide_eq_true (by omega)
    rw [w1, if_neg (fun q => h q.2)]
    rfl
theorem impl_room (l : Vec RW) (a : Int) (h0 : 0 ≤ a) : impl_partMost.F l a = some (room l a) := by
  rw [impl_partMost.F, impl_partMost.B, room]
  by_cases h : a < (l.n : Int)
  · have w1 : decide (a < (l.n : Int)) = true := decide_eq_true h
    have w2 : decide (0 ≤ a ∧ a < (l.n : Int)) = true := decide_eq_true ⟨h0, h⟩
    rw [w1, w2, if_pos ⟨h0, h⟩]
    by_cases h2 : (l.g a.toNat).1 = 1
    · rw [if_pos h2]; simp only [sel, chk, decide_eq_true h2]
    · rw [if_neg h2]; simp only [sel, chk, decide_eq_false h2]
  · have w1 : decide (a < (l.n : Int)) = false := decide_eq_false (by omega)
    rw [w1, if_neg (fun q => h q.2)]
    rfl
theorem CutRaws_two (v : Vec FL) (hv : Sml.sml v) (l : Vec RW) (hl : Sml.sml l) (a p : Int) : ∃ b o u, spec_CutRaws.F v l a p = some (b, o) ∧ impl_CutRaws.F v l a p = some (b, u) ∧ Vec.Same u o ∧ Sml.sml u := by
  have hs : sN = 1048576 := rfl
  have hbN : bN = 140737488351232 := rfl
  have hM : maxN = 140737488355328 := rfl
  have hn := hv.1
  have hln := hl.1
  have no : ∀ x y : Option (Bool × Vec FL), x = some (false, Vec.nil) → y = some (false, Vec.nil) → ∃ b o u, x = some (b, o) ∧ y = some (b, u) ∧ Vec.Same u o ∧ Sml.sml u :=
    fun x y h1 h2 => ⟨_, _, _, h1, h2, ⟨rfl, fun _ _ => rfl⟩, nil_sml⟩
  obtain ⟨c, d1, d2⟩ := spec_DiskOk_ok v (by omega)
  obtain ⟨c', d3, d4⟩ := impl_DiskOk_ok v (by omega)
  obtain rfl : c' = c := by rw [Bool.eq_iff_iff, d2, d4]
  rw [spec_CutRaws.F, spec_CutRaws.B, impl_CutRaws.F, impl_CutRaws.B, d1]
  simp only [Option.bind_some, spec_l01In_eq, impl_inRange_eq]
  by_cases h120 : l.n ≤ 120
  · have w : decide ((120 : Int) < (l.n : Int)) = false := decide_eq_false (by omega)
    rw [w]
    by_cases ha : 0 ≤ a ∧ a ≤ (l.n : Int)
    · simp only [sel, decide_eq_true ha, Bool.not_true, spec_room l a ha.1, impl_room l a ha.1, Option.bind_some]
      by_cases hp : 0 ≤ p ∧ p ≤ room l a
      · have ha3 : decide (0 ≤ (0 : Int) ∧ (0 : Int) ≤ a ∧ a ≤ (l.n : Int)) = true := decide_eq_true ⟨by omega, ha.1, ha.2⟩
        obtain ⟨k, rfl⟩ : ∃ k : Nat, a = (k : Int) := ⟨a.toNat, by omega⟩
        have hk : k ≤ l.n := by omega
        have hsub : (Vec.sub l 0 k).n = k := rfl
        have hst : (Vec.sub l 0 k).toL = l.toL.take k := by rw [toL_sub l 0 k hk, List.drop_zero]
        have htl : (l.toL.take k).length = k := by rw [List.length_take, Vec.toL_length]; omega
        simp only [decide_eq_true hp, Bool.not_true, ha3, chk, d3, Option.bind_some, Int.toNat_natCast, show (0 : Int).toNat = 0 from rfl]
        rcases impl_PutRaws_ok v hv (Vec.sub l 0 k) with ⟨hg, -, u, e2, hu⟩ | ⟨hno, e2⟩
        · have hc : c' = true := d2.2 hg
          have c57 : decide ((Vec.sub l 0 k).n * 57 ≤ maxN) = true := decide_eq_true (by rw [hsub]; omega)
          rw [hst] at hu e2
          have hgo := run_good (l.toL.take k) v hg
          simp only [hc, Bool.not_true, e2, Option.bind_some, c57]
          by_cases hp0 : p = 0
          · subst hp0
            rcases spec_PutRaws_ok v hv (Vec.sub l 0 k) with ⟨-, -, e1⟩ | ⟨hno, -⟩
            · rw [hst] at e1
              simp only [show decide ((0 : Int) < 0) = false from rfl, show decide ((0 : Int) = 0) = true from rfl, e1, Option.bind_some, hsub]
              cases hm : decide (((run v (l.toL.take k)).1 : Int) = (k : Int)) with
              | false => exact no _ _ rfl rfl
              | true => exact ⟨_, _, _, rfl, rfl, hu, good_sml ((diskGood_same hu).2 hgo)⟩
            · exact absurd ⟨hg, by rw [hsub]; omega⟩ hno
          · have hroom := hp.2
            rw [room] at hroom
            have hkl : k < l.n := by
              rcases Nat.lt_or_ge k l.n with h | h
              · exact h
              · rw [if_neg (by omega)] at hroom; omega
            have hki : decide (0 ≤ (k : Int) ∧ (k : Int) < (l.n : Int)) = true := decide_eq_true ⟨by omega, by omega⟩
            rw [if_pos ⟨by omega, by omega⟩, Int.toNat_natCast] at hroom
            have hpk : decide (0 ≤ (0 : Int) ∧ (0 : Int) ≤ p ∧ p ≤ ((l.g k).2.2.2.size : Int)) = true := decide_eq_true ⟨by omega, by omega, by split at hroom <;> omega⟩
            have hlit : (Vec.lit [((l.g k).1, (l.g k).2.1, (l.g k).2.2.1, ((l.g k).2.2.2).extract 0 p.toNat)] : Vec RW).n = 1 := rfl
            have c58 : decide (((Vec.sub l 0 k).n + 1) * 57 ≤ maxN) = true := decide_eq_true (by rw [hsub]; omega)
            have hat : (Vec.app (Vec.sub l 0 k) (Vec.lit [((l.g k).1, (l.g k).2.1, (l.g k).2.2.1, ((l.g k).2.2.2).extract 0 p.toNat)])).toL = l.toL.take k ++ [((l.g k).1, (l.g k).2.1, (l.g k).2.2.1, ((l.g k).2.2.2).extract 0 p.toNat)] := by
              rw [toL_app, hst, toL_lit]
            have han : (Vec.app (Vec.sub l 0 k) (Vec.lit [((l.g k).1, (l.g k).2.1, (l.g k).2.2.1, ((l.g k).2.2.2).extract 0 p.toNat)])).n = k + 1 := rfl
            rcases spec_PutRaws_ok v hv (Vec.app (Vec.sub l 0 k) (Vec.lit [((l.g k).1, (l.g k).2.1, (l.g k).2.2.1, ((l.g k).2.2.2).extract 0 p.toNat)])) with ⟨-, -, e1⟩ | ⟨hno, -⟩
            · rw [hat, run_app, htl] at e1
              have hle := run_le (l.toL.take k) v
              rw [htl] at hle
              by_cases hm : (run v (l.toL.take k)).1 = k
              · obtain ⟨s1, -, s3, s4⟩ := step_two (run v (l.toL.take k)).2 (run v (l.toL.take k)).2 ⟨rfl, fun _ _ => rfl⟩ hgo ((l.g k).1, (l.g k).2.1, (l.g k).2.2.1, ((l.g k).2.2.2).extract 0 p.toNat)
                have hr : run (run v (l.toL.take k)).2 [((l.g k).1, (l.g k).2.1, (l.g k).2.2.1, ((l.g k).2.2.2).extract 0 p.toNat)] = if (stepR (run v (l.toL.take k)).2 ((l.g k).1, (l.g k).2.1, (l.g k).2.2.1, ((l.g k).2.2.2).extract 0 p.toNat)).1 = true then (1, (stepR (run v (l.toL.take k)).2 ((l.g k).1, (l.g k).2.1, (l.g k).2.2.1, ((l.g k).2.2.2).extract 0 p.toNat)).2) else (0, (run v (l.toL.take k)).2) := rfl
                rw [if_pos hm, hr] at e1
                generalize stepR (run v (l.toL.take k)).2 ((l.g k).1, (l.g k).2.1, (l.g k).2.2.1, ((l.g k).2.2.2).extract 0 p.toNat) = S at e1 s1 s3 s4
                obtain ⟨b, o'⟩ := S
                obtain ⟨y, t1, t2, t3⟩ := PutRaw_twow _ u hu hgo (l.g k).1 (l.g k).2.1 (l.g k).2.2.1 (((l.g k).2.2.2).extract 0 p.toNat) b o' s1
                have hkm : decide (((run v (l.toL.take k)).1 : Int) = (k : Int)) = true := decide_eq_true (by omega)
                cases b with
                | false =>
                  rw [if_neg (by simp)] at e1
                  simp only [show decide ((0 : Int) < p) = true from decide_eq_true (by omega), decide_eq_false hp0, hki, hpk, hlit, c58, e1, Option.bind_some, han, hkm, t1, Bool.not_true, show decide (((k + 0 : Nat) : Int) = ((k + 1 : Nat) : Int)) = false from decide_eq_false (by omega), Bool.not_false]
                  exact ⟨_, _, _, rfl, rfl, by rw [t2 rfl]; exact ⟨rfl, fun _ _ => rfl⟩, by rw [t2 rfl]; exact nil_sml⟩
                | true =>
                  rw [if_pos rfl] at e1
                  simp only [show decide ((0 : Int) < p) = true from decide_eq_true (by omega), decide_eq_false hp0, hki, hpk, hlit, c58, e1, Option.bind_some, han, hkm, t1, Bool.not_true, show decide (((k + 1 : Nat) : Int) = ((k + 1 : Nat) : Int)) = true from decide_eq_true rfl]
                  exact ⟨_, _, _, rfl, rfl, t3 rfl, good_sml ((diskGood_same (t3 rfl)).2 (s3 rfl))⟩
              · rw [if_neg hm] at e1
                simp only [show decide ((0 : Int) < p) = true from decide_eq_true (by omega), decide_eq_false hp0, hki, hpk, hlit, c58, e1, Option.bind_some, han, show decide (((run v (l.toL.take k)).1 : Int) = (k : Int)) = false from decide_eq_false (by omega), show decide (((run v (l.toL.take k)).1 : Int) = ((k + 1 : Nat) : Int)) = false from decide_eq_false (by omega), Bool.not_false]
                exact no _ _ rfl rfl
            · exact absurd ⟨hg, by rw [han]; omega⟩ hno
        · have hc : c' = false := by
            cases c' with
            | false => rfl
            | true => exact absurd ⟨d2.1 rfl, by rw [hsub]; omega⟩ hno
          simp only [hc, Bool.not_false, e2, Option.bind_some]
          cases decide ((0 : Int) = (k : Int)) with
          | false => exact no _ _ rfl rfl
          | true => exact no _ _ rfl rfl
      · simp only [decide_eq_false hp, Bool.not_false]
        cases c' with
        | false => exact no _ _ rfl rfl
        | true => exact no _ _ rfl rfl
    · simp only [sel, decide_eq_false ha, Bool.not_false]
      cases c' with
      | false => exact no _ _ rfl rfl
      | true => exact no _ _ rfl rfl
  · have w : decide ((120 : Int) < (l.n : Int)) = true := decide_eq_true (by omega)
    rw [w]
    cases c' with
    | false => exact no _ _ rfl rfl
    | true => exact no _ _ rfl rfl
theorem laws_FnExactCutRaws_true (v : Vec FL) (l : Vec RW) (a p : Int) (hv : Bnd.bnd v) (hl : Bnd.bnd l) (ha : Bnd.bnd a) (hp : Bnd.bnd p) : laws_FnExactCutRaws.F v l a p = some true := by
  rw [laws_FnExactCutRaws.F, laws_FnExactCutRaws.B]
  obtain ⟨r, hr, hr2⟩ := laws_szDisk_ok v 1048576 hv (by omega) (by omega)
  simp only at hr
  rw [hr, Option.bind_some, selb]
  split
  · rfl
  rename_i hr0
  rw [decide_eq_true_eq] at hr0
  obtain ⟨hr1, hvs⟩ := hr2 (by omega)
  obtain ⟨q, hq, hq2⟩ := laws_szRawS_ok l r hl (by omega) (by omega)
  rw [hq, Option.bind_some, selb]
  split
  · rfl
  rename_i hq0
  rw [decide_eq_true_eq] at hq0
  obtain ⟨-, hls⟩ := hq2 (by omega)
  obtain ⟨u, hu, hsm⟩ := laws_toDisk_ok v hvs
  simp only at hu
  obtain ⟨t, ht, htm⟩ := laws_toRawS_ok l hls
  obtain ⟨b, o, y, e1, e2, hyo, hy⟩ := CutRaws_two u hsm t htm a p
  have q1 := laws_eqDisk_ok y o hy (Sim.same hyo)
  have q2 := laws_eqDisk_ok u u hsm (Sim.refl u)
  simp only at q1 q2
  have q3 := laws_eqRawS_ok t t htm (Sim.refl t)
  obtain ⟨k1, k2, m, w, m1, m2, m3⟩ := marks_two u hsm t htm
  obtain ⟨k', m', n1', n2', n3'⟩ := laws_markDisk_ok y hy
  have p1 : decide (k2 < 0) = false := decide_eq_false (by omega)
  have p2 : decide (k' < 0) = false := decide_eq_false (by omega)
  have p3 : (b == b) = true := beq_self_eq_true b
  have p4 : decide (k' = k') = true := decide_eq_true rfl
  rw [hu, ht]
  repeat (first | rw [Option.bind_some] | rw [e1] | rw [e2] | rw [q1] | rw [q2] | rw [q3] | rw [m1] | rw [m2] | rw [n1'] | rw [n3'])
  rw [p1, p2, p3, p4]
  repeat (first | rw [Option.bind_some] | rw [e2] | rw [q1] | rw [n3'] | rw [p2] | rw [p3] | rw [p4])
  rfl
end Go.Al
