import Derived.Test.YtbhcecfdgkgjmaaPDk2
import Derived.Test.YtbhcecfdgkgjmaaPDraw
import Derived.Test.YtbhcecfdgkgjmaaGFnRaws
set_option linter.unusedVariables false
set_option linter.unusedSimpArgs false
namespace Go.Al
abbrev RW : Type := Int × ByteArray × ByteArray × ByteArray
/-! ### Raw writes, one after the other -/
noncomputable def stepR (o : Vec FL) (r : RW) : Bool × Vec FL := (spec_PutRaw.F o r.1 r.2.1 r.2.2.1 r.2.2.2).getD (false, o)
noncomputable def run : Vec FL → List RW → Nat × Vec FL
  | o, [] => (0, o)
  | o, r :: rs => if (stepR o r).1 = true then ((run (stepR o r).2 rs).1 + 1, (run (stepR o r).2 rs).2) else (0, o)
theorem step_two (o u : Vec FL) (hu : Vec.Same u o) (hg : diskGood o) (r : RW) : spec_PutRaw.F o r.1 r.2.1 r.2.2.1 r.2.2.2 = some (stepR o r) ∧
    (∃ u', impl_Disk_do_s08b6.F r.1 r.2.1 r.2.2.1 r.2.2.2 u = some ((stepR o r).1, u') ∧ ((stepR o r).1 = true → Vec.Same u' (stepR o r).2)) ∧
    ((stepR o r).1 = true → diskGood (stepR o r).2) ∧ ((stepR o r).1 = false → (stepR o r).2 = Vec.nil) := by
  obtain ⟨b, o', u', e1, e2, h1, h2⟩ := do_twow o u hu hg r.1 r.2.1 r.2.2.1 r.2.2.2
  have e : stepR o r = (b, o') := by rw [stepR, e1]; rfl
  rw [e]
  exact ⟨e1, ⟨u', e2, fun h => (h1 h).1⟩, fun h => (h1 h).2, h2⟩
theorem run_le : ∀ (l : List RW) (o : Vec FL), (run o l).1 ≤ l.length
  | [], o => Nat.le_refl _
  | r :: rs, o => by
    rw [run]
    split
    · have := run_le rs (stepR o r).2
      simp only [List.length_cons]; omega
    · exact Nat.zero_le _
theorem run_good : ∀ (l : List RW) (o : Vec FL), diskGood o → diskGood (run o l).2
  | [], o, h => h
  | r :: rs, o, h => by
    rw [run]
    split
    · rename_i h1
      exact run_good rs _ ((step_two o o ⟨rfl, fun _ _ => rfl⟩ h r).2.2.1 h1)
    · exact h
theorem run_app : ∀ (a b : List RW) (o : Vec FL), run o (a ++ b) = if (run o a).1 = a.length then (a.length + (run (run o a).2 b).1, (run (run o a).2 b).2) else run o a
  | [], b, o => by simp [run]
  | r :: rs, b, o => by
    have ih := run_app rs b (stepR o r).2
    rw [List.cons_append, run, run]
    by_cases h : (stepR o r).1 = true
    · rw [if_pos h, if_pos h, ih]
      by_cases h2 : (run (stepR o r).2 rs).1 = rs.length
      · rw [if_pos h2, if_pos (by simp only [h2, List.length_cons])]
        simp only [List.length_cons]
        rw [show rs.length + (run (run (stepR o r).2 rs).2 b).1 + 1 = rs.length + 1 + (run (run (stepR o r).2 rs).2 b).1 from by omega]
      · rw [if_neg h2, if_neg (by simp only [List.length_cons]; omega)]
    · rw [if_neg h, if_neg h, if_neg (by simp only [List.length_cons]; omega)]
theorem drop_cons {A : Type} (l : Vec A) (i : Nat) (hi : i < l.n) : l.toL.drop i = l.g i :: l.toL.drop (i + 1) := by
  have hi' : i < l.toL.length := by simpa using hi
  rw [List.drop_eq_getElem_cons hi']
  rw [Option.some.inj ((List.getElem?_eq_getElem hi').symm.trans (Vec.toL_get l i hi))]
theorem spec_loop (l : Vec RW) (hl : l.n ≤ 1000) : ∀ (f i : Nat) (o : Vec FL), i ≤ l.n → l.n - i < f → diskGood o →
    spec_PutRaws.F0 f l (i : Int) o (fun e01 e02 => some ((e01.n : Int), e02)) (fun x01 x02 => some (x01, x02)) = some (((i + (run o (l.toL.drop i)).1 : Nat) : Int), (run o (l.toL.drop i)).2)
  | 0, i, o, _, h, _ => absurd h (Nat.not_lt_zero _)
  | f + 1, i, o, hi, hf, hg => by
    rw [spec_PutRaws.F0, spec_PutRaws.B0]
    by_cases h : i < l.n
    · have w1 : decide ((i : Int) < (l.n : Int)) = true := decide_eq_true (by omega)
      have w2 : decide (0 ≤ (i : Int) ∧ (i : Int) < (l.n : Int)) = true := decide_eq_true ⟨by omega, by omega⟩
      obtain ⟨e1, -, hgd, -⟩ := step_two o o ⟨rfl, fun _ _ => rfl⟩ hg (l.g i)
      simp only [w1, w2, sel, chk, Int.toNat_natCast, e1, Option.bind_some]
      rw [drop_cons l i h, run]
      cases hb : (stepR o (l.g i)).1 with
      | false =>
        rw [if_neg (by simp)]
        rfl
      | true =>
        rw [if_pos rfl]
        simp only [Bool.not_true]
        rw [wr_succ (by omega), spec_loop l hl f (i + 1) _ (by omega) (by omega) (hgd hb)]
        rw [show i + 1 + (run (stepR o (l.g i)).2 (l.toL.drop (i + 1))).1 = i + ((run (stepR o (l.g i)).2 (l.toL.drop (i + 1))).1 + 1) from by omega]
    · have w1 : decide ((i : Int) < (l.n : Int)) = false := decide_eq_false (by omega)
      have hd : l.toL.drop i = [] := List.drop_eq_nil_of_le (by rw [Vec.toL_length]; omega)
      rw [w1, hd]
      simp only [sel, run]
      rw [show l.n = i + 0 from by omega]
theorem impl_loop (l : Vec RW) (hl : l.n ≤ 1000) : ∀ (f i : Nat) (o u : Vec FL), i ≤ l.n → l.n - i < f → diskGood o → Vec.Same u o →
    ∃ u', impl_PutRaws.F0 f l l (l.n : Int) (i : Int) u (fun e01 e02 => some ((e01.n : Int), e02)) (fun x01 x02 => some (x01, x02)) = some (((i + (run o (l.toL.drop i)).1 : Nat) : Int), u') ∧ Vec.Same u' (run o (l.toL.drop i)).2
  | 0, i, o, u, _, h, _, _ => absurd h (Nat.not_lt_zero _)
  | f + 1, i, o, u, hi, hf, hg, hu => by
    rw [impl_PutRaws.F0, impl_PutRaws.B0]
    by_cases h : i < l.n
    · have w1 : decide ((i : Int) < (l.n : Int)) = true := decide_eq_true (by omega)
      have w2 : decide (0 ≤ (i : Int) ∧ (i : Int) < (l.n : Int)) = true := decide_eq_true ⟨by omega, by omega⟩
      obtain ⟨-, ⟨u', e2, hs⟩, hgd, -⟩ := step_two o u hu hg (l.g i)
      have hun : u.n ≤ 40 := by have := hu.1; have := hg.1; omega
      simp only [w1, w2, sel, chk, Int.toNat_natCast, clone_file u (by omega), e2, Option.bind_some]
      rw [drop_cons l i h, run]
      cases hb : (stepR o (l.g i)).1 with
      | false =>
        rw [if_neg (by simp)]
        exact ⟨u, rfl, hu⟩
      | true =>
        rw [if_pos rfl]
        simp only [Bool.not_true]
        obtain ⟨q, hq1, hq2⟩ := impl_loop l hl f (i + 1) _ u' (by omega) (by omega) (hgd hb) (hs hb)
        rw [wr_succ (by omega), hq1]
        rw [show i + 1 + (run (stepR o (l.g i)).2 (l.toL.drop (i + 1))).1 = i + ((run (stepR o (l.g i)).2 (l.toL.drop (i + 1))).1 + 1) from by omega]
        exact ⟨q, rfl, hq2⟩
    · have w1 : decide ((i : Int) < (l.n : Int)) = false := decide_eq_false (by omega)
      have hd : l.toL.drop i = [] := List.drop_eq_nil_of_le (by rw [Vec.toL_length]; omega)
      rw [w1, hd]
      simp only [sel, run]
      rw [show l.n = i + 0 from by omega]
      exact ⟨u, rfl, hu⟩
theorem spec_PutRaws_ok (v : Vec FL) (hv : Sml.sml v) (l : Vec RW) : (diskGood v ∧ l.n ≤ 120 ∧ spec_PutRaws.F v l = some (((run v l.toL).1 : Int), (run v l.toL).2)) ∨ (¬ (diskGood v ∧ l.n ≤ 120) ∧ spec_PutRaws.F v l = some (0, Vec.nil)) := by
  have hs : sN = 1048576 := rfl
  have hbN : bN = 140737488351232 := rfl
  have hM : maxN = 140737488355328 := rfl
  have hF : fuelN = 4611686018427387904 := rfl
  have hn := hv.1
  obtain ⟨c, d1, d2⟩ := spec_DiskOk_ok v (by omega)
  rw [spec_PutRaws.F, spec_PutRaws.B, d1]
  simp only [Option.bind_some]
  cases c with
  | false => exact .inr ⟨fun h => (by have := d2.2 h.1; cases this), rfl⟩
  | true =>
    have hg := d2.1 rfl
    by_cases h : l.n ≤ 120
    · have w : decide ((120 : Int) < (l.n : Int)) = false := decide_eq_false (by omega)
      have w2 : decide (v.n * 33 ≤ maxN) = true := decide_eq_true (by have := hg.1; omega)
      rw [w, w2]
      simp only [Bool.not_true, sel, chk]
      rw [show (0 : Int) = ((0 : Nat) : Int) from rfl, spec_loop l (by omega) _ 0 v (by omega) (by omega) hg, List.drop_zero, Nat.zero_add]
      exact .inl ⟨hg, h, rfl⟩
    · have w : decide ((120 : Int) < (l.n : Int)) = true := decide_eq_true (by omega)
      rw [w]
      exact .inr ⟨fun q => h q.2, rfl⟩
theorem impl_PutRaws_ok (v : Vec FL) (hv : Sml.sml v) (l : Vec RW) : (diskGood v ∧ l.n ≤ 120 ∧ ∃ u, impl_PutRaws.F v l = some (((run v l.toL).1 : Int), u) ∧ Vec.Same u (run v l.toL).2) ∨ (¬ (diskGood v ∧ l.n ≤ 120) ∧ impl_PutRaws.F v l = some (0, Vec.nil)) := by
  have hs : sN = 1048576 := rfl
  have hbN : bN = 140737488351232 := rfl
  have hF : fuelN = 4611686018427387904 := rfl
  have hn := hv.1
  obtain ⟨c, d1, d2⟩ := impl_DiskOk_ok v (by omega)
  rw [impl_PutRaws.F, impl_PutRaws.B, d1]
  simp only [Option.bind_some]
  by_cases h : l.n ≤ 120
  · have w : decide ((120 : Int) < (l.n : Int)) = false := decide_eq_false (by omega)
    rw [w]
    cases c with
    | false => exact .inr ⟨fun h => (by have := d2.2 h.1; cases this), rfl⟩
    | true =>
      have hg := d2.1 rfl
      obtain ⟨u, e1, e2⟩ := impl_loop l (by omega) fuelN 0 v v (by omega) (by omega) hg ⟨rfl, fun _ _ => rfl⟩
      simp only [Bool.not_true, sel, clone_file v (by omega), Option.bind_some]
      rw [show (0 : Int) = ((0 : Nat) : Int) from rfl, e1]
      rw [List.drop_zero, Nat.zero_add]
      exact .inl ⟨hg, h, u, rfl, e2⟩
  · have w : decide ((120 : Int) < (l.n : Int)) = true := decide_eq_true (by omega)
    rw [w]
    exact .inr ⟨fun q => h q.2, rfl⟩
theorem nil_sml : Sml.sml (Vec.nil : Vec FL) := ⟨Nat.zero_le _, fun i hi => absurd hi (Nat.not_lt_zero i)⟩
theorem PutRaws_two (v : Vec FL) (hv : Sml.sml v) (l : Vec RW) : ∃ m o u, spec_PutRaws.F v l = some (m, o) ∧ impl_PutRaws.F v l = some (m, u) ∧ Vec.Same u o ∧ Sml.sml u := by
  rcases spec_PutRaws_ok v hv l with ⟨h1, h2, e⟩ | ⟨h1, e⟩
  · rcases impl_PutRaws_ok v hv l with ⟨-, -, u, e2, h⟩ | ⟨q, -⟩
    · exact ⟨_, _, u, e, e2, h, good_sml ((diskGood_same h).2 (run_good _ _ h1))⟩
    · exact absurd ⟨h1, h2⟩ q
  · rcases impl_PutRaws_ok v hv l with ⟨q1, q2, _⟩ | ⟨-, e2⟩
    · exact absurd ⟨q1, q2⟩ h1
    · exact ⟨_, _, _, e, e2, ⟨rfl, fun _ _ => rfl⟩, nil_sml⟩
end Go.Al
