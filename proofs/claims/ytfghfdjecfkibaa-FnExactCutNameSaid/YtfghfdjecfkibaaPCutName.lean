import Derived.Test.YtfghfdjecfkibaaPNm
import Derived.Test.YtfghfdjecfkibaaSNames2
set_option linter.unusedVariables false
set_option linter.unusedSimpArgs false
set_option linter.constructorNameAsVariable false
set_option linter.unusedSectionVars false
namespace Go.Al

theorem ByPath_two (v : Vec (ByteArray × Int × Int)) (hv : Sml.sml v) (d : ByteArray) : ∃ r, spec_ByPath.F v d = some r ∧ impl_ByPath.F v d = some r ∧ (r < 0 ∨ namesGood v ∧ ∃ i : Nat, r = i ∧ i < v.n ∧ (v.g i).1 = d) := by
  obtain ⟨b, e1, h1⟩ := spec_NamesOk_ok v hv
  obtain ⟨b', e2, h2⟩ := impl_NamesOk_ok v hv
  have : b' = b := by rw [Bool.eq_iff_iff, h1, h2]
  subst this
  obtain ⟨r, e3, h3⟩ := spec_l13Path_ok v hv d
  obtain ⟨q, e4, h4⟩ := impl_pathAt_ok v hv d
  obtain rfl := h3.one h4
  unfold spec_ByPath.F spec_ByPath.B impl_ByPath.F impl_ByPath.B
  rw [e1, e2, e3, e4]
  simp only [Option.bind_some, selb]
  split
  · exact ⟨_, rfl, rfl, .inl (by decide)⟩
  · rename_i hb
    refine ⟨_, rfl, rfl, ?_⟩
    rcases h3 with ⟨rfl, -⟩ | ⟨i, rfl, hi, hp, -⟩
    · exact .inl (by decide)
    · exact .inr ⟨h1.1 (by simpa using hb), i, rfl, hi, hp⟩
theorem sml_del {A : Type} [Sml A] {v : Vec A} (hv : Sml.sml v) (i : Nat) (hi : i < v.n) : Sml.sml (v.del i (i + 1)) := by
  have hd : ((i : Int) + 1 - (i : Int)).toNat = 1 := by omega
  have hn : (v.del i (i + 1)).n = v.n - 1 := by show v.n - _ = _; rw [hd]
  refine ⟨by have := hv.1; omega, fun t ht => ?_⟩
  show Sml.sml (v.g (delSrc i (i + 1) t))
  refine hv.2 _ ?_
  unfold delSrc
  rw [hd, Int.toNat_natCast]
  split <;> omega
theorem impl_dropName_eq (v : Vec (ByteArray × Int × Int)) (hv : Sml.sml v) (i : Nat) (hi : i < v.n) : impl_dropName_s0773.F (i : Int) v = some (v.del i (i + 1)) := by
  have hs : sN = 1048576 := rfl
  have hn := hv.1
  unfold impl_dropName_s0773.F impl_dropName_s0773.B slices_Delete_impl_Name_safb9.F
  rw [wr_succ (i := i) (by omega)]
  have h : decide ((0 : Int) ≤ (i : Int) ∧ (i : Int) < ((i + 1 : Nat) : Int) ∧ ((i + 1 : Nat) : Int) ≤ (v.n : Int)) = true := by simp; omega
  rw [h]
  rfl
theorem impl_clone_eq (v : Vec (ByteArray × Int × Int)) (hv : Sml.sml v) : slices_Clone_impl_Name.F v = some v := by
  have hs : sN = 1048576 := rfl
  have hM : maxN = 140737488355328 := rfl
  have hn := hv.1
  unfold slices_Clone_impl_Name.F
  have h : decide (v.n * 33 ≤ maxN) = true := by simp; omega
  rw [h]
  rfl
theorem CutName_same (v : Vec (ByteArray × Int × Int)) (hv : Sml.sml v) (d : ByteArray) : ∃ b x y, spec_CutName.F v d = some (b, x) ∧ impl_CutName.F v d = some (b, y) ∧ Sml.sml y ∧ Vec.Same y x := by
  have hs : sN = 1048576 := rfl
  have hM : maxN = 140737488355328 := rfl
  have hn := hv.1
  obtain ⟨r, e1, e2, h⟩ := ByPath_two v hv d
  unfold spec_CutName.F spec_CutName.B impl_CutName.F impl_CutName.B
  rw [e1, e2]
  simp only [Option.bind_some, selb, decide_eq_true_eq]
  rcases h with h | ⟨hg, i, rfl, hi, -⟩
  · rw [if_pos h, if_pos h]
    exact ⟨_, _, _, rfl, rfl, ⟨Nat.zero_le _, fun i hi => absurd hi (Nat.not_lt_zero i)⟩, rfl, fun i hi => rfl⟩
  · rw [if_neg (by omega), if_neg (by omega), impl_clone_eq v hv, Option.bind_some, impl_dropName_eq v hv i hi, wr_succ (i := i) (by omega)]
    simp only [chkb, decide_eq_true_eq, Int.toNat_natCast, Int.toNat_zero, Vec.sub_n, Option.bind_some]
    rw [if_pos (by omega), if_pos (by exact decide_eq_true (by omega)), if_pos (by omega), if_pos (by exact decide_eq_true (by omega))]
    refine ⟨_, _, _, rfl, rfl, sml_del hv i hi, ?_⟩
    rw [same_iff, toL_app, toL_sub _ _ _ (by omega), toL_sub _ _ _ (by omega), toL_del1 _ _ hi, List.eraseIdx_eq_take_drop_succ, List.drop_zero, List.take_of_length_le (i := v.n) (by simp)]
theorem law_tail {A R : Type} [Sml A] [Sim A] [BEq R] [LawfulBEq R] {E : A → A → Option Bool} (hE : SimOk E) {M : Int → A → Option (Int × A)} {H : A → Int → Option Int} (hM : MarkOk M H) {u y x : A} {b : R} (hu : Sml.sml u) (hy : Sml.sml y) (hyx : Sim.sim y x) :
    (E y x = some true) ∧ (E u u = some true) ∧ (∃ k m, M 1 u = some (k, m) ∧ 1 ≤ k) ∧ ∃ k m, M 1 y = some (k, m) ∧ 1 ≤ k ∧ H m 1 = some k :=
  ⟨hE y x hy hyx, hE u u hu (Sim.refl u), (let ⟨k, m, h1, h2, h3⟩ := hM u hu; ⟨k, m, h1, h2⟩), hM y hy⟩
theorem laws_FnExactCutName_true (v : Vec (ByteArray × Int × Int)) (d : ByteArray) (hv : Bnd.bnd v) (hd : Bnd.bnd d) : laws_FnExactCutName.F v d = some true := by
  rw [laws_FnExactCutName.F, laws_FnExactCutName.B]
  rw [selb]
  split
  · rfl
  obtain ⟨r, hr, hr2⟩ := laws_szNameS_ok v 1048576 hv (by omega) (by omega)
  rw [hr, Option.bind_some, selb]
  split
  · rfl
  rename_i hr0
  rw [decide_eq_true_eq] at hr0
  obtain ⟨u, hu, hsm⟩ := laws_toNameS_ok v (hr2 (by omega)).2
  obtain ⟨b, x, y, e1, e2, hy, hxy⟩ := CutName_same u hsm d
  have q1 := laws_eqNameS_ok y x hy (Sim.same hxy)
  have q2 := laws_eqNameS_ok u u hsm (Sim.refl u)
  obtain ⟨k, m, m1, m2, m3⟩ := laws_markNameS_s0773_ok u hsm
  obtain ⟨k', m', n1, n2, n3⟩ := laws_markNameS_s0773_ok y hy
  have p1 : decide (k < 0) = false := decide_eq_false (by omega)
  have p2 : decide (k' < 0) = false := decide_eq_false (by omega)
  have p3 : (b == b) = true := beq_self_eq_true b
  have p4 : decide (k' = k') = true := decide_eq_true rfl
  rw [hu]
  repeat (first | rw [Option.bind_some] | rw [e1] | rw [e2] | rw [q1] | rw [q2] | rw [m1] | rw [n1] | rw [n3])
  rw [p1, p2, p3, p4]
  repeat (first | rw [Option.bind_some] | rw [e2] | rw [q1] | rw [n3] | rw [p2] | rw [p3] | rw [p4])
  rfl
end Go.Al
