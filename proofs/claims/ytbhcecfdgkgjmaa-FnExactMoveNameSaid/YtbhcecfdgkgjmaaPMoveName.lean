import Derived.Test.YtbhcecfdgkgjmaaPPut
import Derived.Test.YtbhcecfdgkgjmaaSMoveName
set_option linter.unusedVariables false
set_option linter.unusedSimpArgs false
set_option linter.constructorNameAsVariable false
set_option linter.unusedSectionVars false
namespace Go.Al
theorem MoveName_same (v : Vec NM) (hv : Sml.sml v) (d t : ByteArray) (ht : Sml.sml t) : ∃ b x y, spec_MoveName.F v d t = some (b, x) ∧ impl_MoveName.F v d t = some (b, y) ∧ Sml.sml y ∧ Vec.Same y x := by
  have hs : sN = 1048576 := rfl
  have hnil : Sml.sml (Vec.nil : Vec NM) := ⟨Nat.zero_le _, fun i hi => absurd hi (Nat.not_lt_zero i)⟩
  obtain ⟨r, e1, e2, h⟩ := ByPath_two v hv d
  rw [spec_MoveName.F, spec_MoveName.B, impl_MoveName.F, impl_MoveName.B, e1, e2, Option.bind_some, Option.bind_some, selb, selb]
  rcases h with h | ⟨hg, i, rfl, hi, -⟩
  · rw [if_pos (by simpa using h), if_pos (by simpa using h)]
    exact ⟨_, _, _, rfl, rfl, hnil, rfl, fun i hi => rfl⟩
  · have hn12 := hg.1
    have hvi := hv.2 i hi
    have hvs : ∀ x ∈ v.toL, Sml.sml x := fun x hx => by obtain ⟨j, hj, rfl⟩ := mem_toL hx; exact hv.2 j hj
    rw [if_neg (by simp), if_neg (by simp), chkb, if_pos (by simpa using hi), chkb, if_pos (by simpa using hi), Int.toNat_natCast, impl_clone_eq v hv, Option.bind_some, impl_dropName_eq v hv i hi, Option.bind_some]
    obtain ⟨b, e3, h3⟩ := spec_NamesOk_ok v hv
    obtain rfl : b = true := h3.2 hg
    obtain ⟨out, q1, q2⟩ := spec_l13Put_ok v hn12 (t, (v.g i).2.1, (v.g i).2.2)
    have hdn : (v.del (i : Int) ((i : Int) + 1)).n ≤ 12 := by show v.n - _ ≤ 12; omega
    obtain ⟨out2, p1, p2⟩ := impl_insertName_ok (v.del i (i + 1)) hdn (t, (v.g i).2.1, (v.g i).2.2)
    simp only at q1 p1
    have hf : v.toL.filter (notId (v.g i).2.1) = v.toL.eraseIdx i := by
      obtain ⟨r, -, q4⟩ := impl_idAt_ok v (by unfold bN; omega) (v.g i).2.1
      rcases idAt_first q4 hg with ⟨hr, hf⟩ | ⟨j, rfl, hj, hf⟩
      · rcases q4 with ⟨-, h9⟩ | ⟨j, rfl, -⟩
        · exact absurd rfl (h9 i hi)
        · omega
      · rcases q4 with ⟨h9, -⟩ | ⟨j', h9, -, h8, h7⟩
        · omega
        · obtain rfl : j = j' := by omega
          have hij : i = j := by
            rcases Nat.lt_trichotomy i j with h6 | h6 | h6
            · exact absurd rfl (h7 i h6)
            · exact h6
            · exact absurd h8 ((hg.2 i hi).2.2.2.2 j h6)
          subst hij
          exact hf
    obtain ⟨s1, s2, s3, s4⟩ := put_two (v.toL.eraseIdx i) (by rw [← hf]; exact Nat.le_trans (List.length_filter_le _ _) (by simpa using hn12)) (fun x hx => hvs x (List.mem_of_mem_eraseIdx hx)) (t, (v.g i).2.1, (v.g i).2.2) ⟨ht, hvi.2⟩ out out2 (by rw [q2, hf]) (by rw [p2, toL_del1 v i hi])
    obtain ⟨c, f1, g1⟩ := spec_NamesOk_ok out s1
    obtain ⟨c', f2, g2⟩ := impl_NamesOk_ok out2 s2
    obtain rfl : c' = c := by rw [Bool.eq_iff_iff, g1, g2]; exact s3.symm
    rw [spec_PutName.F, spec_PutName.B, e3, Option.bind_some, selb, if_neg (by decide), q1, Option.bind_some, f1, p1, Option.bind_some, Option.bind_some, f2, Option.bind_some, selb, selb]
    cases c' with
    | false => exact ⟨_, _, _, rfl, rfl, hnil, rfl, fun i hi => rfl⟩
    | true => exact ⟨_, _, _, rfl, rfl, s2, s4 (g1.1 rfl)⟩
theorem laws_FnExactMoveName_true (v : Vec NM) (d t : ByteArray) (hv : Bnd.bnd v) (hd : Bnd.bnd d) (ht : Bnd.bnd t) : laws_FnExactMoveName.F v d t = some true := by
  have hs : sN = 1048576 := rfl
  rw [laws_FnExactMoveName.F, laws_FnExactMoveName.B]
  rw [selb]
  split
  · rfl
  rw [selb]
  split
  · rfl
  rename_i ht2
  rw [decide_eq_true_eq] at ht2
  have hts : Sml.sml t := by show t.size ≤ sN; omega
  obtain ⟨r, hr, hr2⟩ := laws_szNameS_ok v 1048576 hv (by omega) (by omega)
  rw [hr, Option.bind_some, selb]
  split
  · rfl
  rename_i hr0
  rw [decide_eq_true_eq] at hr0
  obtain ⟨u, hu, hsm⟩ := laws_toNameS_ok v (hr2 (by omega)).2
  obtain ⟨b, x, y, e1, e2, hy, hxy⟩ := MoveName_same u hsm d t hts
  have q1 := laws_eqNameS_ok y x hy (Sim.same hxy)
  have q2 := laws_eqNameS_ok u u hsm (Sim.refl u)
  obtain ⟨k, m, m1, m2, m3⟩ := laws_markNameS_s0773_ok u hsm
  obtain ⟨k', m', n1, n2, n3⟩ := laws_markNameS_s0773_ok y hy
  have p1 : decide (k < 0) = false := decide_eq_false (by omega)
  have p2 : decide (k' < 0) = false := decide_eq_false (by omega)
  have p3 : (b == b) = true := beq_self_eq_true b
  have p4 : decide (k' = k') = true := decide_eq_true rfl
  rw [hu]
  repeat (first | rw [Option.bind_some] | rw [e1] | rw [e2] | rw [q1] | rw [q2] | rw [m1] | rw [n1] | rw [n3])
  rw [p1, p2, p3, p4]
  repeat (first | rw [Option.bind_some] | rw [e2] | rw [q1] | rw [n3] | rw [p2] | rw [p3] | rw [p4])
  rfl
end Go.Al
