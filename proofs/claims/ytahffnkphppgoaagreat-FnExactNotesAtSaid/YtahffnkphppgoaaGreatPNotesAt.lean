import Derived.Test.YtahffnkphppgoaaGreatPNt1
import Derived.Test.YtahffnkphppgoaaGreatPAt
import Derived.Test.YtahffnkphppgoaaGreatGNotesAt
import Derived.Test.YtahffnkphppgoaaGreatSStoreOk
import Derived.Test.YtahffnkphppgoaaGreatSNotesAt
set_option linter.unusedVariables false
set_option linter.unusedSimpArgs false
set_option linter.constructorNameAsVariable false
set_option linter.unusedSectionVars false
namespace Go.Al
theorem st_mark {A B : Type} [Sml A] [Sml B] {b : Nat} {M : Int → A → B → Option (Int × A × B)} (h : MkTot (A := A × B) b (fun k a => M k a.1 a.2)) (hb : b + 1 ≤ mN) (x : A) (y : B) (hx : Sml.sml ((x, y) : A × B)) : ∃ (k : Int) (u : A) (v : B), M 1 x y = some (k, u, v) ∧ 1 ≤ k := by
  obtain ⟨c, ⟨u, v⟩, h1, h2⟩ := h (x, y) hx 1 (Nat.le_refl _) (by omega)
  exact ⟨((1 + c : Nat) : Int), u, v, h2, by omega⟩
theorem NotesAt_two (C : Vec Cm) (hC : Sml.sml C) (F : Vec Wv) (hF : Sml.sml F) (c : Int) (d : ByteArray) : ∃ code o q, spec_NotesAt.F C F c d = some (code, o) ∧ impl_NotesAt.F C F c d = some (code, q) ∧ Vec.Same q o ∧ Sml.sml q := by
  obtain ⟨r, e1, e2, h⟩ := Find_two C hC F hF c d
  rw [spec_NotesAt.F, spec_NotesAt.B, impl_NotesAt.F, impl_NotesAt.B, e1, e2, Option.bind_some, Option.bind_some]
  obtain ⟨r1, r2, r3, r4⟩ := r
  simp only at h ⊢
  rcases h with h | ⟨rfl, hg, hc, hx⟩
  · rw [decide_eq_false h]
    exact ⟨_, _, _, rfl, rfl, ⟨rfl, fun _ _ => rfl⟩, nil_smlT⟩
  · have hw := st_weave hg hx
    obtain ⟨⟨h1, h2⟩, h3, h4⟩ := hx
    simp only at h1 h2 h3 h4 hw
    obtain ⟨id, rfl⟩ : ∃ n : Nat, r2 = n := ⟨r2.toNat, by omega⟩
    obtain ⟨v, rfl⟩ : ∃ n : Nat, r3 = n := ⟨r3.toNat, by omega⟩
    rw [Int.toNat_natCast] at h4 hw
    have hB : Sml.sml (F.g id).2 := (hF.2 id (by omega)).2
    obtain ⟨o, e3, ho⟩ := spec_annotate_ok _ _ (hF.2 id (by omega)).1 (st_d_of hB) hw v (by omega)
    obtain ⟨q, e4, hq⟩ := impl_annotate_ok _ _ (st_d_of hB) hw v (by omega)
    have hi : decide (0 ≤ (id : Int) ∧ (id : Int) < (F.n : Int)) = true := decide_eq_true ⟨h1, h2⟩
    simp only [decide_true, Bool.not_true, sel, hi, chk, Int.toNat_natCast, e3, e4, Option.bind_some]
    refine ⟨_, _, _, rfl, rfl, same_iff.2 (hq.trans ho.symm), sml_same hq (by rw [List.length_map]; exact Nat.le_trans (places_len hw (by omega)) (by omega)) fun x hx => ?_⟩
    obtain ⟨y, hy, rfl⟩ := List.mem_map.1 hx
    exact nt_sml hB hy
theorem laws_FnExactNotesAt_true (C : Vec Cm) (F : Vec Wv) (i : Int) (d : ByteArray) (hb : Bnd.bnd ((C, F) : Vec Cm × Vec Wv)) (hi : Bnd.bnd i) (hd : Bnd.bnd d) : laws_FnExactNotesAt.F C F i d = some true := by
  rw [laws_FnExactNotesAt.F, laws_FnExactNotesAt.B, selb]
  split
  · rfl
  obtain ⟨r, hr, hr2⟩ := laws_szStore_ok (C, F) 1048576 hb (by omega) (by omega)
  simp only at hr
  rw [hr, Option.bind_some, selb]
  split
  · rfl
  rename_i hr0
  rw [decide_eq_true_eq] at hr0
  obtain ⟨hr1, hvs⟩ := hr2 (by omega)
  obtain ⟨⟨p, q⟩, hu, hsm⟩ := laws_toStore_ok (C, F) hvs
  simp only at hu
  have q2 := laws_eqStore_ok (p, q) (p, q) hsm (Sim.refl _)
  simp only at q2
  obtain ⟨c, o, y, e1, e2, hyo, hy⟩ := NotesAt_two p hsm.1 q hsm.2 i d
  have q1 := laws_eqNoteS_ok y o hy (Sim.same hyo)
  obtain ⟨k1, m1, m2, n1, n2⟩ := st_mark laws_markStore_sd1d9_mt (by decide) p q hsm
  obtain ⟨k', m', n1', n2', n3'⟩ := laws_markNoteS_s2747_ok y hy
  have p1 : decide (k1 < 0) = false := decide_eq_false (by omega)
  have p2 : decide (k' < 0) = false := decide_eq_false (by omega)
  have p3 : decide (c = c) = true := decide_eq_true rfl
  have p4 : decide (k' = k') = true := decide_eq_true rfl
  rw [hu]
  repeat (first | rw [Option.bind_some] | rw [e1] | rw [e2] | rw [q1] | rw [q2] | rw [n1] | rw [n1'] | rw [n3'])
  rw [p1, p2, p3, p4]
  repeat (first | rw [Option.bind_some] | rw [e2] | rw [q1] | rw [n1] | rw [n1'] | rw [n3'] | rw [p1] | rw [p2] | rw [p3] | rw [p4])
  rfl
end Go.Al
