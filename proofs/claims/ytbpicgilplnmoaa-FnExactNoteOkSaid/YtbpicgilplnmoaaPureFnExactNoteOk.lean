/- The program's check of a note answers as its plain twin does, for all notes. -/
import Derived.Test.YtbpicgilplnmoaaPFnExactNoteOkx1
namespace Go.Proofs.Ytbpicgilplnmoaa.Pure
open Go.RowKit Go.Proofs.Ytbpicgilplnmoaa.PFnExactNoteOk Go.Proofs.YtbpicgilplnmoaaW.PrintWords Go.Proofs.YtbpicgilplnmoaaW.PrintLast

theorem wrap_note {i : Int} {n : Nat} (h0 : 0 ≤ i) (h : i < (n : Int)) (hn : n ≤ 140737488351232) : wrap64 (i + 1) = i + 1 := by
  unfold wrap64
  omega

theorem impl_false (s : ByteArray) (hn : s.size ≤ 140737488351232) (hb : ¬ (s.size : Int) ≤ 40) (d : Nat) : ∀ (k : Nat) (i : Int), 0 ≤ i → i ≤ s.size → (s.size : Int) - i = d → d < k →
    impl_NoteOk.l0 k s i = some false := by
  induction d with
  | zero =>
    intro k i h0 h1 hd hk
    obtain ⟨k, rfl⟩ : ∃ m, k = m + 1 := ⟨k - 1, by omega⟩
    simp only [impl_NoteOk.l0]
    rw [if_neg (by omega), decide_eq_false hb]
  | succ d ih =>
    intro k i h0 h1 hd hk
    obtain ⟨k, rfl⟩ : ∃ m, k = m + 1 := ⟨k - 1, by omega⟩
    have hlt : i < (s.size : Int) := by omega
    simp only [impl_NoteOk.l0]
    rw [if_pos hlt, if_pos h0, wrap_note h0 hlt hn, ih k (i + 1) (by omega) (by omega) (by omega) (by omega)]
    split
    · rfl
    · split <;> rfl

theorem note_same (s : ByteArray) (hb : (s.size : Int) ≤ 40) (d : Nat) : ∀ (k : Nat) (i : Int), 0 ≤ i → i ≤ s.size → (s.size : Int) - i = d → 2 * d + 1 < k →
    ∃ b, impl_NoteOk.l0 k s i = some b ∧ spec_NoteOk.l0 k s i = some b := by
  induction d with
  | zero =>
    intro k i h0 h1 hd hk
    obtain ⟨k, rfl⟩ : ∃ m, k = m + 2 := ⟨k - 2, by omega⟩
    refine ⟨true, ?_, ?_⟩
    · simp only [impl_NoteOk.l0]
      rw [if_neg (by omega), decide_eq_true hb]
    · simp only [spec_NoteOk.l0, spec_NoteOk.j1]
      rw [if_neg (by omega), if_neg (by decide), decide_eq_true hb]
  | succ d ih =>
    intro k i h0 h1 hd hk
    obtain ⟨k, rfl⟩ : ∃ m, k = m + 2 := ⟨k - 2, by omega⟩
    have hlt : i < (s.size : Int) := by omega
    obtain ⟨b, hi, hs⟩ := ih k (i + 1) (by omega) (by omega) (by omega) (by omega)
    have hi' : impl_NoteOk.l0 (k + 1) s (i + 1) = some b := impl_NoteOk.mono_l k s (i + 1) b hi
    simp only [impl_NoteOk.l0, spec_NoteOk.l0, spec_NoteOk.j1]
    simp only [impl_NoteOk.l0, decide_eq_true hb] at hi'
    rw [if_pos hlt, if_pos h0, if_pos hlt, decide_eq_true hb, if_pos rfl, if_pos h0, if_pos hlt, wrap_note h0 hlt (by omega), hs]
    by_cases c1 : bt s i < 32
    · rw [if_pos c1, if_pos c1]; exact ⟨_, rfl, rfl⟩
    · rw [if_neg c1, if_neg c1]
      by_cases c2 : bt s i > 126
      · rw [if_pos c2, if_pos c2]; exact ⟨_, rfl, rfl⟩
      · rw [if_neg c2, if_neg c2]
        exact ⟨b, hi', rfl⟩

theorem FnExactNoteOk : laws_FnExactNoteOk.Pure := by
  intro s hn
  by_cases hb : (s.size : Int) ≤ 40
  · obtain ⟨b, hi, hs⟩ := note_same s hb s.size (2 * s.size + 2) 0 (by omega) (by omega) (by omega) (by omega)
    refine ⟨2 * s.size + 2, ?_⟩
    unfold laws_FnExactNoteOk.f spec_NoteOk.f impl_NoteOk.f
    rw [if_neg (by omega), hs, hi]
    simp
  · have hi := impl_false s hn hb s.size (s.size + 2) 0 (by omega) (by omega) (by omega) (by omega)
    have hs : spec_NoteOk.l0 (s.size + 2) s 0 = some false := by
      simp only [spec_NoteOk.l0, spec_NoteOk.j1]
      rw [if_pos (by omega), decide_eq_false hb, if_neg (by decide)]
    refine ⟨s.size + 2, ?_⟩
    unfold laws_FnExactNoteOk.f spec_NoteOk.f impl_NoteOk.f
    rw [hs, hi]
    simp

end Go.Proofs.Ytbpicgilplnmoaa.Pure
