import Derived.Test.YtahffnkphppgoaaGreatPNam
import Derived.Test.YtahffnkphppgoaaGreatPRise
import Derived.Test.YtahffnkphppgoaaGreatGCom
set_option linter.unusedVariables false
set_option linter.unusedSimpArgs false
set_option linter.constructorNameAsVariable false
set_option linter.unusedSectionVars false
namespace Go.Al
abbrev Nm : Type := ByteArray × Int × Int
abbrev Cm : Type := Vec Int × ByteArray × Vec Nm
def toGr (x : Vec (IVec Int)) : Gr := ⟨x.n, fun i => (x.g i).v⟩
def cgr (L : Vec Cm) : Gr := ⟨L.n, fun i => (L.g i).1⟩
theorem grGood_congr {P Q : Gr} (hn : P.n = Q.n) (h : ∀ i, i < P.n → P.g i = Q.g i) : zV P ↔ zV Q := by
  unfold zV grAt
  rw [hn]
  refine and_congr_right fun _ => ⟨fun k v hv => ?_, fun k v hv => ?_⟩
  · rw [← h v (by omega)]; exact k v hv
  · rw [h v (by omega)]; exact k v hv
def IsGr (L : Vec Cm) (x : Vec (IVec Int)) : Prop := x.n = L.n ∧ ∀ i, i < L.n → (x.g i).v = (L.g i).1
theorem IsGr.good {L : Vec Cm} {x : Vec (IVec Int)} (h : IsGr L x) : zV (toGr x) ↔ zV (cgr L) := grGood_congr h.1 fun i hi => h.2 i (by rw [← h.1]; exact hi)
theorem graph_loop {τ : Type} (L : Vec Cm) (hn : L.n ≤ 1048576) (G : Nat → Int → Vec (IVec Int) → τ) (K : Vec (IVec Int) → τ)
    (h : ∀ k (i : Nat) out, out.n = i → i < L.n → G (k + 1) (i : Int) out = G k ((i + 1 : Nat) : Int) (Vec.app out (Vec.lit [⟨(L.g i).1⟩]))) (h2 : ∀ k (i : Nat) out, ¬ i < L.n → G (k + 1) (i : Int) out = K out) : ∃ x, G fuelN 0 Vec.nil = K x ∧ IsGr L x := by
  refine zP (σ := Nat × Vec (IVec Int)) (fun t => L.n - t.1) (fun t => t.1 ≤ L.n ∧ t.2.n = t.1 ∧ ∀ i, i < t.1 → (t.2.g i).v = (L.g i).1) (fun _ x => ∃ y, x = K y ∧ IsGr L y) (fun k t => G k (t.1 : Int) t.2) ?_ fuelN (0, Vec.nil) (by simp only [fuelN]; omega) ⟨Nat.zero_le _, rfl, fun v hv => absurd hv (Nat.not_lt_zero v)⟩
  rintro k ⟨i, out⟩ ⟨hi, ho, hv⟩ ih
  simp only at hi ho hv ⊢
  by_cases hlt : i < L.n
  · rw [h k i out ho hlt]
    refine ih (i + 1, Vec.app out (Vec.lit [⟨(L.g i).1⟩])) ⟨hlt, by show out.n + 1 = i + 1; omega, fun j hj => ?_⟩ (by simp only; omega)
    simp only at hj ⊢
    rw [Vec.app_g, ho]
    by_cases h3 : j < i
    · rw [if_pos h3]; exact hv j h3
    · obtain rfl : j = i := by omega
      rw [if_neg h3, Nat.sub_self]
      rfl
  · rw [h2 k i out hlt]
    obtain rfl : i = L.n := by omega
    exact ⟨out, rfl, ho, hv⟩
theorem spec_graph_ok (L : Vec Cm) (hn : L.n ≤ 1048576) : ∃ x, spec_l14Graph.F L = some x ∧ IsGr L x := by
  have hM : maxN = 140737488355328 := rfl
  have hlit : ∀ x : IVec Int, (Vec.lit [x] : Vec (IVec Int)).n = 1 := fun _ => rfl
  rw [spec_l14Graph.F, spec_l14Graph.B]
  refine graph_loop L hn (fun k i out => spec_l14Graph.F0 k L i out (fun e01 => some e01)) some (fun k i out ho hi => ?_) (fun k i out hi => ?_)
  · simp only [spec_l14Graph.F0, spec_l14Graph.B0, selb, chkb, decide_eq_true_eq, Int.toNat_natCast, Int.ofNat_lt, Int.natCast_nonneg, true_and, if_pos hi, hlit, if_pos (show (out.n + 1) * 25 ≤ maxN by omega), zK (i := i) (by omega)]
  · simp only [spec_l14Graph.F0, spec_l14Graph.B0, selb, decide_eq_true_eq, Int.ofNat_lt, if_neg hi]
theorem impl_graph_ok (L : Vec Cm) (hn : L.n ≤ 1048576) : ∃ x, impl_graphOf.F L = some x ∧ IsGr L x := by
  have hM : maxN = 140737488355328 := rfl
  have hlit : ∀ x : IVec Int, (Vec.lit [x] : Vec (IVec Int)).n = 1 := fun _ => rfl
  rw [impl_graphOf.F, impl_graphOf.B]
  refine graph_loop L hn (fun k i out => impl_graphOf.F0 k L (L.n : Int) i out (fun e01 => some e01)) some (fun k i out ho hi => ?_) (fun k i out hi => ?_)
  · simp only [impl_graphOf.F0, impl_graphOf.B0, selb, chkb, decide_eq_true_eq, Int.toNat_natCast, Int.ofNat_lt, Int.natCast_nonneg, true_and, if_pos hi, hlit, if_pos (show (out.n + 1) * 25 ≤ maxN by omega), zK (i := i) (by omega)]
  · simp only [impl_graphOf.F0, impl_graphOf.B0, selb, decide_eq_true_eq, Int.ofNat_lt, if_neg hi]
theorem spec_GraphI_ok (x : Vec (IVec Int)) : ∃ c, spec_GraphOk_s2a58.F x = some c ∧ (c = true ↔ zV (toGr x)) := by
  have hb : bN = 140737488351232 := rfl
  have e0 : (toGr x).n = x.n := rfl
  rw [spec_GraphOk_s2a58.F, spec_GraphOk_s2a58.B, selb]
  split
  · rename_i h
    rw [decide_eq_true_eq] at h
    exact ⟨false, rfl, by simp [zV, e0]; intro h2; omega⟩
  · rename_i h
    rw [decide_eq_true_eq] at h
    rcases zT (p := grAt (toGr x)) (n := x.n) (by omega) (fun k i => spec_GraphOk_s2a58.F0 k x i (fun _ => some true) (fun x => some x)) (some true) (some false)
      (fun k i hi => by
        simp only [spec_GraphOk_s2a58.F0, spec_GraphOk_s2a58.B0, selb, chkb, decide_eq_true_eq, Int.toNat_natCast, Int.ofNat_lt, Int.natCast_nonneg, true_and]
        rw [zK (by omega), if_pos hi, if_pos hi]
        unfold grAt
        by_cases h2 : (x.g i).v.n ≤ 4
        · rw [if_neg (by omega), if_pos hi]
          obtain ⟨c, e, hc⟩ := spec_l05Rise_ok (x.g i).v (by omega) (i : Int) (by omega) (by omega)
          rw [e, Option.bind_some]
          cases c with
          | false => exact ⟨fun _ => rfl, fun h => by have := hc.2 h.2; cases this⟩
          | true => exact ⟨fun h => absurd ⟨h2, hc.1 rfl⟩ h, fun _ => rfl⟩
        · rw [if_pos (by omega)]
          exact ⟨fun _ => rfl, fun h => absurd h.1 h2⟩)
      (fun k i hi => by
        simp only [spec_GraphOk_s2a58.F0, spec_GraphOk_s2a58.B0, selb, decide_eq_true_eq, Int.ofNat_lt, if_neg hi]) with ⟨h3, e⟩ | ⟨h3, e⟩
    · exact ⟨true, e, by simpa using ⟨by show x.n ≤ 40; omega, h3⟩⟩
    · exact ⟨false, e, by simp; exact fun h4 => h3 h4.2⟩
theorem impl_GraphI_ok (x : Vec (IVec Int)) (hn : x.n ≤ 1048576) : ∃ c, impl_GraphOk_s2a58.F x = some c ∧ (c = true ↔ zV (toGr x)) := by
  have hb : bN = 140737488351232 := rfl
  rw [impl_GraphOk_s2a58.F, impl_GraphOk_s2a58.B]
  rcases zT (p := grAt (toGr x)) (n := x.n) (by omega) (fun k i => impl_GraphOk_s2a58.F0 k x x (x.n : Int) i (fun e01 => some (decide ((e01.n : Int) ≤ (40 : Int)))) (fun x => some x)) (some (decide ((x.n : Int) ≤ (40 : Int)))) (some false)
      (fun k i hi => by
        simp only [impl_GraphOk_s2a58.F0, impl_GraphOk_s2a58.B0, selb, chkb, decide_eq_true_eq, Int.toNat_natCast, Int.ofNat_lt, Int.natCast_nonneg, true_and]
        rw [zK (by omega), if_pos hi, if_pos hi]
        unfold grAt
        by_cases h2 : (x.g i).v.n ≤ 4
        · rw [if_neg (by omega)]
          obtain ⟨c, e, hc⟩ := impl_ascends_ok (x.g i).v (by omega) (i : Int) (by omega) (by omega)
          rw [e, Option.bind_some]
          cases c with
          | false => exact ⟨fun _ => rfl, fun h => by have := hc.2 h.2; cases this⟩
          | true => exact ⟨fun h => absurd ⟨h2, hc.1 rfl⟩ h, fun _ => rfl⟩
        · rw [if_pos (by omega)]
          exact ⟨fun _ => rfl, fun h => absurd h.1 h2⟩)
      (fun k i hi => by
        simp only [impl_GraphOk_s2a58.F0, impl_GraphOk_s2a58.B0, selb, decide_eq_true_eq, Int.ofNat_lt, if_neg hi]) with ⟨h3, e⟩ | ⟨h3, e⟩
  · exact ⟨_, e, by rw [decide_eq_true_eq, zV]; exact ⟨fun h => ⟨by show x.n ≤ 40; omega, h3⟩, fun h => by have : x.n ≤ 40 := h.1; omega⟩⟩
  · exact ⟨false, e, by simp; exact fun h4 => h3 h4.2⟩
def noteCh (c : Int) : Prop := ¬ c < 32 ∧ ¬ 126 < c
def noteGood (s : ByteArray) : Prop := (∀ i, i < s.size → noteCh (byteAt s i)) ∧ s.size ≤ 40
theorem impl_note_ok (s : ByteArray) (hs : s.size ≤ 1048576) : ∃ c, impl_NoteOk.F s = some c ∧ (c = true ↔ noteGood s) := by
  have hb : bN = 140737488351232 := rfl
  rw [impl_NoteOk.F, impl_NoteOk.B]
  rcases zT (p := fun i => noteCh (byteAt s i)) (n := s.size) (by omega) (fun k i => impl_NoteOk.F0 k s i (fun e01 => some (decide ((e01.size : Int) ≤ (40 : Int)))) (fun x => some x)) (some (decide ((s.size : Int) ≤ (40 : Int)))) (some false)
      (fun k i hi => by
        simp only [impl_NoteOk.F0, impl_NoteOk.B0, selb, chkb, decide_eq_true_eq, Int.toNat_natCast, Int.ofNat_lt, Int.natCast_nonneg, true_and, if_pos hi, zK (i := i) (by omega), noteCh]
        by_cases h1 : byteAt s i < 32
        · rw [if_pos h1]
          exact ⟨fun _ => rfl, fun h => absurd h1 h.1⟩
        · rw [if_neg h1]
          by_cases h2 : 126 < byteAt s i
          · rw [if_pos h2]
            exact ⟨fun _ => rfl, fun h => absurd h2 h.2⟩
          · rw [if_neg h2]
            exact ⟨fun h => absurd ⟨h1, h2⟩ h, fun _ => rfl⟩)
      (fun k i hi => by
        simp only [impl_NoteOk.F0, impl_NoteOk.B0, selb, decide_eq_true_eq, Int.ofNat_lt, if_neg hi]) with ⟨h3, e⟩ | ⟨h3, e⟩
  · exact ⟨_, e, by rw [decide_eq_true_eq, noteGood]; exact ⟨fun h => ⟨h3, by omega⟩, fun h => by have := h.2; omega⟩⟩
  · exact ⟨false, e, by simp; exact fun h4 => h3 h4.1⟩
theorem spec_note_ok (s : ByteArray) (hs : s.size ≤ 1048576) : ∃ c, spec_NoteOk.F s = some c ∧ (c = true ↔ noteGood s) := by
  have hb : bN = 140737488351232 := rfl
  rw [spec_NoteOk.F, spec_NoteOk.B]
  by_cases h40 : s.size ≤ 40
  · have h40' : (s.size : Int) ≤ 40 := by omega
    rcases zT (p := fun i => noteCh (byteAt s i)) (n := s.size) (by omega) (fun k i => spec_NoteOk.F0 k s i (fun e01 => some (decide ((e01.size : Int) ≤ (40 : Int)))) (fun x => some x)) (some (decide ((s.size : Int) ≤ (40 : Int)))) (some false)
      (fun k i hi => by
        simp only [spec_NoteOk.F0, spec_NoteOk.B0, selb, chkb, decide_eq_true_eq, Int.toNat_natCast, Int.ofNat_lt, Int.natCast_nonneg, true_and, if_pos hi, if_pos h40', zK (i := i) (by omega), noteCh]
        by_cases h1 : byteAt s i < 32
        · rw [if_pos h1]
          exact ⟨fun _ => rfl, fun h => absurd h1 h.1⟩
        · rw [if_neg h1]
          by_cases h2 : 126 < byteAt s i
          · rw [if_pos h2]
            exact ⟨fun _ => rfl, fun h => absurd h2 h.2⟩
          · rw [if_neg h2]
            exact ⟨fun h => absurd ⟨h1, h2⟩ h, fun _ => rfl⟩)
      (fun k i hi => by
        simp only [spec_NoteOk.F0, spec_NoteOk.B0, selb, decide_eq_true_eq, Int.ofNat_lt, if_neg hi]) with ⟨h3, e⟩ | ⟨h3, e⟩
    · exact ⟨_, e, by rw [decide_eq_true_eq, noteGood]; exact ⟨fun h => ⟨h3, by omega⟩, fun h => by have := h.2; omega⟩⟩
    · exact ⟨false, e, by simp; exact fun h4 => h3 h4.1⟩
  · obtain ⟨f, hf⟩ : ∃ f, fuelN = f + 1 := ⟨fuelN - 1, by unfold fuelN; omega⟩
    refine ⟨false, ?_, by simp [noteGood]; intro _; omega⟩
    rw [hf, spec_NoteOk.F0, spec_NoteOk.B0, selb, if_pos (by rw [decide_eq_true_eq]; omega), selb, if_neg (by rw [decide_eq_true_eq]; omega), decide_eq_false (by omega)]
def inVer (ver : Vec Int) (x : Nm) : Prop := ¬ (ver.n : Int) ≤ x.2.1 ∧ ¬ ver.g x.2.1.toNat ≤ x.2.2
def cmAt (L : Vec Cm) (ver : Vec Int) (i : Nat) : Prop := noteGood (L.g i).2.1 ∧ zZ (L.g i).2.2 ∧ ∀ k, k < (L.g i).2.2.n → inVer ver ((L.g i).2.2.g k)
def verAt (ver : Vec Int) (i : Nat) : Prop := 0 ≤ ver.g i ∧ ver.g i ≤ 40
def cmGood (L : Vec Cm) (ver : Vec Int) : Prop := L.n ≤ 40 ∧ ver.n ≤ 12 ∧ zV (cgr L) ∧ (∀ i, i < ver.n → verAt ver i) ∧ ∀ i, i < L.n → cmAt L ver i
def cmSml (L : Vec Cm) : Prop := L.n ≤ 1048576 ∧ ∀ i, i < L.n → (L.g i).2.1.size ≤ 1048576 ∧ Sml.sml (L.g i).2.2
theorem id_nn {v : Vec Nm} (h : zZ v) {k : Nat} (hk : k < v.n) : 0 ≤ (v.g k).2.1 := ((h.2 k hk).2.2.1).1
theorem names_n {v : Vec Nm} (h : zZ v) : v.n ≤ 12 := h.1
theorem spec_in_loop {ρ : Type} (L : Vec Cm) (ver : Vec Int) (i : Nat) (hi : i < L.n) (hg : zZ (L.g i).2.2) (K4 : Vec Cm → Vec Int → Int → Option ρ) (Kr : Bool → Option ρ) :
    ((∀ k, k < (L.g i).2.2.n → inVer ver ((L.g i).2.2.g k)) ∧ spec_CommitsOk.F2 fuelN L ver (i : Int) 0 K4 Kr = K4 L ver (i : Int)) ∨ (¬ (∀ k, k < (L.g i).2.2.n → inVer ver ((L.g i).2.2.g k)) ∧ spec_CommitsOk.F2 fuelN L ver (i : Int) 0 K4 Kr = Kr false) := by
  have hb : bN = 140737488351232 := rfl
  have hn := names_n hg
  refine zT (p := fun k => inVer ver ((L.g i).2.2.g k)) (n := (L.g i).2.2.n) (by omega) (fun k q => spec_CommitsOk.F2 k L ver (i : Int) q K4 Kr) (K4 L ver (i : Int)) (Kr false) (fun k q hq => ?_) (fun k q hq => ?_)
  · have h0 := id_nn hg hq
    simp only [spec_CommitsOk.F2, spec_CommitsOk.B2, selb, chkb, decide_eq_true_eq, Int.toNat_natCast, Int.ofNat_lt, Int.natCast_nonneg, true_and, if_pos hi, if_pos hq, zK (i := q) (by omega), inVer]
    by_cases h1 : (ver.n : Int) ≤ ((L.g i).2.2.g q).2.1
    · rw [if_pos h1]
      exact ⟨fun _ => rfl, fun h => absurd h1 h.1⟩
    · rw [if_neg h1, if_pos ⟨h0, by omega⟩]
      by_cases h2 : ver.g ((L.g i).2.2.g q).2.1.toNat ≤ ((L.g i).2.2.g q).2.2
      · rw [if_pos h2]
        exact ⟨fun _ => rfl, fun h => absurd h2 h.2⟩
      · rw [if_neg h2]
        exact ⟨fun h => absurd ⟨h1, h2⟩ h, fun _ => rfl⟩
  · simp only [spec_CommitsOk.F2, spec_CommitsOk.B2, selb, chkb, decide_eq_true_eq, Int.toNat_natCast, Int.ofNat_lt, Int.natCast_nonneg, true_and, if_pos hi, if_neg hq]
theorem impl_in_loop {ρ : Type} (L : Vec Cm) (ver : Vec Int) (v : Vec Nm) (hg : zZ v) (a b : Int) (K4 : Vec Int → Vec Cm → Int → Int → Option ρ) (Kr : Bool → Option ρ) :
    ((∀ k, k < v.n → inVer ver (v.g k)) ∧ impl_CommitsOk.F2 fuelN ver L a b v (v.n : Int) 0 K4 Kr = K4 ver L a b) ∨ (¬ (∀ k, k < v.n → inVer ver (v.g k)) ∧ impl_CommitsOk.F2 fuelN ver L a b v (v.n : Int) 0 K4 Kr = Kr false) := by
  have hb : bN = 140737488351232 := rfl
  have hn := names_n hg
  refine zT (p := fun k => inVer ver (v.g k)) (n := v.n) (by omega) (fun k q => impl_CommitsOk.F2 k ver L a b v (v.n : Int) q K4 Kr) (K4 ver L a b) (Kr false) (fun k q hq => ?_) (fun k q hq => ?_)
  · have h0 := id_nn hg hq
    simp only [impl_CommitsOk.F2, impl_CommitsOk.B2, selb, chkb, decide_eq_true_eq, Int.toNat_natCast, Int.ofNat_lt, Int.natCast_nonneg, true_and, if_pos hq, zK (i := q) (by omega), inVer]
    by_cases h1 : (ver.n : Int) ≤ (v.g q).2.1
    · rw [if_pos h1]
      exact ⟨fun _ => rfl, fun h => absurd h1 h.1⟩
    · rw [if_neg h1, if_pos ⟨h0, by omega⟩]
      by_cases h2 : ver.g (v.g q).2.1.toNat ≤ (v.g q).2.2
      · rw [if_pos h2]
        exact ⟨fun _ => rfl, fun h => absurd h2 h.2⟩
      · rw [if_neg h2]
        exact ⟨fun h => absurd ⟨h1, h2⟩ h, fun _ => rfl⟩
  · simp only [impl_CommitsOk.F2, impl_CommitsOk.B2, selb, decide_eq_true_eq, Int.ofNat_lt, if_neg hq]
theorem spec_cm_loop {ρ : Type} (L : Vec Cm) (hL : cmSml L) (ver : Vec Int) (K2 : Unit → Option ρ) (Kr : Bool → Option ρ) :
    ((∀ i, i < L.n → cmAt L ver i) ∧ spec_CommitsOk.F1 fuelN L ver 0 K2 Kr = K2 ()) ∨ (¬ (∀ i, i < L.n → cmAt L ver i) ∧ spec_CommitsOk.F1 fuelN L ver 0 K2 Kr = Kr false) := by
  have hb : bN = 140737488351232 := rfl
  have hn := hL.1
  refine zT (p := cmAt L ver) (n := L.n) (by omega) (fun k q => spec_CommitsOk.F1 k L ver q K2 Kr) (K2 ()) (Kr false) (fun k i hi => ?_) (fun k q hq => ?_)
  · obtain ⟨c, e1, h1⟩ := spec_note_ok (L.g i).2.1 (hL.2 i hi).1
    obtain ⟨d, e2, h2⟩ := spec_NamesOk_ok (L.g i).2.2 (hL.2 i hi).2
    rw [spec_CommitsOk.F1, spec_CommitsOk.B1, selb, if_pos (by simpa using hi), chkb, if_pos (by simpa using hi), Int.toNat_natCast, e1, Option.bind_some, selb]
    unfold cmAt
    cases c with
    | false =>
      rw [if_pos (by decide)]
      exact ⟨fun _ => rfl, fun h => by have := h1.2 h.1; cases this⟩
    | true =>
      rw [if_neg (by decide), chkb, if_pos (by simpa using hi), e2, Option.bind_some, selb]
      cases d with
      | false =>
        rw [if_pos (by decide)]
        exact ⟨fun _ => rfl, fun h => by have := h2.2 h.2.1; cases this⟩
      | true =>
        rw [if_neg (by decide)]
        rcases spec_in_loop L ver i hi (h2.1 rfl) (fun e21 e22 e23 => spec_CommitsOk.F1 k e21 e22 (wr (e23 + (1 : Int))) K2 Kr) (fun x21 => Kr x21) with ⟨h3, e3⟩ | ⟨h3, e3⟩
        · rw [e3]
          exact ⟨fun h => absurd ⟨h1.1 rfl, h2.1 rfl, h3⟩ h, fun _ => by rw [zK (i := i) (by omega)]⟩
        · rw [e3]
          exact ⟨fun _ => rfl, fun h => absurd h.2.2 h3⟩
  · rw [spec_CommitsOk.F1, spec_CommitsOk.B1, selb, if_neg (by simpa using hq)]
theorem impl_cm_loop {ρ : Type} (L : Vec Cm) (hL : cmSml L) (ver : Vec Int) (K2 : Unit → Option ρ) (Kr : Bool → Option ρ) :
    ((∀ i, i < L.n → cmAt L ver i) ∧ impl_CommitsOk.F1 fuelN ver L (L.n : Int) 0 K2 Kr = K2 ()) ∨ (¬ (∀ i, i < L.n → cmAt L ver i) ∧ impl_CommitsOk.F1 fuelN ver L (L.n : Int) 0 K2 Kr = Kr false) := by
  have hb : bN = 140737488351232 := rfl
  have hn := hL.1
  refine zT (p := cmAt L ver) (n := L.n) (by omega) (fun k q => impl_CommitsOk.F1 k ver L (L.n : Int) q K2 Kr) (K2 ()) (Kr false) (fun k i hi => ?_) (fun k q hq => ?_)
  · obtain ⟨c, e1, h1⟩ := impl_note_ok (L.g i).2.1 (hL.2 i hi).1
    obtain ⟨d, e2, h2⟩ := impl_NamesOk_ok (L.g i).2.2 (hL.2 i hi).2
    rw [impl_CommitsOk.F1, impl_CommitsOk.B1, selb, if_pos (by simpa using hi), chkb, if_pos (by simpa using hi), Int.toNat_natCast, e1, Option.bind_some, selb]
    unfold cmAt
    cases c with
    | false =>
      rw [if_pos (by decide)]
      exact ⟨fun _ => rfl, fun h => by have := h1.2 h.1; cases this⟩
    | true =>
      rw [if_neg (by decide), e2, Option.bind_some, selb]
      cases d with
      | false =>
        rw [if_pos (by decide)]
        exact ⟨fun _ => rfl, fun h => by have := h2.2 h.2.1; cases this⟩
      | true =>
        rw [if_neg (by decide)]
        rcases impl_in_loop L ver (L.g i).2.2 (h2.1 rfl) (L.n : Int) (i : Int) (fun e21 e22 e23 e24 => impl_CommitsOk.F1 k e21 e22 e23 (wr (e24 + (1 : Int))) K2 Kr) (fun x21 => Kr x21) with ⟨h3, e3⟩ | ⟨h3, e3⟩
        · rw [e3]
          exact ⟨fun h => absurd ⟨h1.1 rfl, h2.1 rfl, h3⟩ h, fun _ => by rw [zK (i := i) (by omega)]⟩
        · rw [e3]
          exact ⟨fun _ => rfl, fun h => absurd h.2.2 h3⟩
  · rw [impl_CommitsOk.F1, impl_CommitsOk.B1, selb, if_neg (by simpa using hq)]
theorem spec_CommitsOk_ok (L : Vec Cm) (hL : cmSml L) (ver : Vec Int) : ∃ c, spec_CommitsOk.F L ver = some c ∧ (c = true ↔ cmGood L ver) := by
  have hb : bN = 140737488351232 := rfl
  rw [spec_CommitsOk.F, spec_CommitsOk.B, selb]
  split
  · rename_i h
    rw [decide_eq_true_eq] at h
    exact ⟨false, rfl, by simp [cmGood]; intro _; omega⟩
  rename_i h
  rw [decide_eq_true_eq] at h
  rw [selb]
  split
  · rename_i h2
    rw [decide_eq_true_eq] at h2
    exact ⟨false, rfl, by simp [cmGood]; intro _ _; omega⟩
  rename_i h2
  rw [decide_eq_true_eq] at h2
  obtain ⟨x, e1, hx⟩ := spec_graph_ok L hL.1
  obtain ⟨c, e2, hc⟩ := spec_GraphI_ok x
  rw [e1, Option.bind_some, e2, Option.bind_some, selb]
  rw [hx.good] at hc
  cases c with
  | false => exact ⟨false, rfl, by simp [cmGood]; intro _ _ h3; have := hc.2 h3; cases this⟩
  | true =>
    rw [if_neg (by decide)]
    rcases zT (p := verAt ver) (n := ver.n) (by omega) (fun k i => spec_CommitsOk.F0 k L ver i (fun e01 e02 => spec_CommitsOk.F1 fuelN e01 e02 (0 : Int) (fun _ => some true) (fun x11 => some x11)) (fun x01 => some x01)) (spec_CommitsOk.F1 fuelN L ver (0 : Int) (fun _ => some true) (fun x11 => some x11)) (some false)
      (fun k i hi => by
        simp only [spec_CommitsOk.F0, spec_CommitsOk.B0, selb, chkb, decide_eq_true_eq, Int.toNat_natCast, Int.ofNat_lt, Int.natCast_nonneg, true_and, if_pos hi, zK (i := i) (by omega), in_eq, Option.bind_some, verAt]
        by_cases h3 : 0 ≤ ver.g i ∧ ver.g i ≤ 40
        · rw [decide_eq_true h3]
          exact ⟨fun h => absurd h3 h, fun _ => rfl⟩
        · rw [decide_eq_false h3]
          exact ⟨fun _ => rfl, fun h => absurd h h3⟩)
      (fun k i hi => by
        simp only [spec_CommitsOk.F0, spec_CommitsOk.B0, selb, decide_eq_true_eq, Int.ofNat_lt, if_neg hi]) with ⟨h3, e⟩ | ⟨h3, e⟩
    · rw [e]
      rcases spec_cm_loop L hL ver (fun _ => some true) (fun x11 => some x11) with ⟨h4, e4⟩ | ⟨h4, e4⟩
      · exact ⟨true, e4, by simp only [true_iff]; exact ⟨by omega, by omega, hc.1 rfl, h3, h4⟩⟩
      · exact ⟨false, e4, by simp only [Bool.false_eq_true, false_iff]; exact fun h5 => h4 h5.2.2.2.2⟩
    · exact ⟨false, e, by simp only [Bool.false_eq_true, false_iff]; exact fun h5 => h3 h5.2.2.2.1⟩
theorem impl_CommitsOk_ok (L : Vec Cm) (hL : cmSml L) (ver : Vec Int) : ∃ c, impl_CommitsOk.F L ver = some c ∧ (c = true ↔ cmGood L ver) := by
  have hb : bN = 140737488351232 := rfl
  rw [impl_CommitsOk.F, impl_CommitsOk.B, selb]
  split
  · rename_i h
    rw [decide_eq_true_eq] at h
    exact ⟨false, rfl, by simp [cmGood]; intro _; omega⟩
  rename_i h
  rw [decide_eq_true_eq] at h
  obtain ⟨x, e1, hx⟩ := impl_graph_ok L hL.1
  obtain ⟨c, e2, hc⟩ := impl_GraphI_ok x (by rw [hx.1]; exact hL.1)
  rw [e1, Option.bind_some, e2, Option.bind_some, selb]
  rw [hx.good] at hc
  cases c with
  | false => exact ⟨false, rfl, by simp [cmGood]; intro _ _ h3; have := hc.2 h3; cases this⟩
  | true =>
    rw [if_neg (by decide), selb]
    split
    · rename_i h2
      rw [decide_eq_true_eq] at h2
      exact ⟨false, rfl, by simp [cmGood]; intro _ _; omega⟩
    rename_i h2
    rw [decide_eq_true_eq] at h2
    rcases zT (p := verAt ver) (n := ver.n) (by omega) (fun k i => impl_CommitsOk.F0 k L ver ver (ver.n : Int) i (fun e01 e02 => impl_CommitsOk.F1 fuelN e02 e01 (e01.n : Int) (0 : Int) (fun _ => some true) (fun x11 => some x11)) (fun x01 => some x01)) (impl_CommitsOk.F1 fuelN ver L (L.n : Int) (0 : Int) (fun _ => some true) (fun x11 => some x11)) (some false)
      (fun k i hi => by
        simp only [impl_CommitsOk.F0, impl_CommitsOk.B0, selb, chkb, decide_eq_true_eq, Int.toNat_natCast, Int.ofNat_lt, Int.natCast_nonneg, true_and, if_pos hi, zK (i := i) (by omega), inRange_eq, Option.bind_some, verAt]
        by_cases h3 : 0 ≤ ver.g i ∧ ver.g i ≤ 40
        · rw [decide_eq_true h3]
          exact ⟨fun h => absurd h3 h, fun _ => rfl⟩
        · rw [decide_eq_false h3]
          exact ⟨fun _ => rfl, fun h => absurd h h3⟩)
      (fun k i hi => by
        simp only [impl_CommitsOk.F0, impl_CommitsOk.B0, selb, decide_eq_true_eq, Int.ofNat_lt, if_neg hi]) with ⟨h3, e⟩ | ⟨h3, e⟩
    · rw [e]
      rcases impl_cm_loop L hL ver (fun _ => some true) (fun x11 => some x11) with ⟨h4, e4⟩ | ⟨h4, e4⟩
      · exact ⟨true, e4, by simp only [true_iff]; exact ⟨by omega, by omega, hc.1 rfl, h3, h4⟩⟩
      · exact ⟨false, e4, by simp only [Bool.false_eq_true, false_iff]; exact fun h5 => h4 h5.2.2.2.2⟩
    · exact ⟨false, e, by simp only [Bool.false_eq_true, false_iff]; exact fun h5 => h3 h5.2.2.2.1⟩
end Go.Al
