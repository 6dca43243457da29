import Derived.Test.YtbpicgilplnmoaaAl12
import Derived.Laws.AppendOwn
set_option linter.unusedVariables false
set_option linter.unusedSimpArgs false
set_option linter.constructorNameAsVariable false
namespace Go.Al

/-! ### 15. append -/
theorem at2_append (xs ys : Rw N) (i j : Nat) : at2 (xs.app ys) i j = if i < xs.n then at2 xs i j else at2 ys (i - xs.n) j := by
  rw [Rw.app_eq]
  unfold at2
  by_cases h : i < xs.n
  · simp [h, show i < xs.n + ys.n by omega]
  · by_cases h2 : i < xs.n + ys.n
    · simp [h, h2, show i - xs.n < ys.n by omega]
    · simp [h, h2, show ¬ (i - xs.n < ys.n) by omega]
theorem unif_append {sz : Nat} {xs ys : Rw N} (h : unif sz xs) (h' : unif sz ys) : unif sz (xs.app ys) := by
  rw [Rw.app_eq]
  intro i hi
  have hi' : i < xs.n + ys.n := hi
  show (if i < xs.n then xs.g i else ys.g (i - xs.n)).length = sz
  split
  · exact h i ‹_›
  · exact h' _ (by omega)
theorem app_n (xs ys : Rw N) : (xs.app ys).n = xs.n + ys.n := rfl

/-- What is appended: the slice x, its elements' cells c, what they own F. -/
def Src (w : World) (I : Nat → Prop) (x : Value) (sz : Nat) (ys : Rw N) (c : Nat → Nat → Value) (F : Nat → Nat → Nat → Prop) : Prop :=
  unif sz ys ∧ ∃ A cap, x = .slice A ys.n cap ∧ (ys.n ≠ 0 → ∃ ad, A = some ad ∧ ∀ i j n, at2 ys i j = some n → w.cell? (ad.add (i * sz + j)) = some (c i j)) ∧
    (∀ i j n, at2 ys i j = some n → Own w I n (c i j) (F i j)) ∧ (∀ i j i' j' b, F i j b → F i' j' b → i = i' ∧ j = j')

section
variable {P : Program} {st : St} {a : Act} {w : World} {I : Nat → Prop} {β : List Value} {S : Nat → Nat → Prop}

theorem at2_some {α : Type} {sz : Nat} {xs : Rw α} (hu : unif sz xs) {i j : Nat} (hi : i < xs.n) (hj : j < sz) : ∃ x, at2 xs i j = some x := by
  have hj' : j < (xs.g i).length := by rw [hu i hi]; exact hj
  exact ⟨(xs.g i)[j], by rw [at2_of hi]; simp [hj']⟩

def flat (sz : Nat) (n : Nat) (c : Nat → Nat → Value) : List Value := (List.range (n * sz)).map fun k => c (k / sz) (k % sz)
theorem flat_length (sz n : Nat) (c : Nat → Nat → Value) : (flat sz n c).length = n * sz := by simp [flat]
theorem flat_get {sz n i j : Nat} (c : Nat → Nat → Value) (hi : i < n) (hj : j < sz) : (flat sz n c)[i * sz + j]? = some (c i j) := by
  have hlt : i * sz + j < n * sz := by
    have h1 : (i + 1) * sz ≤ n * sz := Nat.mul_le_mul_right _ hi
    rw [Nat.add_mul, Nat.one_mul] at h1
    omega
  have h1 : (i * sz + j) / sz = i := by rw [Nat.add_comm, Nat.add_mul_div_right _ _ (by omega), Nat.div_eq_of_lt hj, Nat.zero_add]
  have h2 : (i * sz + j) % sz = j := by rw [Nat.add_comm, Nat.add_mul_mod_self_right, Nat.mod_eq_of_lt hj]
  simp [flat, hlt, h1, h2]
theorem flat_mem {sz n : Nat} {c : Nat → Nat → Value} {u : Value} (hs : 0 < sz) (h : u ∈ flat sz n c) : ∃ i j, i < n ∧ j < sz ∧ u = c i j := by
  obtain ⟨k, hk, rfl⟩ := List.mem_map.1 h
  have hk' : k < n * sz := by simpa using hk
  exact ⟨k / sz, k % sz, (Nat.div_lt_iff_lt_mul hs).2 hk', Nat.mod_lt _ hs, rfl⟩

theorem run_append_room' {t ty e : TypeId} {i : TypeInfo} (ht : P.underlying t = some (.slice e)) (hi : P.info? e = some i) {g n cap m : Nat} {x : Value} {news : List Value} {cur : Array Value} {el : TypeId} {fr : Nat × Nat}
    (hb : w.heap[g]? = some (.cells cur el fr)) (hfr : cur.size ≤ fr.1 ∨ fr.2 ≤ fr.1) (hx : ∃ A c, x = .slice A m c) (hf : (Builtin.firstCells i.size m x).run P w = .ok news.toArray w)
    (hroom : n + m ≤ cap) (hfit : n * i.size + news.length ≤ cur.size) (h1 : ∀ u ∈ news, u.oneCell' = true) :
    (Builtin.append_ #[t, t] ty #[.slice (some ⟨g, 0, none⟩) n cap, x]).run P w = .ok (.slice (some ⟨g, 0, none⟩) (n + m) cap) (w.setRow g (putCells cur (n * i.size) news)) := by
  obtain ⟨A, c, rfl⟩ := hx
  have hst := run_storeCells' (P := P) g (n * i.size) el fr news 0 cur w hb hfr (by simpa using hfit) h1
  simp only [Nat.add_zero] at hst
  simp [Builtin.append_, run_underlying ht, sizeOf, typeInfo, hi, Builtin.lenOf, hroom, hf, add0, hst]

/-- append: to an owned row (or nil), of what is no longer needed elsewhere. -/
theorem append_run {t ty e : TypeId} (ht : (tyOf P t).sl = some e) (hok : (tyOf P e).ok = true) {sz : Nat} (hsz : (tyOf P e).size = sz) (hs0 : 0 < sz) {b x : Value} {T U : Nat → Prop} {xs ys : Rw N}
    {c : Nat → Nat → Value} {F : Nat → Nat → Nat → Prop} (hd : RowR w I β b T sz xs []) (hx : Src w I x sz ys c F)
    (hTI : ∀ q, T q → ¬ I q) (hT : ∀ q, T q → q < w.heap.size) (hI : ∀ q, I q → q < w.heap.size) (hU : ∀ i j q, F i j q → U q) (hUT : ∀ q, U q → ¬ T q) (hUl : ∀ q, U q → q < w.heap.size)
    (hlen : (xs.n + ys.n) * ((tyOf P e).bytes + 1) ≤ maxN) :
    ∃ b' w', (Builtin.append_ #[t, t] ty #[b, x]).run P w = .ok b' w' ∧ Fr T w w' ∧
      RowR w' I β b' (fun q => T q ∨ U q ∨ (w.heap.size ≤ q ∧ q < w'.heap.size)) sz (xs.app ys) [] := by
  obtain ⟨i, d, z, hi, hd', hz, hzs, -, hsi, -, hby⟩ := tyOf_ok hok
  have ht' := tyOf_sl ht
  rw [hby] at hlen
  rw [hsi] at hsz
  subst hsz
  obtain ⟨hyu, A, cap2, rfl, hyA, hyO, hyD⟩ := hx
  unfold maxN at hlen
  have hle1 : xs.n + ys.n ≤ 140737488355328 := Nat.le_trans (Nat.le_mul_of_pos_right _ (by omega)) hlen
  have hle2 : (xs.n + ys.n) * i.bytes ≤ 140737488355328 := Nat.le_trans (Nat.mul_le_mul_left _ (by omega)) hlen
  have hnews1 : ∀ u ∈ flat i.size ys.n c, u.oneCell' = true := by
    intro u hu
    obtain ⟨p, q, hp, hq, rfl⟩ := flat_mem hs0 hu
    obtain ⟨n, hn⟩ := at2_some hyu hp hq
    exact (hyO p q n hn).one
  have hcells : ∀ ad, A = some ad → ∀ (j : Nat) (u : Value), (flat i.size ys.n c)[j]? = some u → w.cell? (ad.add j) = some u := by
    intro ad hA j u hu
    have hj : j < ys.n * i.size := by
      have := (List.getElem?_eq_some_iff.1 hu).1
      rwa [flat_length] at this
    have hne : ys.n ≠ 0 := by intro h0; rw [h0] at hj; simp at hj
    obtain ⟨ad', hA', hc⟩ := hyA hne
    rw [hA] at hA'
    obtain rfl : ad = ad' := by simpa using hA'
    have hp : j / i.size < ys.n := (Nat.div_lt_iff_lt_mul hs0).2 hj
    have hq : j % i.size < i.size := Nat.mod_lt _ hs0
    obtain ⟨n, hn⟩ := at2_some hyu hp hq
    have h1 := hc _ _ n hn
    have h2 : j / i.size * i.size + j % i.size = j := by rw [Nat.mul_comm]; exact Nat.div_add_mod j i.size
    rw [h2] at h1
    rw [h1]
    have h3 := flat_get c hp hq
    rw [h2] at h3
    rw [← h3, hu]
  have hfirst : (Builtin.firstCells i.size ys.n (.slice A ys.n cap2)).run P w = .ok (flat i.size ys.n c).toArray w := by
    cases A with
    | none =>
      have : ys.n = 0 := by
        by_cases h : ys.n = 0
        · exact h
        · obtain ⟨ad, h1, -⟩ := hyA h
          cases h1
      simp [Builtin.firstCells, flat, this]
    | some ad => exact run_firstCells_some (P := P) w i.size ys.n ad ys.n cap2 (flat i.size ys.n c) (flat_length _ _ _) (hcells ad rfl)
  -- a new row
  have grown : ∀ (olds : List Value) (old : Nat) (co : Nat → Nat → Value) (Fo : Nat → Nat → Nat → Prop), olds.length = xs.n * i.size → old < xs.n + ys.n → unif i.size xs →
      (∀ p q n, at2 xs p q = some n → olds[p * i.size + q]? = some (co p q)) → (∀ p q n, at2 xs p q = some n → Own w I n (co p q) (Fo p q)) →
      (∀ p q r, Fo p q r → T r) → (∀ p q p' q' r, Fo p q r → Fo p' q' r → p = p' ∧ q = q') →
      RowR (w.drew.alloc (.cells (olds.toArray ++ (flat i.size ys.n c).toArray ++ Builtin.zeroCells z.cells (grownCap w (xs.n + ys.n) old e - (xs.n + ys.n))) e)) I β
        (.slice (some ⟨w.heap.size, 0, none⟩) (xs.n + ys.n) (grownCap w (xs.n + ys.n) old e))
        (fun q => T q ∨ U q ∨ (w.heap.size ≤ q ∧ q < (w.drew.alloc (.cells (olds.toArray ++ (flat i.size ys.n c).toArray ++ Builtin.zeroCells z.cells (grownCap w (xs.n + ys.n) old e - (xs.n + ys.n))) e)).heap.size)) i.size (xs.app ys) [] := by
    intro olds old co Fo hol hold hxu hoc hoO hoT hoD
    have hge := grownCap_ge w (xs.n + ys.n) old e
    have hcm : grownCap w (xs.n + ys.n) old e ≤ maxLen := grownCap_le_maxLen w _ old e (by unfold maxLen; omega)
    have hsame : ∀ q, q < w.heap.size → (w.drew.alloc (.cells (olds.toArray ++ (flat i.size ys.n c).toArray ++ Builtin.zeroCells z.cells (grownCap w (xs.n + ys.n) old e - (xs.n + ys.n))) e)).heap[q]? = w.heap[q]? :=
      fun q hq => heap_alloc_old w.drew _ q hq
    refine .inr ⟨w.heap.size, _, e, _, (0, 0), fun p q => if p < xs.n then co p q else c (p - xs.n) q, fun p q r => if p < xs.n then Fo p q r else F (p - xs.n) q r,
      ?_, unif_append hxu hyu, ?_, ?_, hcm, .inr (.inr ⟨Nat.le_refl _, by simp⟩), heap_alloc_new w.drew _, .inr (Nat.le_refl _), ?_, ?_, ?_, by simp, ?_, ?_⟩
    · rfl
    · simp only [app_n]; unfold maxN; omega
    · exact hge
    · simp only [Array.size_append, List.size_toArray, size_zeroCells, hzs, hol, flat_length, ← Nat.add_mul]
      congr 1
      omega
    · intro p q n hn
      rw [at2_append] at hn
      have hidx : ∀ (L : List Value) (k : Nat) (v : Value), L[k]? = some v → ((olds ++ flat i.size ys.n c) ++ L).length = ((olds ++ flat i.size ys.n c) ++ L).length := fun _ _ _ _ => rfl
      split at hn
      · rename_i hp
        simp only [hp, if_true]
        have h1 := hoc p q n hn
        have hlt := (List.getElem?_eq_some_iff.1 h1).1
        rw [Array.append_assoc, Array.getElem?_append_left (by simpa using hlt)]
        simpa using h1
      · rename_i hp
        simp only [hp, if_false]
        obtain ⟨hp2, hq2⟩ := at2_lt hyu hn
        have h1 := flat_get c hp2 hq2
        have hlt := (List.getElem?_eq_some_iff.1 h1).1
        have hk : p * i.size + q = xs.n * i.size + ((p - xs.n) * i.size + q) := by
          rw [← Nat.add_assoc, ← Nat.add_mul]
          congr 2
          omega
        rw [Array.append_assoc, Array.getElem?_append_right (by simp [hol, hk])]
        rw [Array.getElem?_append_left (by simp [hol, hk]; omega)]
        simp only [List.size_toArray, hol, hk, Nat.add_sub_cancel_left]
        simpa using h1
    · intro p q n hn _
      rw [at2_append] at hn
      split at hn
      · rename_i hp
        simp only [hp, if_true]
        exact (hoO p q n hn).mono (fun _ h => h) (fun r hr => hsame r (hI r hr)) (fun r hr => hsame r (hT r (hoT p q r hr))) (fun _ h => h)
      · rename_i hp
        simp only [hp, if_false]
        exact (hyO _ q n hn).mono (fun _ h => h) (fun r hr => hsame r (hI r hr)) (fun r hr => hsame r (hUl r (hU _ _ r hr))) (fun _ h => h)
    · intro p q r hr
      split at hr
      · have := hT r (hoT p q r hr)
        exact ⟨.inl (hoT p q r hr), by omega⟩
      · have := hUl r (hU _ _ r hr)
        exact ⟨.inr (.inl (hU _ _ r hr)), by omega⟩
    · intro p q p' q' r hr hr'
      split at hr <;> split at hr'
      · exact hoD p q p' q' r hr hr'
      · exact absurd (hoT p q r hr) (hUT r (hU _ _ r hr'))
      · exact absurd (hoT p' q' r hr') (hUT r (hU _ _ r hr))
      · have := hyD _ _ _ _ r hr hr'
        omega
  have hfit : ∀ old, old < xs.n + ys.n → Builtin.nextslicecap (xs.n + ys.n) old * i.bytes ≤ 281474976710656 := by
    intro old ho
    have h1 := Nat.mul_le_mul_right i.bytes (nextslicecap_le ho)
    have h2 : 2 * (xs.n + ys.n) * i.bytes = 2 * ((xs.n + ys.n) * i.bytes) := by rw [Nat.mul_assoc]
    omega
  rcases hd with ⟨hx0, A0, rfl⟩ | ⟨g, cap, el, cur, fr, co, Fo, rfl, hu, hn, hcap, hm, hg, hb, hfr, hs, hc, H, -, hF, hD⟩
  · -- nil
    by_cases hy : ys.n = 0
    · have hf0 : (Builtin.firstCells i.size 0 (.slice A 0 cap2)).run P w = .ok #[] w := by simpa [flat, hy] using hfirst
      refine ⟨.slice A0 0 0, w, ?_, Fr.refl _ _, .inl ⟨by rw [app_n]; omega, A0, rfl⟩⟩
      rw [hy]
      cases A0 <;> simp [Builtin.append_, run_underlying ht', sizeOf, typeInfo, hi, Builtin.lenOf, hf0, storeCells]
    · obtain ⟨ad, rfl, -⟩ := hyA hy
      have hpos : 0 < ys.n := by omega
      have hgr := grown [] 0 (fun _ _ => undef) (fun _ _ _ => False) (by simp [hx0]) (by omega) (unif_zero hx0 _) (fun p q n hn => by rw [at2_zero hx0] at hn; cases hn) (fun p q n hn => by rw [at2_zero hx0] at hn; cases hn) (by simp) (by simp)
      simp only [hx0, Nat.zero_add, List.nil_append] at hgr hfit hle1 hle2
      cases A0 with
      | none =>
        have hr := run_append_nil (P := P) w t ty e i z ht' hi hz ad ys.n cap2 (flat i.size ys.n c) (flat_length _ _ _) (hcells ad rfl) hpos (by omega) (by omega)
        refine ⟨_, _, hr, ⟨rfl, rfl, rfl, by simp, fun q hq _ => heap_alloc_old w.drew _ q hq⟩, ?_⟩
        simpa using hgr
      | some b0 =>
        have hr := run_append_grow (P := P) w t ty e i z ht' hi hz b0 0 0 [] (by simp) (by simp) ad ys.n cap2 (flat i.size ys.n c) (flat_length _ _ _) (hcells ad rfl) (by omega) (by simp; omega) (by simpa using hfit 0 hpos)
        simp only [Nat.zero_add] at hr
        refine ⟨_, _, hr, ⟨rfl, rfl, rfl, by simp, fun q hq _ => heap_alloc_old w.drew _ q hq⟩, ?_⟩
        simpa using hgr
  · by_cases hroom : xs.n + ys.n ≤ cap
    · have hfitc : xs.n * i.size + (flat i.size ys.n c).length ≤ cur.size := by
        rw [flat_length, hs, ← Nat.add_mul]
        exact Nat.mul_le_mul_right _ hroom
      have hrn := run_append_room' (P := P) (w := w) (t := t) (ty := ty) (x := .slice A ys.n cap2) ht' hi hb hfr ⟨A, cap2, rfl⟩ hfirst hroom hfitc hnews1
      have hsame : ∀ q, q ≠ g → (w.setRow g (putCells cur (xs.n * i.size) (flat i.size ys.n c))).heap[q]? = w.heap[q]? := fun q hq => setRow_other w g q _ hq
      have hIw : ∀ q, I q → (w.setRow g (putCells cur (xs.n * i.size) (flat i.size ys.n c))).heap[q]? = w.heap[q]? := fun q hq => hsame q (by rintro rfl; exact hTI _ hg hq)
      refine ⟨_, _, hrn, Fr.setRow hg, .inr ⟨g, cap, el, _, fr, fun p q => if p < xs.n then co p q else c (p - xs.n) q, fun p q r => if p < xs.n then Fo p q r else F (p - xs.n) q r,
        ?_, unif_append hu hyu, ?_, ?_, hm, .inl hg, setRow_heap w g cur _ el _ hb, ?_, ?_, ?_, ?_, by simp, ?_, ?_⟩⟩
      · rfl
      · simp only [app_n]; unfold maxN; omega
      · exact hroom
      · rw [putCells_size]; exact hfr
      · rw [putCells_size]; exact hs
      · intro p q n hn
        rw [at2_append] at hn
        rw [putCells_get _ _ _ _ (by omega)]
        split at hn
        · rename_i hp
          simp only [hp, if_true]
          have hq := (at2_lt hu hn).2
          rw [if_neg]
          · exact hc p q n hn
          · rintro ⟨h1, -⟩
            have h2 : (p + 1) * i.size ≤ xs.n * i.size := Nat.mul_le_mul_right _ hp
            rw [Nat.add_mul, Nat.one_mul] at h2
            omega
        · rename_i hp
          simp only [hp, if_false]
          obtain ⟨hp2, hq2⟩ := at2_lt hyu hn
          have h1 := flat_get c hp2 hq2
          have hlt := (List.getElem?_eq_some_iff.1 h1).1
          have hk : p * i.size + q = xs.n * i.size + ((p - xs.n) * i.size + q) := by
            rw [← Nat.add_assoc, ← Nat.add_mul]
            congr 2
            omega
          rw [if_pos (by omega), hk, Nat.add_sub_cancel_left]
          exact h1
      · intro p q n hn _
        rw [at2_append] at hn
        split at hn
        · rename_i hp
          simp only [hp, if_true]
          exact (H p q n hn (by rintro ⟨k, hk⟩; cases hk)).mono (fun _ h => h) hIw (fun r hr => hsame r (hF p q r hr).2) (fun _ h => h)
        · rename_i hp
          simp only [hp, if_false]
          exact (hyO _ q n hn).mono (fun _ h => h) hIw (fun r hr => hsame r (by rintro rfl; exact hUT _ (hU _ _ _ hr) hg)) (fun _ h => h)
      · intro p q r hr
        split at hr
        · exact ⟨.inl (hF p q r hr).1, (hF p q r hr).2⟩
        · exact ⟨.inr (.inl (hU _ _ r hr)), by rintro rfl; exact hUT _ (hU _ _ _ hr) hg⟩
      · intro p q p' q' r hr hr'
        split at hr <;> split at hr'
        · exact hD p q p' q' r hr hr'
        · exact absurd (hF p q r hr).1 (hUT r (hU _ _ r hr'))
        · exact absurd (hF p' q' r hr').1 (hUT r (hU _ _ r hr))
        · have := hyD _ _ _ _ r hr hr'
          omega
    · have hne : ys.n ≠ 0 := by omega
      obtain ⟨ad, rfl, -⟩ := hyA hne
      have hol : ∀ (j : Nat) (u : Value), (flat i.size xs.n co)[j]? = some u → w.cell? ((⟨g, 0, none⟩ : Addr).add j) = some u := by
        intro j u hu'
        have hj : j < xs.n * i.size := by
          have := (List.getElem?_eq_some_iff.1 hu').1
          rwa [flat_length] at this
        have hp : j / i.size < xs.n := (Nat.div_lt_iff_lt_mul hs0).2 hj
        have hq : j % i.size < i.size := Nat.mod_lt _ hs0
        obtain ⟨n, hn⟩ := at2_some hu hp hq
        have h1 := hc _ _ n hn
        have h2 : j / i.size * i.size + j % i.size = j := by rw [Nat.mul_comm]; exact Nat.div_add_mod j i.size
        rw [h2] at h1
        rw [add0, cells_at hb, h1]
        have h3 := flat_get co hp hq
        rw [h2] at h3
        rw [← h3, hu']
      have hr := run_append_grow (P := P) w t ty e i z ht' hi hz ⟨g, 0, none⟩ xs.n cap (flat i.size xs.n co) (flat_length _ _ _) hol ad ys.n cap2 (flat i.size ys.n c) (flat_length _ _ _) (hcells ad rfl) (by omega) (by omega)
        (hfit cap (by omega))
      refine ⟨_, _, hr, ⟨rfl, rfl, rfl, by simp, fun q hq _ => heap_alloc_old w.drew _ q hq⟩, ?_⟩
      exact grown _ cap co Fo (flat_length _ _ _) (by omega) hu (fun p q n hn => flat_get co (at2_lt hu hn).1 (at2_lt hu hn).2) (fun p q n hn => H p q n hn (by rintro ⟨k, hk⟩; cases hk)) (fun p q r hr => (hF p q r hr).1) hD

end
end Go.Al
