import Derived.Test.YtahffnkphppgoaaGreatAlA
import Derived.Laws.AppendOwn
set_option linter.unusedVariables false
set_option linter.unusedSimpArgs false
set_option linter.constructorNameAsVariable false
set_option linter.unusedSectionVars false
namespace Go.Al
theorem at2_set {xs : Rw N} {idx i j : Nat} {e : List N} (hi : idx < xs.n) : at2 (xs.set idx e) i j = if i = idx then e[j]? else at2 xs i j := by
  rw [Rw.set_eq]
  unfold at2
  by_cases h : i = idx
  · subst h; simp [hi]
  · simp [h]
theorem unif_set {sz idx : Nat} {xs : Rw N} {e : List N} (h : unif sz xs) (he : e.length = sz) : unif sz (xs.set idx e) := by
  rw [Rw.set_eq]
  intro i hi
  show (if i = idx then e else xs.g i).length = sz
  split
  · exact he
  · exact h i hi
theorem div_lt {i i' j j' sz : Nat} (hj : j < sz) (hj' : j' < sz) (h : i * sz + j = i' * sz + j') : i = i' ∧ j = j' := by
  have h1 : (i * sz + j) / sz = i := by rw [Nat.add_comm, Nat.add_mul_div_right _ _ (by omega), Nat.div_eq_of_lt hj, Nat.zero_add]
  have h2 : (i' * sz + j') / sz = i' := by rw [Nat.add_comm, Nat.add_mul_div_right _ _ (by omega), Nat.div_eq_of_lt hj', Nat.zero_add]
  have : i = i' := by rw [← h1, ← h2, h]
  subst this
  exact ⟨rfl, by omega⟩
section
variable {P : Program} {st : St} {a : Act} {w : World} {I : Nat → Prop} {β : List Value} {S : Nat → Nat → Prop}
theorem RowR.store {b : Value} {T T' : Nat → Prop} {sz idx f : Nat} {xs : Rw N} (h : RowR w I β b T sz xs []) {e : List N} (hi : idx < xs.n) (he : xs.g idx = e)
    {ns : List N} {vs : List Value} {Fs : Nat → Nat → Prop} (hlen : vs.length = ns.length) (hfit : f + ns.length ≤ e.length)
    (hown : ∀ (k : Nat) (n : N) (v : Value), ns[k]? = some n → vs[k]? = some v → Own w I n v (Fs k))
    (hFd : ∀ k k' b, Fs k b → Fs k' b → k = k') (hFT : ∀ k b, Fs k b → ¬ T b) (hT : ∀ b, T b → T' b) (hFT' : ∀ k b, Fs k b → T' b) (hTI : ∀ b, T b → ¬ I b) :
    ∃ g cap cur el fr, b = .slice (some ⟨g, 0, none⟩) xs.n cap ∧ T g ∧ w.heap[g]? = some (.cells cur el fr) ∧ (cur.size ≤ fr.1 ∨ fr.2 ≤ fr.1) ∧ idx * sz + f + vs.length ≤ cur.size ∧
      RowR (w.setRow g (putCells cur (idx * sz + f) vs)) I β b T' sz (xs.set idx (setAt e f ns)) [] := by
  rcases h with ⟨h0, -⟩ | ⟨g, cap, el, cur, fr, c, F, rfl, hu, hn, hcap, hm, hg, hb, hfr, hs, hc, H, -, hF, hD⟩
  · omega
  · have hel : e.length = sz := by rw [← he]; exact hu idx hi
    have hroom : idx * sz + f + vs.length ≤ cur.size := by
      have h1 : (idx + 1) * sz ≤ cap * sz := Nat.mul_le_mul_right _ (by omega)
      rw [Nat.add_mul, Nat.one_mul] at h1
      omega
    refine ⟨g, cap, cur, el, fr, rfl, hg, hb, hfr.imp_left And.left, hroom, .inr ⟨g, cap, el, putCells cur (idx * sz + f) vs, fr,
      fun i j => if i = idx ∧ f ≤ j ∧ j < f + ns.length then vs.getD (j - f) undef else c i j,
      fun i j b => (if i = idx ∧ f ≤ j ∧ j < f + ns.length then Fs (j - f) b else F i j b), ?_, ?_, ?_, ?_, hm, hT _ hg, setRow_heap w g cur _ el _ hb, by rw [putCells_size]; exact hfr, by rw [putCells_size]; exact hs, ?_, ?_, by simp, ?_, ?_⟩⟩
    · rfl
    · exact unif_set hu (by rw [setAt_length hfit]; exact hel)
    · exact hn
    · exact hcap
    · intro i j x hx
      rw [at2_set hi] at hx
      rw [putCells_get _ _ _ _ (by omega)]
      have hjs : j < sz := by
        split at hx
        · have := (List.getElem?_eq_some_iff.1 hx).1
          rw [setAt_length hfit, hel] at this
          exact this
        · exact (at2_lt hu hx).2
      by_cases h1 : i = idx ∧ f ≤ j ∧ j < f + ns.length
      · obtain ⟨rfl, h2, h3⟩ := h1
        rw [if_pos (by omega)]
        simp only [h2, h3, and_self, if_true]
        rw [show i * sz + j - (i * sz + f) = j - f by omega]
        simp [List.getD, show j - f < vs.length by omega]
      · dsimp only
        rw [if_neg h1]
        rw [if_neg]
        · by_cases h2 : i = idx
          · subst h2
            rw [if_pos rfl, setAt_get hfit, if_neg (by omega)] at hx
            exact hc i j x (by rw [at2_of hi, he]; exact hx)
          · rw [if_neg h2] at hx
            exact hc i j x hx
        · rintro ⟨h2, h3⟩
          have h4 : i * sz + j = idx * sz + (i * sz + j - idx * sz) := by omega
          have := div_lt hjs (show i * sz + j - idx * sz < sz by omega) h4
          exact h1 ⟨this.1, by omega, by omega⟩
    · intro i j x hx _
      rw [at2_set hi] at hx
      have hsame : ∀ b, b ≠ g → (w.setRow g (putCells cur (idx * sz + f) vs)).heap[b]? = w.heap[b]? := fun b hb => setRow_other w g b _ hb
      have hIw : ∀ b, I b → (w.setRow g (putCells cur (idx * sz + f) vs)).heap[b]? = w.heap[b]? := fun q hq => hsame q (by rintro rfl; exact hTI _ hg hq)
      by_cases h1 : i = idx ∧ f ≤ j ∧ j < f + ns.length
      · obtain ⟨rfl, h2, h3⟩ := h1
        simp only [h2, h3, and_self, if_true]
        rw [if_pos rfl, setAt_get hfit, if_pos ⟨h2, h3⟩] at hx
        have hv : vs[j - f]? = some (vs.getD (j - f) undef) := by simp [List.getD, show j - f < vs.length by omega]
        exact (hown _ x _ hx hv).mono (fun _ h => h) hIw (fun q hq => hsame q (by rintro rfl; exact hFT _ _ hq hg)) (fun _ h => h)
      · simp only [h1, if_false]
        have hx' : at2 xs i j = some x := by
          by_cases h2 : i = idx
          · subst h2
            rw [if_pos rfl, setAt_get hfit, if_neg (by omega)] at hx
            rw [at2_of hi, he]; exact hx
          · rwa [if_neg h2] at hx
        exact (H i j x hx' (by rintro ⟨k, hk⟩; cases hk)).mono (fun _ h => h) hIw (fun q hq => hsame q (hF i j q hq).2) (fun _ h => h)
    · intro i j q hq
      split at hq
      · exact ⟨hFT' _ q hq, by rintro rfl; exact hFT _ _ hq hg⟩
      · exact ⟨hT _ (hF i j q hq).1, (hF i j q hq).2⟩
    · intro i j i' j' q hq hq'
      split at hq
      · rename_i h1
        split at hq'
        · rename_i h2
          have := hFd _ _ q hq hq'
          omega
        · exact absurd (hF i' j' q hq').1 (hFT _ q hq)
      · split at hq'
        · exact absurd (hF i j q hq).1 (hFT _ q hq')
        · exact hD i j i' j' q hq hq'
end
theorem at2_append (xs ys : Rw N) (i j : Nat) : at2 (xs.app ys) i j = if i < xs.n then at2 xs i j else at2 ys (i - xs.n) j := by
  rw [Rw.app_eq]
  unfold at2
  by_cases h : i < xs.n
  · simp [h, show i < xs.n + ys.n by omega]
  · by_cases h2 : i < xs.n + ys.n
    · simp [h, h2, show i - xs.n < ys.n by omega]
    · simp [h, h2, show ¬ (i - xs.n < ys.n) by omega]
theorem unif_append {sz : Nat} {xs ys : Rw N} (h : unif sz xs) (h' : unif sz ys) : unif sz (xs.app ys) := by
  rw [Rw.app_eq]
  intro i hi
  have hi' : i < xs.n + ys.n := hi
  show (if i < xs.n then xs.g i else ys.g (i - xs.n)).length = sz
  split
  · exact h i ‹_›
  · exact h' _ (by omega)
theorem app_n (xs ys : Rw N) : (xs.app ys).n = xs.n + ys.n := rfl
def Src (w : World) (I : Nat → Prop) (x : Value) (sz : Nat) (ys : Rw N) (c : Nat → Nat → Value) (F : Nat → Nat → Nat → Prop) : Prop :=
  unif sz ys ∧ ∃ A cap, x = .slice A ys.n cap ∧ (ys.n ≠ 0 → ∃ ad, A = some ad ∧ ∀ i j n, at2 ys i j = some n → w.cell? (ad.add (i * sz + j)) = some (c i j)) ∧
    (∀ i j n, at2 ys i j = some n → Own w I n (c i j) (F i j)) ∧ (∀ i j i' j' b, F i j b → F i' j' b → i = i' ∧ j = j')
section
variable {P : Program} {st : St} {a : Act} {w : World} {I : Nat → Prop} {β : List Value} {S : Nat → Nat → Prop}
theorem at2_some {α : Type} {sz : Nat} {xs : Rw α} (hu : unif sz xs) {i j : Nat} (hi : i < xs.n) (hj : j < sz) : ∃ x, at2 xs i j = some x := by
  have hj' : j < (xs.g i).length := by rw [hu i hi]; exact hj
  exact ⟨(xs.g i)[j], by rw [at2_of hi]; simp [hj']⟩
def flat (sz : Nat) (n : Nat) (c : Nat → Nat → Value) : List Value := (List.range (n * sz)).map fun k => c (k / sz) (k % sz)
theorem flat_length (sz n : Nat) (c : Nat → Nat → Value) : (flat sz n c).length = n * sz := by simp [flat]
theorem flat_get {sz n i j : Nat} (c : Nat → Nat → Value) (hi : i < n) (hj : j < sz) : (flat sz n c)[i * sz + j]? = some (c i j) := by
  have hlt : i * sz + j < n * sz := by
    have h1 : (i + 1) * sz ≤ n * sz := Nat.mul_le_mul_right _ hi
    rw [Nat.add_mul, Nat.one_mul] at h1
    omega
  have h1 : (i * sz + j) / sz = i := by rw [Nat.add_comm, Nat.add_mul_div_right _ _ (by omega), Nat.div_eq_of_lt hj, Nat.zero_add]
  have h2 : (i * sz + j) % sz = j := by rw [Nat.add_comm, Nat.add_mul_mod_self_right, Nat.mod_eq_of_lt hj]
  simp [flat, hlt, h1, h2]
theorem flat_mem {sz n : Nat} {c : Nat → Nat → Value} {u : Value} (hs : 0 < sz) (h : u ∈ flat sz n c) : ∃ i j, i < n ∧ j < sz ∧ u = c i j := by
  obtain ⟨k, hk, rfl⟩ := List.mem_map.1 h
  have hk' : k < n * sz := by simpa using hk
  exact ⟨k / sz, k % sz, (Nat.div_lt_iff_lt_mul hs).2 hk', Nat.mod_lt _ hs, rfl⟩
theorem run_append_room' {t ty e : TypeId} {i : TypeInfo} (ht : P.underlying t = some (.slice e)) (hi : P.info? e = some i) {g n cap m : Nat} {x : Value} {news : List Value} {cur : Array Value} {el : TypeId} {fr : Nat × Nat}
    (hb : w.heap[g]? = some (.cells cur el fr)) (hfr : cur.size ≤ fr.1 ∨ fr.2 ≤ fr.1) (hx : ∃ A c, x = .slice A m c) (hf : (Builtin.firstCells i.size m x).run P w = .ok news.toArray w)
    (hroom : n + m ≤ cap) (hfit : n * i.size + news.length ≤ cur.size) (h1 : ∀ u ∈ news, u.oneCell' = true) :
    (Builtin.append_ #[t, t] ty #[.slice (some ⟨g, 0, none⟩) n cap, x]).run P w = .ok (.slice (some ⟨g, 0, none⟩) (n + m) cap) (w.setRow g (putCells cur (n * i.size) news)) := by
  obtain ⟨A, c, rfl⟩ := hx
  have hst := run_storeCells' (P := P) g (n * i.size) el fr news 0 cur w hb hfr (by simpa using hfit) h1
  simp only [Nat.add_zero] at hst
  simp [Builtin.append_, run_underlying ht, sizeOf, typeInfo, hi, Builtin.lenOf, hroom, hf, add0, hst]
theorem append_run {t ty e : TypeId} (ht : (tyOf P t).sl = some e) (hok : (tyOf P e).ok = true) {sz : Nat} (hsz : (tyOf P e).size = sz) (hs0 : 0 < sz) {b x : Value} {T U : Nat → Prop} {xs ys : Rw N}
    {c : Nat → Nat → Value} {F : Nat → Nat → Nat → Prop} (hd : RowR w I β b T sz xs []) (hx : Src w I x sz ys c F)
    (hTI : ∀ q, T q → ¬ I q) (hT : ∀ q, T q → q < w.heap.size) (hI : ∀ q, I q → q < w.heap.size) (hU : ∀ i j q, F i j q → U q) (hUT : ∀ q, U q → ¬ T q) (hUl : ∀ q, U q → q < w.heap.size)
    (hlen : (xs.n + ys.n) * ((tyOf P e).bytes + 1) ≤ maxN) :
    ∃ b' w', (Builtin.append_ #[t, t] ty #[b, x]).run P w = .ok b' w' ∧ Fr T w w' ∧
      RowR w' I β b' (fun q => T q ∨ U q ∨ (w.heap.size ≤ q ∧ q < w'.heap.size)) sz (xs.app ys) [] := by
  obtain ⟨i, d, z, hi, hd', hz, hzs, -, hsi, -, hby⟩ := ZJ hok
  have ht' := tyOf_sl ht
  rw [hby] at hlen
  rw [hsi] at hsz
  subst hsz
  obtain ⟨hyu, A, cap2, rfl, hyA, hyO, hyD⟩ := hx
  unfold maxN at hlen
  have hle1 : xs.n + ys.n ≤ 140737488355328 := Nat.le_trans (Nat.le_mul_of_pos_right _ (by omega)) hlen
  have hle2 : (xs.n + ys.n) * i.bytes ≤ 140737488355328 := Nat.le_trans (Nat.mul_le_mul_left _ (by omega)) hlen
  have hnews1 : ∀ u ∈ flat i.size ys.n c, u.oneCell' = true := by
    intro u hu
    obtain ⟨p, q, hp, hq, rfl⟩ := flat_mem hs0 hu
    obtain ⟨n, hn⟩ := at2_some hyu hp hq
    exact (hyO p q n hn).one
  have hcells : ∀ ad, A = some ad → ∀ (j : Nat) (u : Value), (flat i.size ys.n c)[j]? = some u → w.cell? (ad.add j) = some u := by
    intro ad hA j u hu
    have hj : j < ys.n * i.size := by
      have := (List.getElem?_eq_some_iff.1 hu).1
      rwa [flat_length] at this
    have hne : ys.n ≠ 0 := by intro h0; rw [h0] at hj; simp at hj
    obtain ⟨ad', hA', hc⟩ := hyA hne
    rw [hA] at hA'
    obtain rfl : ad = ad' := by simpa using hA'
    have hp : j / i.size < ys.n := (Nat.div_lt_iff_lt_mul hs0).2 hj
    have hq : j % i.size < i.size := Nat.mod_lt _ hs0
    obtain ⟨n, hn⟩ := at2_some hyu hp hq
    have h1 := hc _ _ n hn
    have h2 : j / i.size * i.size + j % i.size = j := by rw [Nat.mul_comm]; exact Nat.div_add_mod j i.size
    rw [h2] at h1
    rw [h1]
    have h3 := flat_get c hp hq
    rw [h2] at h3
    rw [← h3, hu]
  have hfirst : (Builtin.firstCells i.size ys.n (.slice A ys.n cap2)).run P w = .ok (flat i.size ys.n c).toArray w := by
    cases A with
    | none =>
      have : ys.n = 0 := by
        by_cases h : ys.n = 0
        · exact h
        · obtain ⟨ad, h1, -⟩ := hyA h
          cases h1
      simp [Builtin.firstCells, flat, this]
    | some ad => exact run_firstCells_some (P := P) w i.size ys.n ad ys.n cap2 (flat i.size ys.n c) (flat_length _ _ _) (hcells ad rfl)
  -- a new row
  have grown : ∀ (olds : List Value) (old : Nat) (co : Nat → Nat → Value) (Fo : Nat → Nat → Nat → Prop), olds.length = xs.n * i.size → old < xs.n + ys.n → unif i.size xs →
      (∀ p q n, at2 xs p q = some n → olds[p * i.size + q]? = some (co p q)) → (∀ p q n, at2 xs p q = some n → Own w I n (co p q) (Fo p q)) →
      (∀ p q r, Fo p q r → T r) → (∀ p q p' q' r, Fo p q r → Fo p' q' r → p = p' ∧ q = q') →
      RowR (w.drew.alloc (.cells (olds.toArray ++ (flat i.size ys.n c).toArray ++ Builtin.zeroCells z.cells (grownCap w (xs.n + ys.n) old e - (xs.n + ys.n))) e)) I β
        (.slice (some ⟨w.heap.size, 0, none⟩) (xs.n + ys.n) (grownCap w (xs.n + ys.n) old e))
        (fun q => T q ∨ U q ∨ (w.heap.size ≤ q ∧ q < (w.drew.alloc (.cells (olds.toArray ++ (flat i.size ys.n c).toArray ++ Builtin.zeroCells z.cells (grownCap w (xs.n + ys.n) old e - (xs.n + ys.n))) e)).heap.size)) i.size (xs.app ys) [] := by
    intro olds old co Fo hol hold hxu hoc hoO hoT hoD
    have hge := grownCap_ge w (xs.n + ys.n) old e
    have hcm : grownCap w (xs.n + ys.n) old e ≤ maxLen := grownCap_le_maxLen w _ old e (by unfold maxLen; omega)
    have hsame : ∀ q, q < w.heap.size → (w.drew.alloc (.cells (olds.toArray ++ (flat i.size ys.n c).toArray ++ Builtin.zeroCells z.cells (grownCap w (xs.n + ys.n) old e - (xs.n + ys.n))) e)).heap[q]? = w.heap[q]? :=
      fun q hq => heap_alloc_old w.drew _ q hq
    refine .inr ⟨w.heap.size, _, e, _, (0, 0), fun p q => if p < xs.n then co p q else c (p - xs.n) q, fun p q r => if p < xs.n then Fo p q r else F (p - xs.n) q r,
      ?_, unif_append hxu hyu, ?_, ?_, hcm, .inr (.inr ⟨Nat.le_refl _, by simp⟩), heap_alloc_new w.drew _, .inr (Nat.le_refl _), ?_, ?_, ?_, by simp, ?_, ?_⟩
    · rfl
    · simp only [app_n]; unfold maxN; omega
    · exact hge
    · simp only [Array.size_append, List.size_toArray, size_zeroCells, hzs, hol, flat_length, ← Nat.add_mul]
      congr 1
      omega
    · intro p q n hn
      rw [at2_append] at hn
      have hidx : ∀ (L : List Value) (k : Nat) (v : Value), L[k]? = some v → ((olds ++ flat i.size ys.n c) ++ L).length = ((olds ++ flat i.size ys.n c) ++ L).length := fun _ _ _ _ => rfl
      split at hn
      · rename_i hp
        simp only [hp, if_true]
        have h1 := hoc p q n hn
        have hlt := (List.getElem?_eq_some_iff.1 h1).1
        rw [Array.append_assoc, Array.getElem?_append_left (by simpa using hlt)]
        simpa using h1
      · rename_i hp
        simp only [hp, if_false]
        obtain ⟨hp2, hq2⟩ := at2_lt hyu hn
        have h1 := flat_get c hp2 hq2
        have hlt := (List.getElem?_eq_some_iff.1 h1).1
        have hk : p * i.size + q = xs.n * i.size + ((p - xs.n) * i.size + q) := by
          rw [← Nat.add_assoc, ← Nat.add_mul]
          congr 2
          omega
        rw [Array.append_assoc, Array.getElem?_append_right (by simp [hol, hk])]
        rw [Array.getElem?_append_left (by simp [hol, hk]; omega)]
        simp only [List.size_toArray, hol, hk, Nat.add_sub_cancel_left]
        simpa using h1
    · intro p q n hn _
      rw [at2_append] at hn
      split at hn
      · rename_i hp
        simp only [hp, if_true]
        exact (hoO p q n hn).mono (fun _ h => h) (fun r hr => hsame r (hI r hr)) (fun r hr => hsame r (hT r (hoT p q r hr))) (fun _ h => h)
      · rename_i hp
        simp only [hp, if_false]
        exact (hyO _ q n hn).mono (fun _ h => h) (fun r hr => hsame r (hI r hr)) (fun r hr => hsame r (hUl r (hU _ _ r hr))) (fun _ h => h)
    · intro p q r hr
      split at hr
      · have := hT r (hoT p q r hr)
        exact ⟨.inl (hoT p q r hr), by omega⟩
      · have := hUl r (hU _ _ r hr)
        exact ⟨.inr (.inl (hU _ _ r hr)), by omega⟩
    · intro p q p' q' r hr hr'
      split at hr <;> split at hr'
      · exact hoD p q p' q' r hr hr'
      · exact absurd (hoT p q r hr) (hUT r (hU _ _ r hr'))
      · exact absurd (hoT p' q' r hr') (hUT r (hU _ _ r hr))
      · have := hyD _ _ _ _ r hr hr'
        omega
  have hfit : ∀ old, old < xs.n + ys.n → Builtin.nextslicecap (xs.n + ys.n) old * i.bytes ≤ 281474976710656 := by
    intro old ho
    have h1 := Nat.mul_le_mul_right i.bytes (nextslicecap_le ho)
    have h2 : 2 * (xs.n + ys.n) * i.bytes = 2 * ((xs.n + ys.n) * i.bytes) := by rw [Nat.mul_assoc]
    omega
  rcases hd with ⟨hx0, A0, rfl⟩ | ⟨g, cap, el, cur, fr, co, Fo, rfl, hu, hn, hcap, hm, hg, hb, hfr, hs, hc, H, -, hF, hD⟩
  · -- nil
    by_cases hy : ys.n = 0
    · have hf0 : (Builtin.firstCells i.size 0 (.slice A 0 cap2)).run P w = .ok #[] w := by simpa [flat, hy] using hfirst
      refine ⟨.slice A0 0 0, w, ?_, Fr.refl _ _, .inl ⟨by rw [app_n]; omega, A0, rfl⟩⟩
      rw [hy]
      cases A0 <;> simp [Builtin.append_, run_underlying ht', sizeOf, typeInfo, hi, Builtin.lenOf, hf0, storeCells]
    · obtain ⟨ad, rfl, -⟩ := hyA hy
      have hpos : 0 < ys.n := by omega
      have hgr := grown [] 0 (fun _ _ => undef) (fun _ _ _ => False) (by simp [hx0]) (by omega) (unif_zero hx0 _) (fun p q n hn => by rw [at2_zero hx0] at hn; cases hn) (fun p q n hn => by rw [at2_zero hx0] at hn; cases hn) (by simp) (by simp)
      simp only [hx0, Nat.zero_add, List.nil_append] at hgr hfit hle1 hle2
      cases A0 with
      | none =>
        have hr := run_append_nil (P := P) w t ty e i z ht' hi hz ad ys.n cap2 (flat i.size ys.n c) (flat_length _ _ _) (hcells ad rfl) hpos (by omega) (by omega)
        refine ⟨_, _, hr, ⟨rfl, rfl, rfl, by simp, fun q hq _ => heap_alloc_old w.drew _ q hq⟩, ?_⟩
        simpa using hgr
      | some b0 =>
        have hr := run_append_grow (P := P) w t ty e i z ht' hi hz b0 0 0 [] (by simp) (by simp) ad ys.n cap2 (flat i.size ys.n c) (flat_length _ _ _) (hcells ad rfl) (by omega) (by simp; omega) (by simpa using hfit 0 hpos)
        simp only [Nat.zero_add] at hr
        refine ⟨_, _, hr, ⟨rfl, rfl, rfl, by simp, fun q hq _ => heap_alloc_old w.drew _ q hq⟩, ?_⟩
        simpa using hgr
  · by_cases hroom : xs.n + ys.n ≤ cap
    · have hfitc : xs.n * i.size + (flat i.size ys.n c).length ≤ cur.size := by
        rw [flat_length, hs, ← Nat.add_mul]
        exact Nat.mul_le_mul_right _ hroom
      have hrn := run_append_room' (P := P) (w := w) (t := t) (ty := ty) (x := .slice A ys.n cap2) ht' hi hb (hfr.imp_left And.left) ⟨A, cap2, rfl⟩ hfirst hroom hfitc hnews1
      have hsame : ∀ q, q ≠ g → (w.setRow g (putCells cur (xs.n * i.size) (flat i.size ys.n c))).heap[q]? = w.heap[q]? := fun q hq => setRow_other w g q _ hq
      have hIw : ∀ q, I q → (w.setRow g (putCells cur (xs.n * i.size) (flat i.size ys.n c))).heap[q]? = w.heap[q]? := fun q hq => hsame q (by rintro rfl; exact hTI _ hg hq)
      refine ⟨_, _, hrn, Fr.setRow hg, .inr ⟨g, cap, el, _, fr, fun p q => if p < xs.n then co p q else c (p - xs.n) q, fun p q r => if p < xs.n then Fo p q r else F (p - xs.n) q r,
        ?_, unif_append hu hyu, ?_, ?_, hm, .inl hg, setRow_heap w g cur _ el _ hb, ?_, ?_, ?_, ?_, by simp, ?_, ?_⟩⟩
      · rfl
      · simp only [app_n]; unfold maxN; omega
      · exact hroom
      · rw [putCells_size]; exact hfr
      · rw [putCells_size]; exact hs
      · intro p q n hn
        rw [at2_append] at hn
        rw [putCells_get _ _ _ _ (by omega)]
        split at hn
        · rename_i hp
          simp only [hp, if_true]
          have hq := (at2_lt hu hn).2
          rw [if_neg]
          · exact hc p q n hn
          · rintro ⟨h1, -⟩
            have h2 : (p + 1) * i.size ≤ xs.n * i.size := Nat.mul_le_mul_right _ hp
            rw [Nat.add_mul, Nat.one_mul] at h2
            omega
        · rename_i hp
          simp only [hp, if_false]
          obtain ⟨hp2, hq2⟩ := at2_lt hyu hn
          have h1 := flat_get c hp2 hq2
          have hlt := (List.getElem?_eq_some_iff.1 h1).1
          have hk : p * i.size + q = xs.n * i.size + ((p - xs.n) * i.size + q) := by
            rw [← Nat.add_assoc, ← Nat.add_mul]
            congr 2
            omega
          rw [if_pos (by omega), hk, Nat.add_sub_cancel_left]
          exact h1
      · intro p q n hn _
        rw [at2_append] at hn
        split at hn
        · rename_i hp
          simp only [hp, if_true]
          exact (H p q n hn (by rintro ⟨k, hk⟩; cases hk)).mono (fun _ h => h) hIw (fun r hr => hsame r (hF p q r hr).2) (fun _ h => h)
        · rename_i hp
          simp only [hp, if_false]
          exact (hyO _ q n hn).mono (fun _ h => h) hIw (fun r hr => hsame r (by rintro rfl; exact hUT _ (hU _ _ _ hr) hg)) (fun _ h => h)
      · intro p q r hr
        split at hr
        · exact ⟨.inl (hF p q r hr).1, (hF p q r hr).2⟩
        · exact ⟨.inr (.inl (hU _ _ r hr)), by rintro rfl; exact hUT _ (hU _ _ _ hr) hg⟩
      · intro p q p' q' r hr hr'
        split at hr <;> split at hr'
        · exact hD p q p' q' r hr hr'
        · exact absurd (hF p q r hr).1 (hUT r (hU _ _ r hr'))
        · exact absurd (hF p' q' r hr').1 (hUT r (hU _ _ r hr))
        · have := hyD _ _ _ _ r hr hr'
          omega
    · have hne : ys.n ≠ 0 := by omega
      obtain ⟨ad, rfl, -⟩ := hyA hne
      have hol : ∀ (j : Nat) (u : Value), (flat i.size xs.n co)[j]? = some u → w.cell? ((⟨g, 0, none⟩ : Addr).add j) = some u := by
        intro j u hu'
        have hj : j < xs.n * i.size := by
          have := (List.getElem?_eq_some_iff.1 hu').1
          rwa [flat_length] at this
        have hp : j / i.size < xs.n := (Nat.div_lt_iff_lt_mul hs0).2 hj
        have hq : j % i.size < i.size := Nat.mod_lt _ hs0
        obtain ⟨n, hn⟩ := at2_some hu hp hq
        have h1 := hc _ _ n hn
        have h2 : j / i.size * i.size + j % i.size = j := by rw [Nat.mul_comm]; exact Nat.div_add_mod j i.size
        rw [h2] at h1
        rw [add0, ZG hb, h1]
        have h3 := flat_get co hp hq
        rw [h2] at h3
        rw [← h3, hu']
      have hr := run_append_grow (P := P) w t ty e i z ht' hi hz ⟨g, 0, none⟩ xs.n cap (flat i.size xs.n co) (flat_length _ _ _) hol ad ys.n cap2 (flat i.size ys.n c) (flat_length _ _ _) (hcells ad rfl) (by omega) (by omega)
        (hfit cap (by omega))
      refine ⟨_, _, hr, ⟨rfl, rfl, rfl, by simp, fun q hq _ => heap_alloc_old w.drew _ q hq⟩, ?_⟩
      exact grown _ cap co Fo (flat_length _ _ _) (by omega) hu (fun p q n hn => flat_get co (at2_lt hu hn).1 (at2_lt hu hn).2) (fun p q n hn => H p q n hn (by rintro ⟨k, hk⟩; cases hk)) (fun p q r hr => (hF p q r hr).1) hD
end
section
variable {P : Program} {st : St} {a : Act} {w : World} {I : Nat → Prop} {β : List Value} {S : Nat → Nat → Prop} {c : Cx}
theorem put_slots (st : St) (d : Option Nat) (v : AV) : (st.put d v).slots = match d with | some d => st.slots.set d v | Option.none => st.slots := by cases d <;> rfl
theorem put_obs (st : St) (d : Option Nat) (v : AV) : (st.put d v).obs = st.obs := by cases d <;> rfl
theorem put_ks (st : St) (d : Option Nat) (v : AV) : (st.put d v).ks = st.ks := by cases d <;> rfl
theorem RelV.put (hr : RelV st a w I β S) (d : Option Nat) {av : AV} {v : Value} (hv : AVR w I β av v) : RelV (st.put d av) (a.put d v) w I β S := by
  refine ⟨?_, by rw [put_obs]; exact hr.bl, ?_, by rw [put_obs]; exact hr.ob, hr.sdis, by rw [put_obs]; exact hr.slt, hr.il⟩
  · cases d with
    | none => exact hr.sz
    | some d => simpa [Act.put, St.put] using hr.sz
  · intro t u x hu hx
    cases d with
    | none => exact hr.slot t u x hu hx
    | some d =>
      simp only [St.put, Act.put] at hu hx
      rw [Sl.getElem?_set] at hu
      by_cases h : d = t
      · subst h
        rw [if_pos rfl] at hu
        split at hu
        · rename_i hlt
          rw [Array.getElem?_setIfInBounds] at hx
          simp only [if_true] at hx
          split at hx
          · simp only [Option.some.injEq] at hu hx
            subst hu; subst hx
            exact hv
          · cases hx
        · cases hu
      · rw [if_neg h] at hu
        rw [Array.getElem?_setIfInBounds_ne h] at hx
        exact hr.slot t u x hu hx
theorem RelC.put (h : RelC c st a w I β S) (d : Option Nat) (av : AV) (v : Value) : RelC c (st.put d av) (a.put d v) w I β S :=
  ⟨h.own, h.isub, h.iinv, h.frame, by rw [put_ks]; exact h.keep, by cases d <;> exact h.defers⟩
theorem step_core (hr : RelV st a w I β S) (hc : RelC c st a w I β S) {av : AV} {news : List Ob} {v : Value} {w' : World} (d : Option Nat)
    {I' : Nat → Prop} {βn : List Value} {Sn : Nat → Nat → Prop} (hfr : Fr (fun _ => False) w w') (hI : ∀ b, I b → I' b) (hI2 : ∀ b, I' b → I b ∨ w.heap.size ≤ b) (hIl : ∀ b, I' b → b < w'.heap.size) (hbn : βn.length = news.length)
    (hav : AVR w' I' (β ++ βn) av v) (hob : ∀ (k : Nat) (o : Ob) (b : Value), news[k]? = some o → βn[k]? = some b → ObR w' I' (β ++ βn) b (Sn k) o)
    (hslt : ∀ k b, Sn k b → k < news.length ∧ w.heap.size ≤ b ∧ b < w'.heap.size ∧ ¬ I' b) (hsd : ∀ i j b, Sn i b → Sn j b → i = j) :
    RelV ((st.new news).put d av) (a.put d v) w' I' (β ++ βn) (fun i b => if i < st.obs.length then S i b else Sn (i - st.obs.length) b) ∧ RelC c ((st.new news).put d av) (a.put d v) w' I' (β ++ βn) (fun i b => if i < st.obs.length then S i b else Sn (i - st.obs.length) b) := by
  have hβ : ∀ (i : Nat) (b : Value), β[i]? = some b → (β ++ βn)[i]? = some b := fun i b hb => by rw [List.getElem?_append_left (List.getElem?_eq_some_iff.1 hb).1]; exact hb
  have hsame : ∀ b, b < w.heap.size → w'.heap[b]? = w.heap[b]? := fun b hb => hfr.block b hb (fun h => h)
  have hIw : ∀ b, I b → w'.heap[b]? = w.heap[b]? := fun b hb => hsame b (hr.ilt b hb)
  refine ⟨RelV.put ?_ d hav, RelC.put ?_ d av v⟩
  · refine ⟨hr.sz, by simp [St.new, hr.bl, hbn], fun t u x hu hx => (hr.slot t u x hu hx).mono hI hIw hβ, ?_, ?_, ?_, hr.il.mono hI hIw hIl⟩
    · intro i o b ho hb
      simp only [St.new] at ho
      by_cases h : i < st.obs.length
      · simp only [h, if_true]
        rw [List.getElem?_append_left h] at ho
        rw [List.getElem?_append_left (by rw [hr.bl]; exact h)] at hb
        exact (hr.ob i o b ho hb).mono hI hIw hβ (fun q hq => hsame q (hr.slt i q hq).2.1) (fun _ h => h)
      · simp only [h, if_false]
        rw [List.getElem?_append_right (by omega)] at ho
        rw [List.getElem?_append_right (by rw [hr.bl]; omega), hr.bl] at hb
        exact hob _ o b ho hb
    · intro i j b hb hb'
      split at hb <;> split at hb'
      · exact hr.sdis i j b hb hb'
      · have := (hr.slt i b hb).2.1; have := (hslt _ b hb').2.1; omega
      · have := (hr.slt j b hb').2.1; have := (hslt _ b hb).2.1; omega
      · have := hsd _ _ b hb hb'; omega
    · intro i b hb
      simp only [St.new, List.length_append]
      split at hb
      · obtain ⟨h1, h2, h3⟩ := hr.slt i b hb
        refine ⟨by omega, Nat.lt_of_lt_of_le h2 hfr.size, fun h => ?_⟩
        rcases hI2 b h with h | h
        · exact h3 h
        · omega
      · obtain ⟨h1, h2, h3, h4⟩ := hslt _ b hb
        exact ⟨by omega, h3, h4⟩
  · refine ⟨?_, fun b hb => hI b (hc.isub b hb), ?_, ?_, ?_, hc.defers⟩
    · intro i b hb
      split at hb
      · exact hc.own i b hb
      · exact .inl (Nat.le_trans hc.frame.size (hslt _ b hb).2.1)
    · intro b hb
      rcases hI2 b hb with h | h
      · exact hc.iinv b h
      · exact .inr (.inl (Nat.le_trans hc.frame.size h))
    · exact hc.frame.trans hfr (fun _ h => h.elim)
    · intro i hi hk
      rw [List.getElem?_append_left (hc.klt hi hk)]
      exact hc.keep i hi hk
theorem step_quiet (hr : RelV st a w I β S) (hc : RelC c st a w I β S) {av : AV} {news : List Ob} {v : Value} {w' : World} (hq : QPost st w I β S av news v w') (d : Option Nat) :
    Rel c ((st.new news).put d av) (a.put d v) w' := by
  obtain ⟨I', βn, Sn, hfr, hI, hI2, hIl, hbn, hav, hob, hslt, hsd⟩ := hq
  obtain ⟨h1, h2⟩ := step_core hr hc d hfr hI hI2 hIl hbn hav hob hslt hsd
  exact ⟨_, _, _, h1, h2⟩
end
def C.kill (bad : Nat → Bool) : C → C
  | .h i => if bad i = true then .u else .h i
  | .p i off => if bad i = true then .u else .p i off
  | x => x
def K.kill (bad : Nat → Bool) : K → K
  | .c x => .c (x.kill bad)
  | .a cs => .a (cs.map (C.kill bad))
def AV.kill (bad : Nat → Bool) : AV → AV
  | .c x => .c (x.kill bad)
  | .a cs => .a (cs.map (C.kill bad))
  | .tup vs => .tup (vs.map (K.kill bad))
  | .fn f cs => .fn f (cs.map (C.kill bad))
  | .ea i sz idx f => if bad i = true then .dead else .ea i sz idx f
  | .ra cs => .ra cs
  | .rb cs loc => .rb cs loc
  | .dead => .dead
def Ob.kill (bad : Nat → Bool) : Ob → Ob
  | .box cs => .box (cs.map (C.kill bad))
  | .row sz xs hole => .row sz xs (hole.map fun h => (h.1, h.2.1, h.2.2.bind fun k => if bad k = true then Option.none else some k))
  | o => o
def St.kill (st : St) (bad : Nat → Bool) : St := { st with slots := st.slots.map (AV.kill bad), obs := st.obs.map (Ob.kill bad) }
section
variable {w : World} {I : Nat → Prop} {β β' : List Value} {bad : Nat → Bool}
theorem CR.kill (hβ : ∀ (i : Nat) (b : Value), bad i = false → β[i]? = some b → β'[i]? = some b) {x : C} {v : Value} (h : CR w I β x v) : CR w I β' (x.kill bad) v := by
  have h1 := CR.one h
  cases x with
  | n x => exact h
  | h i =>
    simp only [C.kill]
    split
    · exact h1
    · exact ⟨hβ _ _ (Bool.eq_false_iff.2 ‹_›) h.1, h.2⟩
  | p i off =>
    simp only [C.kill]
    split
    · exact h1
    · obtain ⟨g, h1, h2⟩ := h; exact ⟨g, hβ _ _ (Bool.eq_false_iff.2 ‹_›) h1, h2⟩
  | z => exact h
  | u => exact h
  | b x loc => exact h
theorem CsR.kill (hβ : ∀ (i : Nat) (b : Value), bad i = false → β[i]? = some b → β'[i]? = some b) {cs : List C} {a : Array Value} (h : CsR w I β cs a) : CsR w I β' (cs.map (C.kill bad)) a :=
  ⟨by rw [List.length_map]; exact h.1, fun j x v hx hv => by
    simp only [List.getElem?_map, Option.map_eq_some_iff] at hx
    obtain ⟨y, hy, rfl⟩ := hx
    exact (h.2 j y v hy hv).kill hβ⟩
theorem KR.kill (hβ : ∀ (i : Nat) (b : Value), bad i = false → β[i]? = some b → β'[i]? = some b) {x : K} {v : Value} (h : KR w I β x v) : KR w I β' (x.kill bad) v := by
  cases x with
  | c x => exact CR.kill hβ h
  | a cs => obtain ⟨a, rfl, h⟩ := h; exact ⟨a, rfl, h.kill hβ⟩
theorem AVR.kill (hβ : ∀ (i : Nat) (b : Value), bad i = false → β[i]? = some b → β'[i]? = some b) {x : AV} {v : Value} (h : AVR w I β x v) : AVR w I β' (x.kill bad) v := by
  cases x with
  | c x => exact CR.kill hβ h
  | a cs => obtain ⟨a, rfl, h⟩ := h; exact ⟨a, rfl, h.kill hβ⟩
  | tup vs =>
    obtain ⟨a, rfl, hl, h⟩ := h
    refine ⟨a, rfl, by rw [List.length_map]; exact hl, fun j x v hx hv => ?_⟩
    simp only [List.getElem?_map, Option.map_eq_some_iff] at hx
    obtain ⟨y, hy, rfl⟩ := hx
    exact (h j y v hy hv).kill hβ
  | fn f cs => obtain ⟨a, rfl, h⟩ := h; exact ⟨a, rfl, h.kill hβ⟩
  | ea i sz idx f =>
    simp only [AV.kill]
    split
    · trivial
    · obtain ⟨g, n, cap, h, rfl⟩ := h; exact ⟨g, n, cap, hβ _ _ (Bool.eq_false_iff.2 ‹_›) h, rfl⟩
  | ra cs => exact h
  | rb cs loc => trivial
  | dead => trivial
theorem ObR.kill (hβ : ∀ (i : Nat) (b : Value), bad i = false → β[i]? = some b → β'[i]? = some b) {b : Value} {S : Nat → Prop} {o : Ob} (h : ObR w I β b S o) : ObR w I β' b S (o.kill bad) := by
  cases o with
  | row sz xs hole =>
    rcases h with h | ⟨g, cap, e, cur, fr, c, F, h1, h2, h3, h4, h5, h6, h7, h8, h9, h10, H, hk, hF, hD⟩
    · exact .inl h
    · refine .inr ⟨g, cap, e, cur, fr, c, F, h1, h2, h3, h4, h5, h6, h7, h8, h9, h10, fun i' j' x hx hh => H i' j' x hx (fun ⟨q, hq⟩ => hh ?_), fun i' j' k' hh => ?_, hF, hD⟩
      · exact ⟨_, List.mem_map.2 ⟨_, hq, rfl⟩⟩
      · obtain ⟨⟨i2, j2, k2⟩, hm, he⟩ := List.mem_map.1 hh
        simp only [Prod.mk.injEq] at he
        obtain ⟨rfl, rfl, he⟩ := he
        cases k2 with
        | none => cases he
        | some k2 =>
          simp only [Option.bind_some] at he
          split at he
          · cases he
          · simp only [Option.some.injEq] at he
            subst he
            exact ⟨hβ _ _ (Bool.eq_false_iff.2 ‹_›) (hk _ _ _ hm).1, (hk _ _ _ hm).2⟩
  | box cs => obtain ⟨g, cur, e, rfl, hg, hb, H⟩ := h; exact ⟨g, cur, e, rfl, hg, hb, H.kill hβ⟩
  | fro sz xs => exact h
  | none => trivial
end
def consume (i : Nat) : List Nat → List Ob → List Ob
  | [], obs => obs
  | j :: r, obs => consume i r (if j = i then obs else obs.set j .none)
def storeK (P : Program) (st : St) (t : TypeId) (addr av : AV) (K : St → Prop) : Prop :=
  (tyOf P t).ok = true ∧ is (partCs av) fun new => new.length = (tyOf P t).size ∧ (match addr with
    | .c (.p i off) => match st.obj i with
      | .box cs => off + new.length ≤ cs.length ∧ K { st with obs := st.obs.set i (.box (setAt cs off new)) }
      | _ => False
    | .ea i sz idx f => match st.obj i with
      | .row sz' xs [] => sz = sz' ∧ idx < xs.n ∧ f + new.length ≤ (xs.g idx).length ∧ is (inlN st [i] (tyOf P t).zs new) fun p =>
          K { st with obs := consume i p.2 (st.obs.set i (.row sz (xs.set idx (setAt (xs.g idx) f p.1)) [])) }
      | _ => False
    | _ => False)
def roN : N → N
  | .sl sz xs => .im (.sl sz xs)
  | x => x
def srcOf (st : St) : AV → Option (Rw N × Option Nat)
  | .c (.n (.sl _ ys)) => some (ys.map roN, Option.none)
  | .c .z => some (Rw.nil, Option.none)
  | .c (.h j) => match st.obj j with
    | .row _ ys [] => some (ys, some j)
    | .fro _ ys => some (ys.map roN, Option.none)
    | _ => Option.none
  | _ => Option.none
def srcSz (st : St) : AV → Option Nat
  | .c (.n (.sl sz _)) => some sz
  | .c (.h j) => match st.obj j with
    | .row sz _ [] => some sz
    | .fro sz _ => some sz
    | _ => Option.none
  | _ => Option.none
def appendK (P : Program) (st : St) (t : TypeId) (s x : AV) (dst : Option Nat) (K : St → Prop) : Prop :=
  is (tyOf P t).sl fun e => (tyOf P e).ok = true ∧ 0 < (tyOf P e).size ∧ is (srcOf st x) fun p => (match srcSz st x with | some z => z = (tyOf P e).size | Option.none => True) ∧ (match s with
    | .c (.h i) => match st.obj i with
      | .row sz xs [] => sz = (tyOf P e).size ∧ kb st.ks i = false ∧ p.2 ≠ some i ∧ (xs.n + p.1.n) * ((tyOf P e).bytes + 1) ≤ maxN ∧
          K ((({ st with obs := consume i p.2.toList (st.obs.set i (.row sz (xs.app p.1) [])) } : St).kill (fun k => k == i)).put dst (.c (.h i)))
      | _ => False
    | .c .z => p.1.n * ((tyOf P e).bytes + 1) ≤ maxN ∧
        K ((({ st with obs := consume st.obs.length p.2.toList st.obs } : St).new [.row (tyOf P e).size p.1 []]).put dst (.c (.h st.obs.length)))
    | _ => False)
section
variable {P : Program} {st : St} {a : Act} {w : World} {I : Nat → Prop} {β : List Value} {S : Nat → Nat → Prop} {c : Cx}
theorem consume_length (i : Nat) : ∀ (l : List Nat) (obs : List Ob), (consume i l obs).length = obs.length
  | [], _ => rfl
  | j :: r, obs => by rw [consume, consume_length i r]; split <;> simp
theorem consume_get (i : Nat) : ∀ (l : List Nat) (obs : List Ob) (k : Nat), (consume i l obs)[k]? = if k ∈ l ∧ k ≠ i ∧ k < obs.length then some .none else obs[k]?
  | [], obs, k => by simp [consume]
  | j :: r, obs, k => by
    rw [consume, consume_get i r]
    by_cases hj : j = i
    · subst hj
      simp only [if_true, List.mem_cons]
      by_cases h : k ∈ r ∧ k ≠ j ∧ k < obs.length
      · rw [if_pos h, if_pos ⟨.inr h.1, h.2⟩]
      · rw [if_neg h, if_neg (fun ⟨h1, h2, h3⟩ => h ⟨h1.resolve_left h2, h2, h3⟩)]
    · simp only [hj, if_false, List.length_set, List.mem_cons, List.getElem?_set]
      by_cases hk : j = k
      · subst hk
        simp only [true_or, true_and, hj, ne_eq, not_false_eq_true]
        by_cases h : j < obs.length
        · simp [h]
        · simp [h, List.getElem?_eq_none (Nat.le_of_not_lt h)]
      · have hk' : ¬ k = j := fun h => hk h.symm
        simp only [hk, hk', if_false, false_or]
theorem store_box (hr : RelV st a w I β S) (hc : RelC c st a w I β S) {t : TypeId} (hok : (tyOf P t).ok = true) {i off : Nat} {av : AV} {v u : Value} {new cs : List C}
    (hv : AVR w I β (.c (.p i off)) v) (hu : AVR w I β av u) (hp : partCs av = some new) (hs : new.length = (tyOf P t).size) (hobj : st.obj i = .box cs) (hle : off + new.length ≤ cs.length) :
    ∃ w', (Instr.storeAt t v u).run P w = .ok () w' ∧ Rel c { st with obs := st.obs.set i (.box (setAt cs off new)) } a w' := by
  obtain ⟨g, hg, rfl⟩ := hv
  obtain ⟨g', cur, e, hb, hS, hh, hcs⟩ := hr.box hobj
  rw [hg] at hb
  obtain rfl : g = g' := by simpa using hb
  have hn := partCs_sound hu hp
  have hi : i < st.obs.length := (hr.slt i g hS).1
  have h1 : ∀ x ∈ u.cells.toList, x.oneCell' = true := by
    intro x hx
    obtain ⟨k, hk⟩ := List.mem_iff_getElem?.1 hx
    have hk' : u.cells[k]? = some x := by simpa using hk
    have hlt : k < new.length := by rw [← hn.1]; exact (Array.getElem?_eq_some_iff.1 hk').1
    exact (hn.2 k _ x (List.getElem?_eq_getElem hlt) hk').one
  have hfit : off + u.cells.toList.length ≤ cur.size := by rw [hcs.1]; simp [hn.1]; omega
  have hrun := run_storeVar' (P := P) (w := w) hok (o := off) hh (.inr (Nat.le_refl 0)) (by rw [hn.1, hs]) (by simpa using hfit) h1
  refine ⟨_, by simp only [Instr.storeAt, Instr.sureAddr, Sem.run_bind, Sem.run_pure, Result.andThen_ok]; exact hrun, I, β, S, ?_, ?_⟩
  · have hsame : ∀ q, q ≠ g → (w.setRow g (putCells cur off u.cells.toList)).heap[q]? = w.heap[q]? := fun q hq => setRow_other w g q _ hq
    have hIw : ∀ q, I q → (w.setRow g (putCells cur off u.cells.toList)).heap[q]? = w.heap[q]? := fun q hq => hsame q (by rintro rfl; exact (hr.slt i _ hS).2.2 hq)
    have hz : (w.setRow g (putCells cur off u.cells.toList)).heap.size = w.heap.size := by simp [World.setRow]
    refine ⟨hr.sz, by simpa using hr.bl, fun t x y hx hy => (hr.slot t x y hx hy).mono (fun _ h => h) hIw (fun _ _ h => h), ?_, hr.sdis, fun j q hq => ?_, hr.il.mono (fun _ h => h) hIw (fun q hq => by rw [hz]; exact hr.ilt q hq)⟩
    · intro j o b ho hb
      simp only [List.getElem?_set] at ho
      by_cases hj : i = j
      · subst hj
        simp only [hi, if_true, Option.some.injEq] at ho
        subst ho
        rw [hg] at hb
        obtain rfl := Option.some.inj hb
        refine ⟨g, _, e, rfl, hS, setRow_heap w g cur _ e _ hh, ?_⟩
        refine CsR.mono (w := w) (I := I) (β := β) (fun _ h => h) hIw (fun _ _ h => h) ⟨by rw [putCells_size, setAt_length hle]; exact hcs.1, fun k x y hx hy => ?_⟩
        rw [putCells_get _ _ _ _ hfit] at hy
        rw [setAt_get hle] at hx
        have hlen : u.cells.toList.length = new.length := by simp [hn.1]
        rw [hlen] at hy
        split at hx
        · rename_i hk
          rw [if_pos hk] at hy
          exact hn.2 _ x y hx (by simpa using hy)
        · rename_i hk
          rw [if_neg hk] at hy
          exact hcs.2 k x y hx hy
      · simp only [hj, if_false] at ho
        exact (hr.ob j o b ho hb).mono (fun _ h => h) hIw (fun _ _ h => h) (fun q hq => hsame q (by rintro rfl; exact hj (hr.sdis i j _ hS hq))) (fun _ h => h)
    · obtain ⟨h1, h2, h3⟩ := hr.slt j q hq
      exact ⟨by simpa using h1, by rw [hz]; exact h2, h3⟩
  · refine ⟨hc.own, hc.isub, hc.iinv, hc.frame.trans (Fr.setRow (X := fun q => q = g) rfl) ?_, hc.keep, hc.defers⟩
    rintro x rfl
    exact (hc.own i _ hS).symm
theorem store_row (hr : RelV st a w I β S) (hc : RelC c st a w I β S) {t : TypeId} (hok : (tyOf P t).ok = true) {i sz idx f : Nat} {av : AV} {v u : Value} {new : List C} {xs : Rw N} {e ns : List N} {used : List Nat}
    (hv : AVR w I β (.ea i sz idx f) v) (hu : AVR w I β av u) (hp : partCs av = some new) (hs : new.length = (tyOf P t).size) (hobj : st.obj i = .row sz xs []) (hidx : idx < xs.n) (he : xs.g idx = e) (hle : f + new.length ≤ e.length)
    (hin : inlN st [i] (tyOf P t).zs new = some (ns, used)) :
    ∃ w', (Instr.storeAt t v u).run P w = .ok () w' ∧ Rel c { st with obs := consume i used (st.obs.set i (.row sz (xs.set idx (setAt e f ns)) [])) } a w' := by
  obtain ⟨g, n, cap, hg, rfl⟩ := hv
  obtain ⟨b, hb, hrow⟩ := hr.obj hobj (by simp)
  rw [hg] at hb
  obtain rfl := Option.some.inj hb
  have hn := partCs_sound hu hp
  obtain ⟨hl, hu1, hu2, Fs, hF1, hF2, hF3⟩ := inlN_sound hr hin
  have hvl : u.cells.toList.length = ns.length := by simp [hn.1, hl]
  have hfit0 : f + ns.length ≤ e.length := by rw [hl]; exact hle
  have hFs : ∀ k b, Fs k b → ∃ j, j ∈ used ∧ j ≠ i ∧ S j b := by
    intro k b hb
    obtain ⟨j, h1, h2, h3⟩ := hF2 k b hb
    exact ⟨j, h1, by simpa using h2, h3⟩
  obtain ⟨g', cap', cur, el, fr, hbe, hgS, hh, hfr, hroom, hres⟩ := RowR.store (w := w) (I := I) (β := β) (T' := fun q => S i q ∨ ∃ j, j ∈ used ∧ j ≠ i ∧ S j q) hrow hidx he (ns := ns) (vs := u.cells.toList) (Fs := Fs) hvl hfit0
    (fun k x y hx hy => by
      have hlt : k < new.length := by rw [← hl]; exact (List.getElem?_eq_some_iff.1 hx).1
      have hcr := hn.2 k _ y (List.getElem?_eq_getElem hlt) (by simpa using hy)
      obtain ⟨x', hx', ho⟩ := hF1 k _ y (List.getElem?_eq_getElem hlt) hcr
      rw [hx] at hx'
      obtain rfl := Option.some.inj hx'
      exact ho) hF3 (fun k q hq hT => by obtain ⟨j, -, h2, h3⟩ := hFs k q hq; exact h2 (hr.sdis j i q h3 hT)) (fun _ h => .inl h) (fun k q hq => .inr (hFs k q hq)) (fun q hq => (hr.slt i q hq).2.2)
  simp only [Value.slice.injEq, Option.some.injEq, Addr.mk.injEq] at hbe
  obtain ⟨⟨rfl, -⟩, hnl, rfl⟩ := hbe
  have h1 : ∀ x ∈ u.cells.toList, x.oneCell' = true := by
    intro x hx
    obtain ⟨k, hk⟩ := List.mem_iff_getElem?.1 hx
    have hk' : u.cells[k]? = some x := by simpa using hk
    have hlt : k < new.length := by rw [← hn.1]; exact (Array.getElem?_eq_some_iff.1 hk').1
    exact (hn.2 k _ x (List.getElem?_eq_getElem hlt) hk').one
  have hrun := run_storeVar' (P := P) (w := w) hok (o := idx * sz + f) hh hfr (by rw [hn.1, hs]) (by simpa using hroom) h1
  have hi : i < st.obs.length := (hr.slt i g hgS).1
  refine ⟨_, by simp only [Instr.storeAt, Instr.sureAddr, Sem.run_bind, Sem.run_pure, Result.andThen_ok]; exact hrun, I, β, fun k q => if k = i then S i q ∨ ∃ j, j ∈ used ∧ j ≠ i ∧ S j q else S k q ∧ k ∉ used, ?_, ?_⟩
  · have hsame : ∀ q, q ≠ g → (w.setRow g (putCells cur (idx * sz + f) u.cells.toList)).heap[q]? = w.heap[q]? := fun q hq => setRow_other w g q _ hq
    have hIw : ∀ q, I q → (w.setRow g (putCells cur (idx * sz + f) u.cells.toList)).heap[q]? = w.heap[q]? := fun q hq => hsame q (by rintro rfl; exact (hr.slt i _ hgS).2.2 hq)
    have hz : (w.setRow g (putCells cur (idx * sz + f) u.cells.toList)).heap.size = w.heap.size := by simp [World.setRow]
    refine ⟨hr.sz, by simpa [consume_length] using hr.bl, fun t x y hx hy => (hr.slot t x y hx hy).mono (fun _ h => h) hIw (fun _ _ h => h), ?_, ?_, fun j q hq => ?_, hr.il.mono (fun _ h => h) hIw (fun q hq => by rw [hz]; exact hr.ilt q hq)⟩
    · intro j o b ho hb
      simp only [consume_get, List.length_set] at ho
      by_cases hj : i = j
      · subst hj
        simp only [ne_eq, not_true_eq_false, false_and, and_false, if_false, List.getElem?_set, if_true, hi, Option.some.injEq] at ho
        subst ho
        rw [hg] at hb
        obtain rfl := Option.some.inj hb
        simp only [if_true]
        exact hres
      · have hj' : ¬ j = i := fun h => hj h.symm
        simp only [hj', if_false]
        split at ho
        · simp only [Option.some.injEq] at ho
          subst ho
          trivial
        · rename_i hnu
          rw [List.getElem?_set, if_neg hj] at ho
          have hlt : j < st.obs.length := (List.getElem?_eq_some_iff.1 ho).1
          exact (hr.ob j o b ho hb).mono (fun _ h => h) hIw (fun _ _ h => h) (fun q hq => hsame q (by rintro rfl; exact hj (hr.sdis i j _ hgS hq))) (fun q hq => ⟨hq, fun h => hnu ⟨h, hj', hlt⟩⟩)
    · intro j k q hq hq'
      split at hq <;> split at hq'
      · omega
      · rename_i h1 h2
        rcases hq with hq | ⟨m, hm1, hm2, hm3⟩
        · exact absurd (hr.sdis i k q hq hq'.1).symm h2
        · have := hr.sdis m k q hm3 hq'.1
          subst this
          exact absurd hm1 hq'.2
      · rename_i h1 h2
        rcases hq' with hq' | ⟨m, hm1, hm2, hm3⟩
        · exact absurd (hr.sdis i j q hq' hq.1).symm h1
        · have := hr.sdis m j q hm3 hq.1
          subst this
          exact absurd hm1 hq.2
      · exact hr.sdis j k q hq.1 hq'.1
    · have key : ∃ m, S m q ∧ j < st.obs.length := by
        split at hq
        · rename_i h1
          subst h1
          rcases hq with hq | ⟨m, -, -, hm⟩
          · exact ⟨_, hq, hi⟩
          · exact ⟨m, hm, hi⟩
        · exact ⟨j, hq.1, (hr.slt j q hq.1).1⟩
      obtain ⟨m, hm, hlt⟩ := key
      obtain ⟨-, h2, h3⟩ := hr.slt m q hm
      exact ⟨by simpa [consume_length] using hlt, by rw [hz]; exact h2, h3⟩
  · refine ⟨fun j q hq => ?_, hc.isub, hc.iinv, hc.frame.trans (Fr.setRow (X := fun q => q = g) rfl) ?_, hc.keep, hc.defers⟩
    · split at hq
      · rcases hq with hq | ⟨m, -, -, hm⟩
        · exact hc.own _ q hq
        · exact hc.own m q hm
      · exact hc.own j q hq.1
    · rintro x rfl
      exact (hc.own i _ hgS).symm
end
section
variable {P : Program} {st : St} {a : Act} {w : World} {I : Nat → Prop} {β : List Value} {S : Nat → Nat → Prop} {c : Cx}
theorem roN_sound {x : N} {v : Value} (h : Im w I x v) (T : Nat → Prop) : Own w I (roN x) v T := by
  cases h with
  | v h => exact Own.v h
  | im h => exact Own.im h
  | sl A cap ad c hu hn hcap hA hc H => exact Own.im (Im.sl A cap ad c hu hn hcap hA hc H)
theorem at2_map {α β : Type} (f : α → β) (xs : Rw α) (i j : Nat) : at2 (xs.map f) i j = (at2 xs i j).map f := by
  unfold at2 Rw.map
  by_cases h : i < xs.n
  · simp [h]
  · simp [h]
theorem unif_map {α β : Type} {sz : Nat} (f : α → β) {xs : Rw α} (h : unif sz xs) : unif sz (xs.map f) := by
  intro i hi
  show ((xs.g i).map f).length = sz
  rw [List.length_map]
  exact h i hi
theorem Src.ro {sz : Nat} {ys : Rw N} {v : Value} (h : Im w I (.sl sz ys) v) : ∃ c, Src w I v sz (ys.map roN) c (fun _ _ _ => False) := by
  cases h with
  | sl A cap ad c hu hn hcap hA hc H =>
    refine ⟨c, unif_map _ hu, A, cap, rfl, fun hne => ?_, fun i j n hn => ?_, by simp⟩
    · obtain ⟨rfl, -⟩ := hA hne
      refine ⟨ad, rfl, fun i j n hn => ?_⟩
      rw [at2_map, Option.map_eq_some_iff] at hn
      obtain ⟨x, hx, rfl⟩ := hn
      exact hc i j x hx
    · rw [at2_map, Option.map_eq_some_iff] at hn
      obtain ⟨x, hx, rfl⟩ := hn
      exact roN_sound (H i j x hx) _
theorem Src.zero {sz : Nat} {ys : Rw N} (h0 : ys.n = 0) (A : Option Addr) : Src w I (.slice A 0 0) sz ys (fun _ _ => undef) (fun _ _ _ => False) :=
  ⟨unif_zero h0 _, A, 0, by rw [h0], ⟨fun h => absurd h0 h, ⟨fun i j n hn => (by rw [at2_zero h0] at hn; cases hn), fun _ _ _ _ _ h => h.elim⟩⟩⟩
theorem Src.own {sz : Nat} {ys : Rw N} {v : Value} {T : Nat → Prop} (h : RowR w I β v T sz ys []) : ∃ c F, Src w I v sz ys c F ∧ ∀ i j q, F i j q → T q := by
  rcases h with ⟨h0, A, rfl⟩ | ⟨g, cap, e, cur, fr, c, F, rfl, hu, hn, hcap, hm, hg, hb, hfr, hs, hc, H, -, hF, hD⟩
  · exact ⟨fun _ _ => undef, fun _ _ _ => False, Src.zero h0 A, by simp⟩
  · refine ⟨c, F, ⟨hu, _, cap, rfl, fun _ => ⟨_, rfl, fun i j n hn => ?_⟩, fun i j n hn => H i j n hn (by rintro ⟨k, hk⟩; cases hk), hD⟩, fun i j q hq => (hF i j q hq).1⟩
    rw [add0, ZG hb]
    exact hc i j n hn
theorem src_sound (hr : RelV st a w I β S) {x : AV} {v : Value} (hv : AVR w I β x v) {p : Rw N × Option Nat} (h : srcOf st x = some p) {sz : Nat} (hz : match srcSz st x with | some z => z = sz | Option.none => True) :
    ∃ c F, Src w I v sz p.1 c F ∧ (∀ i j q, F i j q → ∃ k, p.2 = some k ∧ S k q) := by
  unfold srcOf at h
  split at h
  · simp only [Option.some.injEq] at h
    subst h
    simp only [srcSz] at hz
    subst hz
    obtain ⟨c, hc⟩ := Src.ro hv
    exact ⟨c, _, hc, by simp⟩
  · simp only [Option.some.injEq] at h
    subst h
    obtain ⟨A, rfl⟩ := hv
    exact ⟨fun _ _ => undef, fun _ _ _ => False, Src.zero rfl A, by simp⟩
  · rename_i j
    split at h
    · rename_i sz' ys hobj
      simp only [Option.some.injEq] at h
      subst h
      simp only [srcSz, hobj] at hz
      subst hz
      obtain ⟨c, F, hs, hF⟩ := Src.own (hr.hdr (i := j) hv hobj (by simp))
      exact ⟨c, F, hs, fun i j' q hq => ⟨j, rfl, hF i j' q hq⟩⟩
    · rename_i sz' ys hobj
      simp only [Option.some.injEq] at h
      subst h
      simp only [srcSz, hobj] at hz
      subst hz
      obtain ⟨c, hc⟩ := Src.ro (hr.hdr (i := j) hv hobj (by simp))
      exact ⟨c, _, hc, by simp⟩
    · cases h
  · cases h
theorem RelV.kill (hr : RelV st a w I β S) {bad : Nat → Bool} {β' : List Value} (hl : β'.length = β.length) (hβ : ∀ (i : Nat) (b : Value), bad i = false → β[i]? = some b → β'[i]? = some b)
    (hob : ∀ (i : Nat) (o : Ob) (b : Value), bad i = true → st.obs[i]? = some o → β'[i]? = some b → ObR w I β' b (S i) (o.kill bad)) : RelV (st.kill bad) a w I β' S := by
  refine ⟨by simpa [St.kill] using hr.sz, by simpa [St.kill, hl] using hr.bl, fun t v u hv hu => ?_, fun i o b ho hb => ?_, hr.sdis, fun i q hq => by simpa [St.kill] using hr.slt i q hq, hr.il⟩
  · simp only [St.kill, Sl.getElem?_map, Option.map_eq_some_iff] at hv
    obtain ⟨v', hv', rfl⟩ := hv
    exact (hr.slot t v' u hv' hu).kill hβ
  · simp only [St.kill, List.getElem?_map, Option.map_eq_some_iff] at ho
    obtain ⟨o', ho', rfl⟩ := ho
    cases hbd : bad i with
    | true => exact hob i o' b hbd ho' hb
    | false =>
      have hlt : i < β.length := by rw [hr.bl]; exact (List.getElem?_eq_some_iff.1 ho').1
      have h1 := List.getElem?_eq_getElem hlt
      have h2 := hβ i _ hbd h1
      rw [hb] at h2
      obtain rfl := Option.some.inj h2
      exact (hr.ob i o' _ ho' h1).kill hβ
theorem append_sound (hr : RelV st a w I β S) (hc : RelC c st a w I β S) {t ty : TypeId} {s x : AV} {vs vx : Value} (hs : AVR w I β s vs) (hx : AVR w I β x vx) {dst : Option Nat} {K : St → Prop}
    (h : appendK P st t s x dst K) : ∃ v w' st', (Builtin.append_ #[t, t] ty #[vs, vx]).run P w = .ok v w' ∧ K st' ∧ Rel c st' (a.put dst v) w' := by
  obtain ⟨e, ht, hok, hs0, hh⟩ := is_iff h
  clear h
  obtain ⟨p, hp, h⟩ := is_iff hh
  clear hh
  have hz := h.1
  obtain ⟨cc, F, hsrc, hF⟩ := src_sound hr hx hp hz
  have hsz : ∀ (T : Nat → Prop), (∀ q, T q → q < w.heap.size) → (∀ q, T q → ¬ I q) → (∀ k q, p.2 = some k → S k q → ¬ T q) → ∀ {b : Value} {xs : Rw N}, RowR w I β b T (tyOf P e).size xs [] →
      (xs.n + p.1.n) * ((tyOf P e).bytes + 1) ≤ maxN → ∃ b' w', (Builtin.append_ #[t, t] ty #[b, vx]).run P w = .ok b' w' ∧ Fr T w w' ∧
        RowR w' I β b' (fun q => T q ∨ (∃ k, p.2 = some k ∧ S k q) ∨ (w.heap.size ≤ q ∧ q < w'.heap.size)) (tyOf P e).size (xs.app p.1) [] := by
    intro T hT hTI hTS b xs hd hlen
    exact append_run ht hok rfl hs0 hd hsrc hTI hT hr.ilt (U := fun q => ∃ k, p.2 = some k ∧ S k q) hF (fun q ⟨k, hk, hq⟩ => hTS k q hk hq) (fun q ⟨k, hk, hq⟩ => (hr.slt k q hq).2.1) hlen
  replace h := h.2
  split at h
  · rename_i i
    split at h
    · rename_i sz xs hobj
      obtain ⟨rfl, hks, hne, hlen, hK⟩ := h
      have hrow := hr.hdr (i := i) hs hobj (by simp)
      obtain ⟨b', w', hrun, hfr, hres⟩ := hsz (S i) (fun q hq => (hr.slt i q hq).2.1) (fun q hq => (hr.slt i q hq).2.2) (fun k q hk hq hq' => hne (by rw [hk, hr.sdis k i q hq hq'])) hrow hlen
      have hio := obj_some hobj (by simp)
      have hi : i < st.obs.length := (List.getElem?_eq_some_iff.1 hio).1
      have hib : i < β.length := by rw [hr.bl]; exact hi
      have hIw : ∀ q, I q → w'.heap[q]? = w.heap[q]? := fun q hq => hfr.block q (hr.ilt q hq) (fun h => (hr.slt i q h).2.2 hq)
      refine ⟨b', w', _, hrun, hK, ?_⟩
      let S' : Nat → Nat → Prop := fun k q => if k = i then S i q ∨ (∃ k, p.2 = some k ∧ S k q) ∨ (w.heap.size ≤ q ∧ q < w'.heap.size) else S k q ∧ p.2 ≠ some k
      let st1 : St := { st with obs := consume i p.2.toList (st.obs.set i .none) }
      -- all but object i
      have h1 : RelV st1 a w' I β S' := by
        refine ⟨hr.sz, by simpa [st1, consume_length] using hr.bl, fun t v u hv hu => (hr.slot t v u hv hu).mono (fun _ h => h) hIw (fun _ _ h => h), ?_, ?_, ?_, hr.il.mono (fun _ h => h) hIw (fun q hq => Nat.lt_of_lt_of_le (hr.ilt q hq) hfr.size)⟩
        · intro k o b ho hb
          simp only [st1, consume_get, List.length_set] at ho
          split at ho
          · simp only [Option.some.injEq] at ho
            subst ho
            trivial
          · rename_i hnk
            rw [List.getElem?_set] at ho
            by_cases hki : i = k
            · subst hki
              simp only [if_true, hi, Option.some.injEq] at ho
              subst ho
              trivial
            · rw [if_neg hki] at ho
              have hki' : ¬ k = i := fun h => hki h.symm
              have hlt : k < st.obs.length := (List.getElem?_eq_some_iff.1 ho).1
              refine (hr.ob k o b ho hb).mono (fun _ h => h) hIw (fun _ _ h => h) (fun q hq => hfr.block q (hr.slt k q hq).2.1 (fun h => hki' (hr.sdis k i q hq h))) (fun q hq => ?_)
              simp only [S', hki', if_false]
              exact ⟨hq, fun h => hnk ⟨by simp [h], hki', hlt⟩⟩
        · intro j k q hq hq'
          simp only [S'] at hq hq'
          split at hq <;> split at hq'
          · omega
          · rename_i h1 h2
            rcases hq with hq | ⟨m, hm, hq⟩ | ⟨hq, -⟩
            · exact absurd (hr.sdis i k q hq hq'.1).symm h2
            · have := hr.sdis m k q hq hq'.1
              subst this
              exact absurd hm hq'.2
            · have := (hr.slt k q hq'.1).2.1
              omega
          · rename_i h1 h2
            rcases hq' with hq' | ⟨m, hm, hq'⟩ | ⟨hq', -⟩
            · exact absurd (hr.sdis i j q hq' hq.1).symm h1
            · have := hr.sdis m j q hq' hq.1
              subst this
              exact absurd hm hq.2
            · have := (hr.slt j q hq.1).2.1
              omega
          · exact hr.sdis j k q hq.1 hq'.1
        · intro k q hq
          simp only [S'] at hq
          simp only [st1, consume_length, List.length_set]
          split at hq
          · rename_i h1
            subst h1
            rcases hq with hq | ⟨m, hm, hq⟩ | ⟨hq, hq2⟩
            · exact ⟨hi, Nat.lt_of_lt_of_le (hr.slt k q hq).2.1 hfr.size, (hr.slt k q hq).2.2⟩
            · exact ⟨hi, Nat.lt_of_lt_of_le (hr.slt m q hq).2.1 hfr.size, (hr.slt m q hq).2.2⟩
            · exact ⟨hi, hq2, fun h => by have := hr.ilt q h; omega⟩
          · exact ⟨(hr.slt k q hq.1).1, Nat.lt_of_lt_of_le (hr.slt k q hq.1).2.1 hfr.size, (hr.slt k q hq.1).2.2⟩
      have hb'1 : b'.oneCell' = true := by obtain ⟨A, cp, rfl, -⟩ := hres.slice; rfl
      have hβ : ∀ (k : Nat) (b : Value), (k == i) = false → β[k]? = some b → (β.set i b')[k]? = some b := by
        intro k b hk hb
        have hk' : i ≠ k := fun h => by subst h; simp at hk
        rw [List.getElem?_set_ne hk']
        exact hb
      have h2 : RelV ({ st with obs := consume i p.2.toList (st.obs.set i (.row (tyOf P e).size (xs.app p.1) [])) } : St) a w' I β S' → True := fun _ => trivial
      have h3 : RelV (({ st with obs := consume i p.2.toList (st.obs.set i (.row (tyOf P e).size (xs.app p.1) [])) } : St).kill (fun k => k == i)) a w' I (β.set i b') S' := by
        refine ⟨by simpa [St.kill] using hr.sz, by simpa [St.kill, consume_length] using hr.bl, ?_, ?_, h1.sdis, ?_, h1.il⟩
        · intro t v u hv hu
          simp only [St.kill, Sl.getElem?_map, Option.map_eq_some_iff] at hv
          obtain ⟨v', hv', rfl⟩ := hv
          exact (h1.slot t v' u hv' hu).kill hβ
        · intro k o b ho hb
          simp only [St.kill, List.getElem?_map, Option.map_eq_some_iff, consume_get, List.length_set] at ho
          obtain ⟨o', ho', rfl⟩ := ho
          by_cases hki : k = i
          · subst hki
            simp only [ne_eq, not_true_eq_false, false_and, and_false, if_false, List.getElem?_set, if_true, hi, Option.some.injEq] at ho'
            subst ho'
            rw [List.getElem?_set_self hib] at hb
            obtain rfl := Option.some.inj hb
            simp only [Ob.kill, S', if_true]
            have := ObR.mono (o := .row (tyOf P e).size (xs.app p.1) []) (I' := I) (β' := β.set k b') (S' := fun q => S k q ∨ (∃ k, p.2 = some k ∧ S k q) ∨ (w.heap.size ≤ q ∧ q < w'.heap.size)) (w' := w') (fun _ h => h) (fun _ _ => rfl) (β := []) (fun _ _ h => by simp at h) (b := b') (w := w') (I := I)
              (S := fun q => S k q ∨ (∃ k, p.2 = some k ∧ S k q) ∨ (w.heap.size ≤ q ∧ q < w'.heap.size)) (RowR.of_own hres.own) (fun _ _ => rfl) (fun _ h => h)
            exact this
          · have hki2 : (k == i) = false := by simpa using hki
            have hb2 : β[k]? = some b := by
              rw [List.getElem?_set_ne (fun h => hki h.symm)] at hb
              exact hb
            have ho2 : st1.obs[k]? = some o' := by
              simp only [st1, consume_get, List.length_set]
              rw [List.getElem?_set_ne (fun h => hki h.symm)] at ho' ⊢
              exact ho'
            exact (h1.ob k o' b ho2 hb2).kill hβ
        · intro k q hq
          have := h1.slt k q hq
          simpa [St.kill, st1, consume_length] using this
      refine ⟨I, β.set i b', S', h3.put dst ⟨List.getElem?_set_self hib, hb'1⟩, RelC.put ?_ dst _ _⟩
      refine ⟨fun k q hq => ?_, hc.isub, hc.iinv, hc.frame.trans hfr (fun q hq => (hc.own i q hq).symm), fun k hk hkk => ?_, hc.defers⟩
      · simp only [S'] at hq
        split at hq
        · rcases hq with hq | ⟨m, hm, hq⟩ | ⟨hq, -⟩
          · exact hc.own i q hq
          · exact hc.own m q hq
          · exact .inl (Nat.le_trans hc.frame.size hq)
        · exact hc.own k q hq.1
      · have hki : i ≠ k := by
          rintro rfl
          simp only [St.kill] at hkk
          rw [hks] at hkk
          cases hkk
        rw [List.getElem?_set_ne hki]
        exact hc.keep k hk hkk
    · exact h.elim
  · obtain ⟨hlen, hK⟩ := h
    obtain ⟨A, rfl⟩ := hs
    obtain ⟨b', w', hrun, hfr, hres⟩ := hsz (fun _ => False) (fun _ h => h.elim) (fun _ h => h.elim) (fun _ _ _ _ h => h) (b := .slice A 0 0) (xs := Rw.nil) (.inl ⟨rfl, A, rfl⟩) (by simpa [Rw.nil] using hlen)
    have hIw : ∀ q, I q → w'.heap[q]? = w.heap[q]? := fun q hq => hfr.block q (hr.ilt q hq) (fun h => h)
    have happ : Rw.nil.app p.1 = p.1 := by simp [Rw.app_eq, Rw.nil]
    have hres' := hres
    rw [happ] at hres'
    have hb'1 : b'.oneCell' = true := by obtain ⟨A, cp, rfl, -⟩ := hres.slice; rfl
    have hβ : ∀ (i : Nat) (b : Value), β[i]? = some b → (β ++ [b'])[i]? = some b := fun i b hb => by rw [List.getElem?_append_left (List.getElem?_eq_some_iff.1 hb).1]; exact hb
    refine ⟨b', w', _, hrun, hK, ?_⟩
    let S' : Nat → Nat → Prop := fun k q => if k = st.obs.length then (∃ k, p.2 = some k ∧ S k q) ∨ (w.heap.size ≤ q ∧ q < w'.heap.size) else S k q ∧ p.2 ≠ some k
    refine ⟨I, β ++ [b'], S', RelV.put ?_ dst ⟨by rw [← hr.bl]; simp, hb'1⟩, RelC.put ?_ dst _ _⟩
    · refine ⟨hr.sz, by simp [St.new, consume_length, hr.bl], fun t v u hv hu => (hr.slot t v u hv hu).mono (fun _ h => h) hIw hβ, ?_, ?_, ?_, hr.il.mono (fun _ h => h) hIw (fun q hq => Nat.lt_of_lt_of_le (hr.ilt q hq) hfr.size)⟩
      · intro k o b ho hb
        simp only [St.new] at ho
        rcases Nat.lt_or_ge k st.obs.length with hlt | hge
        · rw [List.getElem?_append_left (by rw [consume_length]; exact hlt), consume_get] at ho
          rw [List.getElem?_append_left (by rw [hr.bl]; exact hlt)] at hb
          have hkn : k ≠ st.obs.length := by omega
          simp only [S', hkn, if_false]
          split at ho
          · simp only [Option.some.injEq] at ho
            subst ho
            trivial
          · rename_i hnk
            exact (hr.ob k o b ho hb).mono (fun _ h => h) hIw hβ (fun q hq => hfr.block q (hr.slt k q hq).2.1 (fun h => h)) (fun q hq => ⟨hq, fun h => hnk ⟨by simp [h], hkn, hlt⟩⟩)
        · rw [List.getElem?_append_right (by rw [consume_length]; exact hge), consume_length] at ho
          rw [List.getElem?_append_right (by rw [hr.bl]; exact hge), hr.bl] at hb
          have hk0 : k - st.obs.length = 0 := by
            by_cases h : k - st.obs.length = 0
            · exact h
            · rw [show k - st.obs.length = (k - st.obs.length - 1) + 1 by omega] at ho
              simp at ho
          have hk : k = st.obs.length := by omega
          rw [hk0] at ho hb
          simp at ho hb
          subst ho; subst hb; subst hk
          simp only [S', if_true]
          have := ObR.mono (o := .row (tyOf P e).size p.1 []) (I' := I) (β' := β ++ [b']) (S' := fun q => (∃ k, p.2 = some k ∧ S k q) ∨ (w.heap.size ≤ q ∧ q < w'.heap.size)) (w' := w') (fun _ h => h) (fun _ _ => rfl) (β := []) (fun _ _ h => by simp at h) (b := b') (w := w') (I := I)
            (RowR.of_own hres'.own) (fun _ _ => rfl) (fun q h => h.elim (fun h => h.elim) id)
          simpa using this
      · intro j k q hq hq'
        simp only [S'] at hq hq'
        split at hq <;> split at hq'
        · omega
        · rcases hq with ⟨m, hm, hq⟩ | ⟨hq, -⟩
          · have := hr.sdis m k q hq hq'.1
            subst this
            exact absurd hm hq'.2
          · have := (hr.slt k q hq'.1).2.1
            omega
        · rcases hq' with ⟨m, hm, hq'⟩ | ⟨hq', -⟩
          · have := hr.sdis m j q hq' hq.1
            subst this
            exact absurd hm hq.2
          · have := (hr.slt j q hq.1).2.1
            omega
        · exact hr.sdis j k q hq.1 hq'.1
      · intro k q hq
        simp only [S'] at hq
        simp only [St.new, List.length_append, consume_length, List.length_singleton]
        split at hq
        · rename_i h1
          rcases hq with ⟨m, hm, hq⟩ | ⟨hq, hq2⟩
          · exact ⟨by omega, Nat.lt_of_lt_of_le (hr.slt m q hq).2.1 hfr.size, (hr.slt m q hq).2.2⟩
          · exact ⟨by omega, hq2, fun h => by have := hr.ilt q h; omega⟩
        · exact ⟨by have := (hr.slt k q hq.1).1; omega, Nat.lt_of_lt_of_le (hr.slt k q hq.1).2.1 hfr.size, (hr.slt k q hq.1).2.2⟩
    · refine ⟨fun k q hq => ?_, hc.isub, hc.iinv, hc.frame.trans hfr (fun q hq => hq.elim), fun k hk hkk => ?_, hc.defers⟩
      · simp only [S'] at hq
        split at hq
        · rcases hq with ⟨m, hm, hq⟩ | ⟨hq, -⟩
          · exact hc.own m q hq
          · exact .inl (Nat.le_trans hc.frame.size hq)
        · exact hc.own k q hq.1
      · rw [List.getElem?_append_left (hc.klt hk hkk)]
        exact hc.keep k hk hkk
  · exact h.elim
end
def fillS (size : Nat) : List (Nat × AV) → List C → Option (List C)
  | [], cs => some cs
  | (i, v) :: rest, cs => match partCs v with
    | some new => if new.length = size ∧ i * size + new.length ≤ cs.length then fillS size rest (setAt cs (i * size) new) else Option.none
    | Option.none => Option.none
def repN {α : Type} : Nat → List α → List α
  | 0, _ => []
  | n + 1, l => l ++ repN n l
def chunkG (sz : Nat) : Nat → List N → Nat → List N
  | 0, l, _ => l.take sz
  | k + 1, l, i => mrgE (decide (i = 0)) (l.take sz) (chunkG sz k (l.drop sz) (i - 1))
def chunk (sz n : Nat) (l : List N) : Rw N := ⟨n, fun i => chunkG sz (n - 1) l i⟩
theorem chunkG_eq (sz : Nat) : ∀ (k : Nat) (l : List N) (i : Nat), i ≤ k → chunkG sz k l i = (l.drop (i * sz)).take sz
  | 0, l, i, h => by
    have : i = 0 := by omega
    subst this
    simp [chunkG]
  | k + 1, l, i, h => by
    rw [chunkG, mrgE_eq, sel_if]
    split
    · rename_i h0; subst h0; simp
    · rw [chunkG_eq sz k _ _ (by omega), List.drop_drop]
      congr 2
      obtain ⟨j, rfl⟩ : ∃ j, i = j + 1 := ⟨i - 1, by omega⟩
      simp [Nat.add_mul, Nat.add_comm]
theorem chunk_g {sz n : Nat} {l : List N} {i : Nat} (h : i < n) : (chunk sz n l).g i = (l.drop (i * sz)).take sz := chunkG_eq sz _ _ _ (by omega)
def immC (st : St) (z : Option ZE) : C → Option N
  | .n x => some x
  | .z => z.map ZE.nil
  | .h j => match st.obj j with
    | .fro sz xs => some (.sl sz xs)
    | _ => Option.none
  | _ => Option.none
def immCs (st : St) : List (Option ZE) → List C → Option (List N)
  | [], [] => some []
  | z :: zs, c :: cs => match immC st z c, immCs st zs cs with
    | some x, some xs => some (x :: xs)
    | _, _ => Option.none
  | _, _ => Option.none
def litK (P : Program) (t : TypeId) (len : Nat) (parts : List (Nat × AV)) (K : TyI → List C → Prop) : Prop :=
  is (tyOf P t).sl fun e => (tyOf P e).ok = true ∧ len * (tyOf P e).size ≤ 16777216 ∧ (tyOf P e).zero.all (·.oneCell') = true ∧ (tyOf P e).size ≠ 0 ∧
    is (fillS (tyOf P e).size parts (List.replicate (len * (tyOf P e).size) .u)) fun cs => K (tyOf P e) cs
def buildOwnK (P : Program) (st : St) (t : TypeId) (len : Nat) (parts : List (Nat × AV)) (dst : Option Nat) (K : St → Prop) : Prop :=
  litK P t len parts fun ty cs => if len = 0 then K (st.put dst (.c .z)) else is (inlN st [] (repN len ty.zs) cs) fun p =>
    K ((({ st with obs := consume st.obs.length p.2 st.obs } : St).new [.row ty.size (chunk ty.size len p.1) []]).put dst (.c (.h st.obs.length)))
section
variable {P : Program} {st : St} {a : Act} {w : World} {I : Nat → Prop} {β : List Value} {S : Nat → Nat → Prop} {c : Cx}
theorem fillS_sound (hr : RelV st a w I β S) {size : Nat} : ∀ (parts : List (Nat × Operand)) (cs cs' : List C) (arr : Array Value), CsR w I β cs arr →
    fillS size (parts.map fun p => (p.1, st.ev p.2)) cs = some cs' →
    ∃ arr', Instr.fill (fun i => some (i * size, size)) arr (parts.map fun p => (p.1, a.eval p.2)) = some arr' ∧ CsR w I β cs' arr' := by
  intro parts
  induction parts with
  | nil =>
    intro cs cs' arr h hf
    simp only [List.map_nil, fillS, Option.some.injEq] at hf
    subst hf
    exact ⟨arr, rfl, h⟩
  | cons p r ih =>
    intro cs cs' arr h hf
    simp only [List.map_cons, fillS] at hf
    split at hf
    · rename_i new h2
      split at hf
      · rename_i hc
        have hn := partCs_sound (zL hr p.2) h2
        obtain ⟨arr', h3, h4⟩ := ih _ cs' _ (h.setAt hn hc.2) hf
        refine ⟨arr', ?_, h4⟩
        have hsz : (a.eval p.2).cells.size = size := by rw [hn.1, hc.1]
        have hno : ¬ (p.1 * size + (a.eval p.2).cells.size > arr.size) := by rw [hn.1, h.1]; omega
        simp only [List.map_cons, Instr.fill, hsz, ne_eq, not_true_eq_false, decide_false, Bool.false_or]
        rw [hsz] at hno
        simp only [hno, decide_false, Bool.false_eq_true, if_false]
        exact h3
      · cases hf
    · cases hf
theorem fillS_length {size : Nat} : ∀ (parts : List (Nat × AV)) (cs cs' : List C), fillS size parts cs = some cs' → cs'.length = cs.length := by
  intro parts
  induction parts with
  | nil =>
    intro cs cs' h
    simp only [fillS, Option.some.injEq] at h
    rw [h]
  | cons p r ih =>
    intro cs cs' h
    simp only [fillS] at h
    split at h
    · split at h
      · rename_i hc
        rw [ih _ _ h, setAt_length hc.2]
      · cases h
    · cases h
theorem lit_sound (hr : RelV st a w I β S) {t : TypeId} {len : Nat} {parts : Array (Nat × Operand)} {K : TyI → List C → Prop} (h : litK P t len (parts.toList.map fun p => (p.1, st.ev p.2)) K) :
    ∃ e arr cs, (tyOf P t).sl = some e ∧ (tyOf P e).size ≠ 0 ∧ len * (tyOf P e).size ≤ 16777216 ∧ K (tyOf P e) cs ∧ CsR w I β cs arr ∧ cs.length = len * (tyOf P e).size ∧
      (Instr.buildSlice t len (parts.map fun p => (p.1, a.eval p.2))).run P w = .ok (.slice (some ⟨w.heap.size, 0, none⟩) len len) (w.alloc (.cells arr e)) := by
  obtain ⟨e, ht, hok, hle, h1, hs0, h⟩ := is_iff h
  obtain ⟨cs, hf, hK⟩ := is_iff h
  obtain ⟨i, d, z, hi, hd, hz, hzs, -, hsz, hze, hby⟩ := ZJ hok
  let arr0 : Array Value := (Array.range (len * i.size)).map (fun k => (if len * i.size = 0 then (#[] : Array Value) else z.cells)[k % (if len * i.size = 0 then (#[] : Array Value) else z.cells).size]!)
  have h0 : CsR w I β (List.replicate (len * (tyOf P e).size) .u) arr0 := by
    refine ⟨by simp [arr0, hsz], fun j x v hx hv => ?_⟩
    rw [List.getElem?_replicate] at hx
    split at hx
    · rename_i hj
      simp only [Option.some.injEq] at hx
      subst hx
      rw [hsz] at hj
      have hne : len * i.size ≠ 0 := by omega
      simp only [arr0, hne, if_false] at hv
      simp only [Array.getElem?_map, Option.map_eq_some_iff] at hv
      obtain ⟨k, hk, rfl⟩ := hv
      have hpos : 0 < z.cells.size := by rw [hzs, ← hsz]; omega
      have hlt : k % z.cells.size < z.cells.size := Nat.mod_lt _ hpos
      have := List.all_eq_true.1 h1 (z.cells[k % z.cells.size]!) (by rw [hze]; simp [hlt])
      exact this
    · cases hx
  obtain ⟨arr, harr, hcs⟩ := fillS_sound (size := (tyOf P e).size) hr parts.toList _ cs arr0 h0 hf
  refine ⟨e, arr, cs, ht, hs0, hle, hK, hcs, by rw [fillS_length _ _ _ hf, List.length_replicate], ?_⟩
  rw [hsz] at hle harr
  have hno : ¬ (len * i.size > 2 ^ 24) := by omega
  have hu := tyOf_sl ht
  unfold Instr.buildSlice
  simp only [Sem.run_bind, run_underlying hu, Result.andThen_ok, run_sizeOf' hi, hno, if_false, Sem.run_pure]
  by_cases h0 : len * i.size = 0
  · simp only [h0, if_true, Sem.run_bind, Sem.run_pure, Result.andThen_ok]
    simp only [arr0, h0, if_true] at harr
    simp only [Array.toList_map]
    rw [harr]
    simp [newRow]
  · simp only [h0, if_false, Sem.run_bind, run_zeroValue' hi hz, Sem.run_pure, Result.andThen_ok]
    simp only [arr0, h0, if_false] at harr
    simp only [Array.toList_map]
    rw [harr]
    simp [newRow]
theorem chunk_length (sz n : Nat) (l : List N) : (chunk sz n l).n = n := rfl
theorem chunk_unif (sz n : Nat) (l : List N) (h : l.length = n * sz) : unif sz (chunk sz n l) := by
  intro i hi
  have hi' : i < n := hi
  rw [chunk_g hi']
  have h1 : (i + 1) * sz ≤ n * sz := Nat.mul_le_mul_right _ hi'
  rw [Nat.add_mul, Nat.one_mul] at h1
  simp
  omega
theorem chunk_at (sz n : Nat) (l : List N) (i j : Nat) (x : N) (h : at2 (chunk sz n l) i j = some x) : i < n ∧ j < sz ∧ l[i * sz + j]? = some x := by
  obtain ⟨h1, h2⟩ := at2_pos h
  have h3 : ((l.drop (i * sz)).take sz)[j]? = some x := by rw [← chunk_g (show i < n from h1)]; exact h2
  rw [List.getElem?_take] at h3
  split at h3
  · exact ⟨h1, ‹_›, by simpa using h3⟩
  · cases h3
theorem buildOwn_sound (hr : RelV st a w I β S) (hc : RelC c st a w I β S) {t : TypeId} {len : Nat} {parts : Array (Nat × Operand)} {dst : Option Nat} {K : St → Prop} (h : buildOwnK P st t len (parts.toList.map fun p => (p.1, st.ev p.2)) dst K) :
    ∃ v w' st', (Instr.buildSlice t len (parts.map fun p => (p.1, a.eval p.2))).run P w = .ok v w' ∧ K st' ∧ Rel c st' (a.put dst v) w' := by
  obtain ⟨e, arr, cs, ht, hs0, hle, h, hcs, hlen, hrun⟩ := lit_sound hr h
  have hfr := Fr.alloc (fun _ => False) w (.cells arr e)
  split at h
  · rename_i h0
    refine ⟨_, _, _, hrun, h, ?_⟩
    have := step_quiet hr hc (av := .c .z) (news := []) (v := .slice (some ⟨w.heap.size, 0, none⟩) len len) (w' := w.alloc (.cells arr e))
      ⟨I, [], fun _ _ => False, hfr, fun _ h => h, fun _ h => .inl h, fun b hb => Nat.lt_of_lt_of_le (hr.ilt b hb) hfr.size, rfl, ⟨_, by rw [h0]⟩, by simp, by simp, by simp⟩ dst
    simpa [St.new] using this
  · rename_i h0
    obtain ⟨p, hp, hK⟩ := is_iff h
    obtain ⟨hnl, hu1, hu2, Fs, hF1, hF2, hF3⟩ := inlN_sound hr hp
    have hIw : ∀ q, I q → (w.alloc (.cells arr e)).heap[q]? = w.heap[q]? := fun q hq => hfr.block q (hr.ilt q hq) (fun h => h)
    have hβ : ∀ (i : Nat) (b : Value), β[i]? = some b → (β ++ [.slice (some ⟨w.heap.size, 0, none⟩) len len])[i]? = some b := fun i b hb => by rw [List.getElem?_append_left (List.getElem?_eq_some_iff.1 hb).1]; exact hb
    refine ⟨_, _, _, hrun, hK, ?_⟩
    let S' : Nat → Nat → Prop := fun k q => if k = st.obs.length then (∃ k, k ∈ p.2 ∧ S k q) ∨ q = w.heap.size else S k q ∧ k ∉ p.2
    refine ⟨I, β ++ [.slice (some ⟨w.heap.size, 0, none⟩) len len], S', RelV.put ?_ dst ⟨by rw [← hr.bl]; simp, rfl⟩, RelC.put ?_ dst _ _⟩
    · refine ⟨hr.sz, by simp [St.new, consume_length, hr.bl], fun t v u hv hu => (hr.slot t v u hv hu).mono (fun _ h => h) hIw hβ, ?_, ?_, ?_, hr.il.mono (fun _ h => h) hIw (fun q hq => Nat.lt_of_lt_of_le (hr.ilt q hq) hfr.size)⟩
      · intro k o b ho hb
        simp only [St.new] at ho
        rcases Nat.lt_or_ge k st.obs.length with hlt | hge
        · rw [List.getElem?_append_left (by rw [consume_length]; exact hlt), consume_get] at ho
          rw [List.getElem?_append_left (by rw [hr.bl]; exact hlt)] at hb
          have hkn : k ≠ st.obs.length := by omega
          simp only [S', hkn, if_false]
          split at ho
          · simp only [Option.some.injEq] at ho
            subst ho
            trivial
          · rename_i hnk
            exact (hr.ob k o b ho hb).mono (fun _ h => h) hIw hβ (fun q hq => hfr.block q (hr.slt k q hq).2.1 (fun h => h)) (fun q hq => ⟨hq, fun h => hnk ⟨h, hkn, hlt⟩⟩)
        · rw [List.getElem?_append_right (by rw [consume_length]; exact hge), consume_length] at ho
          rw [List.getElem?_append_right (by rw [hr.bl]; exact hge), hr.bl] at hb
          have hk0 : k - st.obs.length = 0 := by
            by_cases h : k - st.obs.length = 0
            · exact h
            · rw [show k - st.obs.length = (k - st.obs.length - 1) + 1 by omega] at ho
              simp at ho
          have hk : k = st.obs.length := by omega
          rw [hk0] at ho hb
          simp at ho hb
          subst ho; subst hb; subst hk
          simp only [S', if_true]
          have hln : (chunk (tyOf P e).size len p.1).n = len := chunk_length _ _ _
          have hl24 : len ≤ 16777216 := by
            have : len * 1 ≤ len * (tyOf P e).size := Nat.mul_le_mul_left _ (by omega)
            omega
          have hlm : len ≤ maxN := by
            unfold maxN
            omega
          refine RowR.of_own ?_
          have hcell : ∀ i j x, at2 (chunk (tyOf P e).size len p.1) i j = some x → i < len ∧ j < (tyOf P e).size ∧ arr[i * (tyOf P e).size + j]? = some (arr.getD (i * (tyOf P e).size + j) undef) ∧
              Own w I x (arr.getD (i * (tyOf P e).size + j) undef) (Fs (i * (tyOf P e).size + j)) := by
            intro i j x hx
            obtain ⟨h1, h2, h3⟩ := chunk_at _ _ _ _ _ _ hx
            have hlt : i * (tyOf P e).size + j < arr.size := by rw [hcs.1, ← hnl]; exact (List.getElem?_eq_some_iff.1 h3).1
            have hltc : i * (tyOf P e).size + j < cs.length := by rw [← hcs.1]; exact hlt
            have hv : arr[i * (tyOf P e).size + j]? = some (arr.getD (i * (tyOf P e).size + j) undef) := by simp [Array.getD, hlt]
            obtain ⟨n, hn1, hn2⟩ := hF1 _ _ _ (List.getElem?_eq_getElem hltc) (hcs.2 _ _ _ (List.getElem?_eq_getElem hltc) hv)
            rw [h3] at hn1
            obtain rfl := Option.some.inj hn1
            exact ⟨h1, h2, hv, hn2⟩
          have := Own.sl (w := w.alloc (.cells arr e)) (I := I) (S := fun q => (∃ k, k ∈ p.2 ∧ S k q) ∨ q = w.heap.size) w.heap.size len e arr (0, 0)
            (fun i j => arr.getD (i * (tyOf P e).size + j) undef) (fun i j q => (i < len ∧ j < (tyOf P e).size) ∧ Fs (i * (tyOf P e).size + j) q) (xs := chunk (tyOf P e).size len p.1)
            (chunk_unif _ _ _ (by rw [hnl, hlen])) (by rw [hln]; exact hlm) (by rw [hln]; exact Nat.le_refl _) (by unfold maxLen; omega) (.inr rfl)
            (heap_alloc_new w _) (.inr (Nat.le_refl _)) (by rw [hcs.1, hlen])
            (fun i j x hx => (hcell i j x hx).2.2.1)
            (fun i j x hx => by
              obtain ⟨h1, h2, h3, h4⟩ := hcell i j x hx
              refine h4.mono (fun _ h => h) (fun b hb => heap_alloc_old w _ b (hr.ilt b hb)) (fun b hb => ?_) (fun b hb => ⟨⟨h1, h2⟩, hb⟩)
              obtain ⟨k, -, -, hk⟩ := hF2 _ _ hb
              exact heap_alloc_old w _ b (hr.slt k b hk).2.1)
            (fun i j b hb => by
              obtain ⟨k, hk, -, hk2⟩ := hF2 _ _ hb.2
              exact ⟨.inl ⟨k, hk, hk2⟩, by have := (hr.slt k b hk2).2.1; omega⟩)
            (fun i j i' j' b hb hb' => div_lt hb.1.2 hb'.1.2 (hF3 _ _ b hb.2 hb'.2))
          rw [hln] at this
          exact this
      · intro j k q hq hq'
        simp only [S'] at hq hq'
        split at hq <;> split at hq'
        · omega
        · rcases hq with ⟨m, hm, hq⟩ | rfl
          · have := hr.sdis m k q hq hq'.1
            subst this
            exact absurd hm hq'.2
          · have := (hr.slt k _ hq'.1).2.1
            omega
        · rcases hq' with ⟨m, hm, hq'⟩ | rfl
          · have := hr.sdis m j q hq' hq.1
            subst this
            exact absurd hm hq.2
          · have := (hr.slt j _ hq.1).2.1
            omega
        · exact hr.sdis j k q hq.1 hq'.1
      · intro k q hq
        simp only [S'] at hq
        simp only [St.new, List.length_append, consume_length, List.length_singleton]
        split at hq
        · rename_i h1
          rcases hq with ⟨m, hm, hq⟩ | rfl
          · exact ⟨by omega, Nat.lt_of_lt_of_le (hr.slt m q hq).2.1 hfr.size, (hr.slt m q hq).2.2⟩
          · exact ⟨by omega, by simp, fun h => by have := hr.ilt _ h; omega⟩
        · exact ⟨by have := (hr.slt k q hq.1).1; omega, Nat.lt_of_lt_of_le (hr.slt k q hq.1).2.1 hfr.size, (hr.slt k q hq.1).2.2⟩
    · refine ⟨fun k q hq => ?_, hc.isub, hc.iinv, hc.frame.trans hfr (fun q hq => hq.elim), fun k hk hkk => ?_, hc.defers⟩
      · simp only [S'] at hq
        split at hq
        · rcases hq with ⟨m, hm, hq⟩ | rfl
          · exact hc.own m q hq
          · exact .inl hc.frame.size
        · exact hc.own k q hq.1
      · rw [List.getElem?_append_left (hc.klt hk hkk)]
        exact hc.keep k hk hkk
end
def updAt {α : Type} (l : List α) : List Nat → List α → List α
  | i :: is, x :: xs => updAt (l.set i x) is xs
  | _, _ => l
def sig (ids : List Nat) (n : Nat) (k : Nat) : Nat := match ids[k]? with
  | some i => i
  | Option.none => n + (k - ids.length)
def gC (st : St) (ids : List Nat) (lend : Bool) : C → C → Prop
  | .n x, y => y = .n x
  | .h i, .h k => ids[k]? = some i
  | .p i off, .p k off' => ids[k]? = some i ∧ off = off'
  | .h i, .n (.sl sz xs) => ids.contains i = false ∧ ((lend = true ∧ st.obj i = .row sz xs []) ∨ st.obj i = .fro sz xs)
  | .z, .n (.sl _ xs) => xs.n = 0
  | .z, .z => True
  | _, _ => False
def gCs (st : St) (ids : List Nat) (lend : Bool) : List C → List C → Prop
  | [], [] => True
  | x :: xs, y :: ys => gC st ids lend x y ∧ gCs st ids lend xs ys
  | _, _ => False
def gA (st : St) (ids : List Nat) (lend : Bool) : AV → AV → Prop
  | .c (.p i off), .ra cs => ids.contains i = false ∧ lend = true ∧ match st.obj i with
    | .box bs => gCs st ids lend (bs.drop off) (cs.map .n)
    | _ => False
  | .ea i sz idx f, .ra cs => ids.contains i = false ∧ lend = true ∧ match st.obj i with
    | .row sz' xs [] => sz = sz' ∧ idx < xs.n ∧ cs = (xs.g idx).drop f
    | _ => False
  | .ra cs, y => y = .ra cs
  | .c x, .c y => gC st ids lend x y
  | .a xs, .a ys => gCs st ids lend xs ys
  | .fn f xs, .fn g ys => f = g ∧ gCs st ids lend xs ys
  | _, _ => False
def gAs (st : St) (ids : List Nat) (lend : Bool) : List AV → List AV → Prop
  | [], [] => True
  | x :: xs, y :: ys => gA st ids lend x y ∧ gAs st ids lend xs ys
  | _, _ => False
def badIds (ids : List Nat) (ks : List Bool) (i : Nat) : Bool := (List.range ids.length).any fun k => ids[k]? == some i && !(kb ks k)
def St.after (st : St) (ids : List Nat) (ks : List Bool) (obs : List Ob) : St :=
  let s := st.kill (badIds ids ks)
  { s with obs := updAt s.obs ids ((obs.take ids.length).map (Ob.map (sig ids st.obs.length))) ++ (obs.drop ids.length).map (Ob.map (sig ids st.obs.length)) }
section
variable {P : Program} {st : St} {a : Act} {w : World} {I : Nat → Prop} {β : List Value} {S : Nat → Nat → Prop} {c : Cx}
theorem updAt_length {α : Type} : ∀ (ids : List Nat) (xs l : List α), (updAt l ids xs).length = l.length
  | [], _, _ => by simp [updAt]
  | _ :: _, [], _ => by simp [updAt]
  | i :: is, x :: xs, l => by simp [updAt, updAt_length is xs]
theorem updAt_other {α : Type} : ∀ (ids : List Nat) (xs l : List α) (j : Nat), j ∉ ids → (updAt l ids xs)[j]? = l[j]?
  | [], _, _, _, _ => by simp [updAt]
  | _ :: _, [], _, _, _ => by simp [updAt]
  | i :: is, x :: xs, l, j, h => by
    simp only [List.mem_cons, not_or] at h
    rw [updAt, updAt_other is xs _ j h.2, List.getElem?_set_ne (fun e => h.1 e.symm)]
theorem updAt_at {α : Type} : ∀ (ids : List Nat) (xs l : List α) (k i : Nat), ids.Nodup → ids[k]? = some i → k < xs.length → i < l.length → (updAt l ids xs)[i]? = xs[k]?
  | [], _, _, _, _, _, h, _, _ => by simp at h
  | _ :: _, [], _, _, _, _, _, h, _ => by simp at h
  | j :: is, x :: xs, l, 0, i, hn, h, _, hi => by
    simp only [List.getElem?_cons_zero, Option.some.injEq] at h
    subst h
    rw [updAt, updAt_other is xs _ j (List.nodup_cons.1 hn).1, List.getElem?_set_self hi]
    rfl
  | j :: is, x :: xs, l, k + 1, i, hn, h, hk, hi => by
    rw [updAt, updAt_at is xs _ k i (List.nodup_cons.1 hn).2 (by simpa using h) (by simpa using hk) (by simpa using hi)]
    rfl
def lentI (I : Nat → Prop) (S : Nat → Nat → Prop) (ids : List Nat) (lend : Bool) (b : Nat) : Prop := I b ∨ (lend = true ∧ ∃ i, i ∉ ids ∧ S i b)
section
variable {ids : List Nat} {lend : Bool} {β' : List Value} (hr : RelV st a w I β S) (hβ : ∀ (k i : Nat) (b : Value), ids[k]? = some i → β[i]? = some b → β'[k]? = some b)
include hr hβ
theorem gC_sound {x y : C} {v : Value} (h : gC st ids lend x y) (hv : CR w I β x v) : CR w (lentI I S ids lend) β' y v := by
  have hI : ∀ b, I b → lentI I S ids lend b := fun _ h => .inl h
  unfold gC at h
  split at h
  · subst h
    exact Im.mono hI (fun _ _ => rfl) hv
  · exact ⟨hβ _ _ _ h hv.1, hv.2⟩
  · obtain ⟨h, rfl⟩ := h
    obtain ⟨g, h1, h2⟩ := hv
    exact ⟨g, hβ _ _ _ h h1, h2⟩
  · rename_i i sz xs
    obtain ⟨hn, h⟩ := h
    have hni : i ∉ ids := by simpa using hn
    rcases h with ⟨hl, h⟩ | h
    · have ho := hr.hdr (i := i) (v := v) hv h (by simp)
      exact (RowR.own ho).lend hI (fun b hb => .inr ⟨hl, i, hni, hb⟩)
    · have ho := hr.hdr (i := i) (v := v) hv h (by simp)
      exact Im.mono hI (fun _ _ => rfl) ho
  · obtain ⟨A, rfl⟩ := hv
    exact Im.zero h A
  · exact hv
  · exact h.elim
theorem gCs_sound : ∀ {xs ys : List C}, gCs st ids lend xs ys → ys.length = xs.length ∧
    ∀ (j : Nat) (y : C), ys[j]? = some y → ∃ x, xs[j]? = some x ∧ ∀ v, CR w I β x v → CR w (lentI I S ids lend) β' y v
  | [], [], _ => ⟨rfl, by simp⟩
  | x :: xs, y :: ys, h => by
    obtain ⟨h1, h2⟩ := h
    obtain ⟨e, ih⟩ := gCs_sound h2
    refine ⟨by simp [e], fun j zz hz => ?_⟩
    cases j with
    | zero =>
      simp at hz
      subst hz
      exact ⟨x, rfl, fun v hv => gC_sound hr hβ h1 hv⟩
    | succ j => simpa using ih j zz (by simpa using hz)
  | [], _ :: _, h => h.elim
  | _ :: _, [], h => h.elim
theorem gCs_CsR {xs ys : List C} {arr : Array Value} (h : gCs st ids lend xs ys) (hv : CsR w I β xs arr) : CsR w (lentI I S ids lend) β' ys arr := by
  obtain ⟨e, h⟩ := gCs_sound hr hβ h
  refine ⟨by rw [e]; exact hv.1, fun j y v hy hv' => ?_⟩
  obtain ⟨x, hx, h⟩ := h j y hy
  exact h v (hv.2 j x v hx hv')
theorem gA_sound {x y : AV} {v : Value} (h : gA st ids lend x y) (hv : AVR w I β x v) : AVR w (lentI I S ids lend) β' y v := by
  have hI : ∀ b, I b → lentI I S ids lend b := fun _ h => .inl h
  unfold gA at h
  split at h
  · rename_i i off cs
    obtain ⟨hn, hl, h⟩ := h
    have hni : i ∉ ids := by simpa using hn
    obtain ⟨g, hg, rfl⟩ := hv
    split at h
    · rename_i bs hobj
      obtain ⟨g', cur, e, hb, hS, hh, hc⟩ := hr.box hobj
      rw [hg] at hb
      obtain rfl : g = g' := by simpa using hb
      obtain ⟨e1, h2⟩ := gCs_sound hr hβ h
      refine ⟨⟨g, off, none⟩, fun j => cur.getD (off + j) undef, rfl, .inr ⟨hl, i, hni, hS⟩, fun j x hx => ?_, fun j x hx => ?_⟩
      · have hj : j < (bs.drop off).length := by
          have := (List.getElem?_eq_some_iff.1 hx).1
          simp at e1 ⊢; omega
        have hlt : off + j < cur.size := by rw [hc.1]; simp at hj; omega
        rw [add00, ZG hh]
        simp [Array.getD, hlt]
      · obtain ⟨zz, hz, h3⟩ := h2 j (.n x) (by simp [hx])
        have hz' : bs[off + j]? = some zz := by simpa using hz
        have hlt : off + j < cur.size := by rw [hc.1]; exact (List.getElem?_eq_some_iff.1 hz').1
        exact h3 _ (hc.2 (off + j) zz _ hz' (by simp [Array.getD, hlt]))
    · exact h.elim
  · rename_i i sz idx f cs
    obtain ⟨hn, hl, h⟩ := h
    have hni : i ∉ ids := by simpa using hn
    obtain ⟨g, n, cap, hg, rfl⟩ := hv
    split at h
    · rename_i sz' xs hobj
      obtain ⟨rfl, hel, rfl⟩ := h
      obtain ⟨b, hb, hrow⟩ := hr.obj hobj (by simp)
      rw [hg] at hb
      obtain rfl := Option.some.inj hb
      rcases hrow with ⟨h0, -⟩ | ⟨g', cap', e, cur, fr, c, F, hb', hu, hn', hcap, hm, hgS, hh, hfr, hs, hc, H, -, hF, hD⟩
      · omega
      · simp only [Value.slice.injEq, Option.some.injEq, Addr.mk.injEq] at hb'
        obtain ⟨⟨rfl, -⟩, -⟩ := hb'
        have key : ∀ (j : Nat) (x : N), ((xs.g idx).drop f)[j]? = some x → w.cell? ⟨g, idx * sz + f + j, none⟩ = some (c idx (f + j)) ∧ Im w (lentI I S ids lend) x (c idx (f + j)) := by
          intro j x hx
          have hx2 : (xs.g idx)[f + j]? = some x := by simpa using hx
          have hat : at2 xs idx (f + j) = some x := by rw [at2_of hel]; exact hx2
          refine ⟨?_, (H _ _ x hat (by rintro ⟨k, hk⟩; cases hk)).lend hI (fun b hb => .inr ⟨hl, i, hni, (hF _ _ b hb).1⟩)⟩
          rw [ZG hh, Nat.add_assoc]
          exact hc _ _ x hat
        refine ⟨⟨g, idx * sz + f, none⟩, fun j => c idx (f + j), rfl, .inr ⟨hl, i, hni, hgS⟩, fun j x hx => ?_, fun j x hx => (key j x hx).2⟩
        rw [add00]
        exact (key j x hx).1
    · exact h.elim
  · subst h
    exact AVR.mono (x := .ra _) (β := []) (β' := β') hI (fun _ _ => rfl) (fun _ _ h => by simp at h) (by exact hv)
  · exact gC_sound hr hβ h hv
  · obtain ⟨arr, rfl, hv⟩ := hv
    exact ⟨arr, rfl, gCs_CsR hr hβ h hv⟩
  · obtain ⟨rfl, h⟩ := h
    obtain ⟨arr, rfl, hv⟩ := hv
    exact ⟨arr, rfl, gCs_CsR hr hβ h hv⟩
  · exact h.elim
theorem gAs_sound : ∀ {xs ys : List AV} {vals : List Value}, gAs st ids lend xs ys → vals.length = xs.length →
    (∀ (t : Nat) (v : AV) (c : Value), xs[t]? = some v → vals[t]? = some c → AVR w I β v c) →
    ys.length = xs.length ∧ ∀ (t : Nat) (v : AV) (c : Value), ys[t]? = some v → vals[t]? = some c → AVR w (lentI I S ids lend) β' v c
  | [], [], _, _, _, _ => ⟨rfl, by simp⟩
  | x :: xs, y :: ys, [], _, hl, _ => by simp at hl
  | x :: xs, y :: ys, v :: vals, h, hl, hv => by
    obtain ⟨h1, h2⟩ := h
    obtain ⟨e, ih⟩ := gAs_sound h2 (vals := vals) (by simpa using hl) (fun t u c hu hc => hv (t + 1) u c (by simpa using hu) (by simpa using hc))
    refine ⟨by simp [e], fun t u c hu hc => ?_⟩
    cases t with
    | zero =>
      simp at hu hc
      subst hu; subst hc
      exact gA_sound hr hβ h1 (hv 0 x _ rfl rfl)
    | succ t => exact ih t u c (by simpa using hu) (by simpa using hc)
  | [], _ :: _, _, h, _, _ => h.elim
  | _ :: _, [], _, h, _, _ => h.elim
end
theorem sig_in {ids : List Nat} {n k i : Nat} (h : ids[k]? = some i) : sig ids n k = i := by simp [sig, h]
theorem sig_out {ids : List Nat} {n k : Nat} (h : ids.length ≤ k) : sig ids n k = n + (k - ids.length) := by simp [sig, List.getElem?_eq_none h]
theorem call_sound (hr : RelV st a w I β S) (hc : RelC c st a w I β S) {f : FuncId} {args args' : List AV} {vals : List Value} {hin : List Ob} {sh : Bool} {ks : List Bool} {R : AV → List Ob → Prop}
    (hac : AC P f args' hin sh ks R) {ids : List Nat} {lend : Bool} (hl : lend = true → sh = false) (hnd : ids.Nodup) (hlt : ∀ i, i ∈ ids → i < st.obs.length)
    (hin_eq : hin.map (Ob.map (sig ids st.obs.length)) = ids.map st.obj) (hks : ∀ i, badIds ids ks i = true → kb st.ks i = false)
    (hp : gAs st ids lend args args') (hvl : vals.length = args.length) (hv : ∀ (t : Nat) (v : AV) (c : Value), args[t]? = some v → vals[t]? = some c → AVR w I β v c)
    {dst : Option Nat} {K : St → Prop} (hK : ∀ rv obs, R rv obs → K ((st.after ids ks obs).put dst (rv.map (sig ids st.obs.length)))) :
    Goes P f vals.toArray w (fun v w' => ∃ st', K st' ∧ Rel c st' (a.put dst v) w') := by
  have hlen : hin.length = ids.length := by simpa using congrArg List.length hin_eq
  let β' : List Value := ids.map fun i => (β[i]?).getD undef
  have hβ'len : β'.length = ids.length := by simp [β']
  have hβ' : ∀ (k i : Nat), ids[k]? = some i → β'[k]? = β[i]? := by
    intro k i h
    have hi : i < β.length := by rw [hr.bl]; exact hlt i (List.mem_of_getElem? h)
    simp [β', h, List.getElem?_eq_getElem hi]
  obtain ⟨hl1, hslot⟩ := gAs_sound (β' := β') (lend := lend) hr (fun k i b h hb => by rw [hβ' k i h]; exact hb) hp hvl hv
  have hσin : ∀ (i : Nat) (b : Value), β[sig ids st.obs.length i]? = some b → β'[i]? = some b := by
    intro i b hb
    cases h : ids[i]? with
    | some j => rw [sig_in h] at hb; rw [hβ' i j h]; exact hb
    | none =>
      rw [sig_out (by simpa using h)] at hb
      rw [List.getElem?_eq_none (by rw [hr.bl]; omega)] at hb
      cases hb
  have hrel : RelV ⟨Sl.of args', hin, ks⟩ ⟨vals.toArray, []⟩ w (lentI I S ids lend) β' (fun k b => ∃ i, ids[k]? = some i ∧ S i b) := by
    refine ⟨?_, by rw [hβ'len, hlen], ?_, ?_, ?_, ?_, ?_⟩
    · simp [hl1, hvl]
    · intro t v u hv' hu
      exact hslot t v u (by simpa using hv') (by simpa using hu)
    · intro k o b ho hb
      have hk : k < ids.length := by rw [← hlen]; exact (List.getElem?_eq_some_iff.1 ho).1
      have hi := List.getElem?_eq_getElem hk
      have hoi : o.map (sig ids st.obs.length) = st.obj ids[k] := by
        have := congrArg (·[k]?) hin_eq
        simpa [ho, hi] using this
      have hil := hlt _ (List.getElem_mem hk)
      have hob : st.obs[ids[k]]? = some (o.map (sig ids st.obs.length)) := by
        rw [hoi, St.obj, List.getElem?_eq_getElem hil]; rfl
      have hbi : β[ids[k]]? = some b := by rw [← hβ' k _ hi]; exact hb
      refine ObR.unmap hσin ((hr.ob _ _ _ hob hbi).mono (fun _ h => .inl h) (fun _ _ => rfl) (fun _ _ h => h) (fun _ _ => rfl) (fun q hq => ⟨_, hi, hq⟩))
    · rintro j k b ⟨i, h1, h2⟩ ⟨i', h3, h4⟩
      have := hr.sdis i i' b h2 h4
      subst this
      have hj := (List.getElem?_eq_some_iff.1 h1).1
      have hk := (List.getElem?_eq_some_iff.1 h3).1
      have e1 := (List.getElem?_eq_some_iff.1 h1).2
      have e2 := (List.getElem?_eq_some_iff.1 h3).2
      exact (List.getElem_inj hnd).1 (e1.trans e2.symm)
    · rintro k b ⟨i, h1, h2⟩
      obtain ⟨q1, q2, q3⟩ := hr.slt i b h2
      refine ⟨by show k < hin.length; rw [hlen]; exact (List.getElem?_eq_some_iff.1 h1).1, q2, ?_⟩
      rintro (h | ⟨-, i', h3, h4⟩)
      · exact q3 h
      · have := hr.sdis i i' b h2 h4
        subst this
        exact h3 (List.mem_of_getElem? h1)
    · refine hr.il.mono (fun _ h => .inl h) (fun _ _ => rfl) ?_
      rintro b (hb | ⟨-, i, -, hb⟩)
      · exact hr.ilt b hb
      · exact (hr.slt i b hb).2.1
  refine (hac w _ _ _ _ hrel).mono ?_
  rintro v w' ⟨rv, obs, v', I', β2, S', hvv, hR, hle, hav, hbl, hob, hsd, hslt, hI', hkeep, hfr⟩
  obtain rfl : v = v' := by injection hvv
  rw [hlen] at hle hkeep
  refine ⟨_, hK rv obs hR, ?_⟩
  let n := st.obs.length
  let βN : List Value := updAt β ids (β2.take ids.length) ++ β2.drop ids.length
  have hβ2t : (β2.take ids.length).length = ids.length := by simp; omega
  have hNold : ∀ (i : Nat), i ∉ ids → i < n → βN[i]? = β[i]? := by
    intro i h1 h2
    rw [List.getElem?_append_left (by rw [updAt_length, hr.bl]; exact h2), updAt_other _ _ _ _ h1]
  have hNin : ∀ (k i : Nat), ids[k]? = some i → βN[i]? = β2[k]? := by
    intro k i h
    have hk := (List.getElem?_eq_some_iff.1 h).1
    have hi := hlt i (List.mem_of_getElem? h)
    rw [List.getElem?_append_left (by rw [updAt_length, hr.bl]; exact hi), updAt_at _ _ _ k i hnd h (by rw [hβ2t]; exact hk) (by rw [hr.bl]; exact hi), List.getElem?_take_of_lt hk]
  have hNnew : ∀ (k : Nat), ids.length ≤ k → βN[n + (k - ids.length)]? = β2[k]? := by
    intro k hk
    rw [List.getElem?_append_right (by rw [updAt_length, hr.bl]; exact Nat.le_add_right _ _), updAt_length, hr.bl, List.getElem?_drop]
    congr 1
    simp only [n]
    omega
  have hσ : ∀ (k : Nat) (b : Value), β2[k]? = some b → βN[sig ids n k]? = some b := by
    intro k b hb
    cases h : ids[k]? with
    | some i => rw [sig_in h, hNin k i h]; exact hb
    | none =>
      have hk : ids.length ≤ k := by simpa using h
      rw [sig_out hk, hNnew k hk]; exact hb
  have hkill : ∀ (i : Nat) (b : Value), badIds ids ks i = false → β[i]? = some b → βN[i]? = some b := by
    intro i b hbad hb
    have hin : i < n := by show i < st.obs.length; rw [← hr.bl]; exact (List.getElem?_eq_some_iff.1 hb).1
    by_cases h : i ∈ ids
    · obtain ⟨k, hk⟩ := List.mem_iff_getElem?.1 h
      have hkl := (List.getElem?_eq_some_iff.1 hk).1
      have hkk : kb ks k = true := by
        cases hkk : kb ks k with
        | true => rfl
        | false =>
          have : badIds ids ks i = true := by
            unfold badIds
            exact List.any_eq_true.2 ⟨k, List.mem_range.2 hkl, by simp [hk, hkk]⟩
          rw [this] at hbad
          cases hbad
      rw [hNin k i hk, hkeep k hkl hkk, hβ' k i hk]
      exact hb
    · rw [hNold i h hin]
      exact hb
  have hIsub : ∀ b, I b → w'.heap[b]? = w.heap[b]? := fun b hb => hfr.block b (hr.ilt b hb) (by rintro ⟨k, i, -, h⟩; exact (hr.slt i b h).2.2 hb)
  have hSsub : ∀ i b, i ∉ ids → S i b → w'.heap[b]? = w.heap[b]? := fun i b hi hb => hfr.block b (hr.slt i b hb).2.1 (by
    rintro ⟨k, i', h1, h2⟩
    have := hr.sdis i i' b hb h2
    subst this
    exact hi (List.mem_of_getElem? h1))
  have hI'S : ∀ i b, I' b → i ∉ ids → S i b → False := by
    intro i b hb hi hS
    rcases (hI' b hb).2 with ⟨h1, h2⟩ | h | ⟨k, i', h3, h4⟩
    · rcases h2 with h2 | ⟨h2, -⟩
      · exact (hr.slt i b hS).2.2 h2
      · rw [hl h2] at h1; cases h1
    · have := (hr.slt i b hS).2.1; omega
    · have := hr.sdis i i' b hS h4
      subst this
      exact hi (List.mem_of_getElem? h3)
  have hI'old : ∀ b, I' b → I b ∨ w.heap.size ≤ b ∨ ∃ i, S i b := by
    intro b hb
    rcases (hI' b hb).2 with ⟨h1, h2⟩ | h | ⟨k, i', h3, h4⟩
    · rcases h2 with h2 | ⟨h2, -⟩
      · exact .inl h2
      · rw [hl h2] at h1; cases h1
    · exact .inr (.inl h)
    · exact .inr (.inr ⟨_, h4⟩)
  let IN : Nat → Prop := fun b => I b ∨ I' b
  let SN : Nat → Nat → Prop := fun i b => (∃ k, sig ids n k = i ∧ k < obs.length ∧ S' k b) ∨ (i ∉ ids ∧ S i b)
  have hsiginj : ∀ (k k' : Nat), k < obs.length → k' < obs.length → sig ids n k = sig ids n k' → k = k' := by
    intro k k' hk hk' h
    cases h1 : ids[k]? with
    | some i =>
      cases h2 : ids[k']? with
      | some i' =>
        rw [sig_in h1, sig_in h2] at h
        subst h
        have e1 := (List.getElem?_eq_some_iff.1 h1).2
        have e2 := (List.getElem?_eq_some_iff.1 h2).2
        exact (List.getElem_inj hnd).1 (e1.trans e2.symm)
      | none =>
        rw [sig_in h1, sig_out (by simpa using h2)] at h
        have := hlt i (List.mem_of_getElem? h1)
        simp only [n] at h
        omega
    | none =>
      cases h2 : ids[k']? with
      | some i' =>
        rw [sig_in h2, sig_out (by simpa using h1)] at h
        have := hlt i' (List.mem_of_getElem? h2)
        simp only [n] at h
        omega
      | none =>
        rw [sig_out (by simpa using h1), sig_out (by simpa using h2)] at h
        have a1 : ids.length ≤ k := by simpa using h1
        have a2 : ids.length ≤ k' := by simpa using h2
        omega
  have hsignot : ∀ (k i : Nat), i ∉ ids → i < n → sig ids n k ≠ i := by
    intro k i hi hlt' h
    cases h1 : ids[k]? with
    | some j => rw [sig_in h1] at h; subst h; exact hi (List.mem_of_getElem? h1)
    | none => rw [sig_out (by simpa using h1)] at h; omega
  have hobsN : (st.after ids ks obs).obs.length = n + (obs.length - ids.length) := by
    simp [St.after, updAt_length, St.kill, n]
  have hsiglt : ∀ (k : Nat), k < obs.length → sig ids n k < n + (obs.length - ids.length) := by
    intro k hk
    cases h1 : ids[k]? with
    | some j => rw [sig_in h1]; have := hlt j (List.mem_of_getElem? h1); simp only [n]; omega
    | none => rw [sig_out (by simpa using h1)]; have a1 : ids.length ≤ k := by simpa using h1
              omega
  have hmI : ∀ b, I b → IN b := fun _ h => .inl h
  refine ⟨IN, βN, SN, RelV.put ?_ dst (AVR.map hσ (hav.mono (fun _ h => .inr h) (fun _ _ => rfl) (fun _ _ h => h))), RelC.put ?_ dst _ _⟩
  · refine ⟨by simpa [St.after, St.kill] using hr.sz, by rw [hobsN]; simp [βN, updAt_length, hr.bl, hbl, n], ?_, ?_, ?_, ?_, ?_⟩
    · intro t v u hv hu
      simp only [St.after, St.kill, Sl.getElem?_map, Option.map_eq_some_iff] at hv
      obtain ⟨v', hv', rfl⟩ := hv
      exact ((hr.slot t v' u hv' hu).mono (β' := β) hmI hIsub (fun _ _ h => h)).kill hkill
    · intro i o b ho hb
      by_cases hi : i ∈ ids
      · obtain ⟨k, hk⟩ := List.mem_iff_getElem?.1 hi
        have hkl := (List.getElem?_eq_some_iff.1 hk).1
        have hin := hlt i hi
        simp only [St.after] at ho
        rw [List.getElem?_append_left (by rw [updAt_length]; simpa [St.kill] using hin), updAt_at _ _ _ k i hnd hk (by simp; omega) (by simpa [St.kill] using hin)] at ho
        simp only [List.getElem?_map, Option.map_eq_some_iff] at ho
        obtain ⟨o', ho', rfl⟩ := ho
        rw [List.getElem?_take_of_lt hkl] at ho'
        rw [hNin k i hk] at hb
        have hkol := (List.getElem?_eq_some_iff.1 ho').1
        exact ObR.map hσ ((hob k o' b ho' hb).mono (fun _ h => .inr h) (fun _ _ => rfl) (fun _ _ h => h) (fun _ _ => rfl) (fun q hq => .inl ⟨k, sig_in hk, hkol, hq⟩))
      · rcases Nat.lt_or_ge i n with hin | hge
        · simp only [St.after] at ho
          rw [List.getElem?_append_left (by rw [updAt_length]; simpa [St.kill] using hin), updAt_other _ _ _ _ hi] at ho
          simp only [St.kill, List.getElem?_map, Option.map_eq_some_iff] at ho
          obtain ⟨o', ho', rfl⟩ := ho
          have hib : i < β.length := by rw [hr.bl]; exact hin
          have hbi : β[i]? = some b := by rw [← hNold i hi hin]; exact hb
          exact ((hr.ob i o' b ho' hbi).mono (β' := β) (S' := SN i) hmI hIsub (fun _ _ h => h) (fun q hq => hSsub i q hi hq) (fun q hq => .inr ⟨hi, hq⟩)).kill hkill
        · simp only [St.after] at ho
          rw [List.getElem?_append_right (by rw [updAt_length]; simpa [St.kill] using hge), updAt_length] at ho
          simp only [St.kill, List.length_map, List.getElem?_map, List.getElem?_drop, Option.map_eq_some_iff] at ho
          obtain ⟨o', ho', rfl⟩ := ho
          have hk : ids.length ≤ ids.length + (i - n) := Nat.le_add_right _ _
          have hi2 : n + (ids.length + (i - n) - ids.length) = i := by omega
          have hnn := hNnew _ hk
          rw [hi2, hb] at hnn
          have hkol := (List.getElem?_eq_some_iff.1 ho').1
          exact ObR.map hσ ((hob _ o' b ho' hnn.symm).mono (fun _ h => .inr h) (fun _ _ => rfl) (fun _ _ h => h) (fun _ _ => rfl) (fun q hq => .inl ⟨_, by rw [sig_out hk]; exact hi2, hkol, hq⟩))
    · rintro i j b (⟨k, h1, hk, h2⟩ | ⟨h1, h2⟩) (⟨k', h3, hk', h4⟩ | ⟨h3, h4⟩)
      · have := hsd k k' b h2 h4
        subst this
        exact h1.symm.trans h3
      · rcases (hslt k b h2).2.2.2 with h | ⟨m, i', h5, h6⟩
        · have := (hr.slt j b h4).2.1; omega
        · have := hr.sdis j i' b h4 h6
          subst this
          exact absurd (List.mem_of_getElem? h5) h3
      · rcases (hslt k' b h4).2.2.2 with h | ⟨m, i', h5, h6⟩
        · have := (hr.slt i b h2).2.1; omega
        · have := hr.sdis i i' b h2 h6
          subst this
          exact absurd (List.mem_of_getElem? h5) h1
      · exact hr.sdis i j b h2 h4
    · rintro i b (⟨k, h1, hk, h2⟩ | ⟨h1, h2⟩)
      · obtain ⟨q1, q2, q3, q4⟩ := hslt k b h2
        refine ⟨by rw [hobsN, ← h1]; exact hsiglt k hk, q2, ?_⟩
        rintro (h | h)
        · rcases q4 with q4 | ⟨m, i', h5, h6⟩
          · have := hr.ilt b h; omega
          · exact (hr.slt i' b h6).2.2 h
        · exact q3 h
      · obtain ⟨q1, q2, q3⟩ := hr.slt i b h2
        refine ⟨by rw [hobsN]; simp only [n]; omega, Nat.lt_of_lt_of_le q2 hfr.size, ?_⟩
        rintro (h | h)
        · exact q3 h
        · exact hI'S i b h h1 h2
    · refine hr.il.mono (fun _ h => .inl h) hIsub ?_
      rintro b (h | h)
      · exact Nat.lt_of_lt_of_le (hr.ilt b h) hfr.size
      · exact (hI' b h).1
  · refine ⟨?_, fun b hb => .inl (hc.isub b hb), ?_, ?_, ?_, hc.defers⟩
    · rintro i b (⟨k, h1, hk, h2⟩ | ⟨h1, h2⟩)
      · rcases (hslt k b h2).2.2.2 with h | ⟨m, i', h5, h6⟩
        · exact .inl (Nat.le_trans hc.frame.size h)
        · exact hc.own i' b h6
      · exact hc.own i b h2
    · rintro b (h | h)
      · exact hc.iinv b h
      · rcases hI'old b h with h | h | ⟨i', h⟩
        · exact hc.iinv b h
        · exact .inr (.inl (Nat.le_trans hc.frame.size h))
        · rcases hc.own i' b h with h | h
          · exact .inr (.inl h)
          · exact .inr (.inr h)
    · refine hc.frame.trans hfr ?_
      rintro x ⟨k, i, -, h⟩
      exact (hc.own i x h).symm
    · intro i hi hk
      have hkst : kb st.ks i = true := hk
      have hbad : badIds ids ks i = false := by
        cases hb : badIds ids ks i with
        | false => rfl
        | true => rw [hks i hb] at hkst; cases hkst
      have hil : i < β.length := hc.klt hi hk
      rw [hkill i _ hbad (List.getElem?_eq_getElem hil), ← List.getElem?_eq_getElem hil]
      exact hc.keep i hi hkst
end
def callS (P : Program) (st : St) (f : AV) (args : List AV) (dst : Option Nat) (K : St → Prop) : Prop :=
  ∀ (c : Cx) (a : Act) (w : World) (I : Nat → Prop) (β : List Value) (S : Nat → Nat → Prop) (fv : Value) (vals : List Value), RelV st a w I β S → RelC c st a w I β S → AVR w I β f fv →
    vals.length = args.length → (∀ (t : Nat) (v : AV) (c : Value), args[t]? = some v → vals[t]? = some c → AVR w I β v c) →
    ∃ g caps, fv = .func (.func g) #[] caps ∧ Goes P g (vals.toArray ++ caps) w (fun v w' => ∃ st', K st' ∧ Rel c st' (a.put dst v) w')
def skipAV : AV := .tup []
def vcOp (P : Program) (o : Oper) (st : St) (K : St → Prop) : Prop :=
  match o.op with
  | .store t a x => storeK P st t (st.ev a) (st.ev x) fun st' => K (st'.put o.dst skipAV)
  | .buildSlice t len parts => buildOwnK P st t len (parts.toList.map fun p => (p.1, st.ev p.2)) o.dst K
  | .call { callee := .builtin .append, args, argTypes } => match args.toList, argTypes.toList with
    | [s, x], [t, t'] => t = t' ∧ appendK P st t (st.ev s) (st.ev x) o.dst K
    | _, _ => False
  | .call { callee := .value f, args, .. } => callS P st (st.ev f) (args.toList.map st.ev) o.dst K
  | _ => vcQ P o st fun av news => K ((st.new news).put o.dst av)
def zY (b : Bool) : AV := .c (.n (.v (.bool b)))
def guard2 (x : AV) (want : Bool) (A B C : Prop) : Prop := match x with
  | .c (.n (.v (.bool b))) => match want with
    | true => bcase b A B
    | false => bcase b B A
  | .tup _ => C
  | _ => False
def guardK (st : St) (ops : Array Oper) (g : Option (Nat × Bool)) (K : Bool → St → Prop) : Prop :=
  match g with
  | Option.none => K true st
  | some (j, want) => match (ops[j]?).bind (·.dst) with
    | some t => guard2 (st.get t) want (K true (st.put (some t) (zY want))) (K false (st.put (some t) (zY !want))) (K false st)
    | Option.none => False
def vcL (P : Program) (ops : Array Oper) : List Oper → St → (St → Prop) → Prop
  | [], st, K => K st
  | o :: rest, st, K => guardK st ops o.guard fun b st => match b with
    | true => vcOp P o st fun st' => vcL P ops rest st' K
    | false => vcL P ops rest (st.put o.dst skipAV) K
section
variable {P : Program} {st : St} {a : Act} {w : World} {c : Cx}
theorem args_sound {I : Nat → Prop} {β : List Value} {S : Nat → Nat → Prop} (hr : RelV st a w I β S) (args : List Operand) :
    ∀ (t : Nat) (v : AV) (c : Value), (args.map st.ev)[t]? = some v → (args.map a.eval)[t]? = some c → AVR w I β v c := by
  intro t v c hv hc
  simp only [List.getElem?_map, Option.map_eq_some_iff] at hv hc
  obtain ⟨x, hx, rfl⟩ := hv
  obtain ⟨y, hy, rfl⟩ := hc
  rw [hx] at hy
  obtain rfl := Option.some.inj hy
  exact zL hr x
theorem put_skip (hrel : Rel c st a w) (dst : Option Nat) : Rel c (st.put dst skipAV) (a.put dst undef) w := by
  obtain ⟨I, β, S, hr, hc⟩ := hrel
  exact ⟨I, β, S, hr.put dst ⟨#[], rfl, rfl, by simp⟩, hc.put dst _ _⟩
theorem vcOp_sound (hrel : Rel c st a w) {o : Oper} {K : St → Prop} (h : vcOp P o st K) {next : Act → World → Prop} {Q : Exit → Act → World → Prop}
    (hn : ∀ st' a' w', K st' → Rel c st' a' w' → next a' w') : o.wp P a w next Q := by
  obtain ⟨I, β, S, hr, hc⟩ := hrel
  obtain ⟨dst, op, ty, pos, after, guard⟩ := o
  unfold Oper.wp
  unfold vcOp at h
  split at h
  · -- store
    rename_i t x y hop
    simp only at hop
    subst hop
    obtain ⟨hok, h⟩ := h
    obtain ⟨new, hnew, hs, h⟩ := is_iff h
    have key : ∃ w' st', (Instr.storeAt t (a.eval x) (a.eval y)).run P w = .ok () w' ∧ K (st'.put dst skipAV) ∧ Rel c st' a w' := by
      have hx := zL hr x
      have hy := zL hr y
      split at h
      · rename_i i off hax
        rw [hax] at hx
        split at h
        · rename_i cs hobj
          obtain ⟨hle, hK⟩ := h
          obtain ⟨w', hrun, hrel⟩ := store_box hr hc hok hx hy hnew hs hobj hle
          exact ⟨w', _, hrun, hK, hrel⟩
        · exact h.elim
      · rename_i i sz idx f hax
        rw [hax] at hx
        split at h
        · rename_i sz' xs hobj
          obtain ⟨rfl, hidx, hle, h⟩ := h
          obtain ⟨p, hp, hK⟩ := is_iff h
          obtain ⟨w', hrun, hrel⟩ := store_row hr hc hok hx hy hnew hs hobj hidx rfl hle hp
          exact ⟨w', _, hrun, hK, hrel⟩
        · exact h.elim
      · exact h.elim
    obtain ⟨w', st', hrun, hK, hrel⟩ := key
    simp only [execOp, Sem.run_bind, hrun, Result.andThen_ok, Sem.run_pure]
    exact hn _ _ _ hK (put_skip hrel dst)
  · -- buildSlice
    rename_i t len parts hop
    simp only at hop
    subst hop
    obtain ⟨v, w', st', hrun, hK, hrel⟩ := buildOwn_sound hr hc h
    simp only [execOp, Sem.run_bind]
    rw [hrun]
    simp only [Result.andThen_ok, Sem.run_pure]
    exact hn _ _ _ hK hrel
  · -- append
    rename_i args ts hop
    simp only at hop
    subst hop
    split at h
    · rename_i s x t t' hs ht
      obtain ⟨rfl, h⟩ := h
      have e1 : args = #[s, x] := by rw [← Array.toArray_toList (xs := args), hs]
      have e2 : ts = #[t, t] := by rw [← Array.toArray_toList (xs := ts), ht]
      subst e1; subst e2
      obtain ⟨v, w', st', hrun, hK, hrel⟩ := append_sound (ty := ty) hr hc (zL hr s) (zL hr x) h
      simp only [execOp, resolve, invoke, builtin, Sem.run_bind, Sem.run_pure, Result.andThen_ok, List.map_toArray, List.map_cons, List.map_nil]
      rw [hrun]
      exact hn _ _ _ hK hrel
    · exact h.elim
  · -- a call
    rename_i f args ts hop
    simp only at hop
    subst hop
    obtain ⟨g, caps, hfv, hg⟩ := h c a w I β S (a.eval f) (args.toList.map a.eval) hr hc (zL hr f) (by simp) (args_sound hr _)
    have e : (args.toList.map a.eval).toArray = args.map a.eval := by apply Array.ext'; simp only [Array.toList_map]
    rw [e] at hg
    simp only [execOp, resolve, hfv, Deferred.ofValue, invoke, Sem.run_bind, Sem.run_pure, Result.andThen_ok, Array.empty_append]
    rcases hg with ⟨w1, h1, h2⟩ | ⟨v, w', h1, st', h2, h3⟩
    · rw [h1]
      refine h2.mono ?_
      rintro e w' ⟨v, rfl, st', h3, h4⟩
      exact hn _ _ _ h3 h4
    · rw [h1]
      exact hn _ _ _ h2 h3
  · -- effect-free
    obtain ⟨v, w', av, news, hrun, hK, hq⟩ := vcQ_sound hr h
    rw [hrun]
    exact hn _ _ _ hK (step_quiet hr hc hq dst)
theorem guard_sound (hrel : Rel c st a w) {ops : Array Oper} {o : Oper} {K : Bool → St → Prop} (h : guardK st ops o.guard K) :
    ∃ b st', Region.wanted o (yielded ops a.tmps) = b ∧ K b st' ∧ Rel c st' a w := by
  unfold guardK at h
  unfold Region.wanted
  split at h
  · rename_i hg
    exact ⟨true, st, by simp [hg], h, hrel⟩
  · rename_i j want hg
    simp only [hg]
    split at h
    · rename_i t ht
      obtain ⟨I, β, S, hr, hc⟩ := hrel
      have key : ∀ av, st.get t = av → av ≠ .dead → ∃ v, a.tmps[t]? = some v ∧ AVR w I β av v ∧ st.slots[t]? = some av := by
        intro av he hne
        rw [St.get_eq] at he
        cases hs : st.slots[t]? with
        | none => simp [hs] at he; exact absurd he.symm hne
        | some x =>
          simp [hs] at he
          subst he
          have hlt : t < a.tmps.size := by rw [hr.sz]; exact (Sl.some_iff.1 hs).1
          exact ⟨a.tmps[t], by simp [hlt], hr.slot t x _ hs (by simp [hlt]), rfl⟩
      unfold guard2 at h
      split at h
      · rename_i b hb
        obtain ⟨v, hv, hav, hst⟩ := key _ hb (by simp)
        obtain ⟨rfl, -⟩ := hav.val
        have hy : yielded ops a.tmps j = some b := by simp [yielded, ht, hv]
        have same : ∀ b', b = b' → Rel c (st.put (some t) (zY b')) a w := by
          rintro b' rfl
          have : st.put (some t) (zY b) = st := by
            obtain ⟨hlt, he⟩ := Sl.some_iff.1 hst
            show ({ st with slots := st.slots.set t (zY b) } : St) = st
            unfold zY
            rw [← he, Sl.set_self]
          rw [this]
          exact ⟨I, β, S, hr, hc⟩
        by_cases hw : b = want
        · exact ⟨true, _, by simp [hy, hw], by subst hw; cases b <;> exact h, same _ hw⟩
        · have hw' : b = !want := by cases b <;> cases want <;> simp_all
          exact ⟨false, _, by simp [hy, hw], by subst hw'; cases want <;> exact h, same _ hw'⟩
      · rename_i vs hb
        obtain ⟨v, hv, hav, -⟩ := key _ hb (by simp)
        obtain ⟨arr, rfl, -⟩ := hav
        exact ⟨false, st, by simp [yielded, ht, hv], h, ⟨I, β, S, hr, hc⟩⟩
      · exact h.elim
    · exact h.elim
theorem vcL_sound {ops : Array Oper} {Q : Exit → Act → World → Prop} {K : St → Prop} (hK : ∀ st' a' w', K st' → Rel c st' a' w' → Q .normal a' w') :
    ∀ (l : List Oper) (st : St) (a : Act) (w : World), Rel c st a w → vcL P ops l st K → wpList P ops Q l a w
  | [], st, a, w, hrel, h => hK _ _ _ h hrel
  | o :: rest, st, a, w, hrel, h => by
    obtain ⟨b, st', hb, h, hrel'⟩ := guard_sound hrel h
    unfold wpList
    cases b with
    | true =>
      rw [if_pos hb]
      exact .inl (vcOp_sound hrel' h fun st2 a2 w2 h2 hr2 => vcL_sound hK rest st2 a2 w2 hr2 h2)
    | false =>
      rw [if_neg (by simp [hb])]
      exact vcL_sound hK rest _ _ _ (put_skip hrel' o.dst) h
end
def AW (P : Program) (c : Code) (st : St) (Φ : Exit → St → Prop) : Prop :=
  ∀ (cx : Cx) (a : Act) (w : World), Rel cx st a w → c.wp P (fun e a' w' => ∃ st', Φ e st' ∧ Rel cx st' a' w') a w
def thenK (K : St → Prop) (Φ : Exit → St → Prop) : Exit → St → Prop
  | .normal, st => K st
  | e, st => Φ e st
def blockK (id : Nat) (Φ : Exit → St → Prop) : Exit → St → Prop
  | .exit i, st => if i = id then Φ .normal st else Φ (.exit i) st
  | e, st => Φ e st
def condK (st : St) (x : Operand) (K : Bool → St → Prop) : Prop :=
  match x with
  | .tmp t => pickK (st.get t) (K true (st.put (some t) (zY true))) (K false (st.put (some t) (zY false)))
  | .const (.bool b) => K b st
  | _ => False
def vcC (P : Program) : Code → St → (Exit → St → Prop) → Prop
  | .skip, st, Φ => Φ .normal st
  | .seq x y, st, Φ => vcC P x st (thenK (fun st' => vcC P y st' Φ) Φ)
  | .cond x t f, st, Φ => condK st x fun b st' => match b with
    | true => vcC P t st' Φ
    | false => vcC P f st' Φ
  | .block id c, st, Φ => vcC P c st (blockK id Φ)
  | .exit id, st, Φ => Φ (.exit id) st
  | .ret, st, Φ => Φ .ret st
  | .region _ ops false, st, Φ => vcL P ops ops.toList st (Φ .normal)
  | c, st, Φ => AW P c st Φ
theorem AW.mono {P : Program} {c : Code} {st : St} {Φ Ψ : Exit → St → Prop} (h : AW P c st Φ) (hk : ∀ e st', Φ e st' → Ψ e st') : AW P c st Ψ :=
  fun cx a w hr => wp_mono (h cx a w hr) fun e a' w' ⟨st', h1, h2⟩ => ⟨st', hk _ _ h1, h2⟩
theorem put_same {st : St} {t : Nat} {av : AV} (h : st.get t = av) (hne : av ≠ .dead) : st.put (some t) av = st := by
  rw [St.get_eq] at h
  cases hs : st.slots[t]? with
  | none => simp [hs] at h; exact absurd h.symm hne
  | some x =>
    simp [hs] at h
    subst h
    obtain ⟨hlt, he⟩ := Sl.some_iff.1 hs
    show ({ st with slots := st.slots.set t x } : St) = st
    rw [← he, Sl.set_self]
theorem vcC_sound {P : Program} : ∀ (c : Code) (st : St) (Φ : Exit → St → Prop), vcC P c st Φ → AW P c st Φ := by
  intro c
  induction c with
  | skip => exact fun st Φ h cx a w hr => wp_skip ⟨st, h, hr⟩
  | seq x y ihx ihy =>
    intro st Φ h cx a w hr
    refine wp_seq (wp_mono (ihx st _ h cx a w hr) ?_)
    rintro e a' w' ⟨st', h1, h2⟩
    cases e with
    | normal => exact ihy st' Φ h1 cx a' w' h2
    | _ => exact ⟨st', h1, h2⟩
  | cond x t f iht ihf =>
    intro st Φ h cx a w hr
    simp only [vcC, condK] at h
    split at h
    · rename_i t'
      unfold pickK at h
      split at h
      · rename_i b hb
        have hput : ∀ b', b = b' → st.put (some t') (zY b') = st := by
          rintro b' rfl
          exact put_same hb (by simp [zY])
        have hv : a.eval (.tmp t') = .bool b := by
          obtain ⟨I, β, S, hrv, -⟩ := hr
          have := zL hrv (.tmp t')
          simp only [St.ev, hb] at this
          exact this.val.1
        cases b with
        | true =>
          have h1 : vcC P t (st.put (some t') (zY true)) Φ := h
          rw [hput true rfl] at h1
          exact wp_cond_true hv (iht st Φ h1 cx a w hr)
        | false =>
          have h1 : vcC P f (st.put (some t') (zY false)) Φ := h
          rw [hput false rfl] at h1
          exact wp_cond_false hv (ihf st Φ h1 cx a w hr)
      · exact h.elim
    · rename_i b
      cases b with
      | true => exact wp_cond_true rfl (iht st Φ h cx a w hr)
      | false => exact wp_cond_false rfl (ihf st Φ h cx a w hr)
    · exact h.elim
  | block id c ih =>
    intro st Φ h cx a w hr
    refine wp_block (wp_mono (ih st _ h cx a w hr) ?_)
    rintro e a' w' ⟨st', h1, h2⟩
    cases e with
    | exit i =>
      simp only [blockK] at h1
      simp only [Exit.inBlock]
      split at h1
      · rename_i he; rw [if_pos he]; exact ⟨st', h1, h2⟩
      · rename_i he; rw [if_neg he]; exact ⟨st', h1, h2⟩
    | _ => exact ⟨st', h1, h2⟩
  | exit id => exact fun st Φ h cx a w hr => wp_exit ⟨st, h, hr⟩
  | ret => exact fun st Φ h cx a w hr => wp_ret ⟨st, h, hr⟩
  | region id ops d =>
    intro st Φ h
    cases d with
    | false =>
      intro cx a w hr
      exact wp_region_list (vcL_sound (fun st' a' w' h1 h2 => ⟨st', h1, h2⟩) _ _ _ _ hr h)
    | true => exact h
  | _ => exact fun st Φ h => h
def StLe (st st' : St) : Prop := ∀ (cx : Cx) (a : Act) (w : World), Rel cx st a w → Rel cx st' a w
theorem StLe.refl (st : St) : StLe st st := fun _ _ _ h => h
theorem StLe.trans {a b c : St} (h : StLe a b) (k : StLe b c) : StLe a c := fun cx x w hr => k cx x w (h cx x w hr)
theorem AW.le {P : Program} {c : Code} {st st' : St} {Φ : Exit → St → Prop} (h : StLe st st') (k : AW P c st' Φ) : AW P c st Φ := fun cx a w hr => k cx a w (h cx a w hr)
theorem least (p : Nat → Prop) (h : ∃ n, p n) : ∃ n, p n ∧ ∀ m, p m → n ≤ m := by
  obtain ⟨n, hn⟩ := h
  induction n using Nat.strongRecOn with
  | _ n ih =>
    by_cases h : ∃ m, m < n ∧ p m
    · obtain ⟨m, hm, hp⟩ := h
      exact ih m hm hp
    · exact ⟨n, hn, fun m hm => Nat.le_of_not_lt fun hlt => h ⟨m, hlt, hm⟩⟩
theorem AW_loop {P : Program} {c : Code} {st : St} {Φ : Exit → St → Prop} {ι : Type} (Inv : ι → St) (μ : ι → Nat) (i0 : ι) (h0 : StLe st (Inv i0))
    (hround : ∀ i, AW P c (Inv i) (thenK (fun st' => ∃ i', μ i' < μ i ∧ StLe st' (Inv i')) Φ)) : AW P (.loop c) st Φ := by
  intro cx a w hr
  classical
  let μ' : Act → World → Nat := fun a w => if h : ∃ n, ∃ i, μ i = n ∧ Rel cx (Inv i) a w then Classical.choose (least _ h) else 0
  have hμ : ∀ a w i, Rel cx (Inv i) a w → μ' a w ≤ μ i := by
    intro a w i hi
    have h : ∃ n, ∃ i, μ i = n ∧ Rel cx (Inv i) a w := ⟨_, i, rfl, hi⟩
    simp only [μ', dif_pos h]
    exact (Classical.choose_spec (least _ h)).2 _ ⟨i, rfl, hi⟩
  have hμ2 : ∀ a w, (∃ i, Rel cx (Inv i) a w) → ∃ i, μ i = μ' a w ∧ Rel cx (Inv i) a w := by
    rintro a w ⟨i, hi⟩
    have h : ∃ n, ∃ i, μ i = n ∧ Rel cx (Inv i) a w := ⟨_, i, rfl, hi⟩
    simp only [μ', dif_pos h]
    exact (Classical.choose_spec (least _ h)).1
  refine wp_loop (fun a w => ∃ i, Rel cx (Inv i) a w) μ' ⟨i0, h0 cx a w hr⟩ fun a w hI => ?_
  obtain ⟨i, hi, hrel⟩ := hμ2 a w hI
  refine wp_mono (hround i cx a w hrel) ?_
  rintro e a' w' ⟨st', h1, h2⟩
  cases e with
  | normal =>
    obtain ⟨i', hlt, hle⟩ := h1
    have hrel' := hle cx a' w' h2
    refine ⟨⟨i', hrel'⟩, ?_⟩
    have := hμ a' w' i' hrel'
    omega
  | _ => exact ⟨st', h1, h2⟩
def maskO : List Ob → List Ob → Prop
  | [], [] => True
  | x :: xs, y :: ys => (y = .none ∨ x = y) ∧ maskO xs ys
  | _, _ => False
theorem maskO_get : ∀ {xs ys : List Ob}, maskO xs ys → xs.length = ys.length ∧ ∀ (t : Nat) (y : Ob), ys[t]? = some y → y = .none ∨ xs[t]? = some y
  | [], [], _ => ⟨rfl, by simp⟩
  | x :: xs, y :: ys, h => by
    obtain ⟨h1, h2⟩ := h
    obtain ⟨e, ih⟩ := maskO_get h2
    refine ⟨by simp [e], fun t z hz => ?_⟩
    cases t with
    | zero =>
      simp at hz
      subst hz
      rcases h1 with h1 | h1
      · exact .inl h1
      · exact .inr (by simp [h1])
    | succ t => simpa using ih t z (by simpa using hz)
  | [], _ :: _, h => h.elim
  | _ :: _, [], h => h.elim
theorem StLe.mask {st st' : St} (e1 : st.slots.length = st'.slots.length) (g1 : ∀ (t : Nat) (y : AV), st'.slots[t]? = some y → y = .dead ∨ st.slots[t]? = some y) (h2 : maskO st.obs st'.obs) (h3 : ∀ i, kb st'.ks i = true → kb st.ks i = true) : StLe st st' := by
  rintro cx a w ⟨I, β, S, hr, hc⟩
  obtain ⟨e2, g2⟩ := maskO_get h2
  refine ⟨I, β, S, ⟨by rw [← e1]; exact hr.sz, by rw [← e2]; exact hr.bl, fun t v u hv hu => ?_, fun i o b ho hb => ?_, hr.sdis, fun i b hb => by rw [← e2]; exact hr.slt i b hb, hr.il⟩,
    ⟨hc.own, hc.isub, hc.iinv, hc.frame, fun i hi hk => hc.keep i hi (h3 i hk), hc.defers⟩⟩
  · rcases g1 t v hv with rfl | h
    · trivial
    · exact hr.slot t v u h hu
  · rcases g2 i o ho with rfl | h
    · trivial
    · exact hr.ob i o b h hb
def St.freeze (st : St) (i : Nat) : St := match st.obj i with
  | .row sz xs [] => { st with obs := st.obs.set i (.fro sz xs) }
  | _ => st
theorem StLe.freeze (st : St) (i : Nat) : StLe st (st.freeze i) := by
  unfold St.freeze
  split
  · rename_i sz xs hobj
    rintro cx a w ⟨I, β, S, hr, hc⟩
    have hio := obj_some hobj (by simp)
    have hi : i < st.obs.length := (List.getElem?_eq_some_iff.1 hio).1
    refine ⟨fun b => I b ∨ S i b, β, fun k b => k ≠ i ∧ S k b, ⟨hr.sz, by simpa using hr.bl, fun t v u hv hu => (hr.slot t v u hv hu).mono (fun _ h => .inl h) (fun _ _ => rfl) (fun _ _ h => h), fun k o b ho hb => ?_,
      fun k j b hk hj => hr.sdis k j b hk.2 hj.2, fun k b hb => ?_, hr.il.mono (fun _ h => .inl h) (fun _ _ => rfl) fun b hb => ?_⟩, ⟨fun k b hb => hc.own k b hb.2, fun b hb => .inl (hc.isub b hb), fun b hb => ?_, hc.frame, hc.keep, hc.defers⟩⟩
    · rw [List.getElem?_set] at ho
      split at ho
      · rename_i he
        subst he
        simp only [Option.some.injEq] at ho
        subst ho
        exact (RowR.own (hr.ob i _ b hio hb)).lend (fun _ h => .inl h) (fun _ h => .inr h)
      · rename_i hne
        exact (hr.ob k o b ho hb).mono (fun _ h => .inl h) (fun _ _ => rfl) (fun _ _ h => h) (fun _ _ => rfl) (fun q hq => ⟨fun h => hne h.symm, hq⟩)
    · obtain ⟨h1, h2, h3⟩ := hr.slt k b hb.2
      refine ⟨by simpa using h1, h2, ?_⟩
      rintro (h | h)
      · exact h3 h
      · exact hb.1 (hr.sdis k i b hb.2 h)
    · rcases hb with hb | hb
      · exact hr.ilt b hb
      · exact (hr.slt i b hb).2.1
    · rcases hb with hb | hb
      · exact hc.iinv b hb
      · exact .inr (hc.own i b hb)
  · exact StLe.refl st
inductive N.Flat : N → Prop
  | v (x : Value) : N.Flat (.v x)
  | sl {sz : Nat} {xs : Rw N} (h : ∀ i, i < xs.n → ∀ x ∈ xs.g i, N.Flat x) : N.Flat (.sl sz xs)
def C.Flat : C → Prop
  | .n (.v _) => True
  | .n _ => False
  | _ => True
def K.Flat : K → Prop
  | .c x => x.Flat
  | .a cs => ∀ x ∈ cs, x.Flat
def AV.Flat : AV → Prop
  | .c x => x.Flat
  | .a cs => ∀ x ∈ cs, x.Flat
  | .tup vs => ∀ x ∈ vs, x.Flat
  | .fn _ cs => ∀ x ∈ cs, x.Flat
  | .ra _ => False
  | _ => True
def Ob.Flat : Ob → Prop
  | .row _ xs _ => ∀ i, i < xs.n → ∀ x ∈ xs.g i, N.Flat x
  | .box cs => ∀ x ∈ cs, x.Flat
  | .fro _ _ => False
  | .none => True
section
variable {w : World} {I I' : Nat → Prop} {β : List Value}
theorem at2_mem {α : Type} {xs : Rw α} {i j : Nat} {x : α} (h : at2 xs i j = some x) : i < xs.n ∧ x ∈ xs.g i :=
  ⟨(at2_pos h).1, List.mem_of_getElem? (at2_pos h).2⟩
theorem Own.flat {x : N} {c : Value} {S : Nat → Prop} (h : Own w I x c S) : N.Flat x → Own w I' x c S := by
  induction h with
  | v h => exact fun _ => .v h
  | im h => exact fun hf => nomatch hf
  | nil A h0 => exact fun _ => .nil A h0
  | sl g cap e cur fr c F hu hn hcap hm hg hb hfr hs hc H hF hD ih =>
    intro hf
    cases hf with
    | sl hf =>
      exact .sl g cap e cur fr c F hu hn hcap hm hg hb hfr hs hc (fun i j x hx => ih i j x hx (by obtain ⟨h1, h2⟩ := at2_mem hx; exact hf i h1 x h2)) hF hD
theorem CR.flat {x : C} {v : Value} (h : CR w I β x v) (hf : x.Flat) : CR w I' β x v := by
  cases x with
  | n x =>
    cases x with
    | v x => cases h with | v h => exact Im.v h
    | _ => exact hf.elim
  | _ => exact h
theorem CsR.flat {cs : List C} {a : Array Value} (h : CsR w I β cs a) (hf : ∀ x ∈ cs, x.Flat) : CsR w I' β cs a :=
  ⟨h.1, fun j x v hx hv => (h.2 j x v hx hv).flat (hf x (List.mem_of_getElem? hx))⟩
theorem KR.flat {x : K} {v : Value} (h : KR w I β x v) (hf : x.Flat) : KR w I' β x v := by
  cases x with
  | c x => exact CR.flat h hf
  | a cs => obtain ⟨a, rfl, h⟩ := h; exact ⟨a, rfl, h.flat hf⟩
theorem AVR.flat {x : AV} {v : Value} (h : AVR w I β x v) (hf : x.Flat) : AVR w I' β x v := by
  cases x with
  | c x => exact CR.flat h hf
  | a cs => obtain ⟨a, rfl, h⟩ := h; exact ⟨a, rfl, h.flat hf⟩
  | tup vs => obtain ⟨a, rfl, hl, h⟩ := h; exact ⟨a, rfl, hl, fun j x v hx hv => (h j x v hx hv).flat (hf x (List.mem_of_getElem? hx))⟩
  | fn f cs => obtain ⟨a, rfl, h⟩ := h; exact ⟨a, rfl, h.flat hf⟩
  | ea i sz idx f => exact h
  | ra cs => exact hf.elim
  | rb cs loc => trivial
  | dead => trivial
theorem ObR.flat {b : Value} {S : Nat → Prop} {o : Ob} (h : ObR w I β b S o) (hf : o.Flat) : ObR w I' β b S o := by
  cases o with
  | row sz xs hole =>
    rcases h with h | ⟨g, cap, e, cur, fr, c, F, h1, h2, h3, h4, h5, h6, h7, h8, h9, h10, H, hk, hF, hD⟩
    · exact .inl h
    · exact .inr ⟨g, cap, e, cur, fr, c, F, h1, h2, h3, h4, h5, h6, h7, h8, h9, h10, fun i j x hx hh => (H i j x hx hh).flat (by obtain ⟨h1, h2⟩ := at2_mem hx; exact hf i h1 x h2), hk, hF, hD⟩
  | box cs => obtain ⟨g, cur, e, rfl, hg, hb, H⟩ := h; exact ⟨g, cur, e, rfl, hg, hb, H.flat hf⟩
  | fro sz xs => exact hf.elim
  | none => trivial
end
def toK : AV → Option K
  | .c x => some (.c x)
  | .a cs => some (.a cs)
  | _ => Option.none
def resK (P : Program) (st : St) : ResultVar → Option K
  | .tmp t => toK (st.get t)
  | .cell a t => match st.get a with
    | .c (.p i off) => match st.obj i with
      | .box cs => (loadC (tyOf P t) (cs.drop off)).bind toK
      | _ => Option.none
    | _ => Option.none
def unK : List K → AV
  | [x] => K2AV x
  | l => .tup l
def resAV (P : Program) (st : St) (l : List ResultVar) : Option AV := (zS (l.map (resK P st))).map unK
def retK (P : Program) (rs : List ResultVar) (m : Nat) (sh : Bool) (ks : List Bool) (R : AV → List Ob → Prop) (st : St) : Prop :=
  (∀ i, kb ks i = true → kb st.ks i = true) ∧ is (resAV P st rs) fun rv0 => ∃ (ids : List Nat) (rv : AV) (obs : List Ob), ids.Nodup ∧ (∀ i ∈ ids, i < st.obs.length) ∧ ids.take m = List.range m ∧
    obs.map (Ob.map (sig ids st.obs.length)) = ids.map st.obj ∧ rv.map (sig ids st.obs.length) = rv0 ∧ (sh = true ∨ (rv.Flat ∧ ∀ o ∈ obs, o.Flat)) ∧ R rv obs
def finK (P : Program) (rs : List ResultVar) (m : Nat) (sh : Bool) (ks : List Bool) (R : AV → List Ob → Prop) : Exit → St → Prop
  | .normal, st => retK P rs m sh ks R st
  | .ret, st => retK P rs m sh ks R st
  | _, _ => False
def entry (n : Nat) (args : List AV) (hin : List Ob) (ks : List Bool) : St := ⟨⟨args.length + (n - args.length), Sl.ofF args⟩, hin, ks⟩
section
variable {P : Program} {st : St} {a : Act} {w : World} {I : Nat → Prop} {β : List Value} {S : Nat → Nat → Prop} {c : Cx}
theorem toK_sound {x : AV} {k : K} {v : Value} (h : toK x = some k) (hv : AVR w I β x v) : KR w I β k v := by
  unfold toK at h
  split at h
  · simp only [Option.some.injEq] at h; subst h; exact hv
  · simp only [Option.some.injEq] at h; subst h; exact hv
  · cases h
def rdR (tmps : Array Value) : ResultVar → Sem Value
  | .tmp t => pure (tmps.getD t undef)
  | .cell p t => do loadVar t (← asAddr (tmps.getD p undef))
theorem resK_sound (hr : RelV st a w I β S) {x : ResultVar} {k : K} (h : resK P st x = some k) :
    ∃ v, (rdR a.tmps x).run P w = .ok v w ∧ KR w I β k v := by
  have hg : ∀ t, AVR w I β (st.get t) (a.tmps.getD t undef) := fun t => zL hr (.tmp t)
  cases x with
  | tmp t => exact ⟨_, rfl, toK_sound h (hg t)⟩
  | cell p t =>
    simp only [resK] at h
    split at h
    · rename_i i off hp
      split at h
      · rename_i cs hobj
        cases hl : loadC (tyOf P t) (cs.drop off) with
        | none => simp [hl] at h
        | some av =>
          simp only [hl, Option.bind_some] at h
          have h1 := hg p
          rw [hp] at h1
          obtain ⟨v, av', hrun, hK, hav⟩ := load_sound (P := P) (t := t) hr (av := .c (.p i off)) h1 (K := fun x _ => x = av) (by
            simp only [loadK, hobj, hl, is_some])
          subst hK
          obtain ⟨g, hg1, hg2⟩ := h1
          refine ⟨v, ?_, toK_sound h hav⟩
          simp only [rdR]
          rw [hg2] at hrun ⊢
          simpa [Instr.loadAt, Instr.sureAddr, asAddr] using hrun
      · cases h
    · cases h
theorem resL_sound (hr : RelV st a w I β S) : ∀ {l : List ResultVar} {ks : List K}, zS (l.map (resK P st)) = some ks →
    ∃ vs : List Value, (l.mapM (rdR a.tmps)).run P w = .ok vs w ∧
      vs.length = ks.length ∧ ∀ (j : Nat) (k : K) (v : Value), ks[j]? = some k → vs[j]? = some v → KR w I β k v
  | [], ks, h => by
    simp only [List.map_nil, zS, Option.some.injEq] at h
    subst h
    exact ⟨[], rfl, rfl, by simp⟩
  | x :: l, ks, h => by
    simp only [List.map_cons] at h
    cases hx : resK P st x with
    | none => rw [hx] at h; cases h
    | some k =>
      rw [hx] at h
      simp only [zS, Option.map_eq_some_iff] at h
      obtain ⟨ks', h', rfl⟩ := h
      obtain ⟨v, hv, hk⟩ := resK_sound (P := P) hr hx
      obtain ⟨vs, hvs, hl, hks⟩ := resL_sound hr h'
      refine ⟨v :: vs, ?_, by simp [hl], fun j k' v' hk' hv' => ?_⟩
      · rw [List.mapM_cons, Sem.run_bind, hv]
        simp only [Result.andThen_ok, Sem.run_bind, hvs, Sem.run_pure]
      · cases j with
        | zero => simp at hk' hv'; subst hk'; subst hv'; exact hk
        | succ j => exact hks j k' v' (by simpa using hk') (by simpa using hv')
theorem KR.av {k : K} {v : Value} (h : KR w I β k v) : AVR w I β (K2AV k) v := by
  cases k with
  | c x => exact h
  | a cs => exact h
theorem res_sound (hr : RelV st a w I β S) {fn : Func} {rv : AV} (h : resAV P st fn.results.toList = some rv) :
    ∃ v, (results fn a.tmps).run P w = .ok v w ∧ AVR w I β rv v := by
  simp only [resAV, Option.map_eq_some_iff] at h
  obtain ⟨ks, hks, rfl⟩ := h
  obtain ⟨vs, hrun, hlen, hk⟩ := resL_sound hr hks
  have harr : fn.results = fn.results.toList.toArray := by simp
  have hm : (fn.results.mapM (rdR a.tmps)).run P w = .ok vs.toArray w := by
    rw [harr, List.mapM_toArray]
    have e : (List.toArray <$> List.mapM (rdR a.tmps) fn.results.toList : Sem (Array Value)) = (List.mapM (rdR a.tmps) fn.results.toList >>= fun l => pure l.toArray) := rfl
    rw [e, Sem.run_bind, hrun]
    rfl
  refine ⟨if h : vs.toArray.size = 1 then vs.toArray[0] else .tuple vs.toArray, ?_, ?_⟩
  · have e : results fn a.tmps = (do let vs ← fn.results.mapM (rdR a.tmps); pure (if h : vs.size = 1 then vs[0] else .tuple vs)) := rfl
    rw [e, Sem.run_bind, hm]
    simp only [Result.andThen_ok, Sem.run_pure]
  · match ks, vs, hlen, hk with
    | [], [], _, _ => exact ⟨#[], rfl, rfl, by simp⟩
    | [k], [v], _, hk => exact (hk 0 k v rfl rfl).av
    | k :: k2 :: ks, v :: v2 :: vs, hl, hk =>
      have hne : ¬ ((v :: v2 :: vs).toArray.size = 1) := by simp
      rw [dif_neg hne]
      exact ⟨_, rfl, by simpa using hl, fun j x u hx hu => hk j x u hx (by simpa using hu)⟩
theorem ret_sound {args : List AV} {hin : List Ob} {sh : Bool} {ks : List Bool} {R : AV → List Ob → Prop} {fn : Func} {w0 : World} {I0 : Nat → Prop} {β0 : List Value} {S0 : Nat → Nat → Prop} (hb0 : β0.length = hin.length)
    (hrel : Rel ⟨w0, I0, fun b => ∃ j, S0 j b, β0⟩ st a w) (h : retK P fn.results.toList hin.length sh ks R st) :
    ∃ v, (results fn a.tmps).run P w = .ok v w ∧ CPost hin sh ks R w0 I0 β0 S0 (.returned v) w := by
  obtain ⟨I, β, S, hr, hc⟩ := hrel
  obtain ⟨hks, h⟩ := h
  obtain ⟨rv0, hrv0, ids, rv, obs, hnd, hlt, htk, hobs, hrv, hfl, hR⟩ := is_iff h
  obtain ⟨v, hrun, hav⟩ := res_sound (P := P) hr hrv0
  refine ⟨v, hrun, ?_⟩
  have hlen : obs.length = ids.length := by simpa using congrArg List.length hobs
  have hm : hin.length ≤ ids.length := by
    have := congrArg List.length htk
    simp at this
    omega
  have hid : ∀ i, i < hin.length → ids[i]? = some i := by
    intro i hi
    have := congrArg (·[i]?) htk
    simp only [List.getElem?_take_of_lt hi] at this
    rw [this]
    simp [hi]
  let β' : List Value := ids.map fun i => (β[i]?).getD undef
  have hβ'len : β'.length = ids.length := by simp [β']
  have hβ' : ∀ (k i : Nat), ids[k]? = some i → β'[k]? = β[i]? := by
    intro k i h
    have hi : i < β.length := by rw [hr.bl]; exact hlt i (List.mem_of_getElem? h)
    simp [β', h, List.getElem?_eq_getElem hi]
  have hσin : ∀ (i : Nat) (b : Value), β[sig ids st.obs.length i]? = some b → β'[i]? = some b := by
    intro i b hb
    cases h : ids[i]? with
    | some j => rw [sig_in h] at hb; rw [hβ' i j h]; exact hb
    | none =>
      rw [sig_out (by simpa using h)] at hb
      rw [List.getElem?_eq_none (by rw [hr.bl]; omega)] at hb
      cases hb
  have hav1 : AVR w I β' rv v := by
    rw [← hrv] at hav
    exact AVR.unmap hσin hav
  have hob1 : ∀ (k : Nat) (o : Ob) (b : Value), obs[k]? = some o → β'[k]? = some b → ObR w I β' b (fun b => ∃ i, ids[k]? = some i ∧ S i b) o := by
    intro k o b ho hb
    have hk : k < ids.length := by rw [← hlen]; exact (List.getElem?_eq_some_iff.1 ho).1
    have hi := List.getElem?_eq_getElem hk
    have hoi : o.map (sig ids st.obs.length) = st.obj ids[k] := by
      have := congrArg (·[k]?) hobs
      simpa [ho, hi] using this
    have hil := hlt _ (List.getElem_mem hk)
    have hob : st.obs[ids[k]]? = some (o.map (sig ids st.obs.length)) := by
      rw [hoi, St.obj, List.getElem?_eq_getElem hil]; rfl
    have hbi : β[ids[k]]? = some b := by rw [← hβ' k _ hi]; exact hb
    exact ObR.unmap hσin ((hr.ob _ _ _ hob hbi).mono (fun _ h => h) (fun _ _ => rfl) (fun _ _ h => h) (fun _ _ => rfl) (fun q hq => ⟨_, hi, hq⟩))
  refine ⟨rv, obs, v, fun b => sh = true ∧ I b, β', fun k b => ∃ i, ids[k]? = some i ∧ S i b, rfl, hR, by omega, ?_, by rw [hβ'len, hlen], ?_, ?_, ?_, ?_, ?_, hc.frame⟩
  · rcases hfl with rfl | hfl
    · exact hav1.mono (fun _ h => ⟨rfl, h⟩) (fun _ _ => rfl) (fun _ _ h => h)
    · exact hav1.flat hfl.1
  · intro k o b ho hb
    rcases hfl with rfl | hfl
    · exact (hob1 k o b ho hb).mono (fun _ h => ⟨rfl, h⟩) (fun _ _ => rfl) (fun _ _ h => h) (fun _ _ => rfl) (fun _ h => h)
    · exact (hob1 k o b ho hb).flat (hfl.2 o (List.mem_of_getElem? ho))
  · rintro j k b ⟨i, h1, h2⟩ ⟨i', h3, h4⟩
    have := hr.sdis i i' b h2 h4
    subst this
    have e1 := (List.getElem?_eq_some_iff.1 h1).2
    have e2 := (List.getElem?_eq_some_iff.1 h3).2
    exact (List.getElem_inj hnd).1 (e1.trans e2.symm)
  · rintro k b ⟨i, h1, h2⟩
    obtain ⟨q1, q2, q3⟩ := hr.slt i b h2
    exact ⟨by rw [hlen]; exact (List.getElem?_eq_some_iff.1 h1).1, q2, fun h => q3 h.2, hc.own i b h2⟩
  · rintro b ⟨h1, h2⟩
    refine ⟨hr.ilt b h2, ?_⟩
    rcases hc.iinv b h2 with h | h | h
    · exact .inl ⟨h1, h⟩
    · exact .inr (.inl h)
    · exact .inr (.inr h)
  · intro i hi hk
    rw [hβ' i i (hid i hi)]
    exact hc.keep i (by rw [hb0]; exact hi) (hks i hk)
def ACc (P : Program) (f : FuncId) (args : List AV) (hin : List Ob) (sh : Bool) (ks : List Bool) (R : AV → List Ob → Prop) : Prop :=
  ∀ (w : World) (vals : Array Value) (I : Nat → Prop) (β : List Value) (S : Nat → Nat → Prop),
    RelV ⟨Sl.of args, hin, ks⟩ ⟨vals, []⟩ w I β S → Calls P f vals w fun e w' => ∃ v, e = .returned v ∧ CPost hin sh ks R w I β S (.returned v) w'
theorem ACc.ac {f : FuncId} {fn : Func} {body : Code} {args : List AV} {hin : List Ob} {sh : Bool} {ks : List Bool} {R : AV → List Ob → Prop} (hf : P.funcs[f]? = some fn) (hn : (fn.name == "runtime.NumGoroutine") = false) (hb : fn.body = some body)
    (h : ACc P f args hin sh ks R) : AC P f args hin sh ks R := fun w vals I β S hr => Goes.of_calls hf hn (by rw [hb]; rfl) (h w vals I β S hr)
theorem ACc_intro {f : FuncId} {fn : Func} {body : Code} {args : List AV} {hin : List Ob} {sh : Bool} {ks : List Bool} {R : AV → List Ob → Prop} (hf : P.funcs[f]? = some fn) (hn : (fn.name == "runtime.NumGoroutine") = false) (hb : fn.body = some body)
    (h : AW P body (entry fn.ntmps args hin ks) (finK P fn.results.toList hin.length sh ks R)) : ACc P f args hin sh ks R := by
  intro w vals I β S hr
  refine calls_of_wp hf hb ?_
  have hsz : vals.size = args.length := hr.sz
  have hrel : Rel ⟨w, I, fun b => ∃ j, S j b, β⟩ (entry fn.ntmps args hin ks) ⟨vals ++ Array.replicate (fn.ntmps - vals.size) undef, []⟩ w := by
    refine ⟨I, β, S, ⟨by simp [entry, hsz], hr.bl, fun t v u hv hu => ?_, hr.ob, hr.sdis, hr.slt, hr.il⟩, ⟨fun i b hb => .inr ⟨i, hb⟩, fun _ h => h, fun _ h => .inl h, Fr.refl _ _, fun _ _ _ => rfl, rfl⟩⟩
    simp only [entry] at hv
    obtain ⟨hlt, he⟩ := Sl.some_iff.1 hv
    rcases Nat.lt_or_ge t args.length with ht | ht
    · rw [Array.getElem?_append_left (by omega)] at hu
      refine hr.slot t v u ?_ hu
      rw [Sl.getElem?_of, ← Sl.ofF_get args t ht]
      exact congrArg some he
    · simp only [Sl.ofF_ge args t ht] at he
      subst he
      trivial
  refine wp_mono (h _ _ _ hrel) ?_
  rintro e a' w' ⟨st', h1, h2⟩
  have key : retK P fn.results.toList hin.length sh ks R st' → a'.defers = [] ∧ ∃ v, (results fn a'.tmps).run P w' = .ok v w' ∧ ∃ v', Ending.returned v = .returned v' ∧ CPost hin sh ks R w I β S (.returned v') w' := by
    intro hret
    obtain ⟨v, hrun, hpost⟩ := ret_sound (args := args) (P := P) hr.bl h2 hret
    obtain ⟨I1, β1, S1, -, hc⟩ := h2
    exact ⟨hc.defers, v, hrun, v, rfl, hpost⟩
  cases e with
  | normal => exact key h1
  | ret => exact key h1
  | _ => exact h1.elim
theorem callS_of {f : FuncId} {caps : List C} {args args' : List AV} {hin : List Ob} {sh : Bool} {ks : List Bool} {R : AV → List Ob → Prop} (hac : AC P f args' hin sh ks R) (ids : List Nat) (lend : Bool)
    (hl : lend = true → sh = false) (hnd : ids.Nodup) (hlt : ∀ i, i ∈ ids → i < st.obs.length)
    (hin_eq : hin.map (Ob.map (sig ids st.obs.length)) = ids.map st.obj) (hks : ∀ i, badIds ids ks i = true → kb st.ks i = false)
    (hp : gAs st ids lend (args ++ caps.map .c) args') {dst : Option Nat} {K : St → Prop} (hK : ∀ rv obs, R rv obs → K ((st.after ids ks obs).put dst (rv.map (sig ids st.obs.length)))) :
    callS P st (.fn f caps) args dst K := by
  intro c a w I β S fv vals hr hc hfv hvl hv
  obtain ⟨arr, rfl, harr⟩ := hfv
  refine ⟨f, arr, rfl, ?_⟩
  have hargs : ∀ (t : Nat) (v : AV) (c : Value), (args ++ caps.map AV.c)[t]? = some v → (vals ++ arr.toList)[t]? = some c → AVR w I β v c := by
    intro t v c hv' hc'
    rcases Nat.lt_or_ge t args.length with ht | ht
    · rw [List.getElem?_append_left ht] at hv'
      rw [List.getElem?_append_left (by omega)] at hc'
      exact hv t v c hv' hc'
    · rw [List.getElem?_append_right ht] at hv'
      rw [List.getElem?_append_right (by omega), hvl] at hc'
      simp only [List.getElem?_map, Option.map_eq_some_iff] at hv'
      obtain ⟨y, hy, rfl⟩ := hv'
      exact harr.2 _ y c hy (by simpa using hc')
  have := call_sound (vals := vals ++ arr.toList) hr hc hac hl hnd hlt hin_eq hks hp (by simp [hvl, harr.1]) hargs hK
  have e : (vals ++ arr.toList).toArray = vals.toArray ++ arr := by simp
  rw [e] at this
  exact this
end
end Go.Al
