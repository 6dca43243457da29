import Derived.Test.YtbhcecfdgkgjmaaAlE
import Derived.WalkKit
import Derived.Lib.Walk
import Derived.Lib.SliceRun
import Derived.Lib.JoinLaws
import Derived.Lib.AppendZeros
import Derived.Lib.AppendZerosOnto
import Derived.Lib.Overlaps
import Derived.Laws.Externs
import Derived.Laws.IdiomCopy
import Derived.Shelf.RegionOpenPlain
import Derived.Deep.RegionLaw
import Derived.Shelf.Spec.SlicesInsert
set_option linter.unusedVariables false
set_option linter.unusedSimpArgs false
set_option linter.constructorNameAsVariable false
set_option linter.unusedSectionVars false
namespace Go.Al

/-! ### 41. Rows that are written in place: slices.Delete, slices.Insert -/
theorem setCells_heap {b : Nat} {e : TypeId} {fr : Nat × Nat} : ∀ (vs : List Value) (o : Nat) (w : World) (cur : Array Value), w.heap[b]? = some (.cells cur e fr) → (w.setCells b o vs).heap[b]? = some (.cells (putCells cur o vs) e fr)
  | [], o, w, cur, h => h
  | v :: r, o, w, cur, h => by
    rw [World.setCells, putCells]
    exact setCells_heap r (o + 1) _ _ (by simp [World.setCell, Array.getElem?_modify, h])
theorem setCells_fr {b : Nat} : ∀ (vs : List Value) (o : Nat) (w : World), Fr (fun q => q = b) w (w.setCells b o vs)
  | [], o, w => Fr.refl _ _
  | v :: r, o, w => (Fr.setCell (X := fun q => q = b) (a := ⟨b, o, none⟩) rfl).trans (setCells_fr r (o + 1) _) fun x hx => .inl hx
theorem zeroCells_one {z : Array Value} (h : ∀ u ∈ z.toList, u.oneCell' = true) (n : Nat) : ∀ u ∈ (Builtin.zeroCells z n).toList, u.oneCell' = true := by
  intro u hu
  simp only [Builtin.zeroCells, Array.toList_map, List.mem_map] at hu
  obtain ⟨i, hi, rfl⟩ := hu
  have hi' : i < n * z.size := by simpa using hi
  have hz : 0 < z.size := by
    rcases Nat.eq_zero_or_pos z.size with h0 | h0
    · rw [h0] at hi'; omega
    · exact h0
  rw [getElem!_pos z _ (Nat.mod_lt _ hz)]
  exact h _ (by simp)
theorem zeroCells_length (z : Array Value) (n : Nat) : (Builtin.zeroCells z n).toList.length = n * z.size := by simp [Builtin.zeroCells]
section
variable {P : Program}
theorem run_clear_z (w : World) (t e ty : TypeId) (z : Value) (ht : P.underlying t = some (.slice e)) (hv : ∀ w, (zeroValue e).run P w = .ok z w) (h1 : ∀ u ∈ z.cells.toList, u.oneCell' = true) (b o n c : Nat) (hn : 0 < n)
    (hc : ∀ j, j < n * z.cells.size → (w.cell? ⟨b, o + j, none⟩).isSome = true) (hf : ∀ j, j < n * z.cells.size → w.frozen? ⟨b, o + j, none⟩ = false) :
    (Builtin.clear_ #[t] ty #[.slice (some ⟨b, o, none⟩) n c]).run P w = .ok (.tuple #[]) (w.setCells b o (Builtin.zeroCells z.cells n).toList) := by
  have hl := zeroCells_length z.cells n
  have hst := run_storeCells_cells (P := P) b o (Builtin.zeroCells z.cells n).toList 0 w (by rw [hl]; simpa using hc) (by rw [hl]; simpa using hf) (zeroCells_one h1 n)
  simp only [Nat.add_zero] at hst
  obtain ⟨m, rfl⟩ : ∃ m, n = m + 1 := ⟨n - 1, by omega⟩
  simp [Builtin.clear_, run_underlying ht, hv, hst]
theorem run_copy_z (w : World) (dT sT ty elem : TypeId) (z : Nat) (b o dLen dCap : Nat) (a : Addr) (sLen sCap : Nat) (cs : List Value)
    (hu : P.underlying dT = some (.slice elem)) (hs : (P.info? elem).map (·.size) = some z) (hn : cs.length = Nat.min sLen dLen * z)
    (hsrc : ∀ j v, cs[j]? = some v → w.cell? (a.add j) = some v) (hc : ∀ j, j < cs.length → (w.cell? ⟨b, o + j, none⟩).isSome = true) (hf : ∀ j, j < cs.length → w.frozen? ⟨b, o + j, none⟩ = false) (h1 : ∀ v ∈ cs, v.oneCell' = true) :
    (Builtin.copy_ #[dT, sT] ty #[.slice (some ⟨b, o, none⟩) dLen dCap, .slice (some a) sLen sCap]).run P w = .ok (goInt (Nat.min sLen dLen)) (w.setCells b o cs) := by
  have hl := run_loadCells_list (P := P) w a cs hsrc
  have hst := run_storeCells_cells (P := P) b o cs 0 w (by simpa using hc) (by simpa using hf) h1
  rw [hn] at hl
  cases hq : P.info? elem with
  | none => simp [hq] at hs
  | some i =>
    have hi : i.size = z := by simpa [hq] using hs
    simp [Builtin.copy_, run_underlying hu, Builtin.lenOf, Builtin.firstCells, sizeOf, typeInfo, hq, hi, hl, hst]
end

/-- slices.Delete(s, i, j), i < j, over a row of elements of z cells. -/
def DelSpec (P : Program) (f z : Nat) : Prop := ∀ (w : World) (g n cap i j : Nat) (cur : Array Value) (e : TypeId) (fr : Nat × Nat), w.heap[g]? = some (.cells cur e fr) → (cur.size ≤ fr.1 ∨ fr.2 ≤ fr.1) → cur.size = cap * z → n ≤ cap → cap ≤ maxLen →
  i < j → j ≤ n → (∀ (k : Nat) (u : Value), k < n * z → cur[k]? = some u → u.oneCell' = true) →
  Calls P f #[.slice (some ⟨g, 0, none⟩) n cap, .int .i64 i, .int .i64 j] w fun e w' => e = .returned (.slice (some ⟨g, 0, none⟩) (n - (j - i)) cap) ∧
    ∃ zs : List Value, zs.length = (j - i) * z ∧ w' = (w.drew.setCells g (i * z) ((cur.toList.drop (j * z)).take ((n - j) * z))).setCells g ((i + (n - j)) * z) zs

theorem idx_lt {t n z q : Nat} (ht : t < n) (hq : q < z) : t * z + q < n * z := by
  have h : (t + 1) * z ≤ n * z := Nat.mul_le_mul_right _ ht
  rw [Nat.add_mul, Nat.one_mul] at h
  omega
/-- What a call does whose world is the old one but for one block of the first row's. -/
theorem vals3 {w : World} {I : Nat → Prop} {β : List Value} {S : Nat → Nat → Prop} {vals : Array Value} {x y z : AV} {hin : List Ob} {ks : List Bool} (hr : RelV ⟨Sl.of [x, y, z], hin, ks⟩ ⟨vals, []⟩ w I β S) :
    ∃ a b c, vals = #[a, b, c] ∧ AVR w I β x a ∧ AVR w I β y b ∧ AVR w I β z c := by
  have hs : vals.size = 3 := hr.sz
  have g : ∀ (k : Nat) (h : k < vals.size), vals[k]? = some vals[k] := fun k h => Array.getElem?_eq_getElem h
  refine ⟨vals[0], vals[1], vals[2], ?_, hr.slot 0 _ _ rfl (g 0 (by omega)), hr.slot 1 _ _ rfl (g 1 (by omega)), hr.slot 2 _ _ rfl (g 2 (by omega))⟩
  refine Array.ext (by simp [hs]) fun k h1 h2 => ?_
  have : k = 0 ∨ k = 1 ∨ k = 2 := by omega
  rcases this with rfl | rfl | rfl <;> rfl
theorem avr_v {w : World} {I : Nat → Prop} {β : List Value} {x v : Value} (h : AVR w I β (.c (.n (.v x))) v) : v = x := by
  have h : Im w I (.v x) v := h
  cases h
  rfl

def delSrc (i j : Int) (t : Nat) : Nat := if t < i.toNat then t else t + (j - i).toNat
theorem del_ac {P : Program} {f z : Nat} {fn : Func} (hf : P.funcs[f]? = some fn) (hfn : (fn.name == "runtime.NumGoroutine") = false) (hfb : fn.body.isNone = false) (hspec : DelSpec P f z) {xs zs : Rw N} {i j : Int}
    (h : 0 ≤ i ∧ i < j ∧ j ≤ xs.n) (hzn : zs.n = xs.n - (j - i).toNat) (hzg : ∀ t, t < zs.n → zs.g t = xs.g (delSrc i j t)) :
    AC P f [.c (.h 0), vi i, vi j] [.row z xs []] true [false] fun rv obs => (rv, obs) = (.c (.h 0), [.row z zs []]) := by
  intro w vals I β S hr
  obtain ⟨a, b, c0, rfl, ha, hb0, hc0⟩ := vals3 hr
  obtain rfl := avr_v hb0
  obtain rfl := avr_v hc0
  obtain ⟨i, rfl⟩ := Int.eq_ofNat_of_zero_le h.1
  obtain ⟨j, rfl⟩ := Int.eq_ofNat_of_zero_le (show 0 ≤ j by omega)
  have hij : i < j := by omega
  have hj : j ≤ xs.n := by omega
  have hd : ((j : Int) - (i : Int)).toNat = j - i := by omega
  have hsrc : ∀ t, delSrc i j t = if t < i then t else t + (j - i) := fun t => by simp only [delSrc, hd, Int.toNat_natCast]
  rw [hd] at hzn
  have hrow : RowR w I β a (S 0) z xs [] := hr.ob 0 _ a rfl ha.1
  have hbl : β.length = 1 := hr.bl
  rcases hrow with ⟨h0, -⟩ | ⟨g, cap, e, cur, fr, c, F, rfl, hu, hn, hcap, hm, hgS, hh, hfr, hs, hc, H, -, hF, hD⟩
  · omega
  have hgI : ¬ I g := (hr.slt 0 g hgS).2.2
  have hin : ∀ t, t < zs.n → delSrc i j t < xs.n := fun t ht => by rw [hsrc]; split <;> omega
  have huz : unif z zs := fun t ht => by rw [hzg t ht]; exact hu _ (hin t ht)
  have hat : ∀ t q x, at2 zs t q = some x → t < zs.n ∧ q < z ∧ at2 xs (delSrc i j t) q = some x := fun t q x hx => by
    obtain ⟨ht, hq⟩ := at2_lt huz hx
    refine ⟨ht, hq, ?_⟩
    rw [at2_of ht, hzg t ht] at hx
    rw [at2_of (hin t ht)]
    exact hx
  have hone : ∀ (k : Nat) (u : Value), k < xs.n * z → cur[k]? = some u → u.oneCell' = true := fun k u hk hu' => by
    have hz0 : 0 < z := by
      rcases Nat.eq_zero_or_pos z with h0 | h0
      · rw [h0, Nat.mul_zero] at hk; omega
      · exact h0
    have hk1 : k / z < xs.n := Nat.div_lt_of_lt_mul (by rw [Nat.mul_comm]; exact hk)
    have hk2 : k % z < z := Nat.mod_lt _ hz0
    have hk3 : k / z * z + k % z = k := by rw [Nat.mul_comm]; exact Nat.div_add_mod k z
    have hx : at2 xs (k / z) (k % z) = some ((xs.g (k / z))[k % z]'(by rw [hu _ hk1]; exact hk2)) := by rw [at2_of hk1]; simp
    have h5 := hc _ _ _ hx
    rw [hk3, hu'] at h5
    obtain rfl := Option.some.inj h5
    exact (H _ _ _ hx (by rintro ⟨k, hk⟩; cases hk)).one
  refine Goes.of_calls hf hfn hfb ((hspec w g xs.n cap i j cur e fr hh (hfr.imp_left And.left) hs hcap hm hij hj hone).mono ?_)
  rintro r w' ⟨rfl, zv, hzl, rfl⟩
  refine ⟨_, rfl, ?_⟩
  generalize hnews : (cur.toList.drop (j * z)).take ((xs.n - j) * z) = news
  have hle : xs.n * z ≤ cap * z := Nat.mul_le_mul_right _ hcap
  have hjz : j * z + (xs.n - j) * z = xs.n * z := by rw [← Nat.add_mul]; congr 1; omega
  have hnl : news.length = (xs.n - j) * z := by rw [← hnews]; simp; omega
  have hnget : ∀ k, k < (xs.n - j) * z → news[k]? = cur[j * z + k]? := fun k hk => by rw [← hnews, List.getElem?_take, if_pos hk, List.getElem?_drop]; simp
  have hiz : i * z + (xs.n - j) * z = (i + (xs.n - j)) * z := by rw [← Nat.add_mul]
  have hiz2 : (i + (xs.n - j)) * z + (j - i) * z = xs.n * z := by rw [← Nat.add_mul]; congr 1; omega
  have hF1 : Fr (fun q => q = g) w ((w.drew.setCells g (i * z) news).setCells g ((i + (xs.n - j)) * z) zv) :=
    ((Fr.drew _ w).trans (setCells_fr news _ _) (fun x hx => .inl hx)).trans (setCells_fr zv _ _) (fun x hx => .inl hx)
  have hheap := setCells_heap zv ((i + (xs.n - j)) * z) _ _ (setCells_heap news (i * z) w.drew cur hh)
  have hcur : ∀ t q, t < zs.n → q < z → (putCells (putCells cur (i * z) news) ((i + (xs.n - j)) * z) zv)[t * z + q]? = cur[delSrc i j t * z + q]? := by
    intro t q ht hq
    have ht' : t < i + (xs.n - j) := by omega
    have h1 : t * z + q < (i + (xs.n - j)) * z := idx_lt ht' hq
    rw [putCells_get _ _ _ _ (by rw [putCells_size, hzl]; omega), if_neg (by omega), putCells_get _ _ _ _ (by omega), hsrc]
    by_cases hti : t < i
    · have h2 : t * z + q < i * z := idx_lt hti hq
      rw [if_neg (by omega), if_pos hti]
    · have h2 : i * z ≤ t * z := Nat.mul_le_mul_right _ (by omega)
      have h3 : (t - i) * z + i * z = t * z := by rw [← Nat.add_mul]; congr 1; omega
      have h4 : (t - i) * z + j * z = (t + (j - i)) * z := by rw [← Nat.add_mul]; congr 1; omega
      rw [if_pos ⟨by omega, by omega⟩, if_neg hti, hnget _ (by omega)]
      congr 1
      omega
  refine ⟨.c (.h 0), [.row z zs []], _, I, [_], S, rfl, rfl, Nat.le_refl _, ⟨rfl, rfl⟩, rfl, ?_, hr.sdis, ?_, ?_, ?_, hF1.mono fun q hq => ⟨0, by rw [hq]; exact hgS⟩⟩
  · intro k o b' ho hb'
    cases k with
    | succ k => simp at ho
    | zero =>
      simp only [List.getElem?_cons_zero, Option.some.injEq] at ho hb'
      subst ho
      subst hb'
      have hsame : ∀ q, q < w.heap.size → q ≠ g → ((w.drew.setCells g (i * z) news).setCells g ((i + (xs.n - j)) * z) zv).heap[q]? = w.heap[q]? := fun q hq hqg => hF1.block q hq hqg
      refine .inr ⟨g, cap, e, _, fr, fun t q => c (delSrc i j t) q, fun t q => F (delSrc i j t) q, by rw [hzn], huz, by omega, by omega, hm, hgS, hheap, by rw [putCells_size, putCells_size]; exact hfr, by rw [putCells_size, putCells_size]; exact hs, ?_, ?_, by simp, fun t q b hb => hF _ _ _ hb, fun t q t' q' b h1 h2 => ?_⟩
      · intro t q x hx
        obtain ⟨ht, hq, hx⟩ := hat t q x hx
        rw [hcur t q ht hq]
        exact hc _ _ _ hx
      · intro t q x hx _
        obtain ⟨ht, hq, hx⟩ := hat t q x hx
        refine (H _ _ _ hx (by rintro ⟨k, hk⟩; cases hk)).mono (fun _ h => h) (fun b hb => hsame b (hr.ilt b hb) (by rintro rfl; exact hgI hb)) (fun b hb => ?_) (fun _ h => h)
        have := hF _ _ _ hb
        exact hsame b (hr.slt 0 b this.1).2.1 this.2
      · obtain ⟨h3, h4⟩ := hD _ _ _ _ _ h1 h2
        refine ⟨?_, h4⟩
        rw [hsrc, hsrc] at h3
        split at h3 <;> split at h3 <;> omega
  · intro k b hb
    have h1 := hr.slt k b hb
    exact ⟨h1.1, Nat.lt_of_lt_of_le h1.2.1 hF1.size, h1.2.2, .inr ⟨k, hb⟩⟩
  · intro b hb
    exact ⟨Nat.lt_of_lt_of_le (hr.ilt b hb) hF1.size, .inl ⟨rfl, hb⟩⟩
  · intro k hk hkk
    exfalso
    have : k = 0 := by simpa using hk
    subst this
    simp [kb] at hkk

/-! #### slices.Insert of one element -/
def insSel {α : Type} (i t : Nat) (x y z : α) : α := if t < i then x else if t = i then y else z
structure InsSpec (P : Program) (f z B e : Nat) (zv : Value) : Prop where
  size : zv.cells.size = z
  room : ∀ (b n c vb vc : Nat) (vs : List Value) (w : World), n + 1 ≤ c → c ≤ 9223372036854775807 → vs.length = z →
    (∀ k, k < c * z → (w.cell? ⟨b, k, none⟩).isSome = true) → (∀ k, k < c * z → w.frozen? ⟨b, k, none⟩ = false) →
    (∀ k v, vs[k]? = some v → w.cell? ⟨vb, k, none⟩ = some v) → (∀ v ∈ vs, v.oneCell' = true) →
    Calls P f #[.slice (some ⟨b, 0, none⟩) n c, .int .i64 n, .slice (some ⟨vb, 0, none⟩) 1 vc] w fun e w' =>
      e = .returned (.slice (some ⟨b, 0, none⟩) (n + 1) c) ∧ w' = w.setCells b (n * z) vs
  last : ∀ (base : Option Addr) (n c vb vc : Nat) (cs vs : List Value) (w : World), n ≤ c → c < n + 1 → (n + 1) * B ≤ 140737488355328 →
    cs.length = n * z → vs.length = z → (n ≠ 0 → ∃ b, base = some ⟨b, 0, none⟩ ∧ ∀ k v, cs[k]? = some v → w.cell? ⟨b, k, none⟩ = some v) →
    (∀ k v, vs[k]? = some v → w.cell? ⟨vb, k, none⟩ = some v) → (∀ v ∈ vs, v.oneCell' = true) →
    Calls P f #[.slice base n c, .int .i64 n, .slice (some ⟨vb, 0, none⟩) 1 vc] w fun r w' =>
      r = .returned (.slice (some ⟨w.heap.size, 0, none⟩) (n + 1) (grownCap w (n + 1) c e)) ∧
      w' = w.drew.alloc (.cells ((cs ++ vs).toArray ++ Builtin.zeroCells zv.cells (grownCap w (n + 1) c e - (n + 1))) e)
  shift : ∀ (b n c i vb vc kA : Nat) (cs vs : List Value) (w : World), i < n → n + 1 ≤ c → c ≤ 9223372036854775807 → vb ≠ b → cs.length = n * z → vs.length = z →
    (∀ k v, cs[k]? = some v → w.cell? ⟨b, k, none⟩ = some v) → (∀ k, k < c * z → (w.cell? ⟨b, k, none⟩).isSome = true) → (∀ k, k < c * z → w.frozen? ⟨b, k, none⟩ = false) →
    (∀ k v, vs[k]? = some v → w.cell? ⟨vb, k, none⟩ = some v) → (∀ v ∈ cs, v.oneCell' = true) → (∀ v ∈ vs, v.oneCell' = true) →
    ∀ (tA tB : TypeId), w.shape? vb = some (tA, kA) → w.shape? b = some (tB, c * z) → w.frozen? ⟨vb, 0, none⟩ = false → w.frozen? ⟨vb, kA, none⟩ = false →
    Calls P f #[.slice (some ⟨b, 0, none⟩) n c, .int .i64 i, .slice (some ⟨vb, 0, none⟩) 1 vc] w fun e w' =>
      e = .returned (.slice (some ⟨b, 0, none⟩) (n + 1) c) ∧ w' = (w.drew.setCells b ((i + 1) * z) (cs.drop (i * z))).setCells b (i * z) vs
  grow : ∀ (b n c i vb vc : Nat) (cs vs : List Value) (w : World), i < n → n ≤ c → c < n + 1 → (n + 1) * B ≤ 140737488355328 → cs.length = n * z → vs.length = z →
    (∀ k v, cs[k]? = some v → w.cell? ⟨b, k, none⟩ = some v) → (∀ k v, vs[k]? = some v → w.cell? ⟨vb, k, none⟩ = some v) → (∀ v ∈ cs, v.oneCell' = true) → (∀ v ∈ vs, v.oneCell' = true) → b < w.heap.size → vb < w.heap.size →
    Calls P f #[.slice (some ⟨b, 0, none⟩) n c, .int .i64 i, .slice (some ⟨vb, 0, none⟩) 1 vc] w fun r w' =>
      r = .returned (.slice (some ⟨w.heap.size, 0, none⟩) (n + 1) (grownCap w (n + 1) c e)) ∧
      w' = (((w.alloc (.cells ((cs.take (i * z)).toArray ++ Builtin.zeroCells zv.cells (n + 1 - i) ++ Builtin.zeroCells zv.cells (grownCap w (n + 1) c e - (n + 1))) e)).drew.setCells w.heap.size (i * z) vs).drew).setCells w.heap.size ((i + 1) * z) (cs.drop (i * z))

section
variable {P : Program} {z i : Nat} {xs ys zs : Rw N} {w w' : World} {vals : Array Value} {I : Nat → Prop} {β : List Value} {S : Nat → Nat → Prop}
theorem ins_fin (hr : RelV ⟨Sl.of [.c (.h 0), vi i, .c (.h 1)], [.row z xs [], .row z ys []], [false, false]⟩ ⟨vals, []⟩ w I β S)
    (hi : i ≤ xs.n) (hux : unif z xs) (huy : unif z ys) (hy1 : ys.n = 1) (hzn : zs.n = xs.n + 1) (hzg : ∀ t, t < zs.n → zs.g t = insSel i t (xs.g t) (ys.g 0) (xs.g (t - 1))) (hzm : zs.n ≤ maxN)
    {c : Nat → Nat → Value} {F : Nat → Nat → Nat → Prop} {d : Nat → Nat → Value} {E : Nat → Nat → Nat → Prop}
    (H : ∀ t q x, at2 xs t q = some x → Own w I x (c t q) (F t q)) (hF : ∀ t q b, F t q b → S 0 b) (hD : ∀ t q t' q' b, F t q b → F t' q' b → t = t' ∧ q = q')
    (H2 : ∀ t q x, at2 ys t q = some x → Own w I x (d t q) (E t q)) (hE : ∀ t q b, E t q b → S 1 b) (hD2 : ∀ t q t' q' b, E t q b → E t' q' b → t = t' ∧ q = q')
    {g cap e : Nat} {cur : Array Value} {fr : Nat × Nat} {v2 : Value} (hFr : Fr (fun q => S 0 q ∧ ∀ t k, ¬ F t k q) w w')
    (hg : (S 0 g ∧ ∀ t k, ¬ F t k g) ∨ (w.heap.size ≤ g ∧ g < w'.heap.size)) (hh : w'.heap[g]? = some (.cells cur e fr)) (hfr : (cur.size ≤ fr.1 ∧ z = 1) ∨ fr.2 ≤ fr.1) (hs : cur.size = cap * z) (hcap : xs.n + 1 ≤ cap) (hm : cap ≤ maxLen)
    (hcur : ∀ t q x, at2 zs t q = some x → cur[t * z + q]? = some (insSel i t (c t q) (d 0 q) (c (t - 1) q))) :
    CPost [.row z xs [], .row z ys []] true [false, false] (fun rv obs => (rv, obs) = (.c (.h 0), [.row z zs [], .none])) w I β S (.returned (.slice (some ⟨g, 0, none⟩) (xs.n + 1) cap)) w' := by
  have huz : unif z zs := fun t ht => by
    rw [hzg t ht]
    unfold insSel
    split
    · exact hux _ (by omega)
    · split
      · exact huy 0 (by omega)
      · exact hux _ (by omega)
  have hgI : ∀ b, I b → ¬ S 0 b := fun b hb h => (hr.slt 0 b h).2.2 hb
  have hlt : g < w'.heap.size := (Array.getElem?_eq_some_iff.1 hh).1
  have hIw : ∀ b, I b → w'.heap[b]? = w.heap[b]? := fun b hb => hFr.block b (hr.ilt b hb) (fun h => hgI b hb h.1)
  have hmono : ∀ (T : Nat → Prop), (∀ b, T b → b < w.heap.size) → (∀ b, T b → ¬ (S 0 b ∧ ∀ t k, ¬ F t k b)) → ∀ {x : N} {u : Value}, Own w I x u T → Own w' I x u T := fun T h1 h2 x u h =>
    h.mono (fun _ h => h) hIw (fun b hb => hFr.block b (h1 b hb) (h2 b hb)) (fun _ h => h)
  refine ⟨.c (.h 0), [.row z zs [], .none], _, I, [.slice (some ⟨g, 0, none⟩) (xs.n + 1) cap, undef], fun k b => k = 0 ∧ (S 0 b ∨ S 1 b ∨ b = g), rfl, rfl, Nat.le_refl _, ⟨rfl, rfl⟩, rfl, ?_, fun a b q h1 h2 => h1.1.trans h2.1.symm, ?_, ?_, ?_, hFr.mono fun q hq => ⟨0, hq.1⟩⟩
  · intro k o b' ho hb'
    match k with
    | 0 =>
      simp only [List.getElem?_cons_zero, Option.some.injEq] at ho hb'
      subst ho
      subst hb'
      refine .inr ⟨g, cap, e, cur, fr, fun t q => insSel i t (c t q) (d 0 q) (c (t - 1) q), fun t q => insSel i t (F t q) (E 0 q) (F (t - 1) q), by rw [hzn], huz, hzm, by omega, hm, ⟨rfl, .inr (.inr rfl)⟩, hh, hfr, hs, hcur, ?_, by simp, ?_, ?_⟩
      · intro t q x hx _
        obtain ⟨ht, hq⟩ := at2_lt huz hx
        rw [at2_of ht, hzg t ht] at hx
        unfold insSel at hx ⊢
        have hlx : ∀ t q b, F t q b → b < w.heap.size := fun t q b hb => (hr.slt 0 b (hF _ _ _ hb)).2.1
        split at hx
        · rename_i h1
          simp only [if_pos h1]
          exact hmono _ (hlx _ _) (fun b hb h => h.2 _ _ hb) (H t q x (by rw [at2_of (by omega)]; exact hx))
        · rename_i h1
          simp only [if_neg h1]
          split at hx
          · rename_i h2
            simp only [if_pos h2]
            exact hmono _ (fun b hb => (hr.slt 1 b (hE _ _ _ hb)).2.1) (fun b hb h => by have := hr.sdis _ _ _ h.1 (hE _ _ _ hb); omega) (H2 0 q x (by rw [at2_of (by omega)]; exact hx))
          · rename_i h2
            simp only [if_neg h2]
            exact hmono _ (hlx _ _) (fun b hb h => h.2 _ _ hb) (H (t - 1) q x (by rw [at2_of (by omega)]; exact hx))
      · intro t q b hb
        unfold insSel at hb
        have hno : ∀ t q, ¬ (F t q b ∧ b = g) := fun t q h => by
          obtain ⟨h1, rfl⟩ := h
          rcases hg with h2 | h2
          · exact h2.2 _ _ h1
          · have := (hr.slt 0 b (hF _ _ _ h1)).2.1; omega
        split at hb
        · exact ⟨⟨rfl, .inl (hF _ _ _ hb)⟩, fun h => hno _ _ ⟨hb, h⟩⟩
        · split at hb
          · refine ⟨⟨rfl, .inr (.inl (hE _ _ _ hb))⟩, fun h => ?_⟩
            subst h
            rcases hg with h2 | h2
            · have := hr.sdis _ _ _ h2.1 (hE _ _ _ hb); omega
            · have := (hr.slt 1 b (hE _ _ _ hb)).2.1; omega
          · exact ⟨⟨rfl, .inl (hF _ _ _ hb)⟩, fun h => hno _ _ ⟨hb, h⟩⟩
      · intro t q t' q' b h1 h2
        unfold insSel at h1 h2
        have hFE : ∀ t q t' q', F t q b → E t' q' b → False := fun t q t' q' h1 h2 => by have := hr.sdis _ _ _ (hF _ _ _ h1) (hE _ _ _ h2); omega
        split at h1 <;> split at h2
        · exact hD _ _ _ _ _ h1 h2
        · split at h2
          · exact (hFE _ _ _ _ h1 h2).elim
          · obtain ⟨h3, h4⟩ := hD _ _ _ _ _ h1 h2
            omega
        · split at h1
          · exact (hFE _ _ _ _ h2 h1).elim
          · obtain ⟨h3, h4⟩ := hD _ _ _ _ _ h1 h2
            omega
        · split at h1 <;> split at h2
          · obtain ⟨h3, h4⟩ := hD2 _ _ _ _ _ h1 h2
            omega
          · exact (hFE _ _ _ _ h2 h1).elim
          · exact (hFE _ _ _ _ h1 h2).elim
          · obtain ⟨h3, h4⟩ := hD _ _ _ _ _ h1 h2
            omega
    | 1 =>
      simp only [List.getElem?_cons_succ, List.getElem?_cons_zero, Option.some.injEq] at ho
      subst ho
      trivial
    | k + 2 => simp at ho
  · rintro k b ⟨rfl, hb⟩
    rcases hb with hb | hb | rfl
    · have h1 := hr.slt 0 b hb
      exact ⟨by simp, Nat.lt_of_lt_of_le h1.2.1 hFr.size, h1.2.2, .inr ⟨0, hb⟩⟩
    · have h1 := hr.slt 1 b hb
      exact ⟨by simp, Nat.lt_of_lt_of_le h1.2.1 hFr.size, h1.2.2, .inr ⟨1, hb⟩⟩
    · refine ⟨by simp, hlt, fun h => ?_, ?_⟩
      · rcases hg with h2 | h2
        · exact hgI _ h h2.1
        · have := hr.ilt _ h; omega
      · rcases hg with h2 | h2
        · exact .inr ⟨0, h2.1⟩
        · exact .inl h2.1
  · intro b hb
    exact ⟨Nat.lt_of_lt_of_le (hr.ilt b hb) hFr.size, .inl ⟨rfl, hb⟩⟩
  · intro k hk hkk
    exfalso
    have : k = 0 ∨ k = 1 := by simp at hk; omega
    rcases this with rfl | rfl <;> simp [kb] at hkk
end

theorem ins_idx {n i z : Nat} {cs vs : List Value} {cur : Array Value} {c : Nat → Nat → Value} {d : Nat → Value} (hi : i ≤ n)
    (h : ∀ k, k < (n + 1) * z → cur[k]? = if k < i * z then cs[k]? else if k < (i + 1) * z then vs[k - i * z]? else cs[k - z]?)
    (hc : ∀ t q, t < n → q < z → cs[t * z + q]? = some (c t q)) (hd : ∀ q, q < z → vs[q]? = some (d q)) :
    ∀ t q, t < n + 1 → q < z → cur[t * z + q]? = some (insSel i t (c t q) (d q) (c (t - 1) q)) := by
  intro t q ht hq
  rw [h _ (idx_lt ht hq)]
  unfold insSel
  by_cases h1 : t < i
  · rw [if_pos (idx_lt h1 hq), if_pos h1]
    exact hc t q (by omega) hq
  · have h2 : i * z ≤ t * z := Nat.mul_le_mul_right _ (by omega)
    rw [if_neg (by omega), if_neg h1]
    by_cases h3 : t = i
    · subst h3
      rw [if_pos (idx_lt (Nat.lt_succ_self t) hq), if_pos rfl, Nat.add_sub_cancel_left]
      exact hd q hq
    · have h4 : (i + 1) * z ≤ t * z := Nat.mul_le_mul_right _ (by omega)
      have h5 : (t - 1) * z + 1 * z = t * z := by rw [← Nat.add_mul]; congr 1; omega
      rw [if_neg (by omega), if_neg h3, show t * z + q - z = (t - 1) * z + q by omega]
      exact hc (t - 1) q (by omega) hq

theorem ins_ac {P : Program} {f z B e : Nat} {zv : Value} {fn : Func} (hf : P.funcs[f]? = some fn) (hfn : (fn.name == "runtime.NumGoroutine") = false) (hfb : fn.body.isNone = false) (hspec : InsSpec P f z B e zv) (hz1 : 1 < z)
    {xs ys zs : Rw N} {i : Int} (h : 0 ≤ i ∧ i ≤ xs.n ∧ ys.n = 1) (hB : (xs.n + 1) * (B + 1) ≤ maxN) (hzn : zs.n = xs.n + 1) (hzg : ∀ t, t < zs.n → zs.g t = insSel i.toNat t (xs.g t) (ys.g 0) (xs.g (t - 1))) :
    AC P f [.c (.h 0), vi i, .c (.h 1)] [.row z xs [], .row z ys []] true [false, false] fun rv obs => (rv, obs) = (.c (.h 0), [.row z zs [], .none]) := by
  intro w vals I β S hr
  have hr0 := hr
  obtain ⟨a, b, c0, rfl, ha, hb0, hc0⟩ := vals3 hr
  obtain rfl := avr_v hb0
  obtain ⟨i, rfl⟩ := Int.eq_ofNat_of_zero_le h.1
  simp only [Int.toNat_natCast] at hzg
  have hi : i ≤ xs.n := by omega
  have hy1 : ys.n = 1 := h.2.2
  have hn1 : xs.n + 1 ≤ maxN := Nat.le_trans (Nat.le_mul_of_pos_right _ (Nat.succ_pos B)) hB
  have hbig : (xs.n + 1) * B ≤ 140737488355328 := Nat.le_trans (Nat.mul_le_mul_left _ (Nat.le_succ B)) hB
  have hzm : zs.n ≤ maxN := by omega
  have hrow0 : RowR w I β a (S 0) z xs [] := hr.ob 0 _ a rfl ha.1
  have hrow1 : RowR w I β c0 (S 1) z ys [] := hr.ob 1 _ c0 rfl hc0.1
  rcases hrow1 with ⟨h0, -⟩ | ⟨vb, vcap, ve, vcur, vfr, d, E, rfl, huy, hny, hvcap, hvm, hvS, hvh, hvfr, hvs, hdc, H2, -, hE, hD2⟩
  · omega
  rw [hy1] at hvcap ⊢
  have H2' : ∀ t q x, at2 ys t q = some x → Own w I x (d t q) (E t q) := fun t q x hx => H2 t q x hx (by rintro ⟨k, hk⟩; cases hk)
  have hvz : z ≤ vcur.size := by rw [hvs]; exact Nat.le_mul_of_pos_left _ hvcap
  have hvfr' : vfr.2 ≤ vfr.1 := hvfr.resolve_left (fun h => by omega)
  generalize hvsd : vcur.toList.take z = vs
  have hvl : vs.length = z := by rw [← hvsd]; simp; omega
  have hvget : ∀ k, k < z → vs[k]? = vcur[k]? := fun k hk => by rw [← hvsd, List.getElem?_take, if_pos hk]; simp
  have hd : ∀ q, q < z → vs[q]? = some (d 0 q) := fun q hq => by
    have hx : at2 ys 0 q = some ((ys.g 0)[q]'(by rw [huy 0 (by omega)]; exact hq)) := by rw [at2_of (by omega)]; simp
    rw [hvget q hq, ← hdc _ _ _ hx, Nat.zero_mul, Nat.zero_add]
  have hvcell : ∀ k v, vs[k]? = some v → w.cell? ⟨vb, k, none⟩ = some v := fun k v hk => by
    have hlt : k < z := by have := (List.getElem?_eq_some_iff.1 hk).1; omega
    rw [cells_at hvh, ← hvget k hlt, hk]
  have h1v : ∀ v ∈ vs, v.oneCell' = true := fun v hv => by
    obtain ⟨k, hk⟩ := List.mem_iff_getElem?.1 hv
    have hlt : k < z := by have := (List.getElem?_eq_some_iff.1 hk).1; omega
    rw [hd k hlt] at hk
    obtain rfl := Option.some.inj hk
    have hx : at2 ys 0 k = some ((ys.g 0)[k]'(by rw [huy 0 (by omega)]; exact hlt)) := by rw [at2_of (by omega)]; simp
    exact (H2' _ _ _ hx).one
  have hvlt : vb < w.heap.size := (hr.slt 1 vb hvS).2.1
  have hcapG : ∀ c, c ≤ maxLen → grownCap w (xs.n + 1) c e ≤ maxLen := fun c hc => grownCap_le_maxLen w _ _ _ (by unfold maxN at hn1; unfold maxLen; omega)
  have hfr0 : ∀ X : Nat → Prop, Fr X w w.drew := fun X => Fr.drew X w
  rcases hrow0 with ⟨h0, A, rfl⟩ | ⟨g, cap, el, cur, fr, c, F, rfl, hux, hn, hcap, hm, hgS, hh, hfr, hs, hc, H, -, hF, hD⟩
  · have hi0 : i = 0 := by omega
    subst hi0
    have hux : unif z xs := unif_zero h0 z
    refine Goes.of_calls hf hfn hfb ((hspec.last A 0 0 vb vcap [] vs w (Nat.le_refl _) (by omega) (by rw [h0] at hbig; exact hbig) (by simp) hvl (fun h => absurd rfl h) hvcell h1v).mono ?_)
    rintro r w' ⟨rfl, rfl⟩
    refine ⟨_, rfl, ?_⟩
    have hG : 0 + 1 ≤ grownCap w (0 + 1) 0 e := grownCap_ge w _ _ _
    have hsz : (([] ++ vs).toArray ++ Builtin.zeroCells zv.cells (grownCap w (0 + 1) 0 e - (0 + 1))).size = grownCap w (0 + 1) 0 e * z := by
      have : (Builtin.zeroCells zv.cells (grownCap w (0 + 1) 0 e - (0 + 1))).size = (grownCap w (0 + 1) 0 e - (0 + 1)) * z := by simp [Builtin.zeroCells, hspec.size]
      simp only [Array.size_append, this, List.nil_append, List.size_toArray, hvl]
      have h3 : 1 * z + (grownCap w (0 + 1) 0 e - (0 + 1)) * z = grownCap w (0 + 1) 0 e * z := by rw [← Nat.add_mul]; congr 1; omega
      omega
    have h9 := ins_fin (w' := w.drew.alloc (.cells (([] ++ vs).toArray ++ Builtin.zeroCells zv.cells (grownCap w (0 + 1) 0 e - (0 + 1))) e)) hr0 hi hux huy hy1 hzn hzg hzm
      (c := fun _ _ => undef) (F := fun _ _ _ => False) (d := d) (E := E) (fun t q x hx => by rw [at2_zero h0] at hx; cases hx) (fun _ _ _ h => h.elim) (fun _ _ _ _ _ h => h.elim) H2' (fun t q b hb => (hE t q b hb).1) hD2
      (g := w.heap.size) (cap := grownCap w (0 + 1) 0 e) (e := e) (cur := ([] ++ vs).toArray ++ Builtin.zeroCells zv.cells (grownCap w (0 + 1) 0 e - (0 + 1))) (fr := (0, 0)) (v2 := undef)
      ((hfr0 _).trans (Fr.alloc _ _ _) (fun x hx => .inl hx)) (.inr ⟨Nat.le_refl _, by simp⟩) (heap_alloc_new w.drew _) (.inr (Nat.le_refl _)) hsz (by rw [h0]; exact hG) (by have := hcapG 0 (Nat.zero_le _); rw [h0] at this; exact this)
      (fun t q x hx => by
        have huz1 : t < zs.n := (at2_pos hx).1
        have ht : t = 0 := by omega
        have hxx := (at2_pos hx).2
        subst ht
        rw [hzg 0 huz1] at hxx
        simp only [insSel, Nat.lt_irrefl, if_false, if_true] at hxx ⊢
        have hq : q < z := by rw [← huy 0 (by omega)]; exact (List.getElem?_eq_some_iff.1 hxx).1
        rw [show 0 * z + q = q by omega, List.nil_append, Array.getElem?_append_left (by simp; omega), List.getElem?_toArray]
        exact hd q hq)
    rw [h0] at h9
    exact h9
  · have H' : ∀ t q x, at2 xs t q = some x → Own w I x (c t q) (F t q) := fun t q x hx => H t q x hx (by rintro ⟨k, hk⟩; cases hk)
    have hgI : ¬ I g := (hr.slt 0 g hgS).2.2
    have hle : xs.n * z ≤ cap * z := Nat.mul_le_mul_right _ hcap
    have hm63 : cap ≤ 9223372036854775807 := by unfold maxLen at hm; omega
    generalize hcsd : cur.toList.take (xs.n * z) = cs
    have hcl : cs.length = xs.n * z := by rw [← hcsd]; simp; omega
    have hcget : ∀ k, k < xs.n * z → cs[k]? = cur[k]? := fun k hk => by rw [← hcsd, List.getElem?_take, if_pos hk]; simp
    have hc' : ∀ t q, t < xs.n → q < z → cs[t * z + q]? = some (c t q) := fun t q ht hq => by
      have hx : at2 xs t q = some ((xs.g t)[q]'(by rw [hux t ht]; exact hq)) := by rw [at2_of ht]; simp
      rw [hcget _ (idx_lt ht hq), hc _ _ _ hx]
    have hccell : ∀ k v, cs[k]? = some v → w.cell? ⟨g, k, none⟩ = some v := fun k v hk => by
      have hlt : k < xs.n * z := by have := (List.getElem?_eq_some_iff.1 hk).1; omega
      rw [cells_at hh, ← hcget k hlt, hk]
    have h1c : ∀ v ∈ cs, v.oneCell' = true := fun v hv => by
      obtain ⟨k, hk⟩ := List.mem_iff_getElem?.1 hv
      have hlt : k < xs.n * z := by have := (List.getElem?_eq_some_iff.1 hk).1; omega
      have hk1 : k / z < xs.n := Nat.div_lt_of_lt_mul (by rw [Nat.mul_comm]; exact hlt)
      have hk2 : k % z < z := Nat.mod_lt _ (by omega)
      have hk3 : k / z * z + k % z = k := by rw [Nat.mul_comm]; exact Nat.div_add_mod k z
      have h5 := hc' _ _ hk1 hk2
      rw [hk3, hk] at h5
      obtain rfl := Option.some.inj h5
      have hx : at2 xs (k / z) (k % z) = some ((xs.g (k / z))[k % z]'(by rw [hux _ hk1]; exact hk2)) := by rw [at2_of hk1]; simp
      exact (H' _ _ _ hx).one
    have hsp : ∀ k, k < cap * z → (w.cell? ⟨g, k, none⟩).isSome = true := fun k hk => by rw [cells_at hh]; simp; omega
    have hfz : ∀ k, k < cap * z → w.frozen? ⟨g, k, none⟩ = false := fun k hk => not_frozen hh (hfr.imp_left And.left) (by omega)
    have hglt : g < w.heap.size := (hr.slt 0 g hgS).2.1
    have hnoF : ∀ t k, ¬ F t k g := fun t k h => (hF t k g h).2 rfl
    have hvg : vb ≠ g := fun h => by have := hr.sdis 0 1 g hgS (h ▸ hvS); omega
    have hfin : ∀ {w' : World} {g' cap' e' : Nat} {cur' : Array Value} {fr' : Nat × Nat}, Fr (fun q => S 0 q ∧ ∀ t k, ¬ F t k q) w w' → ((S 0 g' ∧ ∀ t k, ¬ F t k g') ∨ (w.heap.size ≤ g' ∧ g' < w'.heap.size)) → w'.heap[g']? = some (.cells cur' e' fr') →
        ((cur'.size ≤ fr'.1 ∧ z = 1) ∨ fr'.2 ≤ fr'.1) → cur'.size = cap' * z → xs.n + 1 ≤ cap' → cap' ≤ maxLen →
        (∀ k, k < (xs.n + 1) * z → cur'[k]? = if k < i * z then cs[k]? else if k < (i + 1) * z then vs[k - i * z]? else cs[k - z]?) →
        CPost [.row z xs [], .row z ys []] true [false, false] (fun rv obs => (rv, obs) = (.c (.h 0), [.row z zs [], .none])) w I β S (.returned (.slice (some ⟨g', 0, none⟩) (xs.n + 1) cap')) w' :=
      fun {w' g' cap' e' cur' fr'} h1 h2 h3 h4 h5 h6 h7 h8 => ins_fin hr0 hi hux huy hy1 hzn hzg hzm H' (fun t q b hb => (hF t q b hb).1) hD H2' (fun t q b hb => (hE t q b hb).1) hD2 (v2 := undef) h1 h2 h3 h4 h5 h6 h7
        (fun t q x hx => by
          have huz : t < zs.n := (at2_pos hx).1
          have hxx := (at2_pos hx).2
          have hq : q < z := by
            have hl : (zs.g t).length = z := by
              rw [hzg t huz]
              unfold insSel
              split
              · exact hux _ (by omega)
              · split
                · exact huy 0 (by omega)
                · exact hux _ (by omega)
            rw [← hl]
            exact (List.getElem?_eq_some_iff.1 hxx).1
          exact ins_idx hi h8 hc' hd t q (by omega) hq)
    have hF1 : ∀ {w' : World}, Fr (fun q => q = g) w w' → Fr (fun q => S 0 q ∧ ∀ t k, ¬ F t k q) w w' := fun h => h.mono (fun q hq => by subst hq; exact ⟨hgS, hnoF⟩)
    have hnz : (xs.n + 1) * z = xs.n * z + z := by rw [Nat.add_mul, Nat.one_mul]
    have hiz : (i + 1) * z = i * z + z := by rw [Nat.add_mul, Nat.one_mul]
    have hile : i * z ≤ xs.n * z := Nat.mul_le_mul_right _ hi
    have hcapz : xs.n + 1 ≤ cap → (xs.n + 1) * z ≤ cap * z := fun h => Nat.mul_le_mul_right _ h
    by_cases hin : i = xs.n
    · subst hin
      by_cases hroom : xs.n + 1 ≤ cap
      · refine Goes.of_calls hf hfn hfb ((hspec.room g xs.n cap vb vcap vs w hroom hm63 hvl hsp hfz hvcell h1v).mono ?_)
        rintro r w' ⟨rfl, rfl⟩
        have hcz := hcapz hroom
        refine ⟨_, rfl, hfin (hF1 (setCells_fr vs _ w)) (.inl ⟨hgS, hnoF⟩) (setCells_heap vs (xs.n * z) w cur hh) (by rw [putCells_size]; exact hfr) (by rw [putCells_size]; exact hs) hroom hm fun k hk => ?_⟩
        rw [putCells_get _ _ _ _ (by omega), hvl]
        by_cases h1 : k < xs.n * z
        · rw [if_neg (by omega), if_pos h1, hcget k h1]
        · rw [if_pos (by omega), if_neg h1, if_pos (by omega)]
      · refine Goes.of_calls hf hfn hfb ((hspec.last (some ⟨g, 0, none⟩) xs.n cap vb vcap cs vs w hcap (by omega) hbig hcl hvl (fun _ => ⟨g, rfl, hccell⟩) hvcell h1v).mono ?_)
        rintro r w' ⟨rfl, rfl⟩
        have hG : xs.n + 1 ≤ grownCap w (xs.n + 1) cap e := grownCap_ge w _ _ _
        refine ⟨_, rfl, hfin ((hfr0 _).trans (Fr.alloc _ _ _) (fun x hx => .inl hx)) (.inr ⟨Nat.le_refl _, by simp⟩) (heap_alloc_new w.drew _) (.inr (Nat.le_refl _)) ?_ hG (hcapG _ hm) fun k hk => ?_⟩
        · have : (Builtin.zeroCells zv.cells (grownCap w (xs.n + 1) cap e - (xs.n + 1))).size = (grownCap w (xs.n + 1) cap e - (xs.n + 1)) * z := by simp [Builtin.zeroCells, hspec.size]
          simp only [Array.size_append, this, List.size_toArray, List.length_append, hvl, hcl]
          have h3 : (xs.n + 1) * z + (grownCap w (xs.n + 1) cap e - (xs.n + 1)) * z = grownCap w (xs.n + 1) cap e * z := by rw [← Nat.add_mul]; congr 1; omega
          omega
        · rw [Array.getElem?_append_left (by simp; omega), List.getElem?_toArray, List.getElem?_append, hcl]
          by_cases h1 : k < xs.n * z
          · rw [if_pos h1, if_pos h1]
          · rw [if_neg h1, if_neg h1, if_pos (by omega)]
    · have hlt : i < xs.n := by omega
      have hdl : (cs.drop (i * z)).length = (xs.n - i) * z := by rw [List.length_drop, hcl, Nat.sub_mul]
      have hniz : i * z + (xs.n - i) * z = xs.n * z := by rw [← Nat.add_mul]; congr 1; omega
      have hdget : ∀ k, (cs.drop (i * z))[k]? = cs[i * z + k]? := fun k => List.getElem?_drop
      by_cases hroom : xs.n + 1 ≤ cap
      · have hcz := hcapz hroom
        refine Goes.of_calls hf hfn hfb ((hspec.shift g xs.n cap i vb vcap vcur.size cs vs w hlt hroom hm63 hvg hcl hvl hccell hsp hfz hvcell h1c h1v ve el (by simp [World.shape?, hvh]) (by simp [World.shape?, hh, hs]) (not_frozen hvh (.inr hvfr') (by omega)) (by
          obtain ⟨lo, hi'⟩ := vfr
          simp only at hvfr'
          simp only [World.frozen?, hvh]
          rw [Bool.and_eq_false_iff]
          by_cases h : lo ≤ vcur.size
          · right; simp; omega
          · left; simpa using h)).mono ?_)
        rintro r w' ⟨rfl, rfl⟩
        refine ⟨_, rfl, hfin (hF1 (((Fr.drew _ w).trans (setCells_fr _ _ _) (fun x hx => .inl hx)).trans (setCells_fr vs _ _) (fun x hx => .inl hx))) (.inl ⟨hgS, hnoF⟩) (setCells_heap vs (i * z) _ _ (setCells_heap (cs.drop (i * z)) ((i + 1) * z) w.drew cur hh)) (by rw [putCells_size, putCells_size]; exact hfr) (by rw [putCells_size, putCells_size]; exact hs) hroom hm fun k hk => ?_⟩
        rw [putCells_get _ _ _ _ (by rw [putCells_size]; omega), hvl, putCells_get _ _ _ _ (by omega), hdl]
        by_cases h1 : k < i * z
        · rw [if_neg (by omega), if_neg (by omega), if_pos h1, hcget k (by omega)]
        · by_cases h2 : k < (i + 1) * z
          · rw [if_pos (by omega), if_neg h1, if_pos h2]
          · rw [if_neg (by omega), if_pos (by omega), if_neg h1, if_neg h2, hdget]
            congr 1
            omega
      · refine Goes.of_calls hf hfn hfb ((hspec.grow g xs.n cap i vb vcap cs vs w hlt hcap (by omega) hbig hcl hvl hccell hvcell h1c h1v hglt hvlt).mono ?_)
        rintro r w' ⟨rfl, rfl⟩
        have hG : xs.n + 1 ≤ grownCap w (xs.n + 1) cap e := grownCap_ge w _ _ _
        have hz1' : (Builtin.zeroCells zv.cells (grownCap w (xs.n + 1) cap e - (xs.n + 1))).size = (grownCap w (xs.n + 1) cap e - (xs.n + 1)) * z := by simp [Builtin.zeroCells, hspec.size]
        have hz2' : (Builtin.zeroCells zv.cells (xs.n + 1 - i)).size = (xs.n + 1 - i) * z := by simp [Builtin.zeroCells, hspec.size]
        have hrs : ((cs.take (i * z)).toArray ++ Builtin.zeroCells zv.cells (xs.n + 1 - i) ++ Builtin.zeroCells zv.cells (grownCap w (xs.n + 1) cap e - (xs.n + 1))).size = grownCap w (xs.n + 1) cap e * z := by
          simp only [Array.size_append, hz1', hz2', List.size_toArray, List.length_take, hcl]
          have h3 : i * z + ((xs.n + 1 - i) * z + (grownCap w (xs.n + 1) cap e - (xs.n + 1)) * z) = grownCap w (xs.n + 1) cap e * z := by rw [← Nat.add_mul, ← Nat.add_mul]; congr 1; omega
          omega
        generalize hROW : (cs.take (i * z)).toArray ++ Builtin.zeroCells zv.cells (xs.n + 1 - i) ++ Builtin.zeroCells zv.cells (grownCap w (xs.n + 1) cap e - (xs.n + 1)) = ROW at hrs ⊢
        have hGz : (xs.n + 1) * z ≤ grownCap w (xs.n + 1) cap e * z := Nat.mul_le_mul_right _ hG
        have hrget : ∀ k, k < i * z → ROW[k]? = cs[k]? := fun k hk => by
          have hl : (cs.take (i * z)).toArray.size = i * z := by rw [List.size_toArray, List.length_take, hcl]; omega
          rw [← hROW, Array.append_assoc, Array.getElem?_append_left (by omega), List.getElem?_toArray, List.getElem?_take, if_pos hk]
        have hq1 : Fr (fun q => q = w.heap.size) w ((((w.alloc (.cells ROW e)).drew.setCells w.heap.size (i * z) vs).drew).setCells w.heap.size ((i + 1) * z) (cs.drop (i * z))) :=
          ((((Fr.alloc _ w _).trans (Fr.drew _ _) (fun x hx => .inl hx)).trans (setCells_fr vs _ _) (fun x hx => .inl hx)).trans (Fr.drew _ _) (fun x hx => .inl hx)).trans (setCells_fr _ _ _) (fun x hx => .inl hx)
        have hq2 : Fr (fun q => S 0 q ∧ ∀ t k, ¬ F t k q) w ((((w.alloc (.cells ROW e)).drew.setCells w.heap.size (i * z) vs).drew).setCells w.heap.size ((i + 1) * z) (cs.drop (i * z))) :=
          ⟨hq1.os, hq1.tape, hq1.output, hq1.size, fun b hb _ => hq1.block b hb (by omega)⟩
        have hhN := setCells_heap (cs.drop (i * z)) ((i + 1) * z) ((w.alloc (.cells ROW e)).drew.setCells w.heap.size (i * z) vs).drew _ (setCells_heap vs (i * z) (w.alloc (.cells ROW e)).drew ROW (heap_alloc_new w _))
        refine ⟨_, rfl, hfin hq2 (.inr ⟨Nat.le_refl _, (Array.getElem?_eq_some_iff.1 hhN).1⟩) hhN (.inr (Nat.le_refl _)) (by rw [putCells_size, putCells_size]; exact hrs) hG (hcapG _ hm) fun k hk => ?_⟩
        rw [putCells_get _ _ _ _ (by rw [putCells_size]; omega), hdl, putCells_get _ _ _ _ (by omega), hvl]
        by_cases h1 : k < i * z
        · rw [if_neg (by omega), if_neg (by omega), if_pos h1, hrget k h1]
        · by_cases h2 : k < (i + 1) * z
          · rw [if_neg (by omega), if_pos (by omega), if_neg h1, if_pos h2]
          · rw [if_pos (by omega), if_neg h1, if_neg h2, hdget]
            congr 1
            omega

/-! #### The same over typed rows -/
def Vec.del {A : Type} (v : Vec A) (i j : Int) : Vec A := ⟨v.n - (j - i).toNat, fun t => v.g (delSrc i j t)⟩
def Vec.ins {A : Type} (v : Vec A) (i : Int) (w : Vec A) : Vec A := ⟨v.n + 1, fun t => insSel i.toNat t (v.g t) (w.g 0) (v.g (t - 1))⟩
theorem insSel_map {α β : Type} (f : α → β) (i t : Nat) (x y z : α) : f (insSel i t x y z) = insSel i t (f x) (f y) (f z) := by
  unfold insSel
  split
  · rfl
  · split <;> rfl
theorem AC.del {P : Program} {f : Nat} {fn : Func} {A : Type} [Enc A] (hf : P.funcs[f]? = some fn) (hfn : (fn.name == "runtime.NumGoroutine") = false) (hfb : fn.body.isNone = false) (hspec : DelSpec P f (Enc.sz A)) {v : Vec A} {i j : Int}
    (h : 0 ≤ i ∧ i < j ∧ j ≤ (v.n : Int)) :
    AC P f [.c (.h 0), vi i, vi j] [Go.Al.rw v] true [false] fun rv obs => (rv, obs) = (.c (.h 0), [Go.Al.rw (v.del i j)]) :=
  del_ac hf hfn hfb hspec h rfl (fun t ht => rfl)
theorem AC.ins {P : Program} {f B e : Nat} {zv : Value} {fn : Func} {A : Type} [Enc A] (hf : P.funcs[f]? = some fn) (hfn : (fn.name == "runtime.NumGoroutine") = false) (hfb : fn.body.isNone = false) (hspec : InsSpec P f (Enc.sz A) B e zv) (hz1 : 1 < Enc.sz A)
    {v w : Vec A} {i : Int} (h : 0 ≤ i ∧ i ≤ (v.n : Int) ∧ w.n = 1 ∧ (v.n + 1) * (B + 1) ≤ maxN) :
    AC P f [.c (.h 0), vi i, .c (.h 1)] [Go.Al.rw v, Go.Al.rw w] true [false, false] fun rv obs => (rv, obs) = (.c (.h 0), [Go.Al.rw (v.ins i w), .none]) :=
  ins_ac hf hfn hfb hspec hz1 ⟨h.1, h.2.1, h.2.2.1⟩ h.2.2.2 rfl (fun t ht => insSel_map Enc.enc _ _ _ _ _)

end Go.Al
