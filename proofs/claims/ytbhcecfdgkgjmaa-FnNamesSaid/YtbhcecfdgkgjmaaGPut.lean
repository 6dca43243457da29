import Derived.Test.YtbhcecfdgkgjmaaAlF
import Derived.Test.YtbhcecfdgkgjmaaSC
import Derived.Test.YtbhcecfdgkgjmaaGNames2
set_option linter.unusedVariables false
set_option linter.unusedSimpArgs false
set_option linter.constructorNameAsVariable false
set_option linter.unusedSectionVars false
set_option maxRecDepth 100000
namespace Go.Al
open Go.Proofs

/-! loop.example/g00073/spec.l13Put -/
namespace spec_l13Put
noncomputable def B0 {ρ : Type} (v1 : Vec YN) (v2 : Bool) (v3 : Int) (v4 : ByteArray) (v5 : Int) (v6 : Int) (v7 : Vec YN) (W : YVN → Bool → Int → ByteArray → Int → Int → YVN → Option ρ) (K0 : Bool → ByteArray → Int → Int → YVN → Option ρ) : Option ρ :=
  sel (decide (v3 < (v1.n : Int))) (chk (decide (0 ≤ v3 ∧ v3 < (v1.n : Int))) (sel (decide ((v1.g v3.toNat).2.1 = v5)) (W v1 v2 (wr (v3 + (1 : Int))) v4 v5 v6 v7) (sel ((!v2)) (chk (decide (0 ≤ v3 ∧ v3 < (v1.n : Int))) (sel (decide (v4.toList < ((v1.g v3.toNat).1).toList)) (chk (decide ((v7.n + (Vec.lit [(v4, v5, v6)] : Vec YN).n) * 33 ≤ maxN)) (chk (decide (0 ≤ v3 ∧ v3 < (v1.n : Int))) (chk (decide (((Vec.app v7 (Vec.lit [(v4, v5, v6)] : Vec YN)).n + (Vec.lit [((v1.g v3.toNat).1, (v1.g v3.toNat).2.1, (v1.g v3.toNat).2.2)] : Vec YN).n) * 33 ≤ maxN)) (W v1 true (wr (v3 + (1 : Int))) v4 v5 v6 (Vec.app (Vec.app v7 (Vec.lit [(v4, v5, v6)] : Vec YN)) (Vec.lit [((v1.g v3.toNat).1, (v1.g v3.toNat).2.1, (v1.g v3.toNat).2.2)] : Vec YN)))))) (chk (decide (0 ≤ v3 ∧ v3 < (v1.n : Int))) (chk (decide ((v7.n + (Vec.lit [((v1.g v3.toNat).1, (v1.g v3.toNat).2.1, (v1.g v3.toNat).2.2)] : Vec YN).n) * 33 ≤ maxN)) (W v1 v2 (wr (v3 + (1 : Int))) v4 v5 v6 (Vec.app v7 (Vec.lit [((v1.g v3.toNat).1, (v1.g v3.toNat).2.1, (v1.g v3.toNat).2.2)] : Vec YN))))))) (chk (decide (0 ≤ v3 ∧ v3 < (v1.n : Int))) (chk (decide ((v7.n + (Vec.lit [((v1.g v3.toNat).1, (v1.g v3.toNat).2.1, (v1.g v3.toNat).2.2)] : Vec YN).n) * 33 ≤ maxN)) (W v1 v2 (wr (v3 + (1 : Int))) v4 v5 v6 (Vec.app v7 (Vec.lit [((v1.g v3.toNat).1, (v1.g v3.toNat).2.1, (v1.g v3.toNat).2.2)] : Vec YN)))))))) (K0 v2 v4 v5 v6 v7)
noncomputable def F0 {ρ : Type} : Nat → YVN → Bool → Int → ByteArray → Int → Int → YVN → (Bool → ByteArray → Int → Int → YVN → Option ρ) → Option ρ
  | 0, _, _, _, _, _, _, _, _ => none
  | k + 1, v1, v2, v3, v4, v5, v6, v7, K0 => B0 v1 v2 v3 v4 v5 v6 v7 (fun v1' v2' v3' v4' v5' v6' v7' => F0 k v1' v2' v3' v4' v5' v6' v7' K0) K0
noncomputable def B {ρ : Type} (L0 : YVN → Bool → Int → ByteArray → Int → Int → YVN → (Bool → ByteArray → Int → Int → YVN → Option ρ) → Option ρ) (a1 : Vec YN) (a2 : ByteArray) (a3 : Int) (a4 : Int) (K : YVN → Option ρ) : Option ρ :=
  L0 a1 false (0 : Int) a2 a3 a4 (Vec.nil : Vec YN) (fun e01 e02 e03 e04 e05 => sel ((!e01)) (chk (decide ((e05.n + (Vec.lit [(e02, e03, e04)] : Vec YN).n) * 33 ≤ maxN)) (K (Vec.app e05 (Vec.lit [(e02, e03, e04)] : Vec YN)))) (K e05))
noncomputable def F (a1 : Vec YN) (a2 : ByteArray) (a3 : Int) (a4 : Int) : Option YVN := B (F0 fuelN) a1 a2 a3 a4 (fun x1 => some (x1))
def encA (t : YVN × ByteArray × Int × Int) : LA := [vl t.1, .a [cs t.2.1, ci t.2.2.1, ci t.2.2.2]]
def encR (x : Vec YN) : AV × LO := (.c (.h 0), [ro x])
theorem encAI (a b) (h : encA a = encA b) : a = b := by simp [encA, encRw_iff] at h; simp [Prod.ext_iff, h]
theorem encRI (a b) (h : encR a = encR b) : a = b := by simpa [encR, encRw_iff] using h
noncomputable def Q (args : LA) : Option YVN := ofC encA (un4 F) args
theorem wrap : F = fun y1 y2 y3 y4 => Q [vl y1, .a [cs y2, ci y3, ci y4]] := by funext y1 y2 y3 y4; exact Eq.symm (ofC_enc encAI _ (y1, y2, y3, y4))
noncomputable abbrev O : Orc := mkO [] [] []
noncomputable def c0 : Code := loopC (atomN [] 0 (bodyOf Try.f80) 0)
def ct0 : Cut := ⟨[0, 3, 5, 6, 7], [.ad (.s 5) 24]⟩
def lv0 : Exit → Cut
  | .exit 0 => ⟨[3, 5, 6], []⟩
  | _ => ⟨[], []⟩
def k0_0 {ρ : Type} (K : Exit → St → Option ρ) (z1 : Bool) (z2 : ByteArray) (z3 : Int) (z4 : Int) (z5 : Vec YN) : Option ρ := K (.exit 0) (mkS 53 (lv0 (.exit 0)).live [.c (.p 0 0), .c (.h 1), vb z1] [.box [cs z2, ci z3, ci z4], ro z5] [])
noncomputable def L (W0 : (ρ : Type) → LA → LO → (Bool → ByteArray → Int → Int → YVN → Option ρ) → Option ρ) : Lor := fun ρ j st K => sel (Nat.beq j 0) (cutO Try.prog 53 ct0.live 0 [] ct0.cmds st fun avs obs => W0 ρ avs obs (k0_0 K)) (Option.none)
theorem step0 {W0} {ρ : Type} {K : Exit → St → Option ρ} {W : LA → LO → Option ρ} {v1 v2 v3 v4 v5 v6 v7} : exC Try.prog O (L W0) [] 1 c0 (mkS 53 ct0.live [vl v1, .c (.p 0 0), .c (.h 1), vb v2, vi v3] [.box [cs v4, ci v5, ci v6], ro v7] []) (bodyK Try.prog 53 0 [] ct0 W lv0 K) =
    B0 v1 v2 v3 v4 v5 v6 v7 (fun u1 u2 u3 u4 u5 u6 u7 => W [vl u1, .c (.p 0 0), .c (.h 1), vb u2, vi u3] [.box [cs u4, ci u5, ci u6], ro u7]) (k0_0 K) := by kernel_rfl
def enc0 (t : YVN × Bool × Int × ByteArray × Int × Int × YVN) : LA × LO := ([vl t.1, .c (.p 0 0), .c (.h 1), vb t.2.1, vi t.2.2.1], [.box [cs t.2.2.2.1, ci t.2.2.2.2.1, ci t.2.2.2.2.2.1], ro t.2.2.2.2.2.2])
theorem enc0I (a b) (h : enc0 a = enc0 b) : a = b := by simp [enc0, encRw_iff] at h; simp [Prod.ext_iff, h]
noncomputable def V0 : (ρ : Type) → LA → LO → (Bool → ByteArray → Int → Int → YVN → Option ρ) → Option ρ := fun ρ avs obs k0 => ofC enc0 (fun t => un7 (F0 fuelN) t k0) (avs, obs)
theorem V0_enc (ρ : Type) : F0 fuelN = fun w1 w2 w3 w4 w5 w6 w7 k0 => V0 ρ [vl w1, .c (.p 0 0), .c (.h 1), vb w2, vi w3] [.box [cs w4, ci w5, ci w6], ro w7] k0 := by funext w1 w2 w3 w4 w5 w6 w7 k0; exact Eq.symm (ofC_enc enc0I _ (w1, w2, w3, w4, w5, w6, w7))
theorem main {W0} {ρ : Type} {K : AV → LO → Option ρ} {a1 a2 a3 a4} : exC Try.prog O (L W0) [] 0 (bodyOf Try.f80) (entry 53 [vl a1, .a [cs a2, ci a3, ci a4]] [] []) (finO Try.prog Try.f80.results.toList 0 [] [] K) =
    B (fun w1 w2 w3 w4 w5 w6 w7 k0 => W0 ρ [vl w1, .c (.p 0 0), .c (.h 1), vb w2, vi w3] [.box [cs w4, ci w5, ci w6], ro w7] k0) a1 a2 a3 a4 (fun x1 => K (.c (.h 0)) [ro x1]) := by kernel_rfl
theorem Gok : O.ok Try.prog := mkO_ok (by exact trivial) (by exact trivial)
theorem ok0 : OkL Try.prog (L V0) 0 (.loop c0) := fun ρ st K r h => loop_ok (ct := ct0) (lv := lv0) (L := (L V0)) Gok hmT (by rw [show atomsL [] 1 c0 = [] by kernel_rfl]; exact Lor.ok_nil _ _) enc0I (fun k t => un7 (F0 k) t (k0_0 K)) (fun t => rfl) (fun k t => by refine step0.trans ?_; exact congrFun (congrArg (B0 _ _ _ _ _ _ _) (fx7 fun t => ofC_enc enc0I _ t)) _) (fun _ => fuelN) h
theorem e : atomsL [] 0 (bodyOf Try.f80) = [(0, 0, .loop c0)] := by kernel_rfl
theorem acc : ∀ t x, un4 F t = some x → ACc Try.prog 80 (encA t) [] true [] fun rv obs => (rv, obs) = encR x := accT (T := YVN × ByteArray × Int × Int) (F := un4 F) (L := (L V0)) (cmds := []) (body := (bodyOf Try.f80)) Gok hmT Try.func80 (by kernel_rfl) (by kernel_rfl) (by rw [e]; exact Lor.ok_cons ok0 (Lor.ok_nil _ _)) (fun t => by refine main.trans ?_; rw [← V0_enc]; exact congrArg (B _ _ _ _ _) (fx1 fun t => ofC_enc encRI some t))
theorem ac : ∀ a x, Q a = some x → AC Try.prog 80 a [] false [] fun rv obs => (rv, obs) = encR x := acF (body := (bodyOf Try.f80)) Try.func80 (by kernel_rfl) (by kernel_rfl) acc fun x => ⟨by simp [encR, AV.Flat, K.Flat, C.Flat], flc (flat_rw rfl _) (fl0)⟩
end spec_l13Put
/-! slices.Clone -/
namespace slices_Clone_impl_Name
noncomputable def F (a1 : Vec (ByteArray × Int × Int)) : Option (Vec (ByteArray × Int × Int)) := sel (decide (a1.n * 33 ≤ maxN)) (some a1) none
def encA (t : Vec (ByteArray × Int × Int)) : List AV := [vl t]
def encR (x : Vec (ByteArray × Int × Int)) : AV × List Ob := (.c (.h 0), [.row 3 (encRw x) []])
theorem encAI : ∀ a b, encA a = encA b → a = b := by
  intro a b h
  simp [encA, encRw_iff] at h
  simp_all
noncomputable def Q (args : List AV) : Option (Vec (ByteArray × Int × Int)) := ofC encA (fun t => F t) args
theorem wrap : (fun (y1 : Vec (ByteArray × Int × Int)) => Q [vl y1]) = F := by
  funext y1
  exact ofC_enc encAI _ y1
theorem ac0 (a : Vec (ByteArray × Int × Int)) (h : a.n * 33 ≤ maxN) : AC Try.prog 47 [vl a] [] true [] fun rv obs => rv = .c (.h 0) ∧ ∃ u : Vec (ByteArray × Int × Int), obs = [Go.Al.rw u] ∧ Vec.Same u a := by
  refine ACc.ac (body := bodyOf Try.f47) Try.func47 (by kernel_rfl) (by kernel_rfl) (ACc_intro (body := bodyOf Try.f47) Try.func47 (by kernel_rfl) (by kernel_rfl) ?_)
  refine AW.post (Φ := fun e st' => e = .ret ∧ ∃ (cmds : List Cmd) (u : Vec (ByteArray × Int × Int)), retO Try.prog Try.f47.results.toList 0 [] cmds st' (fun rv obs => some (rv, obs)) = some (.c (.h 0), [Go.Al.rw u]) ∧ Vec.Same u a) ?_ ?_
  · refine vcC_sound _ _ _ ?_
    refine ⟨by kernel_rfl, fun b hb => ?_⟩
    cases b with
    | true =>
      have h0 := hb rfl
      exact ⟨rfl, [.ad (.s 2) 24], Vec.nil, by kernel_rfl, h0.symm, fun i hi => absurd hi (Nat.not_lt_zero i)⟩
    | false =>
      repeat (refine ⟨by first | kernel_rfl | decide +kernel, ?_⟩)
      refine (show (3 = 3) ∧ (a.n * 33 ≤ maxN) ∧ _ from ⟨rfl, h, ?_⟩)
      exact ⟨rfl, [], a, by kernel_rfl, rfl, fun i hi => rfl⟩
  · rintro e st' ⟨rfl, cmds, u, h1, h2⟩
    obtain ⟨st'', q1, q2⟩ := retO_vc h1
    refine ⟨st'', q1, q2.1, is_mono q2.2 ?_⟩
    rintro rv0 ⟨ids, rv, obs, p1, p2, p3, p4, p5, p6, p7⟩
    simp only [Option.some.injEq, Prod.mk.injEq] at p7
    exact ⟨ids, rv, obs, p1, p2, p3, p4, p5, p6, p7.1, u, p7.2, h2⟩
theorem ac (args : List AV) (x : Vec (ByteArray × Int × Int)) (h : Q args = some x) : AC Try.prog 47 args [] false [] fun rv obs => (rv, obs) = encR x := by
  obtain ⟨t, rfl, h2⟩ := ofC_some h
  rcases sel_cases h2 with ⟨hb, h3⟩ | ⟨-, h3⟩
  · simp only [Option.some.injEq] at h3
    subst h3
    refine (AC.row (ac0 t (by simpa using hb))).flat fun rv obs e => ?_
    obtain rfl : rv = (encR t).1 := congrArg Prod.fst e
    obtain rfl : obs = (encR t).2 := congrArg Prod.snd e
    refine ⟨by simp [encR, AV.Flat, K.Flat, C.Flat], ?_⟩
    intro o ho
    simp only [encR, List.mem_cons, List.not_mem_nil, or_false] at ho
    subst ho
    exact flat_rw rfl _
  · cases h3
end slices_Clone_impl_Name
/-! slices.Delete(()loop.example/g00073/impl.Name,loop.example/g00073/impl.Name) -/
end Go.Al
namespace Go.AlW.slices_Delete_impl_Name_safb9
open Go.Proofs Go.Shelf Go.RowKit Go.Lib
set_option maxHeartbeats 4000000 in
set_option maxRecDepth 1000000 in
theorem delW : Al.DelSpec Try.prog 82 3 := by
  intro w g n cap i j cur e fr hb hfr hs hn hm hij hj h1
  obtain ⟨news, hnews⟩ : ∃ news, news = (cur.toList.drop (j * 3)).take ((n - j) * 3) := ⟨_, rfl⟩
  have hm' : cap ≤ 9223372036854775807 := by unfold maxLen at hm; omega
  have hlen : news.length = (n - j) * 3 := by rw [hnews]; simp; omega
  have hcell : ∀ k, k < cur.size → w.cell? ⟨g, k, none⟩ = some cur[k]! := fun k hk => by rw [Al.cells_at hb, getElem!_pos cur k hk]; simp [hk]
  have hfz : ∀ k, k < cur.size → w.frozen? ⟨g, k, none⟩ = false := fun k hk => Al.not_frozen hb hfr hk
  have hget : ∀ t u, news[t]? = some u → t < (n - j) * 3 ∧ cur[j * 3 + t]? = some u := fun t u hu => by
    have ht : t < news.length := (List.getElem?_eq_some_iff.1 hu).1
    rw [hlen] at ht
    refine ⟨ht, ?_⟩
    rw [hnews, List.getElem?_take, if_pos ht, List.getElem?_drop] at hu
    simpa using hu
  obtain ⟨A, hA, hsrc⟩ : ∃ A : Addr, (if cap = j then (some ⟨g, 0, none⟩ : Option Addr) else some ⟨g, j * 3, none⟩) = some A ∧ Hid (∀ t u, news[t]? = some u → w.drew.cell? (A.add t) = some u) := by
    by_cases h : cap = j
    · refine ⟨⟨g, 0, none⟩, by simp [h], fun t u hu => ?_⟩
      have := (hget t u hu).1
      omega
    · refine ⟨⟨g, j * 3, none⟩, by simp [h], fun t u hu => ?_⟩
      obtain ⟨ht, hu⟩ := hget t u hu
      rw [Al.add00]
      show w.cell? _ = _
      rw [Al.cells_at hb]
      exact hu
  have s1 : Hid (news.length = (n - j) * 3) := hlen
  have s2 : Hid (∀ u ∈ news, u.oneCell' = true) := by
    intro u hu
    obtain ⟨t, ht⟩ := List.mem_iff_getElem?.1 hu
    obtain ⟨h3, h4⟩ := hget t u ht
    exact h1 _ u (by omega) h4
  have s3 : Hid (∀ t, t < news.length → (w.drew.cell? ⟨g, 0 + i * 3 + t, none⟩).isSome = true ∧ w.drew.frozen? ⟨g, 0 + i * 3 + t, none⟩ = false) := by
    intro t ht
    rw [hlen] at ht
    exact ⟨by show (w.cell? _).isSome = true; rw [hcell _ (by omega)]; rfl, hfz _ (by omega)⟩
  obtain ⟨W1, hW1⟩ : ∃ W1, W1 = w.drew.setCells g (i * 3) news := ⟨_, rfl⟩
  have hbW : W1.heap[g]? = some (.cells (Al.putCells cur (i * 3) news) e fr) := by rw [hW1]; exact Al.setCells_heap news (i * 3) w.drew cur hb
  obtain ⟨zv, hzv⟩ : ∃ zv : Value, ∀ w, (zeroValue 58).run Try.prog w = .ok zv w := ⟨_, Try.zeroValue58⟩
  have hz12 : zv.cells.size = 3 ∧ zv.cells.toList.all (·.oneCell') = true := by
    have h := hzv w
    rw [Try.zeroValue58] at h
    cases h
    exact ⟨by kernel_rfl, by kernel_rfl⟩
  have hz2 : zv.cells.size = 3 := hz12.1
  have hz1 : ∀ u ∈ zv.cells.toList, u.oneCell' = true := fun u hu => List.all_eq_true.1 hz12.2 u hu
  have hcl : ∀ ty, (Builtin.clear_ #[24] ty #[.slice (some ⟨g, (i + (n - j)) * 3, none⟩) (n - (i + (n - j))) (cap - (i + (n - j)))]).run Try.prog W1 = .ok (.tuple #[]) (W1.setCells g ((i + (n - j)) * 3) (Builtin.zeroCells zv.cells (n - (i + (n - j)))).toList) :=
    fun ty => Al.run_clear_z W1 24 58 ty zv Try.underlying24 hzv hz1 g _ _ _ (by omega) (fun t ht => by
      rw [hz2] at ht
      rw [Al.cells_at hbW]
      have : (i + (n - j)) * 3 + t < (Al.putCells cur (i * 3) news).size := by rw [Al.putCells_size]; omega
      simp [this]) (fun t ht => by
      rw [hz2] at ht
      exact Al.not_frozen hbW (by rw [Al.putCells_size]; exact hfr) (by rw [Al.putCells_size]; omega))
  have hW : Hid (W1 = w.drew.setCells g (0 + i * 3) news) := by rw [Nat.zero_add]; exact hW1
  have hX : Hid (W1 = w.drew.setCells g (i * 3) ((cur.toList.drop (j * 3)).take ((n - j) * 3))) := by rw [← hnews]; exact hW1
  have hZ : Hid ((Builtin.zeroCells zv.cells (n - (i + (n - j)))).toList.length = (j - i) * 3) := by rw [Al.zeroCells_length, hz2]; congr 1; omega
  obtain ⟨i0, hi0⟩ : ∃ i0, Try.prog.info? 58 = some i0 := ⟨_, rfl⟩
  have his : i0.size = 3 := by
    have : (Try.prog.info? 58).map (·.size) = some 3 := by kernel_rfl
    rw [hi0] at this
    simpa using this
  obtain ⟨zs, hzs⟩ : ∃ zs, zs = (Builtin.zeroCells zv.cells (n - (i + (n - j)))).toList := ⟨_, rfl⟩
  rw [← hzs] at hcl hZ
  have hic : i ≤ cap := by omega
  have hjc : j ≤ cap := by omega
  have hin : i ≤ n := by omega
  have hne : ¬ i = j := by omega
  clear hW1 hget hnews hlen hbW hcell hfz hb hfr hs h1 hzs hz12 hz1 hz2 hzv
  have mixed : Try.prog.follows .mixedOrders = true := by kernel_rfl
  go_enter Try.func82, Try.ntmps82
  go_wp2_with fail
  go_region_law_o (refine step_append_room rfl (.tmp 22) (.tmp 25) 24 rfl 58 i0 3 Try.underlying24 hi0 his g 0 i cap (by simp [Act.eval, Act.put]) A (n - j) (cap - j) news (by simp [Act.eval, Act.put, hA]) s1.out hsrc.out s2.out (by omega) s3.out ?_; rw [← hW.out])
  go_wp2
  go_ret
  refine ⟨by rw [show n - (j - i) = i + (n - j) by omega]; rfl, zs, hZ.out, by rw [← hX.out]⟩
end Go.AlW.slices_Delete_impl_Name_safb9
namespace Go.Al
open Go.Proofs
namespace slices_Delete_impl_Name_safb9
noncomputable def F (a1 a2 : Int) (a3 : Vec (ByteArray × Int × Int)) : Option (Vec (ByteArray × Int × Int)) := sel (decide (0 ≤ a1 ∧ a1 < a2 ∧ a2 ≤ (a3.n : Int))) (some (Vec.del a3 a1 a2)) none
def encA (t : Int × Int × (Vec (ByteArray × Int × Int))) : List AV × List Ob := ([.c (.h 0), vi t.1, vi t.2.1], [ro t.2.2])
def encR (x : Vec (ByteArray × Int × Int)) : AV × List Ob := (.c (.h 0), [.row 3 (encRw x) []])
theorem encAI : ∀ a b, encA a = encA b → a = b := by
  intro a b h
  obtain ⟨a0, a1, a2⟩ := a
  obtain ⟨b0, b1, b2⟩ := b
  simp [encA, encRw_iff] at h
  simp_all
noncomputable def Q (args : List AV) (hin : List Ob) : Option (Vec (ByteArray × Int × Int)) := ofC encA (fun t => F t.1 t.2.1 t.2.2) (args, hin)
theorem wrap : (fun (y1 : Int) (y2 : Int) (y3 : Vec (ByteArray × Int × Int)) => Q [.c (.h 0), vi y1, vi y2] [ro y3]) = F := by
  funext y1 y2 y3
  exact ofC_enc encAI _ (y1, y2, y3)
theorem ac (args : List AV) (hin : List Ob) (x : Vec (ByteArray × Int × Int)) (h : Q args hin = some x) : AC Try.prog 82 args hin false [false] fun rv obs => (rv, obs) = encR x := by
  obtain ⟨t, he, h2⟩ := ofC_some h
  obtain rfl : args = (encA t).1 := (congrArg Prod.fst he).symm
  obtain rfl : hin = (encA t).2 := (congrArg Prod.snd he).symm
  rcases sel_cases h2 with ⟨hb, h3⟩ | ⟨-, h3⟩
  · simp only [Option.some.injEq] at h3
    subst h3
    have hb := of_decide_eq_true hb
    have hm := AC.del Try.func82 (by kernel_rfl) (by kernel_rfl) (show DelSpec Try.prog 82 (Enc.sz (ByteArray × Int × Int)) from AlW.slices_Delete_impl_Name_safb9.delW) hb
    refine AC.flat hm fun rv obs e => ?_
    obtain rfl : rv = .c (.h 0) := congrArg Prod.fst e
    obtain rfl : obs = [Go.Al.rw (Vec.del t.2.2 t.1 t.2.1)] := congrArg Prod.snd e
    refine ⟨by simp [AV.Flat, K.Flat, C.Flat], ?_⟩
    intro o ho
    simp only [List.mem_cons, List.not_mem_nil, or_false] at ho
    subst ho
    exact flat_rw rfl _
  · cases h3
end slices_Delete_impl_Name_safb9
/-! loop.example/g00073/impl.dropName -/
namespace impl_dropName_s0773
noncomputable def B {ρ : Type} (C0 : Int → Int → YVN → Option YVN) (a1 : Int) (a2 : Vec YN) (K : YVN → Option ρ) : Option ρ :=
  (C0 a1 (wr (a1 + (1 : Int))) a2).bind fun r1 => K r1
noncomputable def F (a1 : Int) (a2 : Vec YN) : Option YVN := B slices_Delete_impl_Name_safb9.F a1 a2 (fun x1 => some (x1))
def encA (t : Int × YVN) : LA × LO := ([.c (.h 0), vi t.1], [ro t.2])
def encR (x : Vec YN) : AV × LO := (.c (.h 0), [ro x])
theorem encAI (a b) (h : encA a = encA b) : a = b := by simp [encA, encRw_iff] at h; simp [Prod.ext_iff, h]
theorem encRI (a b) (h : encR a = encR b) : a = b := by simpa [encR, encRw_iff] using h
noncomputable def Q (args : LA) (hin : LO) : Option YVN := ofC encA (un2 F) (args, hin)
theorem wrap : F = fun y1 y2 => Q [.c (.h 0), vi y1] [ro y2] := by funext y1 y2; exact Eq.symm (ofC_enc encAI _ (y1, y2))
noncomputable abbrev O (Q0 : LA → LO → Option YVN) : Orc := mkO [] [eE Try.prog 82 [true, false, false] false [false] slices_Delete_impl_Name_safb9.encR Q0] []
noncomputable def L : Lor := fun _ _ _ _ => Option.none
theorem main {Q0} {ρ : Type} {K : AV → LO → Option ρ} {a1 a2} : exC Try.prog (O Q0) L [] 0 (bodyOf Try.f46) (entry 10 [.c (.h 0), vi a1] [ro a2] [false]) (finO Try.prog Try.f46.results.toList 1 [false] [] K) =
    B (fun y1 y2 y3 => Q0 [.c (.h 0), vi y1, vi y2] [ro y3]) a1 a2 (fun x1 => K (.c (.h 0)) [ro x1]) := by kernel_rfl
theorem Gok : (O slices_Delete_impl_Name_safb9.Q).ok Try.prog := mkO_ok (by exact trivial) (by exact ⟨eE_ok (fun h => by cases h) slices_Delete_impl_Name_safb9.ac, trivial⟩)
theorem acc : ∀ t x, un2 F t = some x → ACc Try.prog 46 (encA t).1 (encA t).2 true [false] fun rv obs => (rv, obs) = encR x := accT2 (T := Int × YVN) (F := un2 F) (L := L) (cmds := []) (body := (bodyOf Try.f46)) 1 (fun _ => rfl) Gok hmT Try.func46 (by kernel_rfl) (by kernel_rfl) (by rw [show atomsL [] 0 (bodyOf Try.f46) = [] by kernel_rfl]; exact Lor.ok_nil _ _) (fun t => by refine main.trans ?_; rw [slices_Delete_impl_Name_safb9.wrap]; exact congrArg (B _ _ _) (fx1 fun t => ofC_enc encRI some t))
theorem ac : ∀ a h x, Q a h = some x → AC Try.prog 46 a h false [false] fun rv obs => (rv, obs) = encR x := acF2 (body := (bodyOf Try.f46)) Try.func46 (by kernel_rfl) (by kernel_rfl) acc fun x => ⟨by simp [encR, AV.Flat, K.Flat, C.Flat], flc (flat_rw rfl _) (fl0)⟩
end impl_dropName_s0773
/-! slices.Insert(()loop.example/g00073/impl.Name,loop.example/g00073/impl.Name) -/
end Go.Al
namespace Go.AlW.slices_Insert_impl_Name_s19f7
open Go.Proofs Go.Shelf Go.RowKit Go.Lib
theorem insI : (Try.prog.info? 58).map (fun i => (i.size, i.bytes, i.zero.isSome, (i.zero.map (·.cells.size)))) = some (3, 32, true, some 3) := by kernel_rfl
set_option maxHeartbeats 4000000 in
set_option maxRecDepth 100000 in
theorem insT_room (b n c vb vc : Nat) (vs : List Value) (w : World) (hroom : n + 1 ≤ c) (hc63 : c ≤ 9223372036854775807) (hvl : vs.length = 3)
    (hsp : ∀ k, k < c * 3 → (w.cell? ⟨b, k, none⟩).isSome = true) (hfz : ∀ k, k < c * 3 → w.frozen? ⟨b, k, none⟩ = false)
    (hvs : ∀ k v, vs[k]? = some v → w.cell? ⟨vb, k, none⟩ = some v) (h1v : ∀ v ∈ vs, v.oneCell' = true) :
    Calls Try.prog 81 #[.slice (some ⟨b, 0, none⟩) n c, .int .i64 n, .slice (some ⟨vb, 0, none⟩) 1 vc] w fun e w' =>
      e = .returned (.slice (some ⟨b, 0, none⟩) (n + 1) c) ∧ w' = w.setCells b (n * 3) vs := by
  obtain ⟨i0, hi0, hii⟩ := Option.map_eq_some_iff.1 insI
  simp only [Prod.mk.injEq] at hii
  have mixed : Try.prog.follows .mixedOrders = true := by kernel_rfl
  have hsrc : Src Try.prog i0.size 24 (.slice (some ⟨vb, 0, none⟩) 1 vc) 1 vs w := Src.ofSlice w Try.underlying24 ⟨vb, 0, none⟩ 1 vc vs (by rw [hii.1]; omega) (fun k u hj => by rw [Al.add0]; exact hvs k u hj) h1v
  have hsp' : ∀ k, k < vs.length → (w.cell? ⟨b, 0 + n * i0.size + k, none⟩).isSome = true := fun k hk => by rw [hii.1]; exact hsp _ (by omega)
  have hfz' : ∀ k, k < vs.length → w.frozen? ⟨b, 0 + n * i0.size + k, none⟩ = false := fun k hk => by rw [hii.1]; exact hfz _ (by omega)
  have hX : Hid (w.setCells b (0 + n * i0.size) vs = w.setCells b (n * 3) vs) := by rw [hii.1, Nat.zero_add]; rfl
  clear hsp hfz
  go_enter Try.func81, Try.ntmps81
  go_wp2_with (at_builtin; refine wpList_append_room_src _ rfl _ _ 24 24 rfl 58 i0 Try.underlying24 hi0 b 0 n c rfl _ rfl 1 vs hsrc hroom hsp' hfz' ?_)
  go_ret
  exact ⟨rfl, by first | rfl | exact hX.out⟩

set_option maxHeartbeats 4000000 in
set_option maxRecDepth 100000 in
theorem insT_end (base : Option Addr) (n c vb vc : Nat) (cs vs : List Value) (w : World) (hnc : n ≤ c) (hroom : c < n + 1) (hbig : (n + 1) * 32 ≤ 140737488355328)
    (hcl : cs.length = n * 3) (hvl : vs.length = 3) (hnil : n ≠ 0 → ∃ b, base = some ⟨b, 0, none⟩ ∧ ∀ k v, cs[k]? = some v → w.cell? ⟨b, k, none⟩ = some v)
    (hvs : ∀ k v, vs[k]? = some v → w.cell? ⟨vb, k, none⟩ = some v) (h1v : ∀ v ∈ vs, v.oneCell' = true) (zv : Value) (hzv : (Try.prog.info? 58).bind (·.zero) = some zv) :
    Calls Try.prog 81 #[.slice base n c, .int .i64 n, .slice (some ⟨vb, 0, none⟩) 1 vc] w fun e w' =>
      e = .returned (.slice (some ⟨w.heap.size, 0, none⟩) (n + 1) (grownCap w (n + 1) c 58)) ∧
      w' = w.drew.alloc (.cells ((cs ++ vs).toArray ++ Builtin.zeroCells zv.cells (grownCap w (n + 1) c 58 - (n + 1))) 58) := by
  obtain ⟨i0, hi0, hii⟩ := Option.map_eq_some_iff.1 insI
  simp only [Prod.mk.injEq] at hii
  obtain ⟨hzs, hzb, -, -⟩ := hii
  have hz0 : i0.zero = some zv := by rw [hi0] at hzv; exact hzv
  have mixed : Try.prog.follows .mixedOrders = true := by kernel_rfl
  have hsrc : Src Try.prog i0.size 24 (.slice (some ⟨vb, 0, none⟩) 1 vc) 1 vs w := Src.ofSlice w Try.underlying24 ⟨vb, 0, none⟩ 1 vc vs (by rw [hzs]; omega) (fun k u hj => by rw [Al.add0]; exact hvs k u hj) h1v
  have hold : (Builtin.firstCells i0.size n (.slice base n c)).run Try.prog w.drew = .ok cs.toArray w.drew := by
    rw [hzs]
    by_cases h0 : n = 0
    · subst h0
      rw [List.length_eq_zero_iff.1 (by omega : cs.length = 0)]
      cases base with
      | none => exact run_firstCells_none w.drew 3 0 0 c
      | some a => exact run_firstCells_some w.drew 3 0 a 0 c [] (by simp) (by simp)
    · obtain ⟨b, rfl, hcs⟩ := hnil h0
      exact run_firstCells_some w.drew 3 n ⟨b, 0, none⟩ n c cs hcl (fun k v hk => by rw [Al.add0]; exact hcs k v hk)
  have hrun : ∀ ty, (Builtin.append_ #[24, 24] ty #[.slice base n c, .slice (some ⟨vb, 0, none⟩) 1 vc]).run Try.prog w = _ := fun ty =>
    run_append_grow_src w 24 24 ty 58 i0 _ Try.underlying24 hi0 hz0 base n c cs hold _ 1 vs hsrc hroom (by omega) (by rw [hzb]; exact growslice_fits hroom hbig)
  obtain ⟨ROW, hROW⟩ : ∃ ROW, ROW = (cs ++ vs).toArray ++ Builtin.zeroCells zv.cells (grownCap w (n + 1) c 58 - (n + 1)) := ⟨_, rfl⟩
  rw [← hROW] at hrun ⊢
  clear hold hsrc hi0 hzv hz0 hzs hzb hROW
  go_enter Try.func81, Try.ntmps81
  cases base with
  | none =>
    have h0 : n = 0 := by
      apply Classical.byContradiction
      intro h0
      obtain ⟨b, hb, -⟩ := hnil h0
      cases hb
    subst h0
    clear hnil
    go_wp2_with (at_builtin; refine Lib.wpList_append_run _ rfl _ _ _ _ rfl _ _ rfl rfl _ _ (hrun _) ?_)
    go_ret
    exact ⟨rfl, rfl⟩
  | some a =>
    clear hnil
    obtain ⟨ab, ao, asp⟩ := a
    go_wp2_with (at_builtin; refine Lib.wpList_append_run _ rfl _ _ _ _ rfl _ _ rfl rfl _ _ (hrun _) ?_)
    all_goals (go_ret; exact ⟨rfl, rfl⟩)

set_option maxHeartbeats 4000000 in
set_option maxRecDepth 100000 in
theorem insT_shift (b n c i vb vc kA : Nat) (cs vs : List Value) (w : World) (hi : i < n) (hroom : n + 1 ≤ c) (hc63 : c ≤ 9223372036854775807) (hvb : vb ≠ b)
    (hcl : cs.length = n * 3) (hvl : vs.length = 3)
    (hcs : ∀ k v, cs[k]? = some v → w.cell? ⟨b, k, none⟩ = some v) (hsp : ∀ k, k < c * 3 → (w.cell? ⟨b, k, none⟩).isSome = true) (hfz : ∀ k, k < c * 3 → w.frozen? ⟨b, k, none⟩ = false)
    (hvs : ∀ k v, vs[k]? = some v → w.cell? ⟨vb, k, none⟩ = some v) (h1c : ∀ v ∈ cs, v.oneCell' = true) (h1v : ∀ v ∈ vs, v.oneCell' = true)
    (tA tB : TypeId) (hsa : w.shape? vb = some (tA, kA)) (hsb : w.shape? b = some (tB, c * 3)) (hfa : w.frozen? ⟨vb, 0, none⟩ = false) (hfe : w.frozen? ⟨vb, kA, none⟩ = false) :
    Calls Try.prog 81 #[.slice (some ⟨b, 0, none⟩) n c, .int .i64 i, .slice (some ⟨vb, 0, none⟩) 1 vc] w fun e w' =>
      e = .returned (.slice (some ⟨b, 0, none⟩) (n + 1) c) ∧ w' = (w.drew.setCells b ((i + 1) * 3) (cs.drop (i * 3))).setCells b (i * 3) vs := by
  have mixed : Try.prog.follows .mixedOrders = true := by kernel_rfl
  have hz2 : ¬ ((i : Int) = (n : Int)) := by omega
  have hsz : (Try.prog.info? 58).map (·.size) = some 3 := by kernel_rfl
  have hov : ∀ lb cb, (callFunc 114 #[.slice (some ⟨vb, 0, none⟩) 1 vc, .slice (some ⟨b, (i + 1) * 3, none⟩) lb cb]).run Try.prog w = .ok (.value (.bool false)) w := fun lb cb => by
    rw [run_callFunc_extern Try.func114 (by kernel_rfl) (by kernel_rfl) (by kernel_rfl) (e := Extern.SlicesOverlaps.overlaps #[24, 24] #[4]) (by kernel_rfl),
      Lib.run_overlaps_apart w 24 4 58 Try.underlying24 3 Try.sizeOf58 ⟨vb, 0, none⟩ ⟨b, (i + 1) * 3, none⟩ 1 vc lb cb hvb tA tB kA (c * 3) hsa hsb (by omega) hfa hfe]
    rfl
  have hdl : (cs.drop (i * 3)).length = (n - i) * 3 := by rw [List.length_drop, hcl]; omega
  have hw1 : IntKind.i64.wrap ((i : Int) + 1) = (i : Int) + 1 := by rw [IntKind.wrap_i64]; omega
  have hb1 : (0 : Int) ≤ (i : Int) + 1 := by omega
  have hin : i ≤ n := by omega
  have htn : ((i : Int) + 1).toNat = i + 1 := by omega
  have hb2 : ¬ (c = i + 1) := by omega
  have hb3 : (i : Int) ≤ (n : Int) + 1 := by omega
  have hb4 : ¬ (c = i) := by omega
  have hb5 : i + 1 ≤ c := by omega
  have hb6 : i ≤ c := by omega
  have hcp1 : ∀ ty dc sc, (Builtin.copy_ #[24, 24] ty #[.slice (some ⟨b, (i + 1) * 3, none⟩) (n - i) dc, .slice (some ⟨b, i * 3, none⟩) (n + 1 - i) sc]).run Try.prog w.drew = .ok (goInt (Nat.min (n + 1 - i) (n - i))) (w.drew.setCells b ((i + 1) * 3) (cs.drop (i * 3))) := fun ty dc sc =>
    Al.run_copy_z w.drew _ _ ty 58 3 b ((i + 1) * 3) (n - i) dc ⟨b, i * 3, none⟩ (n + 1 - i) sc (cs.drop (i * 3)) Try.underlying24 hsz (by rw [hdl]; simp only [Nat.min_def]; split <;> omega)
      (fun k v hk => by rw [Al.add00]; exact hcs (i * 3 + k) v (by rwa [List.getElem?_drop] at hk))
      (fun k hk => hsp _ (by omega)) (fun k hk => hfz _ (by omega)) (fun v hv => h1c v (List.mem_of_mem_drop hv))
  obtain ⟨W1, hW1⟩ : ∃ W1, W1 = w.drew.setCells b ((i + 1) * 3) (cs.drop (i * 3)) := ⟨_, rfl⟩
  have hsp1 : ∀ k, k < c * 3 → (W1.cell? ⟨b, k, none⟩).isSome = true := fun k hk => by
    rw [hW1]
    exact isSome_setCells b (cs.drop (i * 3)) ((i + 1) * 3) w.drew (fun j hj => hsp _ (by rw [hdl] at hj; omega)) k (hsp k hk)
  have hcp2 : ∀ (W : World), (∀ x, W.cell? x = W1.cell? x) → (∀ x, W.frozen? x = W1.frozen? x) → ∀ ty dc, (Builtin.copy_ #[24, 24] ty #[.slice (some ⟨b, i * 3, none⟩) (n + 1 - i) dc, .slice (some ⟨vb, 0, none⟩) 1 vc]).run Try.prog W = .ok (goInt (Nat.min 1 (n + 1 - i))) (W.setCells b (i * 3) vs) := fun W hWc hWf ty dc =>
    Al.run_copy_z W _ _ ty 58 3 b (i * 3) (n + 1 - i) dc ⟨vb, 0, none⟩ 1 vc vs Try.underlying24 hsz (by rw [hvl]; simp only [Nat.min_def]; split <;> omega)
      (fun k v hk => by
        rw [Al.add0, hWc, hW1, World.cell?_setCells_out b _ _ _ _ (fun h _ => absurd h hvb)]
        exact hvs k v hk)
      (fun k hk => by rw [hWc]; exact hsp1 _ (by omega)) (fun k hk => by rw [hWf, hW1, World.frozen?_setCells]; exact hfz _ (by omega)) h1v
  rw [← hW1] at hcp1
  have hX : Hid (W1 = w.drew.setCells b ((i + 1) * 3) (cs.drop (i * 3))) := hW1
  clear hW1 hsp hfz hcs hvs h1c h1v hsp1 hsa hsb hfa hfe hdl hsz
  go_enter Try.func81, Try.ntmps81
  go_wp2_with (simp only [hov])
  go_region_law_o (refine step_copy_runI rfl _ _ 24 24 rfl _ _ (by simp [Act.eval, Act.put]) (by simp [Act.eval, Act.put]) (hcp1 _ _ _) ?_)
  go_wp2_with (at_builtin; refine wpList_copy_runI _ rfl _ _ 24 24 rfl _ _ rfl rfl (hcp2 _ (fun _ => rfl) (fun _ => rfl) _ _) ?_)
  go_ret
  exact ⟨rfl, by rw [← hX.out]⟩

set_option maxHeartbeats 4000000 in
set_option maxRecDepth 100000 in
theorem insT_grow (b n c i vb vc : Nat) (cs vs : List Value) (w : World) (hi : i < n) (hnc : n ≤ c) (hroom : c < n + 1) (hbig : (n + 1) * 32 ≤ 140737488355328)
    (hcl : cs.length = n * 3) (hvl : vs.length = 3)
    (hcs : ∀ k v, cs[k]? = some v → w.cell? ⟨b, k, none⟩ = some v)
    (hvs : ∀ k v, vs[k]? = some v → w.cell? ⟨vb, k, none⟩ = some v) (h1c : ∀ v ∈ cs, v.oneCell' = true) (h1v : ∀ v ∈ vs, v.oneCell' = true) (hbw : b < w.heap.size) (hvw : vb < w.heap.size)
    (zv : Value) (hzv : (Try.prog.info? 58).bind (·.zero) = some zv) :
    Calls Try.prog 81 #[.slice (some ⟨b, 0, none⟩) n c, .int .i64 i, .slice (some ⟨vb, 0, none⟩) 1 vc] w fun e w' =>
      e = .returned (.slice (some ⟨w.heap.size, 0, none⟩) (n + 1) (grownCap w (n + 1) c 58)) ∧
      w' = (((w.alloc (.cells ((cs.take (i * 3)).toArray ++ Builtin.zeroCells zv.cells (n + 1 - i) ++ Builtin.zeroCells zv.cells (grownCap w (n + 1) c 58 - (n + 1))) 58)).drew.setCells w.heap.size (i * 3) vs).drew).setCells w.heap.size ((i + 1) * 3) (cs.drop (i * 3)) := by
  have mixed : Try.prog.follows .mixedOrders = true := by kernel_rfl
  obtain ⟨i0, hi0, hii⟩ := Option.map_eq_some_iff.1 insI
  simp only [Prod.mk.injEq] at hii
  obtain ⟨hzs, hzb, -, hzc⟩ := hii
  have hz0 : i0.zero = some zv := by rw [hi0] at hzv; exact hzv
  have hzc2 : zv.cells.size = 3 := by rw [hz0] at hzc; simpa using hzc
  have hz2 : ¬ ((i : Int) = (n : Int)) := by omega
  have hz3 : (c : Int) < (n : Int) + 1 := by omega
  have hsz : (Try.prog.info? 58).map (·.size) = some 3 := by kernel_rfl
  have hkk : (n : Int) + 1 - (i : Int) = ((n + 1 - i : Nat) : Int) := by omega
  have hik : i + (n + 1 - i) = n + 1 := by omega
  have hold : (Builtin.firstCells i0.size i (.slice (some ⟨b, 0, none⟩) i c)).run Try.prog w.drew = .ok (cs.take (i * 3)).toArray w.drew := by
    rw [hzs]
    exact run_firstCells_some w.drew 3 i ⟨b, 0, none⟩ i c (cs.take (i * 3)) (by rw [List.length_take]; omega) (fun j v hj => by
      rw [Al.add0]
      rw [List.getElem?_take] at hj
      split at hj
      · exact hcs j v hj
      · cases hj)
  have hrz : ∀ ty, (Builtin.append_ #[24, 3] ty #[.slice (some ⟨b, 0, none⟩) i c, .int .i64 ((n : Int) + 1 - (i : Int))]).run Try.prog w =
      .ok (.slice (some ⟨w.heap.size, 0, none⟩) (n + 1) (grownCap w (n + 1) c 58)) (w.drew.alloc (.cells ((cs.take (i * 3)).toArray ++ Builtin.zeroCells zv.cells (n + 1 - i) ++ Builtin.zeroCells zv.cells (grownCap w (n + 1) c 58 - (n + 1))) 58)) := fun ty => by
    have h := Lib.run_append_grow_zeros w 24 3 ty 58 i0 _ .i64 .i64 Try.underlying24 Try.underlying3 hi0 hz0 (some ⟨b, 0, none⟩) i c (cs.take (i * 3)) hold (n + 1 - i) (by omega) (by omega) (by omega) (by omega) (by rw [hzb]; omega) (by rw [hzb, hik]; exact growslice_fits hroom hbig)
    rw [hik] at h
    rw [hkk]
    exact h
  obtain ⟨G, hG⟩ : ∃ G, G = grownCap w (n + 1) c 58 := ⟨_, rfl⟩
  obtain ⟨ROW, hROW⟩ : ∃ ROW : Array Value, ROW = (cs.take (i * 3)).toArray ++ Builtin.zeroCells zv.cells (n + 1 - i) ++ Builtin.zeroCells zv.cells (G - (n + 1)) := ⟨_, rfl⟩
  rw [← hG] at hrz ⊢
  rw [← hROW] at hrz ⊢
  have hGn : n + 1 ≤ G := by rw [hG]; exact grownCap_ge w _ _ _
  have hG63 : G ≤ 9223372036854775807 := by
    have := grownCap_le_maxLen w (n + 1) c 58 (by unfold maxLen; omega)
    rw [← hG] at this
    unfold maxLen at this
    omega
  have hRl : (n + 1) * 3 ≤ ROW.size := by
    rw [hROW]
    simp only [Array.size_append, List.size_toArray, List.length_take, Builtin.zeroCells, Array.size_map, Array.size_range, hzc2, hcl]
    omega
  obtain ⟨W1, hW1⟩ : ∃ W1, W1 = w.drew.alloc (.cells ROW 58) := ⟨_, rfl⟩
  rw [← hW1] at hrz
  have hN : ∀ j, j < (n + 1) * 3 → (W1.cell? ⟨w.heap.size, j, none⟩).isSome = true := fun j hj => by
    rw [hW1, World.cell?_alloc_at (w := w.drew) ROW _ w.heap.size j rfl, Array.getElem?_eq_getElem (by omega)]; rfl
  have hNf : ∀ j, W1.frozen? ⟨w.heap.size, j, none⟩ = false := fun j => by rw [hW1]; exact World.frozen?_alloc_at (w := w.drew) ROW _ w.heap.size j rfl
  have hOb : ∀ j v, w.cell? ⟨b, j, none⟩ = some v → W1.cell? ⟨b, j, none⟩ = some v := fun j v h => by rw [hW1, World.cell?_alloc_past (w := w.drew) _ b j hbw]; exact h
  have hOv : ∀ j v, w.cell? ⟨vb, j, none⟩ = some v → W1.cell? ⟨vb, j, none⟩ = some v := fun j v h => by rw [hW1, World.cell?_alloc_past (w := w.drew) _ vb j hvw]; exact h
  have hcpA : ∀ (W : World), (∀ x, W.cell? x = W1.cell? x) → (∀ x, W.frozen? x = W1.frozen? x) → ∀ ty dc, (Builtin.copy_ #[24, 24] ty #[.slice (some ⟨w.heap.size, i * 3, none⟩) (n + 1 - i) dc, .slice (some ⟨vb, 0, none⟩) 1 vc]).run Try.prog W = .ok (goInt (Nat.min 1 (n + 1 - i))) (W.setCells w.heap.size (i * 3) vs) := fun W hWc hWf ty dc =>
    Al.run_copy_z W _ _ ty 58 3 w.heap.size (i * 3) (n + 1 - i) dc ⟨vb, 0, none⟩ 1 vc vs Try.underlying24 hsz (by rw [hvl]; simp only [Nat.min_def]; split <;> omega)
      (fun j v hj => by rw [Al.add0, hWc]; exact hOv _ v (hvs j v hj))
      (fun j hj => by rw [hWc]; exact hN _ (by omega)) (fun j hj => by rw [hWf]; exact hNf _) h1v
  have hGi : ¬ (G = i) := by omega
  have hGim : ¬ (G = i + 1) := by omega
  have hci : ¬ (c = i) := by omega
  have hbN : b ≠ w.heap.size := by omega
  have hdl : (cs.drop (i * 3)).length = (n - i) * 3 := by rw [List.length_drop, hcl]; omega
  have hcpB : ∀ (W : World), (∀ x, W.cell? x = (W1.setCells w.heap.size (i * 3) vs).cell? x) → (∀ x, W.frozen? x = (W1.setCells w.heap.size (i * 3) vs).frozen? x) → ∀ ty dc sc, (Builtin.copy_ #[24, 24] ty #[.slice (some ⟨w.heap.size, (i + 1) * 3, none⟩) (n - i) dc, .slice (some ⟨b, i * 3, none⟩) (n - i) sc]).run Try.prog W = .ok (goInt (Nat.min (n - i) (n - i))) (W.setCells w.heap.size ((i + 1) * 3) (cs.drop (i * 3))) := fun W hWc hWf ty dc sc =>
    Al.run_copy_z W _ _ ty 58 3 w.heap.size ((i + 1) * 3) (n - i) dc ⟨b, i * 3, none⟩ (n - i) sc (cs.drop (i * 3)) Try.underlying24 hsz (by rw [hdl]; simp only [Nat.min_def]; split <;> omega)
      (fun j v hj => by
        rw [Al.add00, hWc, World.cell?_setCells_out _ _ _ _ _ (fun h _ => absurd h hbN)]
        exact hOb _ v (hcs (i * 3 + j) v (by rwa [List.getElem?_drop] at hj)))
      (fun j hj => by rw [hWc]; exact isSome_setCells _ _ _ _ (fun t ht => hN _ (by omega)) _ (hN _ (by omega)))
      (fun j hj => by rw [hWf, World.frozen?_setCells]; exact hNf _) (fun v hv => h1c v (List.mem_of_mem_drop hv))
  subst hW1
  have hE1 : ∀ x, ((w.alloc (.cells ROW 58)).drew).cell? x = (w.drew.alloc (.cells ROW 58)).cell? x := fun x => rfl
  have hE2 : ∀ x, ((w.alloc (.cells ROW 58)).drew).frozen? x = (w.drew.alloc (.cells ROW 58)).frozen? x := fun x => rfl
  have hF1 : ∀ x, (((w.alloc (.cells ROW 58)).drew.setCells w.heap.size (i * 3) vs).drew).cell? x = ((w.drew.alloc (.cells ROW 58)).setCells w.heap.size (i * 3) vs).cell? x := fun x => rfl
  have hF2 : ∀ x, (((w.alloc (.cells ROW 58)).drew.setCells w.heap.size (i * 3) vs).drew).frozen? x = ((w.drew.alloc (.cells ROW 58)).setCells w.heap.size (i * 3) vs).frozen? x := fun x => rfl
  have hw1 : IntKind.i64.wrap ((i : Int) + 1) = (i : Int) + 1 := by rw [IntKind.wrap_i64]; omega
  have hb1 : (0 : Int) ≤ (i : Int) + 1 := by omega
  have hin : i ≤ n := by omega
  have htn : ((i : Int) + 1).toNat = i + 1 := by omega
  have hb3 : (i : Int) ≤ (n : Int) := by omega
  have hb4 : i ≤ c := by omega
  have hb5 : i ≤ G := by omega
  have hb6 : i + 1 ≤ G := by omega
  clear hkk hik hold hROW hG hRl hi0 hzv hz0 hzs hzb hzc hzc2 hsz hN hNf hOb hOv hcs hvs h1c h1v
  go_enter Try.func81, Try.ntmps81
  go_wp2_with (first
    | (at_builtin; refine Lib.wpList_append_run _ rfl _ _ _ _ rfl _ _ rfl rfl _ _ (hrz _) ?_)
    | (at_builtin; refine wpList_copy_runI _ rfl _ _ 24 24 rfl _ _ rfl rfl (hcpA _ hE1 hE2 _ _) ?_)
    | (at_builtin; refine wpList_copy_runI _ rfl _ _ 24 24 rfl _ _ rfl rfl (hcpB _ (fun _ => rfl) (fun _ => rfl) _ _ _) ?_))
  go_region_law_o (refine step_copy_runI rfl _ _ 24 24 rfl (.slice (some ⟨w.heap.size, (i + 1) * 3, none⟩) (n - i) (G - (i + 1))) (.slice (some ⟨b, i * 3, none⟩) (n - i) (c - i)) (by simp [Act.eval, Act.put]) (by simp [Act.eval, Act.put]) (hcpB _ hF1 hF2 3 (G - (i + 1)) (c - i)) ?_)
  go_wp2
  go_ret
  exact ⟨rfl, rfl⟩

theorem insS : ∃ zv, Al.InsSpec Try.prog 81 3 32 58 zv := by
  obtain ⟨i0, hi0, hii⟩ := Option.map_eq_some_iff.1 insI
  simp only [Prod.mk.injEq] at hii
  obtain ⟨zv, hz⟩ := Option.isSome_iff_exists.1 hii.2.2.1
  have hzv : (Try.prog.info? 58).bind (·.zero) = some zv := by rw [hi0]; exact hz
  exact ⟨zv, ⟨by have := hii.2.2.2; rw [hz] at this; simpa using this, insT_room, fun base n c vb vc cs vs w h1 h2 h3 h4 h5 h6 h7 h8 => insT_end base n c vb vc cs vs w h1 h2 h3 h4 h5 h6 h7 h8 zv hzv, insT_shift,
    fun b n c i vb vc cs vs w h1 h2 h3 h4 h5 h6 h7 h8 h9 h10 h11 h12 => insT_grow b n c i vb vc cs vs w h1 h2 h3 h4 h5 h6 h7 h8 h9 h10 h11 h12 zv hzv⟩⟩
end Go.AlW.slices_Insert_impl_Name_s19f7
namespace Go.Al
open Go.Proofs
namespace slices_Insert_impl_Name_s19f7
noncomputable def F (a1 : Int) (a2 a3 : Vec (ByteArray × Int × Int)) : Option (Vec (ByteArray × Int × Int)) := sel (decide (0 ≤ a1 ∧ a1 ≤ (a2.n : Int) ∧ a3.n = 1 ∧ (a2.n + 1) * (32 + 1) ≤ maxN)) (some (Vec.ins a2 a1 a3)) none
def encA (t : Int × (Vec (ByteArray × Int × Int)) × (Vec (ByteArray × Int × Int))) : List AV × List Ob := ([.c (.h 0), vi t.1, .c (.h 1)], [ro t.2.1, ro t.2.2])
def encR (x : Vec (ByteArray × Int × Int)) : AV × List Ob := (.c (.h 0), [.row 3 (encRw x) [], .none])
theorem encAI : ∀ a b, encA a = encA b → a = b := by
  intro a b h
  obtain ⟨a0, a1, a2⟩ := a
  obtain ⟨b0, b1, b2⟩ := b
  simp [encA, encRw_iff] at h
  simp_all
noncomputable def Q (args : List AV) (hin : List Ob) : Option (Vec (ByteArray × Int × Int)) := ofC encA (fun t => F t.1 t.2.1 t.2.2) (args, hin)
theorem wrap : (fun (y1 : Int) (y2 : Vec (ByteArray × Int × Int)) (y3 : Vec (ByteArray × Int × Int)) => Q [.c (.h 0), vi y1, .c (.h 1)] [ro y2, ro y3]) = F := by
  funext y1 y2 y3
  exact ofC_enc encAI _ (y1, y2, y3)
theorem ac (args : List AV) (hin : List Ob) (x : Vec (ByteArray × Int × Int)) (h : Q args hin = some x) : AC Try.prog 81 args hin false [false, false] fun rv obs => (rv, obs) = encR x := by
  obtain ⟨t, he, h2⟩ := ofC_some h
  obtain rfl : args = (encA t).1 := (congrArg Prod.fst he).symm
  obtain rfl : hin = (encA t).2 := (congrArg Prod.snd he).symm
  rcases sel_cases h2 with ⟨hb, h3⟩ | ⟨-, h3⟩
  · simp only [Option.some.injEq] at h3
    subst h3
    have hb := of_decide_eq_true hb
    obtain ⟨zv, hs⟩ := AlW.slices_Insert_impl_Name_s19f7.insS
    have hm := AC.ins Try.func81 (by kernel_rfl) (by kernel_rfl) (show InsSpec Try.prog 81 (Enc.sz (ByteArray × Int × Int)) 32 58 zv from hs) (by decide) hb
    refine AC.flat hm fun rv obs e => ?_
    obtain rfl : rv = .c (.h 0) := congrArg Prod.fst e
    obtain rfl : obs = [Go.Al.rw (Vec.ins t.2.1 t.1 t.2.2), .none] := congrArg Prod.snd e
    refine ⟨by simp [AV.Flat, K.Flat, C.Flat], ?_⟩
    intro o ho
    simp only [List.mem_cons, List.not_mem_nil, or_false] at ho
    rcases ho with rfl | rfl
    · exact flat_rw rfl _
    · simp [Ob.Flat, C.Flat, N.Flat]
  · cases h3
end slices_Insert_impl_Name_s19f7
/-! loop.example/g00073/impl.insertName -/
namespace impl_insertName_s2b2c
noncomputable def B0 {ρ : Type} (v1 : Int) (v2 : Vec YN) (v3 : ByteArray) (v4 : Int) (v5 : Int) (W : Int → YVN → ByteArray → Int → Int → Option ρ) (K0 : Int → YVN → ByteArray → Int → Int → Option ρ) : Option ρ :=
  sel (decide (v1 < (v2.n : Int))) (chk (decide (0 ≤ v1 ∧ v1 < (v2.n : Int))) (chk (decide (v1.toNat < v2.n)) (sel (decide (((v2.g v1.toNat).1).toList < v3.toList)) (W (wr (v1 + (1 : Int))) v2 v3 v4 v5) (K0 v1 v2 v3 v4 v5)))) (K0 v1 v2 v3 v4 v5)
noncomputable def F0 {ρ : Type} : Nat → Int → YVN → ByteArray → Int → Int → (Int → YVN → ByteArray → Int → Int → Option ρ) → Option ρ
  | 0, _, _, _, _, _, _ => none
  | k + 1, v1, v2, v3, v4, v5, K0 => B0 v1 v2 v3 v4 v5 (fun v1' v2' v3' v4' v5' => F0 k v1' v2' v3' v4' v5' K0) K0
noncomputable def B {ρ : Type} (C0 : Int → YVN → YVN → Option YVN) (L0 : Int → YVN → ByteArray → Int → Int → (Int → YVN → ByteArray → Int → Int → Option ρ) → Option ρ) (a1 : ByteArray) (a2 : Int) (a3 : Int) (a4 : Vec YN) (K : YVN → Option ρ) : Option ρ :=
  L0 (0 : Int) a4 a1 a2 a3 (fun e01 e02 e03 e04 e05 => (C0 e01 e02 (Vec.lit [(e03, e04, e05)] : Vec YN)).bind fun r1 => K r1)
noncomputable def F (a1 : ByteArray) (a2 : Int) (a3 : Int) (a4 : Vec YN) : Option YVN := B slices_Insert_impl_Name_s19f7.F (F0 fuelN) a1 a2 a3 a4 (fun x1 => some (x1))
def encA (t : ByteArray × Int × Int × YVN) : LA × LO := ([.c (.h 0), .a [cs t.1, ci t.2.1, ci t.2.2.1]], [ro t.2.2.2])
def encR (x : Vec YN) : AV × LO := (.c (.h 0), [ro x])
theorem encAI (a b) (h : encA a = encA b) : a = b := by simp [encA, encRw_iff] at h; simp [Prod.ext_iff, h]
theorem encRI (a b) (h : encR a = encR b) : a = b := by simpa [encR, encRw_iff] using h
noncomputable def Q (args : LA) (hin : LO) : Option YVN := ofC encA (un4 F) (args, hin)
theorem wrap : F = fun y1 y2 y3 y4 => Q [.c (.h 0), .a [cs y1, ci y2, ci y3]] [ro y4] := by funext y1 y2 y3 y4; exact Eq.symm (ofC_enc encAI _ (y1, y2, y3, y4))
noncomputable abbrev O (Q0 : LA → LO → Option YVN) : Orc := mkO [] [eE Try.prog 81 [true, false, true] false [false, false] slices_Insert_impl_Name_s19f7.encR Q0] []
noncomputable def c0 : Code := loopC (atomN [] 0 (bodyOf Try.f45) 0)
def ct0 : Cut := ⟨[0, 3, 5], []⟩
def lv0 : Exit → Cut
  | .exit 0 => ⟨[0, 3, 5], []⟩
  | _ => ⟨[], []⟩
def k0_0 {ρ : Type} (K : Exit → St → Option ρ) (z1 : Int) (z2 : Vec YN) (z3 : ByteArray) (z4 : Int) (z5 : Int) : Option ρ := K (.exit 0) (mkS 27 (lv0 (.exit 0)).live [.c (.h 0), .c (.p 1 0), vi z1] [ro z2, .box [cs z3, ci z4, ci z5]] [false])
noncomputable def L (W0 : (ρ : Type) → LA → LO → (Int → YVN → ByteArray → Int → Int → Option ρ) → Option ρ) : Lor := fun ρ j st K => sel (Nat.beq j 0) (cutO Try.prog 27 ct0.live 1 [false] ct0.cmds st fun avs obs => W0 ρ avs obs (k0_0 K)) (Option.none)
theorem step0 {Q0 W0} {ρ : Type} {K : Exit → St → Option ρ} {W : LA → LO → Option ρ} {v1 v2 v3 v4 v5} : exC Try.prog (O Q0) (L W0) [] 1 c0 (mkS 27 ct0.live [.c (.h 0), .c (.p 1 0), vi v1] [ro v2, .box [cs v3, ci v4, ci v5]] [false]) (bodyK Try.prog 27 1 [false] ct0 W lv0 K) =
    B0 v1 v2 v3 v4 v5 (fun u1 u2 u3 u4 u5 => W [.c (.h 0), .c (.p 1 0), vi u1] [ro u2, .box [cs u3, ci u4, ci u5]]) (k0_0 K) := by kernel_rfl
def enc0 (t : Int × YVN × ByteArray × Int × Int) : LA × LO := ([.c (.h 0), .c (.p 1 0), vi t.1], [ro t.2.1, .box [cs t.2.2.1, ci t.2.2.2.1, ci t.2.2.2.2]])
theorem enc0I (a b) (h : enc0 a = enc0 b) : a = b := by simp [enc0, encRw_iff] at h; simp [Prod.ext_iff, h]
noncomputable def V0 : (ρ : Type) → LA → LO → (Int → YVN → ByteArray → Int → Int → Option ρ) → Option ρ := fun ρ avs obs k0 => ofC enc0 (fun t => un5 (F0 fuelN) t k0) (avs, obs)
theorem V0_enc (ρ : Type) : F0 fuelN = fun w1 w2 w3 w4 w5 k0 => V0 ρ [.c (.h 0), .c (.p 1 0), vi w1] [ro w2, .box [cs w3, ci w4, ci w5]] k0 := by funext w1 w2 w3 w4 w5 k0; exact Eq.symm (ofC_enc enc0I _ (w1, w2, w3, w4, w5))
theorem main {Q0 W0} {ρ : Type} {K : AV → LO → Option ρ} {a1 a2 a3 a4} : exC Try.prog (O Q0) (L W0) [] 0 (bodyOf Try.f45) (entry 27 [.c (.h 0), .a [cs a1, ci a2, ci a3]] [ro a4] [false]) (finO Try.prog Try.f45.results.toList 1 [false] [] K) =
    B (fun y1 y2 y3 => Q0 [.c (.h 0), vi y1, .c (.h 1)] [ro y2, ro y3]) (fun w1 w2 w3 w4 w5 k0 => W0 ρ [.c (.h 0), .c (.p 1 0), vi w1] [ro w2, .box [cs w3, ci w4, ci w5]] k0) a1 a2 a3 a4 (fun x1 => K (.c (.h 0)) [ro x1]) := by kernel_rfl
theorem Gok : (O slices_Insert_impl_Name_s19f7.Q).ok Try.prog := mkO_ok (by exact trivial) (by exact ⟨eE_ok (fun h => by cases h) slices_Insert_impl_Name_s19f7.ac, trivial⟩)
theorem ok0 : OkL Try.prog (L V0) 0 (.loop c0) := fun ρ st K r h => loop_ok (ct := ct0) (lv := lv0) (L := (L V0)) Gok hmT (by rw [show atomsL [] 1 c0 = [] by kernel_rfl]; exact Lor.ok_nil _ _) enc0I (fun k t => un5 (F0 k) t (k0_0 K)) (fun t => rfl) (fun k t => by refine step0.trans ?_; exact congrFun (congrArg (B0 _ _ _ _ _) (fx5 fun t => ofC_enc enc0I _ t)) _) (fun _ => fuelN) h
theorem e : atomsL [] 0 (bodyOf Try.f45) = [(0, 0, .loop c0)] := by kernel_rfl
theorem acc : ∀ t x, un4 F t = some x → ACc Try.prog 45 (encA t).1 (encA t).2 true [false] fun rv obs => (rv, obs) = encR x := accT2 (T := ByteArray × Int × Int × YVN) (F := un4 F) (L := (L V0)) (cmds := []) (body := (bodyOf Try.f45)) 1 (fun _ => rfl) Gok hmT Try.func45 (by kernel_rfl) (by kernel_rfl) (by rw [e]; exact Lor.ok_cons ok0 (Lor.ok_nil _ _)) (fun t => by refine main.trans ?_; rw [slices_Insert_impl_Name_s19f7.wrap, ← V0_enc]; exact congrArg (B _ _ _ _ _ _) (fx1 fun t => ofC_enc encRI some t))
theorem ac : ∀ a h x, Q a h = some x → AC Try.prog 45 a h false [false] fun rv obs => (rv, obs) = encR x := acF2 (body := (bodyOf Try.f45)) Try.func45 (by kernel_rfl) (by kernel_rfl) acc fun x => ⟨by simp [encR, AV.Flat, K.Flat, C.Flat], flc (flat_rw rfl _) (fl0)⟩
end impl_insertName_s2b2c
/-! loop.example/g00073/impl.MoveName -/
namespace impl_MoveName
noncomputable def B {ρ : Type} (C0 : YVN → ByteArray → Option Int) (C1 : YVN → Option YVN) (C2 : Int → YVN → Option YVN) (C3 : ByteArray → Int → Int → YVN → Option YVN) (C4 : YVN → Option Bool) (a1 : Vec YN) (a2 : ByteArray) (a3 : ByteArray) (K : Bool → YVN → Option ρ) : Option ρ :=
  (C0 a1 a2).bind fun r1 => sel (decide (r1 < (0 : Int))) (K false (Vec.nil : Vec YN)) (chk (decide (0 ≤ r1 ∧ r1 < (a1.n : Int))) ((C1 a1).bind fun r2 => (C2 r1 r2).bind fun r3 => (C3 a3 ((a1.g r1.toNat).2.1) ((a1.g r1.toNat).2.2) r3).bind fun r4 => (C4 r4).bind fun r5 => sel ((!r5)) (K false (Vec.nil : Vec YN)) (K true r4)))
noncomputable def F (a1 : Vec YN) (a2 : ByteArray) (a3 : ByteArray) : Option (Bool × YVN) := B impl_ByPath.F slices_Clone_impl_Name.F impl_dropName_s0773.F impl_insertName_s2b2c.F impl_NamesOk.F a1 a2 a3 (fun x1 x2 => some (x1, x2))
def encA (t : YVN × ByteArray × ByteArray) : LA := [vl t.1, vs t.2.1, vs t.2.2]
def encR (x : Bool × YVN) : AV × LO := (.tup [.c (.h 0), .c (cb x.1)], [ro x.2])
theorem encAI (a b) (h : encA a = encA b) : a = b := by simp [encA, encRw_iff] at h; simp [Prod.ext_iff, h]
theorem encRI (a b) (h : encR a = encR b) : a = b := by simp [encR, encRw_iff] at h; simp [Prod.ext_iff, h]
noncomputable def Q (args : LA) : Option (Bool × YVN) := ofC encA (un3 F) args
theorem wrap : F = fun y1 y2 y3 => Q [vl y1, vs y2, vs y3] := by funext y1 y2 y3; exact Eq.symm (ofC_enc encAI _ (y1, y2, y3))
noncomputable abbrev O (Q0 : LA → Option Int) (Q1 : LA → Option YVN) (Q4 : LA → Option Bool) (Q2 : LA → LO → Option YVN) (Q3 : LA → LO → Option YVN) : Orc := mkO [qE 31 false impl_ByPath.encR Q0, qE 47 false slices_Clone_impl_Name.encR Q1, qE 32 false impl_NamesOk.encR Q4] [eE Try.prog 46 [true, false] false [false] impl_dropName_s0773.encR Q2, eE Try.prog 45 [true, false] false [false] impl_insertName_s2b2c.encR Q3] []
noncomputable def L : Lor := fun _ _ _ _ => Option.none
theorem main {Q0 Q1 Q2 Q3 Q4} {ρ : Type} {K : AV → LO → Option ρ} {a1 a2 a3} : exC Try.prog (O Q0 Q1 Q4 Q2 Q3) L [] 0 (bodyOf Try.f11) (entry 32 [vl a1, vs a2, vs a3] [] []) (finO Try.prog Try.f11.results.toList 0 [] [.ad (.s 6) 24] K) =
    B (fun y1 y2 => Q0 [vl y1, vs y2]) (fun y1 => Q1 [vl y1]) (fun y1 y2 => Q2 [.c (.h 0), vi y1] [ro y2]) (fun y1 y2 y3 y4 => Q3 [.c (.h 0), .a [cs y1, ci y2, ci y3]] [ro y4]) (fun y1 => Q4 [vl y1]) a1 a2 a3 (fun x1 x2 => K (.tup [.c (.h 0), .c (cb x1)]) [ro x2]) := by kernel_rfl
theorem Gok : (O impl_ByPath.Q slices_Clone_impl_Name.Q impl_NamesOk.Q impl_dropName_s0773.Q impl_insertName_s2b2c.Q).ok Try.prog := mkO_ok (by exact ⟨qE_ok impl_ByPath.ac, qE_ok slices_Clone_impl_Name.ac, qE_ok impl_NamesOk.ac, trivial⟩) (by exact ⟨eE_ok (fun h => by cases h) impl_dropName_s0773.ac, eE_ok (fun h => by cases h) impl_insertName_s2b2c.ac, trivial⟩)
theorem acc : ∀ t x, un3 F t = some x → ACc Try.prog 11 (encA t) [] true [] fun rv obs => (rv, obs) = encR x := accT (T := YVN × ByteArray × ByteArray) (F := un3 F) (L := L) (cmds := [.ad (.s 6) 24]) (body := (bodyOf Try.f11)) Gok hmT Try.func11 (by kernel_rfl) (by kernel_rfl) (by rw [show atomsL [] 0 (bodyOf Try.f11) = [] by kernel_rfl]; exact Lor.ok_nil _ _) (fun t => by refine main.trans ?_; rw [← impl_ByPath.wrap, slices_Clone_impl_Name.wrap, ← impl_dropName_s0773.wrap, ← impl_insertName_s2b2c.wrap, ← impl_NamesOk.wrap]; exact congrArg (B _ _ _ _ _ _ _ _) (fx2 fun t => ofC_enc encRI some t))
theorem ac : ∀ a x, Q a = some x → AC Try.prog 11 a [] false [] fun rv obs => (rv, obs) = encR x := acF (body := (bodyOf Try.f11)) Try.func11 (by kernel_rfl) (by kernel_rfl) acc fun x => ⟨by simp [encR, AV.Flat, K.Flat, C.Flat], flc (flat_rw rfl _) (fl0)⟩
end impl_MoveName
/-! loop.example/g00073/spec.PutName -/
namespace spec_PutName
noncomputable def B {ρ : Type} (C0 : YVN → Option Bool) (C1 : YVN → ByteArray → Int → Int → Option YVN) (a1 : Vec YN) (a2 : ByteArray) (a3 : Int) (a4 : Int) (K : Bool → YVN → Option ρ) : Option ρ :=
  (C0 a1).bind fun r1 => sel ((!r1)) (K false (Vec.nil : Vec YN)) ((C1 a1 a2 a3 a4).bind fun r2 => (C0 r2).bind fun r3 => sel ((!r3)) (K false (Vec.nil : Vec YN)) (K true r2))
noncomputable def F (a1 : Vec YN) (a2 : ByteArray) (a3 : Int) (a4 : Int) : Option (Bool × YVN) := B spec_NamesOk.F spec_l13Put.F a1 a2 a3 a4 (fun x1 x2 => some (x1, x2))
def encA (t : YVN × ByteArray × Int × Int) : LA := [vl t.1, .a [cs t.2.1, ci t.2.2.1, ci t.2.2.2]]
def encR (x : Bool × YVN) : AV × LO := (.tup [.c (.h 0), .c (cb x.1)], [ro x.2])
theorem encAI (a b) (h : encA a = encA b) : a = b := by simp [encA, encRw_iff] at h; simp [Prod.ext_iff, h]
theorem encRI (a b) (h : encR a = encR b) : a = b := by simp [encR, encRw_iff] at h; simp [Prod.ext_iff, h]
noncomputable def Q (args : LA) : Option (Bool × YVN) := ofC encA (un4 F) args
theorem wrap : F = fun y1 y2 y3 y4 => Q [vl y1, .a [cs y2, ci y3, ci y4]] := by funext y1 y2 y3 y4; exact Eq.symm (ofC_enc encAI _ (y1, y2, y3, y4))
noncomputable abbrev O (Q0 : LA → Option Bool) (Q1 : LA → Option YVN) : Orc := mkO [qE 28 false spec_NamesOk.encR Q0, qE 80 false spec_l13Put.encR Q1] [] []
noncomputable def L : Lor := fun _ _ _ _ => Option.none
theorem main {Q0 Q1} {ρ : Type} {K : AV → LO → Option ρ} {a1 a2 a3 a4} : exC Try.prog (O Q0 Q1) L [] 0 (bodyOf Try.f43) (entry 19 [vl a1, .a [cs a2, ci a3, ci a4]] [] []) (finO Try.prog Try.f43.results.toList 0 [] [.ad (.s 4) 24] K) =
    B (fun y1 => Q0 [vl y1]) (fun y1 y2 y3 y4 => Q1 [vl y1, .a [cs y2, ci y3, ci y4]]) a1 a2 a3 a4 (fun x1 x2 => K (.tup [.c (.h 0), .c (cb x1)]) [ro x2]) := by kernel_rfl
theorem Gok : (O spec_NamesOk.Q spec_l13Put.Q).ok Try.prog := mkO_ok (by exact ⟨qE_ok spec_NamesOk.ac, qE_ok spec_l13Put.ac, trivial⟩) (by exact trivial)
theorem acc : ∀ t x, un4 F t = some x → ACc Try.prog 43 (encA t) [] true [] fun rv obs => (rv, obs) = encR x := accT (T := YVN × ByteArray × Int × Int) (F := un4 F) (L := L) (cmds := [.ad (.s 4) 24]) (body := (bodyOf Try.f43)) Gok hmT Try.func43 (by kernel_rfl) (by kernel_rfl) (by rw [show atomsL [] 0 (bodyOf Try.f43) = [] by kernel_rfl]; exact Lor.ok_nil _ _) (fun t => by refine main.trans ?_; rw [← spec_NamesOk.wrap, ← spec_l13Put.wrap]; exact congrArg (B _ _ _ _ _ _) (fx2 fun t => ofC_enc encRI some t))
theorem ac : ∀ a x, Q a = some x → AC Try.prog 43 a [] false [] fun rv obs => (rv, obs) = encR x := acF (body := (bodyOf Try.f43)) Try.func43 (by kernel_rfl) (by kernel_rfl) acc fun x => ⟨by simp [encR, AV.Flat, K.Flat, C.Flat], flc (flat_rw rfl _) (fl0)⟩
end spec_PutName
/-! loop.example/g00073/spec.MoveName -/
namespace spec_MoveName
noncomputable def B {ρ : Type} (C0 : YVN → ByteArray → Option Int) (C1 : YVN → ByteArray → Int → Int → Option (Bool × YVN)) (a1 : Vec YN) (a2 : ByteArray) (a3 : ByteArray) (K : Bool → YVN → Option ρ) : Option ρ :=
  (C0 a1 a2).bind fun r1 => sel (decide (r1 < (0 : Int))) (K false (Vec.nil : Vec YN)) (chk (decide (0 ≤ r1 ∧ r1 < (a1.n : Int))) ((C1 a1 a3 ((a1.g r1.toNat).2.1) ((a1.g r1.toNat).2.2)).bind fun r2 => K r2.1 r2.2))
noncomputable def F (a1 : Vec YN) (a2 : ByteArray) (a3 : ByteArray) : Option (Bool × YVN) := B spec_ByPath.F spec_PutName.F a1 a2 a3 (fun x1 x2 => some (x1, x2))
def encA (t : YVN × ByteArray × ByteArray) : LA := [vl t.1, vs t.2.1, vs t.2.2]
def encR (x : Bool × YVN) : AV × LO := (.tup [.c (.h 0), .c (cb x.1)], [ro x.2])
theorem encAI (a b) (h : encA a = encA b) : a = b := by simp [encA, encRw_iff] at h; simp [Prod.ext_iff, h]
theorem encRI (a b) (h : encR a = encR b) : a = b := by simp [encR, encRw_iff] at h; simp [Prod.ext_iff, h]
noncomputable def Q (args : LA) : Option (Bool × YVN) := ofC encA (un3 F) args
theorem wrap : F = fun y1 y2 y3 => Q [vl y1, vs y2, vs y3] := by funext y1 y2 y3; exact Eq.symm (ofC_enc encAI _ (y1, y2, y3))
noncomputable abbrev O (Q0 : LA → Option Int) (Q1 : LA → Option (Bool × YVN)) : Orc := mkO [qE 42 false spec_ByPath.encR Q0, qE 43 false spec_PutName.encR Q1] [] []
noncomputable def L : Lor := fun _ _ _ _ => Option.none
theorem main {Q0 Q1} {ρ : Type} {K : AV → LO → Option ρ} {a1 a2 a3} : exC Try.prog (O Q0 Q1) L [] 0 (bodyOf Try.f9) (entry 27 [vl a1, vs a2, vs a3] [] []) (finO Try.prog Try.f9.results.toList 0 [] [.ad (.s 6) 24] K) =
    B (fun y1 y2 => Q0 [vl y1, vs y2]) (fun y1 y2 y3 y4 => Q1 [vl y1, .a [cs y2, ci y3, ci y4]]) a1 a2 a3 (fun x1 x2 => K (.tup [.c (.h 0), .c (cb x1)]) [ro x2]) := by kernel_rfl
theorem Gok : (O spec_ByPath.Q spec_PutName.Q).ok Try.prog := mkO_ok (by exact ⟨qE_ok spec_ByPath.ac, qE_ok spec_PutName.ac, trivial⟩) (by exact trivial)
theorem acc : ∀ t x, un3 F t = some x → ACc Try.prog 9 (encA t) [] true [] fun rv obs => (rv, obs) = encR x := accT (T := YVN × ByteArray × ByteArray) (F := un3 F) (L := L) (cmds := [.ad (.s 6) 24]) (body := (bodyOf Try.f9)) Gok hmT Try.func9 (by kernel_rfl) (by kernel_rfl) (by rw [show atomsL [] 0 (bodyOf Try.f9) = [] by kernel_rfl]; exact Lor.ok_nil _ _) (fun t => by refine main.trans ?_; rw [← spec_ByPath.wrap, ← spec_PutName.wrap]; exact congrArg (B _ _ _ _ _) (fx2 fun t => ofC_enc encRI some t))
theorem ac : ∀ a x, Q a = some x → AC Try.prog 9 a [] false [] fun rv obs => (rv, obs) = encR x := acF (body := (bodyOf Try.f9)) Try.func9 (by kernel_rfl) (by kernel_rfl) acc fun x => ⟨by simp [encR, AV.Flat, K.Flat, C.Flat], flc (flat_rw rfl _) (fl0)⟩
end spec_MoveName
end Go.Al
