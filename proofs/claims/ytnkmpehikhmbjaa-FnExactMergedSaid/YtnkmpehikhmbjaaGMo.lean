import Derived.Test.YtnkmpehikhmbjaaAlE
import Derived.Test.YtnkmpehikhmbjaaSC
import Derived.Test.YtnkmpehikhmbjaaGWv
import Derived.Test.YtnkmpehikhmbjaaGCmp
set_option linter.unusedVariables false
set_option linter.unusedSimpArgs false
set_option linter.constructorNameAsVariable false
set_option linter.unusedSectionVars false
set_option maxRecDepth 100000
namespace Go.Al
open Go.Proofs

/-! loop.example/g00073/spec.MarksOf -/
namespace spec_MarksOf
noncomputable def B0 {ρ : Type} (v1 : Int) (v2 : Vec (Int × Int × Int × ByteArray)) (v3 : Vec (Int × Int × Int × ByteArray)) (v4 : Vec Bool) (v5 : Vec Bool) (W : Int → (Vec (Int × Int × Int × ByteArray)) → (Vec (Int × Int × Int × ByteArray)) → (Vec Bool) → (Vec Bool) → Option ρ) (K0 : (Vec (Int × Int × Int × ByteArray)) → Option ρ) : Option ρ :=
  sel (decide (v1 < (v2.n : Int))) (chk (decide (0 ≤ v1 ∧ v1 < (v2.n : Int))) (chk (decide (v1.toNat < v2.n)) (chk (decide (0 ≤ v1 ∧ v1 < (v2.n : Int))) (chk (decide (v1.toNat < v2.n)) (sel (decide ((v2.g v1.toNat).1 = (2 : Int))) (chk (decide (0 ≤ (v2.g v1.toNat).2.1 ∧ (v2.g v1.toNat).2.1 < (v5.n : Int))) (chk (decide (((v2.g v1.toNat).2.1).toNat < v5.n)) (sel ((v5.g (((v2.g v1.toNat).2.1).toNat))) (chk (decide ((v3.n + (Vec.lit [((5 : Int), (v2.g v1.toNat).2.1, (v2.g v1.toNat).2.2.1, (v2.g v1.toNat).2.2.2)] : Vec (Int × Int × Int × ByteArray)).n) * 41 ≤ maxN)) (W (wr (v1 + (1 : Int))) v2 (Vec.app v3 (Vec.lit [((5 : Int), (v2.g v1.toNat).2.1, (v2.g v1.toNat).2.2.1, (v2.g v1.toNat).2.2.2)] : Vec (Int × Int × Int × ByteArray))) v4 v5)) (chk (decide ((v3.n + (Vec.lit [((2 : Int), (v2.g v1.toNat).2.1, (v2.g v1.toNat).2.2.1, (v2.g v1.toNat).2.2.2)] : Vec (Int × Int × Int × ByteArray)).n) * 41 ≤ maxN)) (W (wr (v1 + (1 : Int))) v2 (Vec.app v3 (Vec.lit [((2 : Int), (v2.g v1.toNat).2.1, (v2.g v1.toNat).2.2.1, (v2.g v1.toNat).2.2.2)] : Vec (Int × Int × Int × ByteArray))) v4 v5))))) (sel (decide ((v2.g v1.toNat).1 = (3 : Int))) (chk (decide (0 ≤ (v2.g v1.toNat).2.1 ∧ (v2.g v1.toNat).2.1 < (v4.n : Int))) (chk (decide (((v2.g v1.toNat).2.1).toNat < v4.n)) (sel ((v4.g (((v2.g v1.toNat).2.1).toNat))) (chk (decide ((v3.n + (Vec.lit [((4 : Int), (v2.g v1.toNat).2.1, (v2.g v1.toNat).2.2.1, (v2.g v1.toNat).2.2.2)] : Vec (Int × Int × Int × ByteArray)).n) * 41 ≤ maxN)) (W (wr (v1 + (1 : Int))) v2 (Vec.app v3 (Vec.lit [((4 : Int), (v2.g v1.toNat).2.1, (v2.g v1.toNat).2.2.1, (v2.g v1.toNat).2.2.2)] : Vec (Int × Int × Int × ByteArray))) v4 v5)) (chk (decide ((v3.n + (Vec.lit [((3 : Int), (v2.g v1.toNat).2.1, (v2.g v1.toNat).2.2.1, (v2.g v1.toNat).2.2.2)] : Vec (Int × Int × Int × ByteArray)).n) * 41 ≤ maxN)) (W (wr (v1 + (1 : Int))) v2 (Vec.app v3 (Vec.lit [((3 : Int), (v2.g v1.toNat).2.1, (v2.g v1.toNat).2.2.1, (v2.g v1.toNat).2.2.2)] : Vec (Int × Int × Int × ByteArray))) v4 v5))))) (chk (decide ((v3.n + (Vec.lit [((1 : Int), (v2.g v1.toNat).2.1, (v2.g v1.toNat).2.2.1, (v2.g v1.toNat).2.2.2)] : Vec (Int × Int × Int × ByteArray)).n) * 41 ≤ maxN)) (W (wr (v1 + (1 : Int))) v2 (Vec.app v3 (Vec.lit [((1 : Int), (v2.g v1.toNat).2.1, (v2.g v1.toNat).2.2.1, (v2.g v1.toNat).2.2.2)] : Vec (Int × Int × Int × ByteArray))) v4 v5)))))))) (K0 v3)
noncomputable def F0 {ρ : Type} : Nat → Int → (Vec (Int × Int × Int × ByteArray)) → (Vec (Int × Int × Int × ByteArray)) → (Vec Bool) → (Vec Bool) → ((Vec (Int × Int × Int × ByteArray)) → Option ρ) → Option ρ
  | 0, _, _, _, _, _, _ => none
  | k + 1, v1, v2, v3, v4, v5, K0 => B0 v1 v2 v3 v4 v5 (fun v1' v2' v3' v4' v5' => F0 k v1' v2' v3' v4' v5' K0) K0
noncomputable def B {ρ : Type} (C0 : (Vec (Vec Int)) → (Vec (ByteArray × Int × Int × (Vec Int))) → Int → Int → Option (Int × (Vec (Int × Int × Int × ByteArray)))) (C1 : (Vec (Vec Int)) → (Vec (ByteArray × Int × Int × (Vec Int))) → Int → Option (Vec Bool)) (L0 : Int → (Vec (Int × Int × Int × ByteArray)) → (Vec (Int × Int × Int × ByteArray)) → (Vec Bool) → (Vec Bool) → ((Vec (Int × Int × Int × ByteArray)) → Option ρ) → Option ρ) (a1 : Vec (Vec Int)) (a2 : Vec (ByteArray × Int × Int × (Vec Int))) (a3 : Int) (a4 : Int) (K : Int → (Vec (Int × Int × Int × ByteArray)) → Option ρ) : Option ρ :=
  (C0 a1 a2 a3 a4).bind fun r1 => sel ((!decide (r1.1 = (0 : Int)))) (K r1.1 (Vec.nil : Vec (Int × Int × Int × ByteArray))) ((C1 a1 a2 a3).bind fun r2 => (C1 a1 a2 a4).bind fun r3 => L0 (0 : Int) r1.2 (Vec.nil : Vec (Int × Int × Int × ByteArray)) r2 r3 (fun e01 => K (0 : Int) e01))
noncomputable def F (a1 : Vec (Vec Int)) (a2 : Vec (ByteArray × Int × Int × (Vec Int))) (a3 : Int) (a4 : Int) : Option (Int × (Vec (Int × Int × Int × ByteArray))) := B spec_Compare.F spec_l06Closure.F (F0 fuelN) a1 a2 a3 a4 (fun x1 x2 => some (x1, x2))
def encA (t : Vec (Vec Int) × (Vec (ByteArray × Int × Int × (Vec Int))) × Int × Int) : List AV := [.a [cl t.1, cl t.2.1], vi t.2.2.1, vi t.2.2.2]
def encR (x : Int × (Vec (Int × Int × Int × ByteArray))) : AV × List Ob := (.tup [.c (.h 0), .c (ci x.1)], [ro x.2])
theorem encAI : ∀ a b, encA a = encA b → a = b := by
  intro a b h
  obtain ⟨a0, a1, a2, a3⟩ := a
  obtain ⟨b0, b1, b2, b3⟩ := b
  simp [encA, encRw_iff] at h
  simp_all
theorem encRI : ∀ a b, encR a = encR b → a = b := by
  intro a b h
  obtain ⟨a0, a1⟩ := a
  obtain ⟨b0, b1⟩ := b
  simp [encR, encRw_iff] at h
  simp_all
noncomputable def Q (args : List AV) : Option (Int × (Vec (Int × Int × Int × ByteArray))) := ofC encA (fun t => F t.1 t.2.1 t.2.2.1 t.2.2.2) args
theorem wrap : (fun (y1 : Vec (Vec Int)) (y2 : Vec (ByteArray × Int × Int × (Vec Int))) (y3 : Int) (y4 : Int) => Q [.a [cl y1, cl y2], vi y3, vi y4]) = F := by
  funext y1 y2 y3 y4
  exact ofC_enc encAI _ (y1, y2, y3, y4)
noncomputable def G (Q0 : List AV → Option (Int × (Vec (Int × Int × Int × ByteArray)))) (Q1 : List AV → Option (Vec Bool)) : Orc := ⟨fun f => sel (Nat.beq f 104) 0 (sel (Nat.beq f 76) 0 (9)), fun ρ f args K => sel (Nat.beq f 104) (qEntry spec_Compare.encR Q0 args K) (sel (Nat.beq f 76) (qEntry spec_l06Closure.encR Q1 args K) (Option.none)), noE, false⟩
noncomputable def L (W0 : (ρ : Type) → List AV → List Ob → ((Vec (Int × Int × Int × ByteArray)) → Option ρ) → Option ρ) : Lor := fun ρ j st K => sel (Nat.beq j 0) (cutO Try.prog 75 [8, 10, 11, 12, 13] 0 [] [.ad (.s 10) 84] st fun avs obs => W0 ρ avs obs (fun z1 => K (.exit 0) (mkS 75 [10] [.c (.h 0)] [ro z1] []))) (Option.none)
noncomputable def c0 : Code := loopC (atomN [] 0 (bodyOf Try.f55) 0)
def ct0 : Cut := ⟨[8, 10, 11, 12, 13], [.ad (.s 10) 84]⟩
def lv0 : Exit → Cut
  | .exit 0 => ⟨[10], []⟩
  | _ => ⟨[], []⟩
theorem step0 (Q0 Q1) (W0) {ρ : Type} (K : Exit → St → Option ρ) (W : List AV → List Ob → Option ρ) (v1 v2 v3 v4 v5) : exC Try.prog (G Q0 Q1) (L W0) [] 1 c0 (mkS 75 [8, 10, 11, 12, 13] [.c (.h 0), .c (.h 1), .c (.h 2), .c (.h 3), vi v1] [ro v2, ro v3, ro v4, ro v5] []) (bodyK Try.prog 75 0 [] ct0 W lv0 K) =
    B0 v1 v2 v3 v4 v5 (fun u1 u2 u3 u4 u5 => W [.c (.h 0), .c (.h 1), .c (.h 2), .c (.h 3), vi u1] [ro u2, ro u3, ro u4, ro u5]) (fun z1 => K (.exit 0) (mkS 75 [10] [.c (.h 0)] [ro z1] [])) := by kernel_rfl
def enc0 (t : Int × (Vec (Int × Int × Int × ByteArray)) × (Vec (Int × Int × Int × ByteArray)) × Vec Bool × Vec Bool) : List AV × List Ob := ([.c (.h 0), .c (.h 1), .c (.h 2), .c (.h 3), vi t.1], [ro t.2.1, ro t.2.2.1, ro t.2.2.2.1, ro t.2.2.2.2])
theorem enc0I : ∀ a b, enc0 a = enc0 b → a = b := by
  intro a b h
  obtain ⟨a0, a1, a2, a3, a4⟩ := a
  obtain ⟨b0, b1, b2, b3, b4⟩ := b
  simp [enc0, encRw_iff] at h
  simp_all
noncomputable def V0 : (ρ : Type) → List AV → List Ob → ((Vec (Int × Int × Int × ByteArray)) → Option ρ) → Option ρ := fun ρ avs obs k0 => ofC enc0 (fun t => F0 fuelN t.1 t.2.1 t.2.2.1 t.2.2.2.1 t.2.2.2.2 k0) (avs, obs)
theorem V0_enc (ρ : Type) : (fun w1 w2 w3 w4 w5 k0 => V0 ρ [.c (.h 0), .c (.h 1), .c (.h 2), .c (.h 3), vi w1] [ro w2, ro w3, ro w4, ro w5] k0) = F0 fuelN := by
  funext w1 w2 w3 w4 w5 k0
  exact ofC_enc enc0I _ (w1, w2, w3, w4, w5)
theorem main (Q0 Q1) (W0) {ρ : Type} (K : AV → List Ob → Option ρ) (a1 a2 a3 a4) : exC Try.prog (G Q0 Q1) (L W0) [] 0 (bodyOf Try.f55) (entry 75 [.a [cl a1, cl a2], vi a3, vi a4] [] []) (finO Try.prog Try.f55.results.toList 0 [] [.ad (.s 6) 84] K) =
    B (fun y1 y2 y3 y4 => Q0 [.a [cl y1, cl y2], vi y3, vi y4]) (fun y1 y2 y3 => Q1 [.a [cl y1, cl y2], vi y3]) (fun w1 w2 w3 w4 w5 k0 => W0 ρ [.c (.h 0), .c (.h 1), .c (.h 2), .c (.h 3), vi w1] [ro w2, ro w3, ro w4, ro w5] k0) a1 a2 a3 a4 (fun x1 x2 => K (.tup [.c (.h 0), .c (ci x1)]) [ro x2]) := by kernel_rfl
theorem Gok : (G spec_Compare.Q spec_l06Closure.Q).ok Try.prog := ⟨(by
    intro ρ f args K r h
    rcases sel_cases h with ⟨hb, h⟩ | ⟨-, h⟩
    · obtain rfl := beq_nat hb
      exact qEntry_ok spec_Compare.ac h
    rcases sel_cases h with ⟨hb, h⟩ | ⟨-, h⟩
    · obtain rfl := beq_nat hb
      exact qEntry_ok spec_l06Closure.ac h
    cases h),
  (by
    intro ρ f args K
    simp only [G]
    cases Nat.beq f 104 with
    | true => exact qEntry_nat args K
    | false =>
    simp only [sel]
    cases Nat.beq f 76 with
    | true => exact qEntry_nat args K
    | false =>
    simp only [sel]
    rfl),
  (fun ρ f st caps args dst K r h => (by cases h))⟩
theorem hm : Try.prog.follows .mixedOrders = true := by kernel_rfl
theorem e0 : atomsL [] 1 c0 = [] := by kernel_rfl
theorem ok0 (ρ : Type) (st : St) (K : Exit → St → Option ρ) (r : ρ) (h : (L V0) ρ 0 st K = some r) : AW Try.prog (.loop c0) st fun e st' => K e st' = some r := by
  refine loop_ok (ct := ct0) (lv := lv0) (n := 75) (m := 0) (ks := []) (j := 0) (jn := []) (L := (L V0)) Gok hm (by rw [e0]; exact Lor.ok_nil _ _) enc0I (fun k t => F0 k t.1 t.2.1 t.2.2.1 t.2.2.2.1 t.2.2.2.2 (fun z1 => K (.exit 0) (mkS 75 [10] [.c (.h 0)] [ro z1] []))) (fun t => rfl) (fun k t => ?_) (fun _ => fuelN) h
  refine (step0 spec_Compare.Q spec_l06Closure.Q V0 K _ t.1 t.2.1 t.2.2.1 t.2.2.2.1 t.2.2.2.2).trans ?_
  refine congrArg (fun W => B0 t.1 t.2.1 t.2.2.1 t.2.2.2.1 t.2.2.2.2 W (fun z1 => K (.exit 0) (mkS 75 [10] [.c (.h 0)] [ro z1] []))) ?_
  funext u1 u2 u3 u4 u5
  exact ofC_enc enc0I _ (u1, u2, u3, u4, u5)
theorem e : atomsL [] 0 (bodyOf Try.f55) = [(0, 0, .loop c0)] := by kernel_rfl
theorem acc (t : Vec (Vec Int) × (Vec (ByteArray × Int × Int × (Vec Int))) × Int × Int) (x : Int × (Vec (Int × Int × Int × ByteArray))) (h : F t.1 t.2.1 t.2.2.1 t.2.2.2 = some x) : ACc Try.prog 55 (encA t) [] true [] fun rv obs => (rv, obs) = encR x := by
  refine fun_okc (L := (L V0)) (jn := []) (cmds := [.ad (.s 6) 84]) (ks := []) (hin := []) (fn := Try.f55) (body := (bodyOf Try.f55)) Gok hm Try.func55 (by kernel_rfl) (by kernel_rfl) (by rw [e]; exact Lor.ok_cons ok0 (Lor.ok_nil _ _)) ?_ h
  refine (main spec_Compare.Q spec_l06Closure.Q V0 _ t.1 t.2.1 t.2.2.1 t.2.2.2).trans ?_
  rw [spec_Compare.wrap, spec_l06Closure.wrap, V0_enc]
  refine congrArg (fun K => B spec_Compare.F spec_l06Closure.F (F0 fuelN) t.1 t.2.1 t.2.2.1 t.2.2.2 K) ?_
  funext x1 x2
  exact ofC_enc encRI some (x1, x2)
theorem ac0 (t : Vec (Vec Int) × (Vec (ByteArray × Int × Int × (Vec Int))) × Int × Int) (x : Int × (Vec (Int × Int × Int × ByteArray))) (h : F t.1 t.2.1 t.2.2.1 t.2.2.2 = some x) : AC Try.prog 55 (encA t) [] true [] fun rv obs => (rv, obs) = encR x := ACc.ac (body := bodyOf Try.f55) Try.func55 (by kernel_rfl) (by kernel_rfl) (acc t x h)
theorem ac (args : List AV) (x : Int × (Vec (Int × Int × Int × ByteArray))) (h : Q args = some x) : AC Try.prog 55 args [] false [] fun rv obs => (rv, obs) = encR x := by
  obtain ⟨t, rfl, h2⟩ := ofC_some h
  refine (ac0 t x h2).flat fun rv obs e => ?_
  obtain rfl : rv = (encR x).1 := congrArg Prod.fst e
  obtain rfl : obs = (encR x).2 := congrArg Prod.snd e
  refine ⟨by simp [encR, AV.Flat, K.Flat, C.Flat], ?_⟩
  intro o ho
  simp only [encR, List.mem_cons, List.not_mem_nil, or_false] at ho
  subst ho
  exact flat_rw rfl _
end spec_MarksOf
/-! (*loop.example/g00073/impl.Weave).marksOf -/
namespace impl_Weave_marksOf
noncomputable def B0 {ρ : Type} (C2 : Int → Int → Option Bool) (v1 : Int) (v2 : Int) (v3 : Int) (v4 : Int) (v5 : Vec (IK .u64)) (v6 : Vec (Int × Int × Int × ByteArray)) (v7 : Vec (Int × Int × Int × ByteArray)) (W : Int → Int → Int → Int → (Vec (IK .u64)) → (Vec (Int × Int × Int × ByteArray)) → (Vec (Int × Int × Int × ByteArray)) → Option ρ) (K0 : (Vec (Int × Int × Int × ByteArray)) → Option ρ) : Option ρ :=
  sel (decide (v4 < v3)) (chk (decide (0 ≤ v4 ∧ v4 < (v7.n : Int))) (chk (decide (v4.toNat < v7.n)) (sel (decide ((v7.g v4.toNat).1 = (2 : Int))) (chk (decide (0 ≤ v2 ∧ v2 < (v5.n : Int))) (chk (decide (v2.toNat < v5.n)) ((C2 ((v5.g v2.toNat).v) ((v7.g v4.toNat).2.1)).bind fun r3 => sel (r3) (chk (decide ((v6.n + (Vec.lit [((5 : Int), (v7.g v4.toNat).2.1, (v7.g v4.toNat).2.2.1, (v7.g v4.toNat).2.2.2)] : Vec (Int × Int × Int × ByteArray)).n) * 41 ≤ maxN)) (W v1 v2 v3 (wr (v4 + (1 : Int))) v5 (Vec.app v6 (Vec.lit [((5 : Int), (v7.g v4.toNat).2.1, (v7.g v4.toNat).2.2.1, (v7.g v4.toNat).2.2.2)] : Vec (Int × Int × Int × ByteArray))) v7)) (chk (decide ((v6.n + (Vec.lit [((2 : Int), (v7.g v4.toNat).2.1, (v7.g v4.toNat).2.2.1, (v7.g v4.toNat).2.2.2)] : Vec (Int × Int × Int × ByteArray)).n) * 41 ≤ maxN)) (W v1 v2 v3 (wr (v4 + (1 : Int))) v5 (Vec.app v6 (Vec.lit [((2 : Int), (v7.g v4.toNat).2.1, (v7.g v4.toNat).2.2.1, (v7.g v4.toNat).2.2.2)] : Vec (Int × Int × Int × ByteArray))) v7))))) (sel (decide ((v7.g v4.toNat).1 = (3 : Int))) (chk (decide (0 ≤ v1 ∧ v1 < (v5.n : Int))) (chk (decide (v1.toNat < v5.n)) ((C2 ((v5.g v1.toNat).v) ((v7.g v4.toNat).2.1)).bind fun r4 => sel (r4) (chk (decide ((v6.n + (Vec.lit [((4 : Int), (v7.g v4.toNat).2.1, (v7.g v4.toNat).2.2.1, (v7.g v4.toNat).2.2.2)] : Vec (Int × Int × Int × ByteArray)).n) * 41 ≤ maxN)) (W v1 v2 v3 (wr (v4 + (1 : Int))) v5 (Vec.app v6 (Vec.lit [((4 : Int), (v7.g v4.toNat).2.1, (v7.g v4.toNat).2.2.1, (v7.g v4.toNat).2.2.2)] : Vec (Int × Int × Int × ByteArray))) v7)) (chk (decide ((v6.n + (Vec.lit [((3 : Int), (v7.g v4.toNat).2.1, (v7.g v4.toNat).2.2.1, (v7.g v4.toNat).2.2.2)] : Vec (Int × Int × Int × ByteArray)).n) * 41 ≤ maxN)) (W v1 v2 v3 (wr (v4 + (1 : Int))) v5 (Vec.app v6 (Vec.lit [((3 : Int), (v7.g v4.toNat).2.1, (v7.g v4.toNat).2.2.1, (v7.g v4.toNat).2.2.2)] : Vec (Int × Int × Int × ByteArray))) v7))))) (chk (decide ((v6.n + (Vec.lit [((1 : Int), (v7.g v4.toNat).2.1, (v7.g v4.toNat).2.2.1, (v7.g v4.toNat).2.2.2)] : Vec (Int × Int × Int × ByteArray)).n) * 41 ≤ maxN)) (W v1 v2 v3 (wr (v4 + (1 : Int))) v5 (Vec.app v6 (Vec.lit [((1 : Int), (v7.g v4.toNat).2.1, (v7.g v4.toNat).2.2.1, (v7.g v4.toNat).2.2.2)] : Vec (Int × Int × Int × ByteArray))) v7)))))) (K0 v6)
noncomputable def F0 {ρ : Type} : Nat → Int → Int → Int → Int → (Vec (IK .u64)) → (Vec (Int × Int × Int × ByteArray)) → (Vec (Int × Int × Int × ByteArray)) → ((Vec (Int × Int × Int × ByteArray)) → Option ρ) → Option ρ
  | 0, _, _, _, _, _, _, _, _ => none
  | k + 1, v1, v2, v3, v4, v5, v6, v7, K0 => B0 impl_set_has.F v1 v2 v3 v4 v5 v6 v7 (fun v1' v2' v3' v4' v5' v6' v7' => F0 k v1' v2' v3' v4' v5' v6' v7' K0) K0
noncomputable def B {ρ : Type} (C0 : (Vec (Vec Int)) → Option (Vec (IK .u64))) (C1 : (Vec (Vec Int)) → (Vec (ByteArray × Int × Int × (Vec Int))) → Int → Int → Option (Vec (Int × Int × Int × ByteArray))) (L0 : Int → Int → Int → Int → (Vec (IK .u64)) → (Vec (Int × Int × Int × ByteArray)) → (Vec (Int × Int × Int × ByteArray)) → ((Vec (Int × Int × Int × ByteArray)) → Option ρ) → Option ρ) (a1 : Vec (Vec Int)) (a2 : Vec (ByteArray × Int × Int × (Vec Int))) (a3 : Int) (a4 : Int) (K : (Vec (Int × Int × Int × ByteArray)) → Option ρ) : Option ρ :=
  (C0 a1).bind fun r1 => (C1 a1 a2 a3 a4).bind fun r2 => L0 a3 a4 (r2.n : Int) (0 : Int) r1 (Vec.nil : Vec (Int × Int × Int × ByteArray)) r2 (fun e01 => K e01)
noncomputable def F (a1 : Vec (Vec Int)) (a2 : Vec (ByteArray × Int × Int × (Vec Int))) (a3 : Int) (a4 : Int) : Option (Vec (Int × Int × Int × ByteArray)) := B impl_closures.F impl_Weave_compare.F (F0 fuelN) a1 a2 a3 a4 (fun x1 => some (x1))
def encA (t : Vec (Vec Int) × (Vec (ByteArray × Int × Int × (Vec Int))) × Int × Int) : List AV := [.ra [nl t.1, nl t.2.1], vi t.2.2.1, vi t.2.2.2]
def encR (x : Vec (Int × Int × Int × ByteArray)) : AV × List Ob := (.c (.h 0), [ro x])
theorem encAI : ∀ a b, encA a = encA b → a = b := by
  intro a b h
  obtain ⟨a0, a1, a2, a3⟩ := a
  obtain ⟨b0, b1, b2, b3⟩ := b
  simp [encA, encRw_iff] at h
  simp_all
theorem encRI : ∀ a b, encR a = encR b → a = b := by
  intro a b h
  simp [encR, encRw_iff] at h
  simp_all
noncomputable def Q (args : List AV) : Option (Vec (Int × Int × Int × ByteArray)) := ofC encA (fun t => F t.1 t.2.1 t.2.2.1 t.2.2.2) args
theorem wrap : (fun (y1 : Vec (Vec Int)) (y2 : Vec (ByteArray × Int × Int × (Vec Int))) (y3 : Int) (y4 : Int) => Q [.ra [nl y1, nl y2], vi y3, vi y4]) = F := by
  funext y1 y2 y3 y4
  exact ofC_enc encAI _ (y1, y2, y3, y4)
noncomputable def G (Q0 : List AV → Option (Vec (IK .u64))) (Q1 : List AV → Option (Vec (Int × Int × Int × ByteArray))) (Q2 : List AV → Option Bool) : Orc := ⟨fun f => sel (Nat.beq f 117) 0 (sel (Nat.beq f 134) 0 (sel (Nat.beq f 135) 0 (9))), fun ρ f args K => sel (Nat.beq f 117) (qEntry impl_closures.encR Q0 args K) (sel (Nat.beq f 134) (qEntry impl_Weave_compare.encR Q1 args K) (sel (Nat.beq f 135) (qEntry impl_set_has.encR Q2 args K) (Option.none))), noE, false⟩
noncomputable def L (W0 : (ρ : Type) → List AV → List Ob → ((Vec (Int × Int × Int × ByteArray)) → Option ρ) → Option ρ) : Lor := fun ρ j st K => sel (Nat.beq j 0) (cutO Try.prog 61 [1, 2, 7, 8, 20, 21, 22] 0 [] [.ad (.s 8) 84] st fun avs obs => W0 ρ avs obs (fun z1 => K (.exit 0) (mkS 61 [8] [.c (.h 0)] [ro z1] []))) (Option.none)
noncomputable def c0 : Code := loopC (atomN [] 0 (bodyOf Try.f109) 0)
def ct0 : Cut := ⟨[1, 2, 7, 8, 20, 21, 22], [.ad (.s 8) 84]⟩
def lv0 : Exit → Cut
  | .exit 0 => ⟨[8], []⟩
  | _ => ⟨[], []⟩
theorem step0 (Q0 Q1 Q2) (W0) {ρ : Type} (K : Exit → St → Option ρ) (W : List AV → List Ob → Option ρ) (v1 v2 v3 v4 v5 v6 v7) : exC Try.prog (G Q0 Q1 Q2) (L W0) [] 1 c0 (mkS 61 [1, 2, 7, 8, 20, 21, 22] [vi v1, vi v2, .c (.h 0), .c (.h 1), .c (.h 2), vi v3, vi v4] [ro v5, ro v6, ro v7] []) (bodyK Try.prog 61 0 [] ct0 W lv0 K) =
    B0 (fun y1 y2 => Q2 [vk .u64 y1, vi y2]) v1 v2 v3 v4 v5 v6 v7 (fun u1 u2 u3 u4 u5 u6 u7 => W [vi u1, vi u2, .c (.h 0), .c (.h 1), .c (.h 2), vi u3, vi u4] [ro u5, ro u6, ro u7]) (fun z1 => K (.exit 0) (mkS 61 [8] [.c (.h 0)] [ro z1] [])) := by kernel_rfl
def enc0 (t : Int × Int × Int × Int × Vec (IK .u64) × (Vec (Int × Int × Int × ByteArray)) × (Vec (Int × Int × Int × ByteArray))) : List AV × List Ob := ([vi t.1, vi t.2.1, .c (.h 0), .c (.h 1), .c (.h 2), vi t.2.2.1, vi t.2.2.2.1], [ro t.2.2.2.2.1, ro t.2.2.2.2.2.1, ro t.2.2.2.2.2.2])
theorem enc0I : ∀ a b, enc0 a = enc0 b → a = b := by
  intro a b h
  obtain ⟨a0, a1, a2, a3, a4, a5, a6⟩ := a
  obtain ⟨b0, b1, b2, b3, b4, b5, b6⟩ := b
  simp [enc0, encRw_iff] at h
  simp_all
noncomputable def V0 : (ρ : Type) → List AV → List Ob → ((Vec (Int × Int × Int × ByteArray)) → Option ρ) → Option ρ := fun ρ avs obs k0 => ofC enc0 (fun t => F0 fuelN t.1 t.2.1 t.2.2.1 t.2.2.2.1 t.2.2.2.2.1 t.2.2.2.2.2.1 t.2.2.2.2.2.2 k0) (avs, obs)
theorem V0_enc (ρ : Type) : (fun w1 w2 w3 w4 w5 w6 w7 k0 => V0 ρ [vi w1, vi w2, .c (.h 0), .c (.h 1), .c (.h 2), vi w3, vi w4] [ro w5, ro w6, ro w7] k0) = F0 fuelN := by
  funext w1 w2 w3 w4 w5 w6 w7 k0
  exact ofC_enc enc0I _ (w1, w2, w3, w4, w5, w6, w7)
theorem main (Q0 Q1 Q2) (W0) {ρ : Type} (K : AV → List Ob → Option ρ) (a1 a2 a3 a4) : exC Try.prog (G Q0 Q1 Q2) (L W0) [] 0 (bodyOf Try.f109) (entry 61 [.ra [nl a1, nl a2], vi a3, vi a4] [] []) (finO Try.prog Try.f109.results.toList 0 [] [] K) =
    B (fun y1 => Q0 [vl y1]) (fun y1 y2 y3 y4 => Q1 [.ra [nl y1, nl y2], vi y3, vi y4]) (fun w1 w2 w3 w4 w5 w6 w7 k0 => W0 ρ [vi w1, vi w2, .c (.h 0), .c (.h 1), .c (.h 2), vi w3, vi w4] [ro w5, ro w6, ro w7] k0) a1 a2 a3 a4 (fun x1 => K (.c (.h 0)) [ro x1]) := by kernel_rfl
theorem Gok : (G impl_closures.Q impl_Weave_compare.Q impl_set_has.Q).ok Try.prog := ⟨(by
    intro ρ f args K r h
    rcases sel_cases h with ⟨hb, h⟩ | ⟨-, h⟩
    · obtain rfl := beq_nat hb
      exact qEntry_ok impl_closures.ac h
    rcases sel_cases h with ⟨hb, h⟩ | ⟨-, h⟩
    · obtain rfl := beq_nat hb
      exact qEntry_ok impl_Weave_compare.ac h
    rcases sel_cases h with ⟨hb, h⟩ | ⟨-, h⟩
    · obtain rfl := beq_nat hb
      exact qEntry_ok impl_set_has.ac h
    cases h),
  (by
    intro ρ f args K
    simp only [G]
    cases Nat.beq f 117 with
    | true => exact qEntry_nat args K
    | false =>
    simp only [sel]
    cases Nat.beq f 134 with
    | true => exact qEntry_nat args K
    | false =>
    simp only [sel]
    cases Nat.beq f 135 with
    | true => exact qEntry_nat args K
    | false =>
    simp only [sel]
    rfl),
  (fun ρ f st caps args dst K r h => (by cases h))⟩
theorem hm : Try.prog.follows .mixedOrders = true := by kernel_rfl
theorem e0 : atomsL [] 1 c0 = [] := by kernel_rfl
theorem ok0 (ρ : Type) (st : St) (K : Exit → St → Option ρ) (r : ρ) (h : (L V0) ρ 0 st K = some r) : AW Try.prog (.loop c0) st fun e st' => K e st' = some r := by
  refine loop_ok (ct := ct0) (lv := lv0) (n := 61) (m := 0) (ks := []) (j := 0) (jn := []) (L := (L V0)) Gok hm (by rw [e0]; exact Lor.ok_nil _ _) enc0I (fun k t => F0 k t.1 t.2.1 t.2.2.1 t.2.2.2.1 t.2.2.2.2.1 t.2.2.2.2.2.1 t.2.2.2.2.2.2 (fun z1 => K (.exit 0) (mkS 61 [8] [.c (.h 0)] [ro z1] []))) (fun t => rfl) (fun k t => ?_) (fun _ => fuelN) h
  refine (step0 impl_closures.Q impl_Weave_compare.Q impl_set_has.Q V0 K _ t.1 t.2.1 t.2.2.1 t.2.2.2.1 t.2.2.2.2.1 t.2.2.2.2.2.1 t.2.2.2.2.2.2).trans ?_
  rw [impl_set_has.wrap]
  refine congrArg (fun W => B0 impl_set_has.F t.1 t.2.1 t.2.2.1 t.2.2.2.1 t.2.2.2.2.1 t.2.2.2.2.2.1 t.2.2.2.2.2.2 W (fun z1 => K (.exit 0) (mkS 61 [8] [.c (.h 0)] [ro z1] []))) ?_
  funext u1 u2 u3 u4 u5 u6 u7
  exact ofC_enc enc0I _ (u1, u2, u3, u4, u5, u6, u7)
theorem e : atomsL [] 0 (bodyOf Try.f109) = [(0, 0, .loop c0)] := by kernel_rfl
theorem acc (t : Vec (Vec Int) × (Vec (ByteArray × Int × Int × (Vec Int))) × Int × Int) (x : Vec (Int × Int × Int × ByteArray)) (h : F t.1 t.2.1 t.2.2.1 t.2.2.2 = some x) : ACc Try.prog 109 (encA t) [] true [] fun rv obs => (rv, obs) = encR x := by
  refine fun_okc (L := (L V0)) (jn := []) (cmds := []) (ks := []) (hin := []) (fn := Try.f109) (body := (bodyOf Try.f109)) Gok hm Try.func109 (by kernel_rfl) (by kernel_rfl) (by rw [e]; exact Lor.ok_cons ok0 (Lor.ok_nil _ _)) ?_ h
  refine (main impl_closures.Q impl_Weave_compare.Q impl_set_has.Q V0 _ t.1 t.2.1 t.2.2.1 t.2.2.2).trans ?_
  rw [impl_closures.wrap, impl_Weave_compare.wrap, V0_enc]
  refine congrArg (fun K => B impl_closures.F impl_Weave_compare.F (F0 fuelN) t.1 t.2.1 t.2.2.1 t.2.2.2 K) ?_
  funext x1
  exact ofC_enc encRI some (x1)
theorem ac0 (t : Vec (Vec Int) × (Vec (ByteArray × Int × Int × (Vec Int))) × Int × Int) (x : Vec (Int × Int × Int × ByteArray)) (h : F t.1 t.2.1 t.2.2.1 t.2.2.2 = some x) : AC Try.prog 109 (encA t) [] true [] fun rv obs => (rv, obs) = encR x := ACc.ac (body := bodyOf Try.f109) Try.func109 (by kernel_rfl) (by kernel_rfl) (acc t x h)
theorem ac (args : List AV) (x : Vec (Int × Int × Int × ByteArray)) (h : Q args = some x) : AC Try.prog 109 args [] false [] fun rv obs => (rv, obs) = encR x := by
  obtain ⟨t, rfl, h2⟩ := ofC_some h
  refine (ac0 t x h2).flat fun rv obs e => ?_
  obtain rfl : rv = (encR x).1 := congrArg Prod.fst e
  obtain rfl : obs = (encR x).2 := congrArg Prod.snd e
  refine ⟨by simp [encR, AV.Flat, K.Flat, C.Flat], ?_⟩
  intro o ho
  simp only [encR, List.mem_cons, List.not_mem_nil, or_false] at ho
  subst ho
  exact flat_rw rfl _
end impl_Weave_marksOf
end Go.Al
