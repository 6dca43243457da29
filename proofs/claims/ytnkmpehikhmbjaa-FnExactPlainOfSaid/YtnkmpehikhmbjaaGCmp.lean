import Derived.Test.YtnkmpehikhmbjaaAlE
import Derived.Test.YtnkmpehikhmbjaaSC
import Derived.Test.YtnkmpehikhmbjaaGWv
set_option linter.unusedVariables false
set_option linter.unusedSimpArgs false
set_option linter.constructorNameAsVariable false
set_option linter.unusedSectionVars false
set_option maxRecDepth 100000
namespace Go.Al
open Go.Proofs

/-! loop.example/g00073/spec.l06Has -/
namespace spec_l06Has
noncomputable def B {ρ : Type} (C0 : Int → Int → Int → Option Bool) (a1 : Vec (Vec Int)) (a2 : Vec (ByteArray × Int × Int × (Vec Int))) (a3 : Int) (K : Bool → Option ρ) : Option ρ :=
  (C0 a3 (0 : Int) (wr ((a1.n : Int) - (1 : Int)))).bind fun r1 => K r1
noncomputable def F (a1 : Vec (Vec Int)) (a2 : Vec (ByteArray × Int × Int × (Vec Int))) (a3 : Int) : Option Bool := B spec_l01In.F a1 a2 a3 (fun x1 => some (x1))
def encA (t : Vec (Vec Int) × (Vec (ByteArray × Int × Int × (Vec Int))) × Int) : List AV := [.a [cl t.1, cl t.2.1], vi t.2.2]
def encR (x : Bool) : AV × List Ob := (vb x, [])
theorem encAI : ∀ a b, encA a = encA b → a = b := by
  intro a b h
  obtain ⟨a0, a1, a2⟩ := a
  obtain ⟨b0, b1, b2⟩ := b
  simp [encA, encRw_iff] at h
  simp_all
theorem encRI : ∀ a b, encR a = encR b → a = b := by
  intro a b h
  simp [encR, encRw_iff] at h
  simp_all
noncomputable def Q (args : List AV) : Option Bool := ofC encA (fun t => F t.1 t.2.1 t.2.2) args
theorem wrap : (fun (y1 : Vec (Vec Int)) (y2 : Vec (ByteArray × Int × Int × (Vec Int))) (y3 : Int) => Q [.a [cl y1, cl y2], vi y3]) = F := by
  funext y1 y2 y3
  exact ofC_enc encAI _ (y1, y2, y3)
noncomputable def G (Q0 : List AV → Option Bool) : Orc := ⟨fun f => sel (Nat.beq f 44) 0 (9), fun ρ f args K => sel (Nat.beq f 44) (qEntry spec_l01In.encR Q0 args K) (Option.none), noE, false⟩
noncomputable def L : Lor := fun ρ j st K => Option.none
theorem main (Q0) {ρ : Type} (K : AV → List Ob → Option ρ) (a1 a2 a3) : exC Try.prog (G Q0) (L) [] 0 (bodyOf Try.f132) (entry 11 [.a [cl a1, cl a2], vi a3] [] []) (finO Try.prog Try.f132.results.toList 0 [] [] K) =
    B (fun y1 y2 y3 => Q0 [vi y1, vi y2, vi y3]) a1 a2 a3 (fun x1 => K (vb x1) []) := by kernel_rfl
theorem Gok : (G spec_l01In.Q).ok Try.prog := ⟨(by
    intro ρ f args K r h
    rcases sel_cases h with ⟨hb, h⟩ | ⟨-, h⟩
    · obtain rfl := beq_nat hb
      exact qEntry_ok spec_l01In.ac h
    cases h),
  (by
    intro ρ f args K
    simp only [G]
    cases Nat.beq f 44 with
    | true => exact qEntry_nat args K
    | false =>
    simp only [sel]
    rfl),
  (fun ρ f st caps args dst K r h => (by cases h))⟩
theorem hm : Try.prog.follows .mixedOrders = true := by kernel_rfl
theorem e : atomsL [] 0 (bodyOf Try.f132) = [] := by kernel_rfl
theorem acc (t : Vec (Vec Int) × (Vec (ByteArray × Int × Int × (Vec Int))) × Int) (x : Bool) (h : F t.1 t.2.1 t.2.2 = some x) : ACc Try.prog 132 (encA t) [] true [] fun rv obs => (rv, obs) = encR x := by
  refine fun_okc (L := (L)) (jn := []) (cmds := []) (ks := []) (hin := []) (fn := Try.f132) (body := (bodyOf Try.f132)) Gok hm Try.func132 (by kernel_rfl) (by kernel_rfl) (by rw [e]; exact Lor.ok_nil _ _) ?_ h
  refine (main spec_l01In.Q _ t.1 t.2.1 t.2.2).trans ?_
  rw [spec_l01In.wrap]
  refine congrArg (fun K => B spec_l01In.F t.1 t.2.1 t.2.2 K) ?_
  funext x1
  exact ofC_enc encRI some (x1)
theorem ac0 (t : Vec (Vec Int) × (Vec (ByteArray × Int × Int × (Vec Int))) × Int) (x : Bool) (h : F t.1 t.2.1 t.2.2 = some x) : AC Try.prog 132 (encA t) [] true [] fun rv obs => (rv, obs) = encR x := ACc.ac (body := bodyOf Try.f132) Try.func132 (by kernel_rfl) (by kernel_rfl) (acc t x h)
theorem ac (args : List AV) (x : Bool) (h : Q args = some x) : AC Try.prog 132 args [] false [] fun rv obs => (rv, obs) = encR x := by
  obtain ⟨t, rfl, h2⟩ := ofC_some h
  refine (ac0 t x h2).flat fun rv obs e => ?_
  obtain rfl : rv = (encR x).1 := congrArg Prod.fst e
  obtain rfl : obs = (encR x).2 := congrArg Prod.snd e
  refine ⟨by simp [encR, AV.Flat, K.Flat, C.Flat], ?_⟩
  simp [encR]
end spec_l06Has
/-! loop.example/g00073/spec.l09Note -/
namespace spec_l09Note
noncomputable def B {ρ : Type} (a1 : ByteArray) (a2 : Int) (a3 : Int) (a4 : Vec Int) (K : Int → Int → ByteArray → Option ρ) : Option ρ :=
  K a2 a3 a1
noncomputable def F (a1 : ByteArray) (a2 : Int) (a3 : Int) (a4 : Vec Int) : Option (Int × Int × ByteArray) := B a1 a2 a3 a4 (fun x1 x2 x3 => some (x1, x2, x3))
def encA (t : ByteArray × Int × Int × Vec Int) : List AV := [.a [cs t.1, ci t.2.1, ci t.2.2.1, cl t.2.2.2]]
def encR (x : Int × Int × ByteArray) : AV × List Ob := (.a [ci x.1, ci x.2.1, cs x.2.2], [])
theorem encAI : ∀ a b, encA a = encA b → a = b := by
  intro a b h
  obtain ⟨a0, a1, a2, a3⟩ := a
  obtain ⟨b0, b1, b2, b3⟩ := b
  simp [encA, encRw_iff] at h
  simp_all
theorem encRI : ∀ a b, encR a = encR b → a = b := by
  intro a b h
  obtain ⟨a0, a1, a2⟩ := a
  obtain ⟨b0, b1, b2⟩ := b
  simp [encR, encRw_iff] at h
  simp_all
noncomputable def Q (args : List AV) : Option (Int × Int × ByteArray) := ofC encA (fun t => F t.1 t.2.1 t.2.2.1 t.2.2.2) args
theorem wrap : (fun (y1 : ByteArray) (y2 : Int) (y3 : Int) (y4 : Vec Int) => Q [.a [cs y1, ci y2, ci y3, cl y4]]) = F := by
  funext y1 y2 y3 y4
  exact ofC_enc encAI _ (y1, y2, y3, y4)
noncomputable def G : Orc := ⟨fun f => 9, fun ρ f args K => Option.none, noE, false⟩
noncomputable def L : Lor := fun ρ j st K => Option.none
theorem main {ρ : Type} (K : AV → List Ob → Option ρ) (a1 a2 a3 a4) : exC Try.prog (G) (L) [] 0 (bodyOf Try.f133) (entry 10 [.a [cs a1, ci a2, ci a3, cl a4]] [] []) (finO Try.prog Try.f133.results.toList 0 [] [] K) =
    B a1 a2 a3 a4 (fun x1 x2 x3 => K (.a [ci x1, ci x2, cs x3]) []) := by kernel_rfl
theorem Gok : (G).ok Try.prog := ⟨(fun ρ f args K r h => (by cases h)),
  (fun ρ f args K => rfl),
  (fun ρ f st caps args dst K r h => (by cases h))⟩
theorem hm : Try.prog.follows .mixedOrders = true := by kernel_rfl
theorem e : atomsL [] 0 (bodyOf Try.f133) = [] := by kernel_rfl
theorem acc (t : ByteArray × Int × Int × Vec Int) (x : Int × Int × ByteArray) (h : F t.1 t.2.1 t.2.2.1 t.2.2.2 = some x) : ACc Try.prog 133 (encA t) [] true [] fun rv obs => (rv, obs) = encR x := by
  refine fun_okc (L := (L)) (jn := []) (cmds := []) (ks := []) (hin := []) (fn := Try.f133) (body := (bodyOf Try.f133)) Gok hm Try.func133 (by kernel_rfl) (by kernel_rfl) (by rw [e]; exact Lor.ok_nil _ _) ?_ h
  refine (main _ t.1 t.2.1 t.2.2.1 t.2.2.2).trans ?_
  refine congrArg (fun K => B t.1 t.2.1 t.2.2.1 t.2.2.2 K) ?_
  funext x1 x2 x3
  exact ofC_enc encRI some (x1, x2, x3)
theorem ac0 (t : ByteArray × Int × Int × Vec Int) (x : Int × Int × ByteArray) (h : F t.1 t.2.1 t.2.2.1 t.2.2.2 = some x) : AC Try.prog 133 (encA t) [] true [] fun rv obs => (rv, obs) = encR x := ACc.ac (body := bodyOf Try.f133) Try.func133 (by kernel_rfl) (by kernel_rfl) (acc t x h)
theorem ac (args : List AV) (x : Int × Int × ByteArray) (h : Q args = some x) : AC Try.prog 133 args [] false [] fun rv obs => (rv, obs) = encR x := by
  obtain ⟨t, rfl, h2⟩ := ofC_some h
  refine (ac0 t x h2).flat fun rv obs e => ?_
  obtain rfl : rv = (encR x).1 := congrArg Prod.fst e
  obtain rfl : obs = (encR x).2 := congrArg Prod.snd e
  refine ⟨by simp [encR, AV.Flat, K.Flat, C.Flat], ?_⟩
  simp [encR]
end spec_l09Note
/-! loop.example/g00073/spec.Compare -/
namespace spec_Compare
noncomputable def B0 {ρ : Type} (C3 : ByteArray → Int → Int → (Vec Int) → (Vec Bool) → Option Bool) (C4 : ByteArray → Int → Int → (Vec Int) → Option (Int × Int × ByteArray)) (v1 : Int) (v2 : Vec (Vec Int)) (v3 : Vec (ByteArray × Int × Int × (Vec Int))) (v4 : Vec (Int × Int × Int × ByteArray)) (v5 : Vec Bool) (v6 : Vec Bool) (W : Int → (Vec (Vec Int)) → (Vec (ByteArray × Int × Int × (Vec Int))) → (Vec (Int × Int × Int × ByteArray)) → (Vec Bool) → (Vec Bool) → Option ρ) (K0 : (Vec (Int × Int × Int × ByteArray)) → Option ρ) : Option ρ :=
  sel (decide (v1 < (v3.n : Int))) (chk (decide (0 ≤ v1 ∧ v1 < (v3.n : Int))) ((C3 ((v3.g v1.toNat).1) ((v3.g v1.toNat).2.1) ((v3.g v1.toNat).2.2.1) ((v3.g v1.toNat).2.2.2) v5).bind fun r6 => chk (decide (0 ≤ v1 ∧ v1 < (v3.n : Int))) ((C3 ((v3.g v1.toNat).1) ((v3.g v1.toNat).2.1) ((v3.g v1.toNat).2.2.1) ((v3.g v1.toNat).2.2.2) v6).bind fun r7 => sel ((!r7)) (sel (r6) (chk (decide (0 ≤ v1 ∧ v1 < (v3.n : Int))) ((C4 ((v3.g v1.toNat).1) ((v3.g v1.toNat).2.1) ((v3.g v1.toNat).2.2.1) ((v3.g v1.toNat).2.2.2)).bind fun r8 => chk (decide ((v4.n + (Vec.lit [((2 : Int), r8.1, r8.2.1, r8.2.2)] : Vec (Int × Int × Int × ByteArray)).n) * 41 ≤ maxN)) (W (wr (v1 + (1 : Int))) v2 v3 (Vec.app v4 (Vec.lit [((2 : Int), r8.1, r8.2.1, r8.2.2)] : Vec (Int × Int × Int × ByteArray))) v5 v6))) (sel (r7) (chk (decide (0 ≤ v1 ∧ v1 < (v3.n : Int))) ((C4 ((v3.g v1.toNat).1) ((v3.g v1.toNat).2.1) ((v3.g v1.toNat).2.2.1) ((v3.g v1.toNat).2.2.2)).bind fun r9 => chk (decide ((v4.n + (Vec.lit [((2 : Int), r9.1, r9.2.1, r9.2.2)] : Vec (Int × Int × Int × ByteArray)).n) * 41 ≤ maxN)) (W (wr (v1 + (1 : Int))) v2 v3 (Vec.app v4 (Vec.lit [((2 : Int), r9.1, r9.2.1, r9.2.2)] : Vec (Int × Int × Int × ByteArray))) v5 v6))) (W (wr (v1 + (1 : Int))) v2 v3 v4 v5 v6))) (sel ((!r6)) (sel (r6) (chk (decide (0 ≤ v1 ∧ v1 < (v3.n : Int))) ((C4 ((v3.g v1.toNat).1) ((v3.g v1.toNat).2.1) ((v3.g v1.toNat).2.2.1) ((v3.g v1.toNat).2.2.2)).bind fun r10 => chk (decide ((v4.n + (Vec.lit [((3 : Int), r10.1, r10.2.1, r10.2.2)] : Vec (Int × Int × Int × ByteArray)).n) * 41 ≤ maxN)) (W (wr (v1 + (1 : Int))) v2 v3 (Vec.app v4 (Vec.lit [((3 : Int), r10.1, r10.2.1, r10.2.2)] : Vec (Int × Int × Int × ByteArray))) v5 v6))) (sel (r7) (chk (decide (0 ≤ v1 ∧ v1 < (v3.n : Int))) ((C4 ((v3.g v1.toNat).1) ((v3.g v1.toNat).2.1) ((v3.g v1.toNat).2.2.1) ((v3.g v1.toNat).2.2.2)).bind fun r11 => chk (decide ((v4.n + (Vec.lit [((3 : Int), r11.1, r11.2.1, r11.2.2)] : Vec (Int × Int × Int × ByteArray)).n) * 41 ≤ maxN)) (W (wr (v1 + (1 : Int))) v2 v3 (Vec.app v4 (Vec.lit [((3 : Int), r11.1, r11.2.1, r11.2.2)] : Vec (Int × Int × Int × ByteArray))) v5 v6))) (W (wr (v1 + (1 : Int))) v2 v3 v4 v5 v6))) (sel (r6) (chk (decide (0 ≤ v1 ∧ v1 < (v3.n : Int))) ((C4 ((v3.g v1.toNat).1) ((v3.g v1.toNat).2.1) ((v3.g v1.toNat).2.2.1) ((v3.g v1.toNat).2.2.2)).bind fun r12 => chk (decide ((v4.n + (Vec.lit [((1 : Int), r12.1, r12.2.1, r12.2.2)] : Vec (Int × Int × Int × ByteArray)).n) * 41 ≤ maxN)) (W (wr (v1 + (1 : Int))) v2 v3 (Vec.app v4 (Vec.lit [((1 : Int), r12.1, r12.2.1, r12.2.2)] : Vec (Int × Int × Int × ByteArray))) v5 v6))) (sel (r7) (chk (decide (0 ≤ v1 ∧ v1 < (v3.n : Int))) ((C4 ((v3.g v1.toNat).1) ((v3.g v1.toNat).2.1) ((v3.g v1.toNat).2.2.1) ((v3.g v1.toNat).2.2.2)).bind fun r13 => chk (decide ((v4.n + (Vec.lit [((1 : Int), r13.1, r13.2.1, r13.2.2)] : Vec (Int × Int × Int × ByteArray)).n) * 41 ≤ maxN)) (W (wr (v1 + (1 : Int))) v2 v3 (Vec.app v4 (Vec.lit [((1 : Int), r13.1, r13.2.1, r13.2.2)] : Vec (Int × Int × Int × ByteArray))) v5 v6))) (W (wr (v1 + (1 : Int))) v2 v3 v4 v5 v6))))))) (K0 v4)
noncomputable def F0 {ρ : Type} : Nat → Int → (Vec (Vec Int)) → (Vec (ByteArray × Int × Int × (Vec Int))) → (Vec (Int × Int × Int × ByteArray)) → (Vec Bool) → (Vec Bool) → ((Vec (Int × Int × Int × ByteArray)) → Option ρ) → Option ρ
  | 0, _, _, _, _, _, _, _ => none
  | k + 1, v1, v2, v3, v4, v5, v6, K0 => B0 spec_l06Live.F spec_l09Note.F v1 v2 v3 v4 v5 v6 (fun v1' v2' v3' v4' v5' v6' => F0 k v1' v2' v3' v4' v5' v6' K0) K0
noncomputable def B {ρ : Type} (C0 : (Vec (Vec Int)) → (Vec (ByteArray × Int × Int × (Vec Int))) → Option Bool) (C1 : (Vec (Vec Int)) → (Vec (ByteArray × Int × Int × (Vec Int))) → Int → Option Bool) (C2 : (Vec (Vec Int)) → (Vec (ByteArray × Int × Int × (Vec Int))) → Int → Option (Vec Bool)) (L0 : Int → (Vec (Vec Int)) → (Vec (ByteArray × Int × Int × (Vec Int))) → (Vec (Int × Int × Int × ByteArray)) → (Vec Bool) → (Vec Bool) → ((Vec (Int × Int × Int × ByteArray)) → Option ρ) → Option ρ) (a1 : Vec (Vec Int)) (a2 : Vec (ByteArray × Int × Int × (Vec Int))) (a3 : Int) (a4 : Int) (K : Int → (Vec (Int × Int × Int × ByteArray)) → Option ρ) : Option ρ :=
  (C0 a1 a2).bind fun r1 => sel ((!r1)) (K (1 : Int) (Vec.nil : Vec (Int × Int × Int × ByteArray))) ((C1 a1 a2 a3).bind fun r2 => sel ((!r2)) (K (2 : Int) (Vec.nil : Vec (Int × Int × Int × ByteArray))) ((C1 a1 a2 a4).bind fun r3 => sel ((!r3)) (K (2 : Int) (Vec.nil : Vec (Int × Int × Int × ByteArray))) ((C2 a1 a2 a3).bind fun r4 => (C2 a1 a2 a4).bind fun r5 => L0 (0 : Int) a1 a2 (Vec.nil : Vec (Int × Int × Int × ByteArray)) r4 r5 (fun e01 => K (0 : Int) e01))))
noncomputable def F (a1 : Vec (Vec Int)) (a2 : Vec (ByteArray × Int × Int × (Vec Int))) (a3 : Int) (a4 : Int) : Option (Int × (Vec (Int × Int × Int × ByteArray))) := B spec_WeaveOk.F spec_l06Has.F spec_l06Closure.F (F0 fuelN) a1 a2 a3 a4 (fun x1 x2 => some (x1, x2))
def encA (t : Vec (Vec Int) × (Vec (ByteArray × Int × Int × (Vec Int))) × Int × Int) : List AV := [.a [cl t.1, cl t.2.1], vi t.2.2.1, vi t.2.2.2]
def encR (x : Int × (Vec (Int × Int × Int × ByteArray))) : AV × List Ob := (.tup [.c (.h 0), .c (ci x.1)], [ro x.2])
theorem encAI : ∀ a b, encA a = encA b → a = b := by
  intro a b h
  obtain ⟨a0, a1, a2, a3⟩ := a
  obtain ⟨b0, b1, b2, b3⟩ := b
  simp [encA, encRw_iff] at h
  simp_all
theorem encRI : ∀ a b, encR a = encR b → a = b := by
  intro a b h
  obtain ⟨a0, a1⟩ := a
  obtain ⟨b0, b1⟩ := b
  simp [encR, encRw_iff] at h
  simp_all
noncomputable def Q (args : List AV) : Option (Int × (Vec (Int × Int × Int × ByteArray))) := ofC encA (fun t => F t.1 t.2.1 t.2.2.1 t.2.2.2) args
theorem wrap : (fun (y1 : Vec (Vec Int)) (y2 : Vec (ByteArray × Int × Int × (Vec Int))) (y3 : Int) (y4 : Int) => Q [.a [cl y1, cl y2], vi y3, vi y4]) = F := by
  funext y1 y2 y3 y4
  exact ofC_enc encAI _ (y1, y2, y3, y4)
noncomputable def G (Q0 : List AV → Option Bool) (Q1 : List AV → Option Bool) (Q2 : List AV → Option (Vec Bool)) (Q3 : List AV → Option Bool) (Q4 : List AV → Option (Int × Int × ByteArray)) : Orc := ⟨fun f => sel (Nat.beq f 74) 0 (sel (Nat.beq f 132) 0 (sel (Nat.beq f 76) 0 (sel (Nat.beq f 115) 0 (sel (Nat.beq f 133) 0 (9))))), fun ρ f args K => sel (Nat.beq f 74) (qEntry spec_WeaveOk.encR Q0 args K) (sel (Nat.beq f 132) (qEntry spec_l06Has.encR Q1 args K) (sel (Nat.beq f 76) (qEntry spec_l06Closure.encR Q2 args K) (sel (Nat.beq f 115) (qEntry spec_l06Live.encR Q3 args K) (sel (Nat.beq f 133) (qEntry spec_l09Note.encR Q4 args K) (Option.none))))), noE, false⟩
noncomputable def L (W0 : (ρ : Type) → List AV → List Ob → ((Vec (Int × Int × Int × ByteArray)) → Option ρ) → Option ρ) : Lor := fun ρ j st K => sel (Nat.beq j 0) (cutO Try.prog 78 [3, 8, 9, 10, 11] 0 [] [.ad (.s 8) 136] st fun avs obs => W0 ρ avs obs (fun z1 => K (.exit 0) (mkS 78 [8] [.c (.h 0)] [ro z1] []))) (Option.none)
noncomputable def c0 : Code := loopC (atomN [] 0 (bodyOf Try.f104) 0)
def ct0 : Cut := ⟨[3, 8, 9, 10, 11], [.ad (.s 8) 136]⟩
def lv0 : Exit → Cut
  | .exit 0 => ⟨[8], []⟩
  | _ => ⟨[], []⟩
theorem step0 (Q0 Q1 Q2 Q3 Q4) (W0) {ρ : Type} (K : Exit → St → Option ρ) (W : List AV → List Ob → Option ρ) (v1 v2 v3 v4 v5 v6) : exC Try.prog (G Q0 Q1 Q2 Q3 Q4) (L W0) [] 1 c0 (mkS 78 [3, 8, 9, 10, 11] [.c (.p 0 0), .c (.h 1), .c (.h 2), .c (.h 3), vi v1] [.box [cl v2, cl v3], ro v4, ro v5, ro v6] []) (bodyK Try.prog 78 0 [] ct0 W lv0 K) =
    B0 (fun y1 y2 y3 y4 y5 => Q3 [.a [cs y1, ci y2, ci y3, cl y4], vl y5]) (fun y1 y2 y3 y4 => Q4 [.a [cs y1, ci y2, ci y3, cl y4]]) v1 v2 v3 v4 v5 v6 (fun u1 u2 u3 u4 u5 u6 => W [.c (.p 0 0), .c (.h 1), .c (.h 2), .c (.h 3), vi u1] [.box [cl u2, cl u3], ro u4, ro u5, ro u6]) (fun z1 => K (.exit 0) (mkS 78 [8] [.c (.h 0)] [ro z1] [])) := by kernel_rfl
def enc0 (t : Int × Vec (Vec Int) × (Vec (ByteArray × Int × Int × (Vec Int))) × (Vec (Int × Int × Int × ByteArray)) × Vec Bool × Vec Bool) : List AV × List Ob := ([.c (.p 0 0), .c (.h 1), .c (.h 2), .c (.h 3), vi t.1], [.box [cl t.2.1, cl t.2.2.1], ro t.2.2.2.1, ro t.2.2.2.2.1, ro t.2.2.2.2.2])
theorem enc0I : ∀ a b, enc0 a = enc0 b → a = b := by
  intro a b h
  obtain ⟨a0, a1, a2, a3, a4, a5⟩ := a
  obtain ⟨b0, b1, b2, b3, b4, b5⟩ := b
  simp [enc0, encRw_iff] at h
  simp_all
noncomputable def V0 : (ρ : Type) → List AV → List Ob → ((Vec (Int × Int × Int × ByteArray)) → Option ρ) → Option ρ := fun ρ avs obs k0 => ofC enc0 (fun t => F0 fuelN t.1 t.2.1 t.2.2.1 t.2.2.2.1 t.2.2.2.2.1 t.2.2.2.2.2 k0) (avs, obs)
theorem V0_enc (ρ : Type) : (fun w1 w2 w3 w4 w5 w6 k0 => V0 ρ [.c (.p 0 0), .c (.h 1), .c (.h 2), .c (.h 3), vi w1] [.box [cl w2, cl w3], ro w4, ro w5, ro w6] k0) = F0 fuelN := by
  funext w1 w2 w3 w4 w5 w6 k0
  exact ofC_enc enc0I _ (w1, w2, w3, w4, w5, w6)
theorem main (Q0 Q1 Q2 Q3 Q4) (W0) {ρ : Type} (K : AV → List Ob → Option ρ) (a1 a2 a3 a4) : exC Try.prog (G Q0 Q1 Q2 Q3 Q4) (L W0) [] 0 (bodyOf Try.f104) (entry 78 [.a [cl a1, cl a2], vi a3, vi a4] [] []) (finO Try.prog Try.f104.results.toList 0 [] [.ad (.s 6) 136] K) =
    B (fun y1 y2 => Q0 [.a [cl y1, cl y2]]) (fun y1 y2 y3 => Q1 [.a [cl y1, cl y2], vi y3]) (fun y1 y2 y3 => Q2 [.a [cl y1, cl y2], vi y3]) (fun w1 w2 w3 w4 w5 w6 k0 => W0 ρ [.c (.p 0 0), .c (.h 1), .c (.h 2), .c (.h 3), vi w1] [.box [cl w2, cl w3], ro w4, ro w5, ro w6] k0) a1 a2 a3 a4 (fun x1 x2 => K (.tup [.c (.h 0), .c (ci x1)]) [ro x2]) := by kernel_rfl
theorem Gok : (G spec_WeaveOk.Q spec_l06Has.Q spec_l06Closure.Q spec_l06Live.Q spec_l09Note.Q).ok Try.prog := ⟨(by
    intro ρ f args K r h
    rcases sel_cases h with ⟨hb, h⟩ | ⟨-, h⟩
    · obtain rfl := beq_nat hb
      exact qEntry_ok spec_WeaveOk.ac h
    rcases sel_cases h with ⟨hb, h⟩ | ⟨-, h⟩
    · obtain rfl := beq_nat hb
      exact qEntry_ok spec_l06Has.ac h
    rcases sel_cases h with ⟨hb, h⟩ | ⟨-, h⟩
    · obtain rfl := beq_nat hb
      exact qEntry_ok spec_l06Closure.ac h
    rcases sel_cases h with ⟨hb, h⟩ | ⟨-, h⟩
    · obtain rfl := beq_nat hb
      exact qEntry_ok spec_l06Live.ac h
    rcases sel_cases h with ⟨hb, h⟩ | ⟨-, h⟩
    · obtain rfl := beq_nat hb
      exact qEntry_ok spec_l09Note.ac h
    cases h),
  (by
    intro ρ f args K
    simp only [G]
    cases Nat.beq f 74 with
    | true => exact qEntry_nat args K
    | false =>
    simp only [sel]
    cases Nat.beq f 132 with
    | true => exact qEntry_nat args K
    | false =>
    simp only [sel]
    cases Nat.beq f 76 with
    | true => exact qEntry_nat args K
    | false =>
    simp only [sel]
    cases Nat.beq f 115 with
    | true => exact qEntry_nat args K
    | false =>
    simp only [sel]
    cases Nat.beq f 133 with
    | true => exact qEntry_nat args K
    | false =>
    simp only [sel]
    rfl),
  (fun ρ f st caps args dst K r h => (by cases h))⟩
theorem hm : Try.prog.follows .mixedOrders = true := by kernel_rfl
theorem e0 : atomsL [] 1 c0 = [] := by kernel_rfl
theorem ok0 (ρ : Type) (st : St) (K : Exit → St → Option ρ) (r : ρ) (h : (L V0) ρ 0 st K = some r) : AW Try.prog (.loop c0) st fun e st' => K e st' = some r := by
  refine loop_ok (ct := ct0) (lv := lv0) (n := 78) (m := 0) (ks := []) (j := 0) (jn := []) (L := (L V0)) Gok hm (by rw [e0]; exact Lor.ok_nil _ _) enc0I (fun k t => F0 k t.1 t.2.1 t.2.2.1 t.2.2.2.1 t.2.2.2.2.1 t.2.2.2.2.2 (fun z1 => K (.exit 0) (mkS 78 [8] [.c (.h 0)] [ro z1] []))) (fun t => rfl) (fun k t => ?_) (fun _ => fuelN) h
  refine (step0 spec_WeaveOk.Q spec_l06Has.Q spec_l06Closure.Q spec_l06Live.Q spec_l09Note.Q V0 K _ t.1 t.2.1 t.2.2.1 t.2.2.2.1 t.2.2.2.2.1 t.2.2.2.2.2).trans ?_
  rw [spec_l06Live.wrap, spec_l09Note.wrap]
  refine congrArg (fun W => B0 spec_l06Live.F spec_l09Note.F t.1 t.2.1 t.2.2.1 t.2.2.2.1 t.2.2.2.2.1 t.2.2.2.2.2 W (fun z1 => K (.exit 0) (mkS 78 [8] [.c (.h 0)] [ro z1] []))) ?_
  funext u1 u2 u3 u4 u5 u6
  exact ofC_enc enc0I _ (u1, u2, u3, u4, u5, u6)
theorem e : atomsL [] 0 (bodyOf Try.f104) = [(0, 0, .loop c0)] := by kernel_rfl
theorem acc (t : Vec (Vec Int) × (Vec (ByteArray × Int × Int × (Vec Int))) × Int × Int) (x : Int × (Vec (Int × Int × Int × ByteArray))) (h : F t.1 t.2.1 t.2.2.1 t.2.2.2 = some x) : ACc Try.prog 104 (encA t) [] true [] fun rv obs => (rv, obs) = encR x := by
  refine fun_okc (L := (L V0)) (jn := []) (cmds := [.ad (.s 6) 136]) (ks := []) (hin := []) (fn := Try.f104) (body := (bodyOf Try.f104)) Gok hm Try.func104 (by kernel_rfl) (by kernel_rfl) (by rw [e]; exact Lor.ok_cons ok0 (Lor.ok_nil _ _)) ?_ h
  refine (main spec_WeaveOk.Q spec_l06Has.Q spec_l06Closure.Q spec_l06Live.Q spec_l09Note.Q V0 _ t.1 t.2.1 t.2.2.1 t.2.2.2).trans ?_
  rw [spec_WeaveOk.wrap, spec_l06Has.wrap, spec_l06Closure.wrap, V0_enc]
  refine congrArg (fun K => B spec_WeaveOk.F spec_l06Has.F spec_l06Closure.F (F0 fuelN) t.1 t.2.1 t.2.2.1 t.2.2.2 K) ?_
  funext x1 x2
  exact ofC_enc encRI some (x1, x2)
theorem ac0 (t : Vec (Vec Int) × (Vec (ByteArray × Int × Int × (Vec Int))) × Int × Int) (x : Int × (Vec (Int × Int × Int × ByteArray))) (h : F t.1 t.2.1 t.2.2.1 t.2.2.2 = some x) : AC Try.prog 104 (encA t) [] true [] fun rv obs => (rv, obs) = encR x := ACc.ac (body := bodyOf Try.f104) Try.func104 (by kernel_rfl) (by kernel_rfl) (acc t x h)
theorem ac (args : List AV) (x : Int × (Vec (Int × Int × Int × ByteArray))) (h : Q args = some x) : AC Try.prog 104 args [] false [] fun rv obs => (rv, obs) = encR x := by
  obtain ⟨t, rfl, h2⟩ := ofC_some h
  refine (ac0 t x h2).flat fun rv obs e => ?_
  obtain rfl : rv = (encR x).1 := congrArg Prod.fst e
  obtain rfl : obs = (encR x).2 := congrArg Prod.snd e
  refine ⟨by simp [encR, AV.Flat, K.Flat, C.Flat], ?_⟩
  intro o ho
  simp only [encR, List.mem_cons, List.not_mem_nil, or_false] at ho
  subst ho
  exact flat_rw rfl _
end spec_Compare
/-! (loop.example/g00073/impl.Body).note -/
namespace impl_Body_note
noncomputable def B {ρ : Type} (a1 : ByteArray) (a2 : Int) (a3 : Int) (a4 : Vec Int) (K : Int → Int → ByteArray → Option ρ) : Option ρ :=
  K a2 a3 a1
noncomputable def F (a1 : ByteArray) (a2 : Int) (a3 : Int) (a4 : Vec Int) : Option (Int × Int × ByteArray) := B a1 a2 a3 a4 (fun x1 x2 x3 => some (x1, x2, x3))
def encA (t : ByteArray × Int × Int × Vec Int) : List AV := [.a [cs t.1, ci t.2.1, ci t.2.2.1, cl t.2.2.2]]
def encR (x : Int × Int × ByteArray) : AV × List Ob := (.a [ci x.1, ci x.2.1, cs x.2.2], [])
theorem encAI : ∀ a b, encA a = encA b → a = b := by
  intro a b h
  obtain ⟨a0, a1, a2, a3⟩ := a
  obtain ⟨b0, b1, b2, b3⟩ := b
  simp [encA, encRw_iff] at h
  simp_all
theorem encRI : ∀ a b, encR a = encR b → a = b := by
  intro a b h
  obtain ⟨a0, a1, a2⟩ := a
  obtain ⟨b0, b1, b2⟩ := b
  simp [encR, encRw_iff] at h
  simp_all
noncomputable def Q (args : List AV) : Option (Int × Int × ByteArray) := ofC encA (fun t => F t.1 t.2.1 t.2.2.1 t.2.2.2) args
theorem wrap : (fun (y1 : ByteArray) (y2 : Int) (y3 : Int) (y4 : Vec Int) => Q [.a [cs y1, ci y2, ci y3, cl y4]]) = F := by
  funext y1 y2 y3 y4
  exact ofC_enc encAI _ (y1, y2, y3, y4)
noncomputable def G : Orc := ⟨fun f => 9, fun ρ f args K => Option.none, noE, false⟩
noncomputable def L : Lor := fun ρ j st K => Option.none
theorem main {ρ : Type} (K : AV → List Ob → Option ρ) (a1 a2 a3 a4) : exC Try.prog (G) (L) [] 0 (bodyOf Try.f141) (entry 10 [.a [cs a1, ci a2, ci a3, cl a4]] [] []) (finO Try.prog Try.f141.results.toList 0 [] [] K) =
    B a1 a2 a3 a4 (fun x1 x2 x3 => K (.a [ci x1, ci x2, cs x3]) []) := by kernel_rfl
theorem Gok : (G).ok Try.prog := ⟨(fun ρ f args K r h => (by cases h)),
  (fun ρ f args K => rfl),
  (fun ρ f st caps args dst K r h => (by cases h))⟩
theorem hm : Try.prog.follows .mixedOrders = true := by kernel_rfl
theorem e : atomsL [] 0 (bodyOf Try.f141) = [] := by kernel_rfl
theorem acc (t : ByteArray × Int × Int × Vec Int) (x : Int × Int × ByteArray) (h : F t.1 t.2.1 t.2.2.1 t.2.2.2 = some x) : ACc Try.prog 141 (encA t) [] true [] fun rv obs => (rv, obs) = encR x := by
  refine fun_okc (L := (L)) (jn := []) (cmds := []) (ks := []) (hin := []) (fn := Try.f141) (body := (bodyOf Try.f141)) Gok hm Try.func141 (by kernel_rfl) (by kernel_rfl) (by rw [e]; exact Lor.ok_nil _ _) ?_ h
  refine (main _ t.1 t.2.1 t.2.2.1 t.2.2.2).trans ?_
  refine congrArg (fun K => B t.1 t.2.1 t.2.2.1 t.2.2.2 K) ?_
  funext x1 x2 x3
  exact ofC_enc encRI some (x1, x2, x3)
theorem ac0 (t : ByteArray × Int × Int × Vec Int) (x : Int × Int × ByteArray) (h : F t.1 t.2.1 t.2.2.1 t.2.2.2 = some x) : AC Try.prog 141 (encA t) [] true [] fun rv obs => (rv, obs) = encR x := ACc.ac (body := bodyOf Try.f141) Try.func141 (by kernel_rfl) (by kernel_rfl) (acc t x h)
theorem ac (args : List AV) (x : Int × Int × ByteArray) (h : Q args = some x) : AC Try.prog 141 args [] false [] fun rv obs => (rv, obs) = encR x := by
  obtain ⟨t, rfl, h2⟩ := ofC_some h
  refine (ac0 t x h2).flat fun rv obs e => ?_
  obtain rfl : rv = (encR x).1 := congrArg Prod.fst e
  obtain rfl : obs = (encR x).2 := congrArg Prod.snd e
  refine ⟨by simp [encR, AV.Flat, K.Flat, C.Flat], ?_⟩
  simp [encR]
end impl_Body_note
/-! (*loop.example/g00073/impl.Weave).compare -/
namespace impl_Weave_compare
noncomputable def B0 {ρ : Type} (C1 : ByteArray → Int → Int → (Vec Int) → Int → Option Bool) (C2 : ByteArray → Int → Int → (Vec Int) → Option (Int × Int × ByteArray)) (v1 : Int) (v2 : Int) (v3 : Vec (ByteArray × Int × Int × (Vec Int))) (v4 : Int) (v5 : Int) (v6 : Vec (IK .u64)) (v7 : Vec (Int × Int × Int × ByteArray)) (W : Int → Int → (Vec (ByteArray × Int × Int × (Vec Int))) → Int → Int → (Vec (IK .u64)) → (Vec (Int × Int × Int × ByteArray)) → Option ρ) (K0 : (Vec (Int × Int × Int × ByteArray)) → Option ρ) : Option ρ :=
  sel (decide (v5 < v4)) (chk (decide (0 ≤ v5 ∧ v5 < (v3.n : Int))) (chk (decide (0 ≤ v1 ∧ v1 < (v6.n : Int))) (chk (decide (v1.toNat < v6.n)) ((C1 ((v3.g v5.toNat).1) ((v3.g v5.toNat).2.1) ((v3.g v5.toNat).2.2.1) ((v3.g v5.toNat).2.2.2) ((v6.g v1.toNat).v)).bind fun r2 => chk (decide (0 ≤ v2 ∧ v2 < (v6.n : Int))) (chk (decide (v2.toNat < v6.n)) ((C1 ((v3.g v5.toNat).1) ((v3.g v5.toNat).2.1) ((v3.g v5.toNat).2.2.1) ((v3.g v5.toNat).2.2.2) ((v6.g v2.toNat).v)).bind fun r3 => (C2 ((v3.g v5.toNat).1) ((v3.g v5.toNat).2.1) ((v3.g v5.toNat).2.2.1) ((v3.g v5.toNat).2.2.2)).bind fun r4 => sel (r2) (sel (r3) (chk (decide ((v7.n + (Vec.lit [((1 : Int), r4.1, r4.2.1, r4.2.2)] : Vec (Int × Int × Int × ByteArray)).n) * 41 ≤ maxN)) (W v1 v2 v3 v4 (wr (v5 + (1 : Int))) v6 (Vec.app v7 (Vec.lit [((1 : Int), r4.1, r4.2.1, r4.2.2)] : Vec (Int × Int × Int × ByteArray))))) (sel (r2) (chk (decide ((v7.n + (Vec.lit [((2 : Int), r4.1, r4.2.1, r4.2.2)] : Vec (Int × Int × Int × ByteArray)).n) * 41 ≤ maxN)) (W v1 v2 v3 v4 (wr (v5 + (1 : Int))) v6 (Vec.app v7 (Vec.lit [((2 : Int), r4.1, r4.2.1, r4.2.2)] : Vec (Int × Int × Int × ByteArray))))) (sel (r3) (chk (decide ((v7.n + (Vec.lit [((3 : Int), r4.1, r4.2.1, r4.2.2)] : Vec (Int × Int × Int × ByteArray)).n) * 41 ≤ maxN)) (W v1 v2 v3 v4 (wr (v5 + (1 : Int))) v6 (Vec.app v7 (Vec.lit [((3 : Int), r4.1, r4.2.1, r4.2.2)] : Vec (Int × Int × Int × ByteArray))))) (W v1 v2 v3 v4 (wr (v5 + (1 : Int))) v6 v7)))) (sel (r2) (chk (decide ((v7.n + (Vec.lit [((2 : Int), r4.1, r4.2.1, r4.2.2)] : Vec (Int × Int × Int × ByteArray)).n) * 41 ≤ maxN)) (W v1 v2 v3 v4 (wr (v5 + (1 : Int))) v6 (Vec.app v7 (Vec.lit [((2 : Int), r4.1, r4.2.1, r4.2.2)] : Vec (Int × Int × Int × ByteArray))))) (sel (r3) (chk (decide ((v7.n + (Vec.lit [((3 : Int), r4.1, r4.2.1, r4.2.2)] : Vec (Int × Int × Int × ByteArray)).n) * 41 ≤ maxN)) (W v1 v2 v3 v4 (wr (v5 + (1 : Int))) v6 (Vec.app v7 (Vec.lit [((3 : Int), r4.1, r4.2.1, r4.2.2)] : Vec (Int × Int × Int × ByteArray))))) (W v1 v2 v3 v4 (wr (v5 + (1 : Int))) v6 v7))))))))) (K0 v7)
noncomputable def F0 {ρ : Type} : Nat → Int → Int → (Vec (ByteArray × Int × Int × (Vec Int))) → Int → Int → (Vec (IK .u64)) → (Vec (Int × Int × Int × ByteArray)) → ((Vec (Int × Int × Int × ByteArray)) → Option ρ) → Option ρ
  | 0, _, _, _, _, _, _, _, _ => none
  | k + 1, v1, v2, v3, v4, v5, v6, v7, K0 => B0 impl_Body_isLive.F impl_Body_note.F v1 v2 v3 v4 v5 v6 v7 (fun v1' v2' v3' v4' v5' v6' v7' => F0 k v1' v2' v3' v4' v5' v6' v7' K0) K0
noncomputable def B {ρ : Type} (C0 : (Vec (Vec Int)) → Option (Vec (IK .u64))) (L0 : Int → Int → (Vec (ByteArray × Int × Int × (Vec Int))) → Int → Int → (Vec (IK .u64)) → (Vec (Int × Int × Int × ByteArray)) → ((Vec (Int × Int × Int × ByteArray)) → Option ρ) → Option ρ) (a1 : Vec (Vec Int)) (a2 : Vec (ByteArray × Int × Int × (Vec Int))) (a3 : Int) (a4 : Int) (K : (Vec (Int × Int × Int × ByteArray)) → Option ρ) : Option ρ :=
  (C0 a1).bind fun r1 => L0 a3 a4 a2 (a2.n : Int) (0 : Int) r1 (Vec.nil : Vec (Int × Int × Int × ByteArray)) (fun e01 => K e01)
noncomputable def F (a1 : Vec (Vec Int)) (a2 : Vec (ByteArray × Int × Int × (Vec Int))) (a3 : Int) (a4 : Int) : Option (Vec (Int × Int × Int × ByteArray)) := B impl_closures.F (F0 fuelN) a1 a2 a3 a4 (fun x1 => some (x1))
def encA (t : Vec (Vec Int) × (Vec (ByteArray × Int × Int × (Vec Int))) × Int × Int) : List AV := [.ra [nl t.1, nl t.2.1], vi t.2.2.1, vi t.2.2.2]
def encR (x : Vec (Int × Int × Int × ByteArray)) : AV × List Ob := (.c (.h 0), [ro x])
theorem encAI : ∀ a b, encA a = encA b → a = b := by
  intro a b h
  obtain ⟨a0, a1, a2, a3⟩ := a
  obtain ⟨b0, b1, b2, b3⟩ := b
  simp [encA, encRw_iff] at h
  simp_all
theorem encRI : ∀ a b, encR a = encR b → a = b := by
  intro a b h
  simp [encR, encRw_iff] at h
  simp_all
noncomputable def Q (args : List AV) : Option (Vec (Int × Int × Int × ByteArray)) := ofC encA (fun t => F t.1 t.2.1 t.2.2.1 t.2.2.2) args
theorem wrap : (fun (y1 : Vec (Vec Int)) (y2 : Vec (ByteArray × Int × Int × (Vec Int))) (y3 : Int) (y4 : Int) => Q [.ra [nl y1, nl y2], vi y3, vi y4]) = F := by
  funext y1 y2 y3 y4
  exact ofC_enc encAI _ (y1, y2, y3, y4)
noncomputable def G (Q0 : List AV → Option (Vec (IK .u64))) (Q1 : List AV → Option Bool) (Q2 : List AV → Option (Int × Int × ByteArray)) : Orc := ⟨fun f => sel (Nat.beq f 117) 0 (sel (Nat.beq f 137) 0 (sel (Nat.beq f 141) 0 (9))), fun ρ f args K => sel (Nat.beq f 117) (qEntry impl_closures.encR Q0 args K) (sel (Nat.beq f 137) (qEntry impl_Body_isLive.encR Q1 args K) (sel (Nat.beq f 141) (qEntry impl_Body_note.encR Q2 args K) (Option.none))), noE, false⟩
noncomputable def L (W0 : (ρ : Type) → List AV → List Ob → ((Vec (Int × Int × Int × ByteArray)) → Option ρ) → Option ρ) : Lor := fun ρ j st K => sel (Nat.beq j 0) (cutO Try.prog 61 [1, 2, 7, 8, 22, 23, 24] 0 [] [.ad (.s 8) 136] st fun avs obs => W0 ρ avs obs (fun z1 => K (.exit 0) (mkS 61 [8] [.c (.h 0)] [ro z1] []))) (Option.none)
noncomputable def c0 : Code := loopC (atomN [] 0 (bodyOf Try.f134) 0)
def ct0 : Cut := ⟨[1, 2, 7, 8, 22, 23, 24], [.ad (.s 8) 136]⟩
def lv0 : Exit → Cut
  | .exit 0 => ⟨[8], []⟩
  | _ => ⟨[], []⟩
theorem step0 (Q0 Q1 Q2) (W0) {ρ : Type} (K : Exit → St → Option ρ) (W : List AV → List Ob → Option ρ) (v1 v2 v3 v4 v5 v6 v7) : exC Try.prog (G Q0 Q1 Q2) (L W0) [] 1 c0 (mkS 61 [1, 2, 7, 8, 22, 23, 24] [vi v1, vi v2, .c (.h 0), .c (.h 1), vl v3, vi v4, vi v5] [ro v6, ro v7] []) (bodyK Try.prog 61 0 [] ct0 W lv0 K) =
    B0 (fun y1 y2 y3 y4 y5 => Q1 [.a [cs y1, ci y2, ci y3, cl y4], vk .u64 y5]) (fun y1 y2 y3 y4 => Q2 [.a [cs y1, ci y2, ci y3, cl y4]]) v1 v2 v3 v4 v5 v6 v7 (fun u1 u2 u3 u4 u5 u6 u7 => W [vi u1, vi u2, .c (.h 0), .c (.h 1), vl u3, vi u4, vi u5] [ro u6, ro u7]) (fun z1 => K (.exit 0) (mkS 61 [8] [.c (.h 0)] [ro z1] [])) := by kernel_rfl
def enc0 (t : Int × Int × (Vec (ByteArray × Int × Int × (Vec Int))) × Int × Int × Vec (IK .u64) × (Vec (Int × Int × Int × ByteArray))) : List AV × List Ob := ([vi t.1, vi t.2.1, .c (.h 0), .c (.h 1), vl t.2.2.1, vi t.2.2.2.1, vi t.2.2.2.2.1], [ro t.2.2.2.2.2.1, ro t.2.2.2.2.2.2])
theorem enc0I : ∀ a b, enc0 a = enc0 b → a = b := by
  intro a b h
  obtain ⟨a0, a1, a2, a3, a4, a5, a6⟩ := a
  obtain ⟨b0, b1, b2, b3, b4, b5, b6⟩ := b
  simp [enc0, encRw_iff] at h
  simp_all
noncomputable def V0 : (ρ : Type) → List AV → List Ob → ((Vec (Int × Int × Int × ByteArray)) → Option ρ) → Option ρ := fun ρ avs obs k0 => ofC enc0 (fun t => F0 fuelN t.1 t.2.1 t.2.2.1 t.2.2.2.1 t.2.2.2.2.1 t.2.2.2.2.2.1 t.2.2.2.2.2.2 k0) (avs, obs)
theorem V0_enc (ρ : Type) : (fun w1 w2 w3 w4 w5 w6 w7 k0 => V0 ρ [vi w1, vi w2, .c (.h 0), .c (.h 1), vl w3, vi w4, vi w5] [ro w6, ro w7] k0) = F0 fuelN := by
  funext w1 w2 w3 w4 w5 w6 w7 k0
  exact ofC_enc enc0I _ (w1, w2, w3, w4, w5, w6, w7)
theorem main (Q0 Q1 Q2) (W0) {ρ : Type} (K : AV → List Ob → Option ρ) (a1 a2 a3 a4) : exC Try.prog (G Q0 Q1 Q2) (L W0) [] 0 (bodyOf Try.f134) (entry 61 [.ra [nl a1, nl a2], vi a3, vi a4] [] []) (finO Try.prog Try.f134.results.toList 0 [] [] K) =
    B (fun y1 => Q0 [vl y1]) (fun w1 w2 w3 w4 w5 w6 w7 k0 => W0 ρ [vi w1, vi w2, .c (.h 0), .c (.h 1), vl w3, vi w4, vi w5] [ro w6, ro w7] k0) a1 a2 a3 a4 (fun x1 => K (.c (.h 0)) [ro x1]) := by kernel_rfl
theorem Gok : (G impl_closures.Q impl_Body_isLive.Q impl_Body_note.Q).ok Try.prog := ⟨(by
    intro ρ f args K r h
    rcases sel_cases h with ⟨hb, h⟩ | ⟨-, h⟩
    · obtain rfl := beq_nat hb
      exact qEntry_ok impl_closures.ac h
    rcases sel_cases h with ⟨hb, h⟩ | ⟨-, h⟩
    · obtain rfl := beq_nat hb
      exact qEntry_ok impl_Body_isLive.ac h
    rcases sel_cases h with ⟨hb, h⟩ | ⟨-, h⟩
    · obtain rfl := beq_nat hb
      exact qEntry_ok impl_Body_note.ac h
    cases h),
  (by
    intro ρ f args K
    simp only [G]
    cases Nat.beq f 117 with
    | true => exact qEntry_nat args K
    | false =>
    simp only [sel]
    cases Nat.beq f 137 with
    | true => exact qEntry_nat args K
    | false =>
    simp only [sel]
    cases Nat.beq f 141 with
    | true => exact qEntry_nat args K
    | false =>
    simp only [sel]
    rfl),
  (fun ρ f st caps args dst K r h => (by cases h))⟩
theorem hm : Try.prog.follows .mixedOrders = true := by kernel_rfl
theorem e0 : atomsL [] 1 c0 = [] := by kernel_rfl
theorem ok0 (ρ : Type) (st : St) (K : Exit → St → Option ρ) (r : ρ) (h : (L V0) ρ 0 st K = some r) : AW Try.prog (.loop c0) st fun e st' => K e st' = some r := by
  refine loop_ok (ct := ct0) (lv := lv0) (n := 61) (m := 0) (ks := []) (j := 0) (jn := []) (L := (L V0)) Gok hm (by rw [e0]; exact Lor.ok_nil _ _) enc0I (fun k t => F0 k t.1 t.2.1 t.2.2.1 t.2.2.2.1 t.2.2.2.2.1 t.2.2.2.2.2.1 t.2.2.2.2.2.2 (fun z1 => K (.exit 0) (mkS 61 [8] [.c (.h 0)] [ro z1] []))) (fun t => rfl) (fun k t => ?_) (fun _ => fuelN) h
  refine (step0 impl_closures.Q impl_Body_isLive.Q impl_Body_note.Q V0 K _ t.1 t.2.1 t.2.2.1 t.2.2.2.1 t.2.2.2.2.1 t.2.2.2.2.2.1 t.2.2.2.2.2.2).trans ?_
  rw [impl_Body_isLive.wrap, impl_Body_note.wrap]
  refine congrArg (fun W => B0 impl_Body_isLive.F impl_Body_note.F t.1 t.2.1 t.2.2.1 t.2.2.2.1 t.2.2.2.2.1 t.2.2.2.2.2.1 t.2.2.2.2.2.2 W (fun z1 => K (.exit 0) (mkS 61 [8] [.c (.h 0)] [ro z1] []))) ?_
  funext u1 u2 u3 u4 u5 u6 u7
  exact ofC_enc enc0I _ (u1, u2, u3, u4, u5, u6, u7)
theorem e : atomsL [] 0 (bodyOf Try.f134) = [(0, 0, .loop c0)] := by kernel_rfl
theorem acc (t : Vec (Vec Int) × (Vec (ByteArray × Int × Int × (Vec Int))) × Int × Int) (x : Vec (Int × Int × Int × ByteArray)) (h : F t.1 t.2.1 t.2.2.1 t.2.2.2 = some x) : ACc Try.prog 134 (encA t) [] true [] fun rv obs => (rv, obs) = encR x := by
  refine fun_okc (L := (L V0)) (jn := []) (cmds := []) (ks := []) (hin := []) (fn := Try.f134) (body := (bodyOf Try.f134)) Gok hm Try.func134 (by kernel_rfl) (by kernel_rfl) (by rw [e]; exact Lor.ok_cons ok0 (Lor.ok_nil _ _)) ?_ h
  refine (main impl_closures.Q impl_Body_isLive.Q impl_Body_note.Q V0 _ t.1 t.2.1 t.2.2.1 t.2.2.2).trans ?_
  rw [impl_closures.wrap, V0_enc]
  refine congrArg (fun K => B impl_closures.F (F0 fuelN) t.1 t.2.1 t.2.2.1 t.2.2.2 K) ?_
  funext x1
  exact ofC_enc encRI some (x1)
theorem ac0 (t : Vec (Vec Int) × (Vec (ByteArray × Int × Int × (Vec Int))) × Int × Int) (x : Vec (Int × Int × Int × ByteArray)) (h : F t.1 t.2.1 t.2.2.1 t.2.2.2 = some x) : AC Try.prog 134 (encA t) [] true [] fun rv obs => (rv, obs) = encR x := ACc.ac (body := bodyOf Try.f134) Try.func134 (by kernel_rfl) (by kernel_rfl) (acc t x h)
theorem ac (args : List AV) (x : Vec (Int × Int × Int × ByteArray)) (h : Q args = some x) : AC Try.prog 134 args [] false [] fun rv obs => (rv, obs) = encR x := by
  obtain ⟨t, rfl, h2⟩ := ofC_some h
  refine (ac0 t x h2).flat fun rv obs e => ?_
  obtain rfl : rv = (encR x).1 := congrArg Prod.fst e
  obtain rfl : obs = (encR x).2 := congrArg Prod.snd e
  refine ⟨by simp [encR, AV.Flat, K.Flat, C.Flat], ?_⟩
  intro o ho
  simp only [encR, List.mem_cons, List.not_mem_nil, or_false] at ho
  subst ho
  exact flat_rw rfl _
end impl_Weave_compare
/-! (*loop.example/g00073/impl.Weave).areVersions -/
namespace impl_Weave_areVersions
noncomputable def B0 {ρ : Type} (C0 : Int → Int → Option Bool) (v1 : Vec (Vec Int)) (v2 : Vec (ByteArray × Int × Int × (Vec Int))) (v3 : Vec Int) (v4 : Int) (v5 : Int) (W : (Vec (Vec Int)) → (Vec (ByteArray × Int × Int × (Vec Int))) → (Vec Int) → Int → Int → Option ρ) (K0 : Unit → Option ρ) (Kr : Bool → Option ρ) : Option ρ :=
  sel (decide (v5 < v4)) (chk (decide (0 ≤ v5 ∧ v5 < (v3.n : Int))) ((C0 (v3.g v5.toNat) (v1.n : Int)).bind fun r1 => sel ((!r1)) (Kr false) (W v1 v2 v3 v4 (wr (v5 + (1 : Int)))))) (K0 ())
noncomputable def F0 {ρ : Type} : Nat → (Vec (Vec Int)) → (Vec (ByteArray × Int × Int × (Vec Int))) → (Vec Int) → Int → Int → (Unit → Option ρ) → (Bool → Option ρ) → Option ρ
  | 0, _, _, _, _, _, _, _ => none
  | k + 1, v1, v2, v3, v4, v5, K0, Kr => B0 impl_isPlace.F v1 v2 v3 v4 v5 (fun v1' v2' v3' v4' v5' => F0 k v1' v2' v3' v4' v5' K0 Kr) K0 Kr
noncomputable def B {ρ : Type} (L0 : (Vec (Vec Int)) → (Vec (ByteArray × Int × Int × (Vec Int))) → (Vec Int) → Int → Int → (Unit → Option ρ) → (Bool → Option ρ) → Option ρ) (a1 : Vec (Vec Int)) (a2 : Vec (ByteArray × Int × Int × (Vec Int))) (a3 : Vec Int) (K : Bool → Option ρ) : Option ρ :=
  L0 a1 a2 a3 (a3.n : Int) (0 : Int) (fun _ => K true) (fun x01 => K x01)
noncomputable def F (a1 : Vec (Vec Int)) (a2 : Vec (ByteArray × Int × Int × (Vec Int))) (a3 : Vec Int) : Option Bool := B (F0 fuelN) a1 a2 a3 (fun x1 => some (x1))
def encA (t : Vec (Vec Int) × (Vec (ByteArray × Int × Int × (Vec Int))) × Vec Int) : List AV := [.ra [nl t.1, nl t.2.1], vl t.2.2]
def encR (x : Bool) : AV × List Ob := (vb x, [])
theorem encAI : ∀ a b, encA a = encA b → a = b := by
  intro a b h
  obtain ⟨a0, a1, a2⟩ := a
  obtain ⟨b0, b1, b2⟩ := b
  simp [encA, encRw_iff] at h
  simp_all
theorem encRI : ∀ a b, encR a = encR b → a = b := by
  intro a b h
  simp [encR, encRw_iff] at h
  simp_all
noncomputable def Q (args : List AV) : Option Bool := ofC encA (fun t => F t.1 t.2.1 t.2.2) args
theorem wrap : (fun (y1 : Vec (Vec Int)) (y2 : Vec (ByteArray × Int × Int × (Vec Int))) (y3 : Vec Int) => Q [.ra [nl y1, nl y2], vl y3]) = F := by
  funext y1 y2 y3
  exact ofC_enc encAI _ (y1, y2, y3)
noncomputable def G (Q0 : List AV → Option Bool) : Orc := ⟨fun f => sel (Nat.beq f 47) 0 (9), fun ρ f args K => sel (Nat.beq f 47) (qEntry impl_isPlace.encR Q0 args K) (Option.none), noE, false⟩
noncomputable def L (W0 : (ρ : Type) → List AV → List Ob → (Unit → Option ρ) → (Bool → Option ρ) → Option ρ) : Lor := fun ρ j st K => sel (Nat.beq j 0) (cutO Try.prog 22 [0, 7, 8, 9] 0 [] [] st fun avs obs => W0 ρ avs obs (fun _ => K (.exit 0) (mkS 22 [] [] [] [])) (fun z1 => K .ret (mkS 22 [4] [vb z1] [] []))) (Option.none)
noncomputable def c0 : Code := loopC (atomN [] 0 (bodyOf Try.f106) 0)
def ct0 : Cut := ⟨[0, 7, 8, 9], []⟩
def lv0 : Exit → Cut
  | .exit 0 => ⟨[], []⟩
  | .ret => ⟨[4], []⟩
  | _ => ⟨[], []⟩
theorem step0 (Q0) (W0) {ρ : Type} (K : Exit → St → Option ρ) (W : List AV → List Ob → Option ρ) (v1 v2 v3 v4 v5) : exC Try.prog (G Q0) (L W0) [] 1 c0 (mkS 22 [0, 7, 8, 9] [.ra [nl v1, nl v2], vl v3, vi v4, vi v5] [] []) (bodyK Try.prog 22 0 [] ct0 W lv0 K) =
    B0 (fun y1 y2 => Q0 [vi y1, vi y2]) v1 v2 v3 v4 v5 (fun u1 u2 u3 u4 u5 => W [.ra [nl u1, nl u2], vl u3, vi u4, vi u5] []) (fun _ => K (.exit 0) (mkS 22 [] [] [] [])) (fun z1 => K .ret (mkS 22 [4] [vb z1] [] [])) := by kernel_rfl
def enc0 (t : Vec (Vec Int) × (Vec (ByteArray × Int × Int × (Vec Int))) × Vec Int × Int × Int) : List AV × List Ob := ([.ra [nl t.1, nl t.2.1], vl t.2.2.1, vi t.2.2.2.1, vi t.2.2.2.2], [])
theorem enc0I : ∀ a b, enc0 a = enc0 b → a = b := by
  intro a b h
  obtain ⟨a0, a1, a2, a3, a4⟩ := a
  obtain ⟨b0, b1, b2, b3, b4⟩ := b
  simp [enc0, encRw_iff] at h
  simp_all
noncomputable def V0 : (ρ : Type) → List AV → List Ob → (Unit → Option ρ) → (Bool → Option ρ) → Option ρ := fun ρ avs obs k0 kr => ofC enc0 (fun t => F0 fuelN t.1 t.2.1 t.2.2.1 t.2.2.2.1 t.2.2.2.2 k0 kr) (avs, obs)
theorem V0_enc (ρ : Type) : (fun w1 w2 w3 w4 w5 k0 kr => V0 ρ [.ra [nl w1, nl w2], vl w3, vi w4, vi w5] [] k0 kr) = F0 fuelN := by
  funext w1 w2 w3 w4 w5 k0 kr
  exact ofC_enc enc0I _ (w1, w2, w3, w4, w5)
theorem main (Q0) (W0) {ρ : Type} (K : AV → List Ob → Option ρ) (a1 a2 a3) : exC Try.prog (G Q0) (L W0) [] 0 (bodyOf Try.f106) (entry 22 [.ra [nl a1, nl a2], vl a3] [] []) (finO Try.prog Try.f106.results.toList 0 [] [] K) =
    B (fun w1 w2 w3 w4 w5 k0 kr => W0 ρ [.ra [nl w1, nl w2], vl w3, vi w4, vi w5] [] k0 kr) a1 a2 a3 (fun x1 => K (vb x1) []) := by kernel_rfl
theorem Gok : (G impl_isPlace.Q).ok Try.prog := ⟨(by
    intro ρ f args K r h
    rcases sel_cases h with ⟨hb, h⟩ | ⟨-, h⟩
    · obtain rfl := beq_nat hb
      exact qEntry_ok impl_isPlace.ac h
    cases h),
  (by
    intro ρ f args K
    simp only [G]
    cases Nat.beq f 47 with
    | true => exact qEntry_nat args K
    | false =>
    simp only [sel]
    rfl),
  (fun ρ f st caps args dst K r h => (by cases h))⟩
theorem hm : Try.prog.follows .mixedOrders = true := by kernel_rfl
theorem e0 : atomsL [] 1 c0 = [] := by kernel_rfl
theorem ok0 (ρ : Type) (st : St) (K : Exit → St → Option ρ) (r : ρ) (h : (L V0) ρ 0 st K = some r) : AW Try.prog (.loop c0) st fun e st' => K e st' = some r := by
  refine loop_ok (ct := ct0) (lv := lv0) (n := 22) (m := 0) (ks := []) (j := 0) (jn := []) (L := (L V0)) Gok hm (by rw [e0]; exact Lor.ok_nil _ _) enc0I (fun k t => F0 k t.1 t.2.1 t.2.2.1 t.2.2.2.1 t.2.2.2.2 (fun _ => K (.exit 0) (mkS 22 [] [] [] [])) (fun z1 => K .ret (mkS 22 [4] [vb z1] [] []))) (fun t => rfl) (fun k t => ?_) (fun _ => fuelN) h
  refine (step0 impl_isPlace.Q V0 K _ t.1 t.2.1 t.2.2.1 t.2.2.2.1 t.2.2.2.2).trans ?_
  rw [impl_isPlace.wrap]
  refine congrArg (fun W => B0 impl_isPlace.F t.1 t.2.1 t.2.2.1 t.2.2.2.1 t.2.2.2.2 W (fun _ => K (.exit 0) (mkS 22 [] [] [] [])) (fun z1 => K .ret (mkS 22 [4] [vb z1] [] []))) ?_
  funext u1 u2 u3 u4 u5
  exact ofC_enc enc0I _ (u1, u2, u3, u4, u5)
theorem e : atomsL [] 0 (bodyOf Try.f106) = [(0, 0, .loop c0)] := by kernel_rfl
theorem acc (t : Vec (Vec Int) × (Vec (ByteArray × Int × Int × (Vec Int))) × Vec Int) (x : Bool) (h : F t.1 t.2.1 t.2.2 = some x) : ACc Try.prog 106 (encA t) [] true [] fun rv obs => (rv, obs) = encR x := by
  refine fun_okc (L := (L V0)) (jn := []) (cmds := []) (ks := []) (hin := []) (fn := Try.f106) (body := (bodyOf Try.f106)) Gok hm Try.func106 (by kernel_rfl) (by kernel_rfl) (by rw [e]; exact Lor.ok_cons ok0 (Lor.ok_nil _ _)) ?_ h
  refine (main impl_isPlace.Q V0 _ t.1 t.2.1 t.2.2).trans ?_
  rw [V0_enc]
  refine congrArg (fun K => B (F0 fuelN) t.1 t.2.1 t.2.2 K) ?_
  funext x1
  exact ofC_enc encRI some (x1)
theorem ac0 (t : Vec (Vec Int) × (Vec (ByteArray × Int × Int × (Vec Int))) × Vec Int) (x : Bool) (h : F t.1 t.2.1 t.2.2 = some x) : AC Try.prog 106 (encA t) [] true [] fun rv obs => (rv, obs) = encR x := ACc.ac (body := bodyOf Try.f106) Try.func106 (by kernel_rfl) (by kernel_rfl) (acc t x h)
theorem ac (args : List AV) (x : Bool) (h : Q args = some x) : AC Try.prog 106 args [] false [] fun rv obs => (rv, obs) = encR x := by
  obtain ⟨t, rfl, h2⟩ := ofC_some h
  refine (ac0 t x h2).flat fun rv obs e => ?_
  obtain rfl : rv = (encR x).1 := congrArg Prod.fst e
  obtain rfl : obs = (encR x).2 := congrArg Prod.snd e
  refine ⟨by simp [encR, AV.Flat, K.Flat, C.Flat], ?_⟩
  simp [encR]
end impl_Weave_areVersions
/-! loop.example/g00073/impl.versionsCode -/
namespace impl_versionsCode
noncomputable def B {ρ : Type} (C0 : (Vec (Vec Int)) → (Vec (ByteArray × Int × Int × (Vec Int))) → Option Bool) (C1 : (Vec (Vec Int)) → (Vec (ByteArray × Int × Int × (Vec Int))) → (Vec Int) → Option Bool) (a1 : Vec (Vec Int)) (a2 : Vec (ByteArray × Int × Int × (Vec Int))) (a3 : Vec Int) (K : Int → Option ρ) : Option ρ :=
  (C0 a1 a2).bind fun r1 => sel ((!r1)) (K (1 : Int)) ((C1 a1 a2 a3).bind fun r2 => sel ((!r2)) (K (2 : Int)) (K (0 : Int)))
noncomputable def F (a1 : Vec (Vec Int)) (a2 : Vec (ByteArray × Int × Int × (Vec Int))) (a3 : Vec Int) : Option Int := B impl_WeaveOk.F impl_Weave_areVersions.F a1 a2 a3 (fun x1 => some (x1))
def encA (t : Vec (Vec Int) × (Vec (ByteArray × Int × Int × (Vec Int))) × Vec Int) : List AV := [.a [cl t.1, cl t.2.1], vl t.2.2]
def encR (x : Int) : AV × List Ob := (vi x, [])
theorem encAI : ∀ a b, encA a = encA b → a = b := by
  intro a b h
  obtain ⟨a0, a1, a2⟩ := a
  obtain ⟨b0, b1, b2⟩ := b
  simp [encA, encRw_iff] at h
  simp_all
theorem encRI : ∀ a b, encR a = encR b → a = b := by
  intro a b h
  simp [encR, encRw_iff] at h
  simp_all
noncomputable def Q (args : List AV) : Option Int := ofC encA (fun t => F t.1 t.2.1 t.2.2) args
theorem wrap : (fun (y1 : Vec (Vec Int)) (y2 : Vec (ByteArray × Int × Int × (Vec Int))) (y3 : Vec Int) => Q [.a [cl y1, cl y2], vl y3]) = F := by
  funext y1 y2 y3
  exact ofC_enc encAI _ (y1, y2, y3)
noncomputable def G (Q0 : List AV → Option Bool) (Q1 : List AV → Option Bool) : Orc := ⟨fun f => sel (Nat.beq f 78) 0 (sel (Nat.beq f 106) 0 (9)), fun ρ f args K => sel (Nat.beq f 78) (qEntry impl_WeaveOk.encR Q0 args K) (sel (Nat.beq f 106) (qEntry impl_Weave_areVersions.encR Q1 args K) (Option.none)), noE, false⟩
noncomputable def L : Lor := fun ρ j st K => Option.none
theorem main (Q0 Q1) {ρ : Type} (K : AV → List Ob → Option ρ) (a1 a2 a3) : exC Try.prog (G Q0 Q1) (L) [] 0 (bodyOf Try.f59) (entry 13 [.a [cl a1, cl a2], vl a3] [] []) (finO Try.prog Try.f59.results.toList 0 [] [] K) =
    B (fun y1 y2 => Q0 [.a [cl y1, cl y2]]) (fun y1 y2 y3 => Q1 [.ra [nl y1, nl y2], vl y3]) a1 a2 a3 (fun x1 => K (vi x1) []) := by kernel_rfl
theorem Gok : (G impl_WeaveOk.Q impl_Weave_areVersions.Q).ok Try.prog := ⟨(by
    intro ρ f args K r h
    rcases sel_cases h with ⟨hb, h⟩ | ⟨-, h⟩
    · obtain rfl := beq_nat hb
      exact qEntry_ok impl_WeaveOk.ac h
    rcases sel_cases h with ⟨hb, h⟩ | ⟨-, h⟩
    · obtain rfl := beq_nat hb
      exact qEntry_ok impl_Weave_areVersions.ac h
    cases h),
  (by
    intro ρ f args K
    simp only [G]
    cases Nat.beq f 78 with
    | true => exact qEntry_nat args K
    | false =>
    simp only [sel]
    cases Nat.beq f 106 with
    | true => exact qEntry_nat args K
    | false =>
    simp only [sel]
    rfl),
  (fun ρ f st caps args dst K r h => (by cases h))⟩
theorem hm : Try.prog.follows .mixedOrders = true := by kernel_rfl
theorem e : atomsL [] 0 (bodyOf Try.f59) = [] := by kernel_rfl
theorem acc (t : Vec (Vec Int) × (Vec (ByteArray × Int × Int × (Vec Int))) × Vec Int) (x : Int) (h : F t.1 t.2.1 t.2.2 = some x) : ACc Try.prog 59 (encA t) [] true [] fun rv obs => (rv, obs) = encR x := by
  refine fun_okc (L := (L)) (jn := []) (cmds := []) (ks := []) (hin := []) (fn := Try.f59) (body := (bodyOf Try.f59)) Gok hm Try.func59 (by kernel_rfl) (by kernel_rfl) (by rw [e]; exact Lor.ok_nil _ _) ?_ h
  refine (main impl_WeaveOk.Q impl_Weave_areVersions.Q _ t.1 t.2.1 t.2.2).trans ?_
  rw [impl_WeaveOk.wrap, impl_Weave_areVersions.wrap]
  refine congrArg (fun K => B impl_WeaveOk.F impl_Weave_areVersions.F t.1 t.2.1 t.2.2 K) ?_
  funext x1
  exact ofC_enc encRI some (x1)
theorem ac0 (t : Vec (Vec Int) × (Vec (ByteArray × Int × Int × (Vec Int))) × Vec Int) (x : Int) (h : F t.1 t.2.1 t.2.2 = some x) : AC Try.prog 59 (encA t) [] true [] fun rv obs => (rv, obs) = encR x := ACc.ac (body := bodyOf Try.f59) Try.func59 (by kernel_rfl) (by kernel_rfl) (acc t x h)
theorem ac (args : List AV) (x : Int) (h : Q args = some x) : AC Try.prog 59 args [] false [] fun rv obs => (rv, obs) = encR x := by
  obtain ⟨t, rfl, h2⟩ := ofC_some h
  refine (ac0 t x h2).flat fun rv obs e => ?_
  obtain rfl : rv = (encR x).1 := congrArg Prod.fst e
  obtain rfl : obs = (encR x).2 := congrArg Prod.snd e
  refine ⟨by simp [encR, AV.Flat, K.Flat, C.Flat], ?_⟩
  simp [encR]
end impl_versionsCode
end Go.Al
