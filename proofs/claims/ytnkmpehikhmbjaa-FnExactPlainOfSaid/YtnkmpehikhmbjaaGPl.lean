import Derived.Test.YtnkmpehikhmbjaaAlE
import Derived.Test.YtnkmpehikhmbjaaSC
import Derived.Test.YtnkmpehikhmbjaaGTx
set_option linter.unusedVariables false
set_option linter.unusedSimpArgs false
set_option linter.constructorNameAsVariable false
set_option linter.unusedSectionVars false
set_option maxRecDepth 100000
namespace Go.Al
open Go.Proofs

/-! loop.example/g00073/spec.PlainOf -/
namespace spec_PlainOf
noncomputable def B1 {ρ : Type} (v1 : Int) (v2 : Int) (v3 : Vec (Vec Int)) (v4 : Vec (ByteArray × Int × Int × (Vec Int))) (v5 : Vec (Int × Int)) (v6 : Vec Int) (v7 : Vec (Vec Int)) (v8 : Vec (Vec ByteArray)) (v9 : Vec (Vec (Int × Int))) (W : Int → Int → (Vec (Vec Int)) → (Vec (ByteArray × Int × Int × (Vec Int))) → (Vec (Int × Int)) → (Vec Int) → (Vec (Vec Int)) → (Vec (Vec ByteArray)) → (Vec (Vec (Int × Int))) → Option ρ) (K2 : Int → (Vec (Vec Int)) → (Vec (ByteArray × Int × Int × (Vec Int))) → (Vec (Int × Int)) → (Vec Int) → (Vec (Vec Int)) → (Vec (Vec ByteArray)) → (Vec (Vec (Int × Int))) → Option ρ) : Option ρ :=
  sel (decide (v2 < (v6.n : Int))) (chk (decide (0 ≤ v2 ∧ v2 < (v6.n : Int))) (chk (decide (v2.toNat < v6.n)) (chk (decide (0 ≤ (v6.g v2.toNat) ∧ (v6.g v2.toNat) < (v4.n : Int))) (chk (decide (0 ≤ v2 ∧ v2 < (v6.n : Int))) (chk (decide (v2.toNat < v6.n)) (chk (decide (0 ≤ (v6.g v2.toNat) ∧ (v6.g v2.toNat) < (v4.n : Int))) (chk (decide ((v5.n + (Vec.lit [((v4.g (v6.g v2.toNat).toNat).2.1, (v4.g (v6.g v2.toNat).toNat).2.2.1)] : Vec (Int × Int)).n) * 17 ≤ maxN)) (W v1 (wr (v2 + (1 : Int))) v3 v4 (Vec.app v5 (Vec.lit [((v4.g (v6.g v2.toNat).toNat).2.1, (v4.g (v6.g v2.toNat).toNat).2.2.1)] : Vec (Int × Int))) v6 v7 v8 v9)))))))) (K2 v1 v3 v4 v5 v6 v7 v8 v9)
noncomputable def F1 {ρ : Type} : Nat → Int → Int → (Vec (Vec Int)) → (Vec (ByteArray × Int × Int × (Vec Int))) → (Vec (Int × Int)) → (Vec Int) → (Vec (Vec Int)) → (Vec (Vec ByteArray)) → (Vec (Vec (Int × Int))) → (Int → (Vec (Vec Int)) → (Vec (ByteArray × Int × Int × (Vec Int))) → (Vec (Int × Int)) → (Vec Int) → (Vec (Vec Int)) → (Vec (Vec ByteArray)) → (Vec (Vec (Int × Int))) → Option ρ) → Option ρ
  | 0, _, _, _, _, _, _, _, _, _, _ => none
  | k + 1, v1, v2, v3, v4, v5, v6, v7, v8, v9, K2 => B1 v1 v2 v3 v4 v5 v6 v7 v8 v9 (fun v1' v2' v3' v4' v5' v6' v7' v8' v9' => F1 k v1' v2' v3' v4' v5' v6' v7' v8' v9' K2) K2
noncomputable def B0 {ρ : Type} (C1 : (Vec (Vec Int)) → (Vec (ByteArray × Int × Int × (Vec Int))) → Int → Option (Vec Bool)) (C2 : (Vec (Vec Int)) → (Vec (ByteArray × Int × Int × (Vec Int))) → (Vec Bool) → Option (Vec Int)) (C3 : (Vec (Vec Int)) → (Vec (ByteArray × Int × Int × (Vec Int))) → (Vec Int) → Option (Vec ByteArray)) (L1 : Int → Int → (Vec (Vec Int)) → (Vec (ByteArray × Int × Int × (Vec Int))) → (Vec (Int × Int)) → (Vec Int) → (Vec (Vec Int)) → (Vec (Vec ByteArray)) → (Vec (Vec (Int × Int))) → (Int → (Vec (Vec Int)) → (Vec (ByteArray × Int × Int × (Vec Int))) → (Vec (Int × Int)) → (Vec Int) → (Vec (Vec Int)) → (Vec (Vec ByteArray)) → (Vec (Vec (Int × Int))) → Option ρ) → Option ρ) (v1 : Int) (v2 : Vec (Vec Int)) (v3 : Vec (ByteArray × Int × Int × (Vec Int))) (v4 : Vec (Vec Int)) (v5 : Vec (Vec ByteArray)) (v6 : Vec (Vec (Int × Int))) (W : Int → (Vec (Vec Int)) → (Vec (ByteArray × Int × Int × (Vec Int))) → (Vec (Vec Int)) → (Vec (Vec ByteArray)) → (Vec (Vec (Int × Int))) → Option ρ) (K0 : (Vec (Vec Int)) → (Vec (Vec ByteArray)) → (Vec (Vec (Int × Int))) → Option ρ) : Option ρ :=
  sel (decide (v1 < (v2.n : Int))) ((C1 v2 v3 v1).bind fun r2 => (C2 v2 v3 r2).bind fun r3 => L1 v1 (0 : Int) v2 v3 (Vec.nil : Vec (Int × Int)) r3 v4 v5 v6 (fun e11 e12 e13 e14 e15 e16 e17 e18 => chk (decide (0 ≤ e11 ∧ e11 < (e12.n : Int))) (chk (decide ((e12.g e11.toNat).n * 9 ≤ maxN)) (chk (decide ((e16.n + (Vec.lit [(e12.g e11.toNat)] : Vec (Vec Int)).n) * 25 ≤ maxN)) ((C3 e12 e13 e15).bind fun r4 => chk (decide ((e17.n + (Vec.lit [r4] : Vec (Vec ByteArray)).n) * 25 ≤ maxN)) (chk (decide ((e18.n + (Vec.lit [e14] : Vec (Vec (Int × Int))).n) * 25 ≤ maxN)) (W (wr (e11 + (1 : Int))) e12 e13 (Vec.app e16 (Vec.lit [(e12.g e11.toNat)] : Vec (Vec Int))) (Vec.app e17 (Vec.lit [r4] : Vec (Vec ByteArray))) (Vec.app e18 (Vec.lit [e14] : Vec (Vec (Int × Int))))))))))) (K0 v4 v5 v6)
noncomputable def F0 {ρ : Type} : Nat → Int → (Vec (Vec Int)) → (Vec (ByteArray × Int × Int × (Vec Int))) → (Vec (Vec Int)) → (Vec (Vec ByteArray)) → (Vec (Vec (Int × Int))) → ((Vec (Vec Int)) → (Vec (Vec ByteArray)) → (Vec (Vec (Int × Int))) → Option ρ) → Option ρ
  | 0, _, _, _, _, _, _, _ => none
  | k + 1, v1, v2, v3, v4, v5, v6, K0 => B0 spec_l06Closure.F spec_l06Places.F spec_l06Lines.F (F1 fuelN) v1 v2 v3 v4 v5 v6 (fun v1' v2' v3' v4' v5' v6' => F0 k v1' v2' v3' v4' v5' v6' K0) K0
noncomputable def B {ρ : Type} (C0 : (Vec (Vec Int)) → (Vec (ByteArray × Int × Int × (Vec Int))) → Option Bool) (L0 : Int → (Vec (Vec Int)) → (Vec (ByteArray × Int × Int × (Vec Int))) → (Vec (Vec Int)) → (Vec (Vec ByteArray)) → (Vec (Vec (Int × Int))) → ((Vec (Vec Int)) → (Vec (Vec ByteArray)) → (Vec (Vec (Int × Int))) → Option ρ) → Option ρ) (a1 : Vec (Vec Int)) (a2 : Vec (ByteArray × Int × Int × (Vec Int))) (K : Bool → (Vec (Vec Int)) → (Vec (Vec ByteArray)) → (Vec (Vec (Int × Int))) → Option ρ) : Option ρ :=
  (C0 a1 a2).bind fun r1 => sel ((!r1)) (K false (Vec.nil : Vec (Vec Int)) (Vec.nil : Vec (Vec ByteArray)) (Vec.nil : Vec (Vec (Int × Int)))) (L0 (0 : Int) a1 a2 (Vec.nil : Vec (Vec Int)) (Vec.nil : Vec (Vec ByteArray)) (Vec.nil : Vec (Vec (Int × Int))) (fun e01 e02 e03 => K true e01 e02 e03))
noncomputable def F (a1 : Vec (Vec Int)) (a2 : Vec (ByteArray × Int × Int × (Vec Int))) : Option (Bool × Vec (Vec Int) × Vec (Vec ByteArray) × (Vec (Vec (Int × Int)))) := B spec_WeaveOk.F (F0 fuelN) a1 a2 (fun x1 x2 x3 x4 => some (x1, x2, x3, x4))
def encA (t : Vec (Vec Int) × (Vec (ByteArray × Int × Int × (Vec Int)))) : List AV := [.a [cl t.1, cl t.2]]
def encR (x : Bool × Vec (Vec Int) × Vec (Vec ByteArray) × (Vec (Vec (Int × Int)))) : AV × List Ob := (.tup [.a [.h 0, .h 1, .h 2], .c (cb x.1)], [ro x.2.1, ro x.2.2.1, ro x.2.2.2])
theorem encAI : ∀ a b, encA a = encA b → a = b := by
  intro a b h
  obtain ⟨a0, a1⟩ := a
  obtain ⟨b0, b1⟩ := b
  simp [encA, encRw_iff] at h
  simp_all
theorem encRI : ∀ a b, encR a = encR b → a = b := by
  intro a b h
  obtain ⟨a0, a1, a2, a3⟩ := a
  obtain ⟨b0, b1, b2, b3⟩ := b
  simp [encR, encRw_iff] at h
  simp_all
noncomputable def Q (args : List AV) : Option (Bool × Vec (Vec Int) × Vec (Vec ByteArray) × (Vec (Vec (Int × Int)))) := ofC encA (fun t => F t.1 t.2) args
theorem wrap : (fun (y1 : Vec (Vec Int)) (y2 : Vec (ByteArray × Int × Int × (Vec Int))) => Q [.a [cl y1, cl y2]]) = F := by
  funext y1 y2
  exact ofC_enc encAI _ (y1, y2)
noncomputable def G (Q0 : List AV → Option Bool) (Q1 : List AV → Option (Vec Bool)) (Q2 : List AV → Option (Vec Int)) (Q3 : List AV → Option (Vec ByteArray)) : Orc := ⟨fun f => sel (Nat.beq f 74) 0 (sel (Nat.beq f 76) 0 (sel (Nat.beq f 75) 0 (sel (Nat.beq f 77) 0 (9)))), fun ρ f args K => sel (Nat.beq f 74) (qEntry spec_WeaveOk.encR Q0 args K) (sel (Nat.beq f 76) (qEntry spec_l06Closure.encR Q1 args K) (sel (Nat.beq f 75) (qEntry spec_l06Places.encR Q2 args K) (sel (Nat.beq f 77) (qEntry spec_l06Lines.encR Q3 args K) (Option.none)))), noE, false⟩
noncomputable def L (W1 : (ρ : Type) → List AV → List Ob → (Int → (Vec (Vec Int)) → (Vec (ByteArray × Int × Int × (Vec Int))) → (Vec (Int × Int)) → (Vec Int) → (Vec (Vec Int)) → (Vec (Vec ByteArray)) → (Vec (Vec (Int × Int))) → Option ρ) → Option ρ) (W0 : (ρ : Type) → List AV → List Ob → ((Vec (Vec Int)) → (Vec (Vec ByteArray)) → (Vec (Vec (Int × Int))) → Option ρ) → Option ρ) : Lor := fun ρ j st K => sel (Nat.beq j 0) (cutO Try.prog 82 [1, 2, 4, 5] 0 [] [.ad (.p 4 0) 34, .ad (.p 4 1) 58, .ad (.p 4 2) 59] st fun avs obs => W0 ρ avs obs (fun z1 z2 z3 => K (.exit 0) (mkS 82 [2, 4] [.c (.p 0 0), .c (.p 1 0)] [.box [.z, .z, .z], .box [.h 2, .h 3, .h 4], ro z1, ro z2, ro z3] []))) (sel (Nat.beq j 1) (cutO Try.prog 82 [1, 2, 4, 5, 6, 7, 8] 0 [] [.ad (.s 6) 108] st fun avs obs => W1 ρ avs obs (fun z1 z2 z3 z4 z5 z6 z7 z8 => K (.exit 2) (mkS 82 [1, 2, 4, 5, 6, 7] [.c (.p 0 0), .c (.p 1 0), .c (.p 2 0), vi z1, .c (.h 3), .c (.h 4)] [.box [cl z2, cl z3], .box [.z, .z, .z], .box [.h 5, .h 6, .h 7], ro z4, ro z5, ro z6, ro z7, ro z8] []))) (Option.none))
noncomputable def c0 : Code := loopC (atomN [] 0 (bodyOf Try.f37) 0)
noncomputable def c1 : Code := loopC (atomN [] 1 c0 0)
def ct0 : Cut := ⟨[1, 2, 4, 5], [.ad (.p 4 0) 34, .ad (.p 4 1) 58, .ad (.p 4 2) 59]⟩
def lv0 : Exit → Cut
  | .exit 0 => ⟨[2, 4], []⟩
  | _ => ⟨[], []⟩
theorem step0 (Q0 Q1 Q2 Q3) (W1 W0) {ρ : Type} (K : Exit → St → Option ρ) (W : List AV → List Ob → Option ρ) (v1 v2 v3 v4 v5 v6) : exC Try.prog (G Q0 Q1 Q2 Q3) (L W1 W0) [] 1 c0 (mkS 82 [1, 2, 4, 5] [.c (.p 0 0), .c (.p 1 0), .c (.p 2 0), vi v1] [.box [cl v2, cl v3], .box [.z, .z, .z], .box [.h 3, .h 4, .h 5], ro v4, ro v5, ro v6] []) (bodyK Try.prog 82 0 [] ct0 W lv0 K) =
    B0 (fun y1 y2 y3 => Q1 [.a [cl y1, cl y2], vi y3]) (fun y1 y2 y3 => Q2 [.a [cl y1, cl y2], vl y3]) (fun y1 y2 y3 => Q3 [.a [cl y1, cl y2], vl y3]) (fun w1 w2 w3 w4 w5 w6 w7 w8 w9 k2 => W1 ρ [.c (.p 0 0), .c (.p 1 0), .c (.p 2 0), vi w1, .c (.h 3), .c (.h 4), vi w2] [.box [cl w3, cl w4], .box [.z, .z, .z], .box [.h 5, .h 6, .h 7], ro w5, ro w6, ro w7, ro w8, ro w9] k2) v1 v2 v3 v4 v5 v6 (fun u1 u2 u3 u4 u5 u6 => W [.c (.p 0 0), .c (.p 1 0), .c (.p 2 0), vi u1] [.box [cl u2, cl u3], .box [.z, .z, .z], .box [.h 3, .h 4, .h 5], ro u4, ro u5, ro u6]) (fun z1 z2 z3 => K (.exit 0) (mkS 82 [2, 4] [.c (.p 0 0), .c (.p 1 0)] [.box [.z, .z, .z], .box [.h 2, .h 3, .h 4], ro z1, ro z2, ro z3] [])) := by kernel_rfl
def enc0 (t : Int × Vec (Vec Int) × (Vec (ByteArray × Int × Int × (Vec Int))) × Vec (Vec Int) × Vec (Vec ByteArray) × (Vec (Vec (Int × Int)))) : List AV × List Ob := ([.c (.p 0 0), .c (.p 1 0), .c (.p 2 0), vi t.1], [.box [cl t.2.1, cl t.2.2.1], .box [.z, .z, .z], .box [.h 3, .h 4, .h 5], ro t.2.2.2.1, ro t.2.2.2.2.1, ro t.2.2.2.2.2])
theorem enc0I : ∀ a b, enc0 a = enc0 b → a = b := by
  intro a b h
  obtain ⟨a0, a1, a2, a3, a4, a5⟩ := a
  obtain ⟨b0, b1, b2, b3, b4, b5⟩ := b
  simp [enc0, encRw_iff] at h
  simp_all
noncomputable def V0 : (ρ : Type) → List AV → List Ob → ((Vec (Vec Int)) → (Vec (Vec ByteArray)) → (Vec (Vec (Int × Int))) → Option ρ) → Option ρ := fun ρ avs obs k0 => ofC enc0 (fun t => F0 fuelN t.1 t.2.1 t.2.2.1 t.2.2.2.1 t.2.2.2.2.1 t.2.2.2.2.2 k0) (avs, obs)
theorem V0_enc (ρ : Type) : (fun w1 w2 w3 w4 w5 w6 k0 => V0 ρ [.c (.p 0 0), .c (.p 1 0), .c (.p 2 0), vi w1] [.box [cl w2, cl w3], .box [.z, .z, .z], .box [.h 3, .h 4, .h 5], ro w4, ro w5, ro w6] k0) = F0 fuelN := by
  funext w1 w2 w3 w4 w5 w6 k0
  exact ofC_enc enc0I _ (w1, w2, w3, w4, w5, w6)
def ct1 : Cut := ⟨[1, 2, 4, 5, 6, 7, 8], [.ad (.s 6) 108]⟩
def lv1 : Exit → Cut
  | .exit 2 => ⟨[1, 2, 4, 5, 6, 7], []⟩
  | _ => ⟨[], []⟩
theorem step1 (Q0 Q1 Q2 Q3) (W1 W0) {ρ : Type} (K : Exit → St → Option ρ) (W : List AV → List Ob → Option ρ) (v1 v2 v3 v4 v5 v6 v7 v8 v9) : exC Try.prog (G Q0 Q1 Q2 Q3) (L W1 W0) [] 2 c1 (mkS 82 [1, 2, 4, 5, 6, 7, 8] [.c (.p 0 0), .c (.p 1 0), .c (.p 2 0), vi v1, .c (.h 3), .c (.h 4), vi v2] [.box [cl v3, cl v4], .box [.z, .z, .z], .box [.h 5, .h 6, .h 7], ro v5, ro v6, ro v7, ro v8, ro v9] []) (bodyK Try.prog 82 0 [] ct1 W lv1 K) =
    B1 v1 v2 v3 v4 v5 v6 v7 v8 v9 (fun u1 u2 u3 u4 u5 u6 u7 u8 u9 => W [.c (.p 0 0), .c (.p 1 0), .c (.p 2 0), vi u1, .c (.h 3), .c (.h 4), vi u2] [.box [cl u3, cl u4], .box [.z, .z, .z], .box [.h 5, .h 6, .h 7], ro u5, ro u6, ro u7, ro u8, ro u9]) (fun z1 z2 z3 z4 z5 z6 z7 z8 => K (.exit 2) (mkS 82 [1, 2, 4, 5, 6, 7] [.c (.p 0 0), .c (.p 1 0), .c (.p 2 0), vi z1, .c (.h 3), .c (.h 4)] [.box [cl z2, cl z3], .box [.z, .z, .z], .box [.h 5, .h 6, .h 7], ro z4, ro z5, ro z6, ro z7, ro z8] [])) := by kernel_rfl
def enc1 (t : Int × Int × Vec (Vec Int) × (Vec (ByteArray × Int × Int × (Vec Int))) × (Vec (Int × Int)) × Vec Int × Vec (Vec Int) × Vec (Vec ByteArray) × (Vec (Vec (Int × Int)))) : List AV × List Ob := ([.c (.p 0 0), .c (.p 1 0), .c (.p 2 0), vi t.1, .c (.h 3), .c (.h 4), vi t.2.1], [.box [cl t.2.2.1, cl t.2.2.2.1], .box [.z, .z, .z], .box [.h 5, .h 6, .h 7], ro t.2.2.2.2.1, ro t.2.2.2.2.2.1, ro t.2.2.2.2.2.2.1, ro t.2.2.2.2.2.2.2.1, ro t.2.2.2.2.2.2.2.2])
theorem enc1I : ∀ a b, enc1 a = enc1 b → a = b := by
  intro a b h
  obtain ⟨a0, a1, a2, a3, a4, a5, a6, a7, a8⟩ := a
  obtain ⟨b0, b1, b2, b3, b4, b5, b6, b7, b8⟩ := b
  simp [enc1, encRw_iff] at h
  simp_all
noncomputable def V1 : (ρ : Type) → List AV → List Ob → (Int → (Vec (Vec Int)) → (Vec (ByteArray × Int × Int × (Vec Int))) → (Vec (Int × Int)) → (Vec Int) → (Vec (Vec Int)) → (Vec (Vec ByteArray)) → (Vec (Vec (Int × Int))) → Option ρ) → Option ρ := fun ρ avs obs k2 => ofC enc1 (fun t => F1 fuelN t.1 t.2.1 t.2.2.1 t.2.2.2.1 t.2.2.2.2.1 t.2.2.2.2.2.1 t.2.2.2.2.2.2.1 t.2.2.2.2.2.2.2.1 t.2.2.2.2.2.2.2.2 k2) (avs, obs)
theorem V1_enc (ρ : Type) : (fun w1 w2 w3 w4 w5 w6 w7 w8 w9 k2 => V1 ρ [.c (.p 0 0), .c (.p 1 0), .c (.p 2 0), vi w1, .c (.h 3), .c (.h 4), vi w2] [.box [cl w3, cl w4], .box [.z, .z, .z], .box [.h 5, .h 6, .h 7], ro w5, ro w6, ro w7, ro w8, ro w9] k2) = F1 fuelN := by
  funext w1 w2 w3 w4 w5 w6 w7 w8 w9 k2
  exact ofC_enc enc1I _ (w1, w2, w3, w4, w5, w6, w7, w8, w9)
theorem main (Q0 Q1 Q2 Q3) (W1 W0) {ρ : Type} (K : AV → List Ob → Option ρ) (a1 a2) : exC Try.prog (G Q0 Q1 Q2 Q3) (L W1 W0) [] 0 (bodyOf Try.f37) (entry 82 [.a [cl a1, cl a2]] [] []) (finO Try.prog Try.f37.results.toList 0 [] [.ad (.p 2 0) 34, .ad (.p 2 1) 58, .ad (.p 2 2) 59] K) =
    B (fun y1 y2 => Q0 [.a [cl y1, cl y2]]) (fun w1 w2 w3 w4 w5 w6 k0 => W0 ρ [.c (.p 0 0), .c (.p 1 0), .c (.p 2 0), vi w1] [.box [cl w2, cl w3], .box [.z, .z, .z], .box [.h 3, .h 4, .h 5], ro w4, ro w5, ro w6] k0) a1 a2 (fun x1 x2 x3 x4 => K (.tup [.a [.h 0, .h 1, .h 2], .c (cb x1)]) [ro x2, ro x3, ro x4]) := by kernel_rfl
theorem Gok : (G spec_WeaveOk.Q spec_l06Closure.Q spec_l06Places.Q spec_l06Lines.Q).ok Try.prog := ⟨(by
    intro ρ f args K r h
    rcases sel_cases h with ⟨hb, h⟩ | ⟨-, h⟩
    · obtain rfl := beq_nat hb
      exact qEntry_ok spec_WeaveOk.ac h
    rcases sel_cases h with ⟨hb, h⟩ | ⟨-, h⟩
    · obtain rfl := beq_nat hb
      exact qEntry_ok spec_l06Closure.ac h
    rcases sel_cases h with ⟨hb, h⟩ | ⟨-, h⟩
    · obtain rfl := beq_nat hb
      exact qEntry_ok spec_l06Places.ac h
    rcases sel_cases h with ⟨hb, h⟩ | ⟨-, h⟩
    · obtain rfl := beq_nat hb
      exact qEntry_ok spec_l06Lines.ac h
    cases h),
  (by
    intro ρ f args K
    simp only [G]
    cases Nat.beq f 74 with
    | true => exact qEntry_nat args K
    | false =>
    simp only [sel]
    cases Nat.beq f 76 with
    | true => exact qEntry_nat args K
    | false =>
    simp only [sel]
    cases Nat.beq f 75 with
    | true => exact qEntry_nat args K
    | false =>
    simp only [sel]
    cases Nat.beq f 77 with
    | true => exact qEntry_nat args K
    | false =>
    simp only [sel]
    rfl),
  (fun ρ f st caps args dst K r h => (by cases h))⟩
theorem hm : Try.prog.follows .mixedOrders = true := by kernel_rfl
theorem e1 : atomsL [] 2 c1 = [] := by kernel_rfl
theorem ok1 (ρ : Type) (st : St) (K : Exit → St → Option ρ) (r : ρ) (h : (L V1 V0) ρ 1 st K = some r) : AW Try.prog (.loop c1) st fun e st' => K e st' = some r := by
  refine loop_ok (ct := ct1) (lv := lv1) (n := 82) (m := 0) (ks := []) (j := 1) (jn := []) (L := (L V1 V0)) Gok hm (by rw [e1]; exact Lor.ok_nil _ _) enc1I (fun k t => F1 k t.1 t.2.1 t.2.2.1 t.2.2.2.1 t.2.2.2.2.1 t.2.2.2.2.2.1 t.2.2.2.2.2.2.1 t.2.2.2.2.2.2.2.1 t.2.2.2.2.2.2.2.2 (fun z1 z2 z3 z4 z5 z6 z7 z8 => K (.exit 2) (mkS 82 [1, 2, 4, 5, 6, 7] [.c (.p 0 0), .c (.p 1 0), .c (.p 2 0), vi z1, .c (.h 3), .c (.h 4)] [.box [cl z2, cl z3], .box [.z, .z, .z], .box [.h 5, .h 6, .h 7], ro z4, ro z5, ro z6, ro z7, ro z8] []))) (fun t => rfl) (fun k t => ?_) (fun _ => fuelN) h
  refine (step1 spec_WeaveOk.Q spec_l06Closure.Q spec_l06Places.Q spec_l06Lines.Q V1 V0 K _ t.1 t.2.1 t.2.2.1 t.2.2.2.1 t.2.2.2.2.1 t.2.2.2.2.2.1 t.2.2.2.2.2.2.1 t.2.2.2.2.2.2.2.1 t.2.2.2.2.2.2.2.2).trans ?_
  refine congrArg (fun W => B1 t.1 t.2.1 t.2.2.1 t.2.2.2.1 t.2.2.2.2.1 t.2.2.2.2.2.1 t.2.2.2.2.2.2.1 t.2.2.2.2.2.2.2.1 t.2.2.2.2.2.2.2.2 W (fun z1 z2 z3 z4 z5 z6 z7 z8 => K (.exit 2) (mkS 82 [1, 2, 4, 5, 6, 7] [.c (.p 0 0), .c (.p 1 0), .c (.p 2 0), vi z1, .c (.h 3), .c (.h 4)] [.box [cl z2, cl z3], .box [.z, .z, .z], .box [.h 5, .h 6, .h 7], ro z4, ro z5, ro z6, ro z7, ro z8] []))) ?_
  funext u1 u2 u3 u4 u5 u6 u7 u8 u9
  exact ofC_enc enc1I _ (u1, u2, u3, u4, u5, u6, u7, u8, u9)
theorem e0 : atomsL [] 1 c0 = [(1, 1, .loop c1)] := by kernel_rfl
theorem ok0 (ρ : Type) (st : St) (K : Exit → St → Option ρ) (r : ρ) (h : (L V1 V0) ρ 0 st K = some r) : AW Try.prog (.loop c0) st fun e st' => K e st' = some r := by
  refine loop_ok (ct := ct0) (lv := lv0) (n := 82) (m := 0) (ks := []) (j := 0) (jn := []) (L := (L V1 V0)) Gok hm (by rw [e0]; exact Lor.ok_cons ok1 (Lor.ok_nil _ _)) enc0I (fun k t => F0 k t.1 t.2.1 t.2.2.1 t.2.2.2.1 t.2.2.2.2.1 t.2.2.2.2.2 (fun z1 z2 z3 => K (.exit 0) (mkS 82 [2, 4] [.c (.p 0 0), .c (.p 1 0)] [.box [.z, .z, .z], .box [.h 2, .h 3, .h 4], ro z1, ro z2, ro z3] []))) (fun t => rfl) (fun k t => ?_) (fun _ => fuelN) h
  refine (step0 spec_WeaveOk.Q spec_l06Closure.Q spec_l06Places.Q spec_l06Lines.Q V1 V0 K _ t.1 t.2.1 t.2.2.1 t.2.2.2.1 t.2.2.2.2.1 t.2.2.2.2.2).trans ?_
  rw [spec_l06Closure.wrap, spec_l06Places.wrap, spec_l06Lines.wrap, V1_enc]
  refine congrArg (fun W => B0 spec_l06Closure.F spec_l06Places.F spec_l06Lines.F (F1 fuelN) t.1 t.2.1 t.2.2.1 t.2.2.2.1 t.2.2.2.2.1 t.2.2.2.2.2 W (fun z1 z2 z3 => K (.exit 0) (mkS 82 [2, 4] [.c (.p 0 0), .c (.p 1 0)] [.box [.z, .z, .z], .box [.h 2, .h 3, .h 4], ro z1, ro z2, ro z3] []))) ?_
  funext u1 u2 u3 u4 u5 u6
  exact ofC_enc enc0I _ (u1, u2, u3, u4, u5, u6)
theorem e : atomsL [] 0 (bodyOf Try.f37) = [(0, 0, .loop c0)] := by kernel_rfl
theorem acc (t : Vec (Vec Int) × (Vec (ByteArray × Int × Int × (Vec Int)))) (x : Bool × Vec (Vec Int) × Vec (Vec ByteArray) × (Vec (Vec (Int × Int)))) (h : F t.1 t.2 = some x) : ACc Try.prog 37 (encA t) [] true [] fun rv obs => (rv, obs) = encR x := by
  refine fun_okc (L := (L V1 V0)) (jn := []) (cmds := [.ad (.p 2 0) 34, .ad (.p 2 1) 58, .ad (.p 2 2) 59]) (ks := []) (hin := []) (fn := Try.f37) (body := (bodyOf Try.f37)) Gok hm Try.func37 (by kernel_rfl) (by kernel_rfl) (by rw [e]; exact Lor.ok_cons ok0 (Lor.ok_nil _ _)) ?_ h
  refine (main spec_WeaveOk.Q spec_l06Closure.Q spec_l06Places.Q spec_l06Lines.Q V1 V0 _ t.1 t.2).trans ?_
  rw [spec_WeaveOk.wrap, V0_enc]
  refine congrArg (fun K => B spec_WeaveOk.F (F0 fuelN) t.1 t.2 K) ?_
  funext x1 x2 x3 x4
  exact ofC_enc encRI some (x1, x2, x3, x4)
theorem ac0 (t : Vec (Vec Int) × (Vec (ByteArray × Int × Int × (Vec Int)))) (x : Bool × Vec (Vec Int) × Vec (Vec ByteArray) × (Vec (Vec (Int × Int)))) (h : F t.1 t.2 = some x) : AC Try.prog 37 (encA t) [] true [] fun rv obs => (rv, obs) = encR x := ACc.ac (body := bodyOf Try.f37) Try.func37 (by kernel_rfl) (by kernel_rfl) (acc t x h)
theorem ac (args : List AV) (x : Bool × Vec (Vec Int) × Vec (Vec ByteArray) × (Vec (Vec (Int × Int)))) (h : Q args = some x) : AC Try.prog 37 args [] false [] fun rv obs => (rv, obs) = encR x := by
  obtain ⟨t, rfl, h2⟩ := ofC_some h
  refine (ac0 t x h2).flat fun rv obs e => ?_
  obtain rfl : rv = (encR x).1 := congrArg Prod.fst e
  obtain rfl : obs = (encR x).2 := congrArg Prod.snd e
  refine ⟨by simp [encR, AV.Flat, K.Flat, C.Flat], ?_⟩
  intro o ho
  simp only [encR, List.mem_cons, List.not_mem_nil, or_false] at ho
  rcases ho with rfl | rfl | rfl
  · exact flat_rw rfl _
  · exact flat_rw rfl _
  · exact flat_rw rfl _
end spec_PlainOf
/-! slices.Clone -/
namespace slices_Clone_int_int
noncomputable def F (a1 : Vec Int) : Option (Vec Int) := sel (decide (a1.n * 9 ≤ maxN)) (some a1) none
def encA (t : Vec Int) : List AV := [vl t]
def encR (x : Vec Int) : AV × List Ob := (.c (.h 0), [.row 1 (encRw x) []])
theorem encAI : ∀ a b, encA a = encA b → a = b := by
  intro a b h
  simp [encA, encRw_iff] at h
  simp_all
noncomputable def Q (args : List AV) : Option (Vec Int) := ofC encA (fun t => F t) args
theorem wrap : (fun (y1 : Vec Int) => Q [vl y1]) = F := by
  funext y1
  exact ofC_enc encAI _ y1
theorem ac0 (a : Vec Int) (h : a.n * 9 ≤ maxN) : AC Try.prog 140 [vl a] [] true [] fun rv obs => rv = .c (.h 0) ∧ ∃ u : Vec Int, obs = [Go.Al.rw u] ∧ Vec.Same u a := by
  refine ACc.ac (body := bodyOf Try.f140) Try.func140 (by kernel_rfl) (by kernel_rfl) (ACc_intro (body := bodyOf Try.f140) Try.func140 (by kernel_rfl) (by kernel_rfl) ?_)
  refine AW.post (Φ := fun e st' => e = .ret ∧ ∃ (cmds : List Cmd) (u : Vec Int), retO Try.prog Try.f140.results.toList 0 [] cmds st' (fun rv obs => some (rv, obs)) = some (.c (.h 0), [Go.Al.rw u]) ∧ Vec.Same u a) ?_ ?_
  · refine vcC_sound _ _ _ ?_
    refine ⟨by kernel_rfl, fun b hb => ?_⟩
    cases b with
    | true =>
      have h0 := hb rfl
      exact ⟨rfl, [.ad (.s 2) 23], Vec.nil, by kernel_rfl, h0.symm, fun i hi => absurd hi (Nat.not_lt_zero i)⟩
    | false =>
      repeat (refine ⟨by first | kernel_rfl | decide +kernel, ?_⟩)
      refine (show (1 = 1) ∧ (a.n * 9 ≤ maxN) ∧ _ from ⟨rfl, h, ?_⟩)
      exact ⟨rfl, [], a, by kernel_rfl, rfl, fun i hi => rfl⟩
  · rintro e st' ⟨rfl, cmds, u, h1, h2⟩
    obtain ⟨st'', q1, q2⟩ := retO_vc h1
    refine ⟨st'', q1, q2.1, is_mono q2.2 ?_⟩
    rintro rv0 ⟨ids, rv, obs, p1, p2, p3, p4, p5, p6, p7⟩
    simp only [Option.some.injEq, Prod.mk.injEq] at p7
    exact ⟨ids, rv, obs, p1, p2, p3, p4, p5, p6, p7.1, u, p7.2, h2⟩
theorem ac (args : List AV) (x : Vec Int) (h : Q args = some x) : AC Try.prog 140 args [] false [] fun rv obs => (rv, obs) = encR x := by
  obtain ⟨t, rfl, h2⟩ := ofC_some h
  rcases sel_cases h2 with ⟨hb, h3⟩ | ⟨-, h3⟩
  · simp only [Option.some.injEq] at h3
    subst h3
    refine (AC.row (ac0 t (by simpa using hb))).flat fun rv obs e => ?_
    obtain rfl : rv = (encR t).1 := congrArg Prod.fst e
    obtain rfl : obs = (encR t).2 := congrArg Prod.snd e
    refine ⟨by simp [encR, AV.Flat, K.Flat, C.Flat], ?_⟩
    intro o ho
    simp only [encR, List.mem_cons, List.not_mem_nil, or_false] at ho
    subst ho
    exact flat_rw rfl _
  · cases h3
end slices_Clone_int_int
/-! loop.example/g00073/impl.copyGraph -/
namespace impl_copyGraph
noncomputable def B0 {ρ : Type} (C0 : (Vec Int) → Option (Vec Int)) (v1 : Vec (Vec Int)) (v2 : Int) (v3 : Int) (v4 : Vec (Vec Int)) (W : (Vec (Vec Int)) → Int → Int → (Vec (Vec Int)) → Option ρ) (K0 : (Vec (Vec Int)) → Option ρ) : Option ρ :=
  sel (decide (v3 < v2)) (chk (decide (0 ≤ v3 ∧ v3 < (v1.n : Int))) ((C0 (v1.g v3.toNat)).bind fun r1 => chk (decide ((v4.n + (Vec.lit [r1] : Vec (Vec Int)).n) * 25 ≤ maxN)) (W v1 v2 (wr (v3 + (1 : Int))) (Vec.app v4 (Vec.lit [r1] : Vec (Vec Int)))))) (K0 v4)
noncomputable def F0 {ρ : Type} : Nat → (Vec (Vec Int)) → Int → Int → (Vec (Vec Int)) → ((Vec (Vec Int)) → Option ρ) → Option ρ
  | 0, _, _, _, _, _ => none
  | k + 1, v1, v2, v3, v4, K0 => B0 slices_Clone_int_int.F v1 v2 v3 v4 (fun v1' v2' v3' v4' => F0 k v1' v2' v3' v4' K0) K0
noncomputable def B {ρ : Type} (L0 : (Vec (Vec Int)) → Int → Int → (Vec (Vec Int)) → ((Vec (Vec Int)) → Option ρ) → Option ρ) (a1 : Vec (Vec Int)) (K : (Vec (Vec Int)) → Option ρ) : Option ρ :=
  L0 a1 (a1.n : Int) (0 : Int) (Vec.nil : Vec (Vec Int)) (fun e01 => K e01)
noncomputable def F (a1 : Vec (Vec Int)) : Option (Vec (Vec Int)) := B (F0 fuelN) a1 (fun x1 => some (x1))
def encA (t : Vec (Vec Int)) : List AV := [vl t]
def encR (x : Vec (Vec Int)) : AV × List Ob := (.c (.h 0), [ro x])
theorem encAI : ∀ a b, encA a = encA b → a = b := by
  intro a b h
  simp [encA, encRw_iff] at h
  simp_all
theorem encRI : ∀ a b, encR a = encR b → a = b := by
  intro a b h
  simp [encR, encRw_iff] at h
  simp_all
noncomputable def Q (args : List AV) : Option (Vec (Vec Int)) := ofC encA (fun t => F t) args
theorem wrap : (fun (y1 : Vec (Vec Int)) => Q [vl y1]) = F := by
  funext y1
  exact ofC_enc encAI _ (y1)
noncomputable def G (Q0 : List AV → Option (Vec Int)) : Orc := ⟨fun f => sel (Nat.beq f 140) 0 (9), fun ρ f args K => sel (Nat.beq f 140) (qEntry slices_Clone_int_int.encR Q0 args K) (Option.none), noE, false⟩
noncomputable def L (W0 : (ρ : Type) → List AV → List Ob → ((Vec (Vec Int)) → Option ρ) → Option ρ) : Lor := fun ρ j st K => sel (Nat.beq j 0) (cutO Try.prog 19 [3, 6, 7, 8] 0 [] [.ad (.s 3) 34] st fun avs obs => W0 ρ avs obs (fun z1 => K (.exit 0) (mkS 19 [3] [.c (.h 0)] [ro z1] []))) (Option.none)
noncomputable def c0 : Code := loopC (atomN [] 0 (bodyOf Try.f118) 0)
def ct0 : Cut := ⟨[3, 6, 7, 8], [.ad (.s 3) 34]⟩
def lv0 : Exit → Cut
  | .exit 0 => ⟨[3], []⟩
  | _ => ⟨[], []⟩
theorem step0 (Q0) (W0) {ρ : Type} (K : Exit → St → Option ρ) (W : List AV → List Ob → Option ρ) (v1 v2 v3 v4) : exC Try.prog (G Q0) (L W0) [] 1 c0 (mkS 19 [3, 6, 7, 8] [.c (.h 0), vl v1, vi v2, vi v3] [ro v4] []) (bodyK Try.prog 19 0 [] ct0 W lv0 K) =
    B0 (fun y1 => Q0 [vl y1]) v1 v2 v3 v4 (fun u1 u2 u3 u4 => W [.c (.h 0), vl u1, vi u2, vi u3] [ro u4]) (fun z1 => K (.exit 0) (mkS 19 [3] [.c (.h 0)] [ro z1] [])) := by kernel_rfl
def enc0 (t : Vec (Vec Int) × Int × Int × Vec (Vec Int)) : List AV × List Ob := ([.c (.h 0), vl t.1, vi t.2.1, vi t.2.2.1], [ro t.2.2.2])
theorem enc0I : ∀ a b, enc0 a = enc0 b → a = b := by
  intro a b h
  obtain ⟨a0, a1, a2, a3⟩ := a
  obtain ⟨b0, b1, b2, b3⟩ := b
  simp [enc0, encRw_iff] at h
  simp_all
noncomputable def V0 : (ρ : Type) → List AV → List Ob → ((Vec (Vec Int)) → Option ρ) → Option ρ := fun ρ avs obs k0 => ofC enc0 (fun t => F0 fuelN t.1 t.2.1 t.2.2.1 t.2.2.2 k0) (avs, obs)
theorem V0_enc (ρ : Type) : (fun w1 w2 w3 w4 k0 => V0 ρ [.c (.h 0), vl w1, vi w2, vi w3] [ro w4] k0) = F0 fuelN := by
  funext w1 w2 w3 w4 k0
  exact ofC_enc enc0I _ (w1, w2, w3, w4)
theorem main (Q0) (W0) {ρ : Type} (K : AV → List Ob → Option ρ) (a1) : exC Try.prog (G Q0) (L W0) [] 0 (bodyOf Try.f118) (entry 19 [vl a1] [] []) (finO Try.prog Try.f118.results.toList 0 [] [] K) =
    B (fun w1 w2 w3 w4 k0 => W0 ρ [.c (.h 0), vl w1, vi w2, vi w3] [ro w4] k0) a1 (fun x1 => K (.c (.h 0)) [ro x1]) := by kernel_rfl
theorem Gok : (G slices_Clone_int_int.Q).ok Try.prog := ⟨(by
    intro ρ f args K r h
    rcases sel_cases h with ⟨hb, h⟩ | ⟨-, h⟩
    · obtain rfl := beq_nat hb
      exact qEntry_ok slices_Clone_int_int.ac h
    cases h),
  (by
    intro ρ f args K
    simp only [G]
    cases Nat.beq f 140 with
    | true => exact qEntry_nat args K
    | false =>
    simp only [sel]
    rfl),
  (fun ρ f st caps args dst K r h => (by cases h))⟩
theorem hm : Try.prog.follows .mixedOrders = true := by kernel_rfl
theorem e0 : atomsL [] 1 c0 = [] := by kernel_rfl
theorem ok0 (ρ : Type) (st : St) (K : Exit → St → Option ρ) (r : ρ) (h : (L V0) ρ 0 st K = some r) : AW Try.prog (.loop c0) st fun e st' => K e st' = some r := by
  refine loop_ok (ct := ct0) (lv := lv0) (n := 19) (m := 0) (ks := []) (j := 0) (jn := []) (L := (L V0)) Gok hm (by rw [e0]; exact Lor.ok_nil _ _) enc0I (fun k t => F0 k t.1 t.2.1 t.2.2.1 t.2.2.2 (fun z1 => K (.exit 0) (mkS 19 [3] [.c (.h 0)] [ro z1] []))) (fun t => rfl) (fun k t => ?_) (fun _ => fuelN) h
  refine (step0 slices_Clone_int_int.Q V0 K _ t.1 t.2.1 t.2.2.1 t.2.2.2).trans ?_
  rw [slices_Clone_int_int.wrap]
  refine congrArg (fun W => B0 slices_Clone_int_int.F t.1 t.2.1 t.2.2.1 t.2.2.2 W (fun z1 => K (.exit 0) (mkS 19 [3] [.c (.h 0)] [ro z1] []))) ?_
  funext u1 u2 u3 u4
  exact ofC_enc enc0I _ (u1, u2, u3, u4)
theorem e : atomsL [] 0 (bodyOf Try.f118) = [(0, 0, .loop c0)] := by kernel_rfl
theorem acc (t : Vec (Vec Int)) (x : Vec (Vec Int)) (h : F t = some x) : ACc Try.prog 118 (encA t) [] true [] fun rv obs => (rv, obs) = encR x := by
  refine fun_okc (L := (L V0)) (jn := []) (cmds := []) (ks := []) (hin := []) (fn := Try.f118) (body := (bodyOf Try.f118)) Gok hm Try.func118 (by kernel_rfl) (by kernel_rfl) (by rw [e]; exact Lor.ok_cons ok0 (Lor.ok_nil _ _)) ?_ h
  refine (main slices_Clone_int_int.Q V0 _ t).trans ?_
  rw [V0_enc]
  refine congrArg (fun K => B (F0 fuelN) t K) ?_
  funext x1
  exact ofC_enc encRI some (x1)
theorem ac0 (t : Vec (Vec Int)) (x : Vec (Vec Int)) (h : F t = some x) : AC Try.prog 118 (encA t) [] true [] fun rv obs => (rv, obs) = encR x := ACc.ac (body := bodyOf Try.f118) Try.func118 (by kernel_rfl) (by kernel_rfl) (acc t x h)
theorem ac (args : List AV) (x : Vec (Vec Int)) (h : Q args = some x) : AC Try.prog 118 args [] false [] fun rv obs => (rv, obs) = encR x := by
  obtain ⟨t, rfl, h2⟩ := ofC_some h
  refine (ac0 t x h2).flat fun rv obs e => ?_
  obtain rfl : rv = (encR x).1 := congrArg Prod.fst e
  obtain rfl : obs = (encR x).2 := congrArg Prod.snd e
  refine ⟨by simp [encR, AV.Flat, K.Flat, C.Flat], ?_⟩
  intro o ho
  simp only [encR, List.mem_cons, List.not_mem_nil, or_false] at ho
  subst ho
  exact flat_rw rfl _
end impl_copyGraph
/-! loop.example/g00073/impl.plainOf -/
namespace impl_plainOf
noncomputable def B1 {ρ : Type} (v1 : Int) (v2 : Int) (v3 : Int) (v4 : Int) (v5 : Int) (v6 : Vec (Vec Int)) (v7 : Vec (ByteArray × Int × Int × (Vec Int))) (v8 : Vec (Int × Int)) (v9 : Vec (Int × Int × ByteArray)) (v10 : Vec (Vec Int)) (v11 : Vec (Vec ByteArray)) (v12 : Vec (Vec (Int × Int))) (W : Int → Int → Int → Int → Int → (Vec (Vec Int)) → (Vec (ByteArray × Int × Int × (Vec Int))) → (Vec (Int × Int)) → (Vec (Int × Int × ByteArray)) → (Vec (Vec Int)) → (Vec (Vec ByteArray)) → (Vec (Vec (Int × Int))) → Option ρ) (K2 : Int → Int → Int → (Vec (Vec Int)) → (Vec (ByteArray × Int × Int × (Vec Int))) → (Vec (Int × Int)) → (Vec (Vec Int)) → (Vec (Vec ByteArray)) → (Vec (Vec (Int × Int))) → Option ρ) : Option ρ :=
  sel (decide (v5 < v4)) (chk (decide (0 ≤ v5 ∧ v5 < (v9.n : Int))) (chk (decide (v5.toNat < v9.n)) (chk (decide ((v8.n + (Vec.lit [((v9.g v5.toNat).1, (v9.g v5.toNat).2.1)] : Vec (Int × Int)).n) * 17 ≤ maxN)) (W v1 v2 v3 v4 (wr (v5 + (1 : Int))) v6 v7 (Vec.app v8 (Vec.lit [((v9.g v5.toNat).1, (v9.g v5.toNat).2.1)] : Vec (Int × Int))) v9 v10 v11 v12)))) (K2 v1 v2 v3 v6 v7 v8 v10 v11 v12)
noncomputable def F1 {ρ : Type} : Nat → Int → Int → Int → Int → Int → (Vec (Vec Int)) → (Vec (ByteArray × Int × Int × (Vec Int))) → (Vec (Int × Int)) → (Vec (Int × Int × ByteArray)) → (Vec (Vec Int)) → (Vec (Vec ByteArray)) → (Vec (Vec (Int × Int))) → (Int → Int → Int → (Vec (Vec Int)) → (Vec (ByteArray × Int × Int × (Vec Int))) → (Vec (Int × Int)) → (Vec (Vec Int)) → (Vec (Vec ByteArray)) → (Vec (Vec (Int × Int))) → Option ρ) → Option ρ
  | 0, _, _, _, _, _, _, _, _, _, _, _, _, _ => none
  | k + 1, v1, v2, v3, v4, v5, v6, v7, v8, v9, v10, v11, v12, K2 => B1 v1 v2 v3 v4 v5 v6 v7 v8 v9 v10 v11 v12 (fun v1' v2' v3' v4' v5' v6' v7' v8' v9' v10' v11' v12' => F1 k v1' v2' v3' v4' v5' v6' v7' v8' v9' v10' v11' v12' K2) K2
noncomputable def B0 {ρ : Type} (C1 : (Vec (Vec Int)) → (Vec (ByteArray × Int × Int × (Vec Int))) → Int → Option (Vec (Int × Int × ByteArray))) (C2 : (Vec (Vec Int)) → (Vec (ByteArray × Int × Int × (Vec Int))) → Int → Option (Vec ByteArray)) (L1 : Int → Int → Int → Int → Int → (Vec (Vec Int)) → (Vec (ByteArray × Int × Int × (Vec Int))) → (Vec (Int × Int)) → (Vec (Int × Int × ByteArray)) → (Vec (Vec Int)) → (Vec (Vec ByteArray)) → (Vec (Vec (Int × Int))) → (Int → Int → Int → (Vec (Vec Int)) → (Vec (ByteArray × Int × Int × (Vec Int))) → (Vec (Int × Int)) → (Vec (Vec Int)) → (Vec (Vec ByteArray)) → (Vec (Vec (Int × Int))) → Option ρ) → Option ρ) (v1 : Int) (v2 : Int) (v3 : Vec (Vec Int)) (v4 : Vec (ByteArray × Int × Int × (Vec Int))) (v5 : Vec (Vec Int)) (v6 : Vec (Vec ByteArray)) (v7 : Vec (Vec (Int × Int))) (W : Int → Int → (Vec (Vec Int)) → (Vec (ByteArray × Int × Int × (Vec Int))) → (Vec (Vec Int)) → (Vec (Vec ByteArray)) → (Vec (Vec (Int × Int))) → Option ρ) (K0 : (Vec (Vec Int)) → (Vec (Vec ByteArray)) → (Vec (Vec (Int × Int))) → Option ρ) : Option ρ :=
  sel (decide (v2 < v1)) ((C1 v3 v4 v2).bind fun r2 => L1 v2 v1 v2 (r2.n : Int) (0 : Int) v3 v4 (Vec.nil : Vec (Int × Int)) r2 v5 v6 v7 (fun e11 e12 e13 e14 e15 e16 e17 e18 e19 => (C2 e14 e15 e11).bind fun r3 => chk (decide ((e18.n + (Vec.lit [r3] : Vec (Vec ByteArray)).n) * 25 ≤ maxN)) (chk (decide ((e19.n + (Vec.lit [e16] : Vec (Vec (Int × Int))).n) * 25 ≤ maxN)) (W e12 (wr (e13 + (1 : Int))) e14 e15 e17 (Vec.app e18 (Vec.lit [r3] : Vec (Vec ByteArray))) (Vec.app e19 (Vec.lit [e16] : Vec (Vec (Int × Int)))))))) (K0 v5 v6 v7)
noncomputable def F0 {ρ : Type} : Nat → Int → Int → (Vec (Vec Int)) → (Vec (ByteArray × Int × Int × (Vec Int))) → (Vec (Vec Int)) → (Vec (Vec ByteArray)) → (Vec (Vec (Int × Int))) → ((Vec (Vec Int)) → (Vec (Vec ByteArray)) → (Vec (Vec (Int × Int))) → Option ρ) → Option ρ
  | 0, _, _, _, _, _, _, _, _ => none
  | k + 1, v1, v2, v3, v4, v5, v6, v7, K0 => B0 impl_Weave_annotate.F impl_Weave_extract.F (F1 fuelN) v1 v2 v3 v4 v5 v6 v7 (fun v1' v2' v3' v4' v5' v6' v7' => F0 k v1' v2' v3' v4' v5' v6' v7' K0) K0
noncomputable def B {ρ : Type} (C0 : (Vec (Vec Int)) → Option (Vec (Vec Int))) (L0 : Int → Int → (Vec (Vec Int)) → (Vec (ByteArray × Int × Int × (Vec Int))) → (Vec (Vec Int)) → (Vec (Vec ByteArray)) → (Vec (Vec (Int × Int))) → ((Vec (Vec Int)) → (Vec (Vec ByteArray)) → (Vec (Vec (Int × Int))) → Option ρ) → Option ρ) (a1 : Vec (Vec Int)) (a2 : Vec (ByteArray × Int × Int × (Vec Int))) (K : (Vec (Vec Int)) → (Vec (Vec ByteArray)) → (Vec (Vec (Int × Int))) → Option ρ) : Option ρ :=
  (C0 a1).bind fun r1 => L0 (a1.n : Int) (0 : Int) a1 a2 r1 (Vec.nil : Vec (Vec ByteArray)) (Vec.nil : Vec (Vec (Int × Int))) (fun e01 e02 e03 => K e01 e02 e03)
noncomputable def F (a1 : Vec (Vec Int)) (a2 : Vec (ByteArray × Int × Int × (Vec Int))) : Option (Vec (Vec Int) × Vec (Vec ByteArray) × (Vec (Vec (Int × Int)))) := B impl_copyGraph.F (F0 fuelN) a1 a2 (fun x1 x2 x3 => some (x1, x2, x3))
def encA (t : Vec (Vec Int) × (Vec (ByteArray × Int × Int × (Vec Int)))) : List AV := [.a [cl t.1, cl t.2]]
def encR (x : Vec (Vec Int) × Vec (Vec ByteArray) × (Vec (Vec (Int × Int)))) : AV × List Ob := (.a [.h 0, .h 1, .h 2], [ro x.1, ro x.2.1, ro x.2.2])
theorem encAI : ∀ a b, encA a = encA b → a = b := by
  intro a b h
  obtain ⟨a0, a1⟩ := a
  obtain ⟨b0, b1⟩ := b
  simp [encA, encRw_iff] at h
  simp_all
theorem encRI : ∀ a b, encR a = encR b → a = b := by
  intro a b h
  obtain ⟨a0, a1, a2⟩ := a
  obtain ⟨b0, b1, b2⟩ := b
  simp [encR, encRw_iff] at h
  simp_all
noncomputable def Q (args : List AV) : Option (Vec (Vec Int) × Vec (Vec ByteArray) × (Vec (Vec (Int × Int)))) := ofC encA (fun t => F t.1 t.2) args
theorem wrap : (fun (y1 : Vec (Vec Int)) (y2 : Vec (ByteArray × Int × Int × (Vec Int))) => Q [.a [cl y1, cl y2]]) = F := by
  funext y1 y2
  exact ofC_enc encAI _ (y1, y2)
noncomputable def G (Q0 : List AV → Option (Vec (Vec Int))) (Q1 : List AV → Option (Vec (Int × Int × ByteArray))) (Q2 : List AV → Option (Vec ByteArray)) : Orc := ⟨fun f => sel (Nat.beq f 118) 0 (sel (Nat.beq f 119) 0 (sel (Nat.beq f 120) 0 (9))), fun ρ f args K => sel (Nat.beq f 118) (qEntry impl_copyGraph.encR Q0 args K) (sel (Nat.beq f 119) (qEntry impl_Weave_annotate.encR Q1 args K) (sel (Nat.beq f 120) (qEntry impl_Weave_extract.encR Q2 args K) (Option.none))), noE, false⟩
noncomputable def L (W1 : (ρ : Type) → List AV → List Ob → (Int → Int → Int → (Vec (Vec Int)) → (Vec (ByteArray × Int × Int × (Vec Int))) → (Vec (Int × Int)) → (Vec (Vec Int)) → (Vec (Vec ByteArray)) → (Vec (Vec (Int × Int))) → Option ρ) → Option ρ) (W0 : (ρ : Type) → List AV → List Ob → ((Vec (Vec Int)) → (Vec (Vec ByteArray)) → (Vec (Vec (Int × Int))) → Option ρ) → Option ρ) : Lor := fun ρ j st K => sel (Nat.beq j 0) (cutO Try.prog 49 [1, 2, 3, 14, 15] 0 [] [.ad (.p 3 1) 58, .ad (.p 3 2) 59] st fun avs obs => W0 ρ avs obs (fun z1 z2 z3 => K (.exit 0) (mkS 49 [2, 3] [.c (.p 0 0), .c (.p 1 0)] [.box [.z, .z, .z], .box [.h 2, .h 3, .h 4], ro z1, ro z2, ro z3] []))) (sel (Nat.beq j 1) (cutO Try.prog 49 [1, 2, 3, 4, 5, 14, 15, 19, 20, 21] 0 [] [.ad (.s 5) 108] st fun avs obs => W1 ρ avs obs (fun z1 z2 z3 z4 z5 z6 z7 z8 z9 => K (.exit 2) (mkS 49 [1, 2, 3, 4, 5, 14, 15] [.c (.p 0 0), .c (.p 1 0), .c (.p 2 0), vi z1, .c (.h 3), vi z2, vi z3] [.box [cl z4, cl z5], .box [.z, .z, .z], .box [.h 4, .h 5, .h 6], ro z6, ro z7, ro z8, ro z9] []))) (Option.none))
noncomputable def c0 : Code := loopC (atomN [] 0 (bodyOf Try.f79) 0)
noncomputable def c1 : Code := loopC (atomN [] 1 c0 0)
def ct0 : Cut := ⟨[1, 2, 3, 14, 15], [.ad (.p 3 1) 58, .ad (.p 3 2) 59]⟩
def lv0 : Exit → Cut
  | .exit 0 => ⟨[2, 3], []⟩
  | _ => ⟨[], []⟩
theorem step0 (Q0 Q1 Q2) (W1 W0) {ρ : Type} (K : Exit → St → Option ρ) (W : List AV → List Ob → Option ρ) (v1 v2 v3 v4 v5 v6 v7) : exC Try.prog (G Q0 Q1 Q2) (L W1 W0) [] 1 c0 (mkS 49 [1, 2, 3, 14, 15] [.c (.p 0 0), .c (.p 1 0), .c (.p 2 0), vi v1, vi v2] [.box [cl v3, cl v4], .box [.z, .z, .z], .box [.h 3, .h 4, .h 5], ro v5, ro v6, ro v7] []) (bodyK Try.prog 49 0 [] ct0 W lv0 K) =
    B0 (fun y1 y2 y3 => Q1 [.ra [nl y1, nl y2], vi y3]) (fun y1 y2 y3 => Q2 [.ra [nl y1, nl y2], vi y3]) (fun w1 w2 w3 w4 w5 w6 w7 w8 w9 w10 w11 w12 k2 => W1 ρ [.c (.p 0 0), .c (.p 1 0), .c (.p 2 0), vi w1, .c (.h 3), vi w2, vi w3, .c (.h 4), vi w4, vi w5] [.box [cl w6, cl w7], .box [.z, .z, .z], .box [.h 5, .h 6, .h 7], ro w8, ro w9, ro w10, ro w11, ro w12] k2) v1 v2 v3 v4 v5 v6 v7 (fun u1 u2 u3 u4 u5 u6 u7 => W [.c (.p 0 0), .c (.p 1 0), .c (.p 2 0), vi u1, vi u2] [.box [cl u3, cl u4], .box [.z, .z, .z], .box [.h 3, .h 4, .h 5], ro u5, ro u6, ro u7]) (fun z1 z2 z3 => K (.exit 0) (mkS 49 [2, 3] [.c (.p 0 0), .c (.p 1 0)] [.box [.z, .z, .z], .box [.h 2, .h 3, .h 4], ro z1, ro z2, ro z3] [])) := by kernel_rfl
def enc0 (t : Int × Int × Vec (Vec Int) × (Vec (ByteArray × Int × Int × (Vec Int))) × Vec (Vec Int) × Vec (Vec ByteArray) × (Vec (Vec (Int × Int)))) : List AV × List Ob := ([.c (.p 0 0), .c (.p 1 0), .c (.p 2 0), vi t.1, vi t.2.1], [.box [cl t.2.2.1, cl t.2.2.2.1], .box [.z, .z, .z], .box [.h 3, .h 4, .h 5], ro t.2.2.2.2.1, ro t.2.2.2.2.2.1, ro t.2.2.2.2.2.2])
theorem enc0I : ∀ a b, enc0 a = enc0 b → a = b := by
  intro a b h
  obtain ⟨a0, a1, a2, a3, a4, a5, a6⟩ := a
  obtain ⟨b0, b1, b2, b3, b4, b5, b6⟩ := b
  simp [enc0, encRw_iff] at h
  simp_all
noncomputable def V0 : (ρ : Type) → List AV → List Ob → ((Vec (Vec Int)) → (Vec (Vec ByteArray)) → (Vec (Vec (Int × Int))) → Option ρ) → Option ρ := fun ρ avs obs k0 => ofC enc0 (fun t => F0 fuelN t.1 t.2.1 t.2.2.1 t.2.2.2.1 t.2.2.2.2.1 t.2.2.2.2.2.1 t.2.2.2.2.2.2 k0) (avs, obs)
theorem V0_enc (ρ : Type) : (fun w1 w2 w3 w4 w5 w6 w7 k0 => V0 ρ [.c (.p 0 0), .c (.p 1 0), .c (.p 2 0), vi w1, vi w2] [.box [cl w3, cl w4], .box [.z, .z, .z], .box [.h 3, .h 4, .h 5], ro w5, ro w6, ro w7] k0) = F0 fuelN := by
  funext w1 w2 w3 w4 w5 w6 w7 k0
  exact ofC_enc enc0I _ (w1, w2, w3, w4, w5, w6, w7)
def ct1 : Cut := ⟨[1, 2, 3, 4, 5, 14, 15, 19, 20, 21], [.ad (.s 5) 108]⟩
def lv1 : Exit → Cut
  | .exit 2 => ⟨[1, 2, 3, 4, 5, 14, 15], []⟩
  | _ => ⟨[], []⟩
theorem step1 (Q0 Q1 Q2) (W1 W0) {ρ : Type} (K : Exit → St → Option ρ) (W : List AV → List Ob → Option ρ) (v1 v2 v3 v4 v5 v6 v7 v8 v9 v10 v11 v12) : exC Try.prog (G Q0 Q1 Q2) (L W1 W0) [] 2 c1 (mkS 49 [1, 2, 3, 4, 5, 14, 15, 19, 20, 21] [.c (.p 0 0), .c (.p 1 0), .c (.p 2 0), vi v1, .c (.h 3), vi v2, vi v3, .c (.h 4), vi v4, vi v5] [.box [cl v6, cl v7], .box [.z, .z, .z], .box [.h 5, .h 6, .h 7], ro v8, ro v9, ro v10, ro v11, ro v12] []) (bodyK Try.prog 49 0 [] ct1 W lv1 K) =
    B1 v1 v2 v3 v4 v5 v6 v7 v8 v9 v10 v11 v12 (fun u1 u2 u3 u4 u5 u6 u7 u8 u9 u10 u11 u12 => W [.c (.p 0 0), .c (.p 1 0), .c (.p 2 0), vi u1, .c (.h 3), vi u2, vi u3, .c (.h 4), vi u4, vi u5] [.box [cl u6, cl u7], .box [.z, .z, .z], .box [.h 5, .h 6, .h 7], ro u8, ro u9, ro u10, ro u11, ro u12]) (fun z1 z2 z3 z4 z5 z6 z7 z8 z9 => K (.exit 2) (mkS 49 [1, 2, 3, 4, 5, 14, 15] [.c (.p 0 0), .c (.p 1 0), .c (.p 2 0), vi z1, .c (.h 3), vi z2, vi z3] [.box [cl z4, cl z5], .box [.z, .z, .z], .box [.h 4, .h 5, .h 6], ro z6, ro z7, ro z8, ro z9] [])) := by kernel_rfl
def enc1 (t : Int × Int × Int × Int × Int × Vec (Vec Int) × (Vec (ByteArray × Int × Int × (Vec Int))) × (Vec (Int × Int)) × (Vec (Int × Int × ByteArray)) × Vec (Vec Int) × Vec (Vec ByteArray) × (Vec (Vec (Int × Int)))) : List AV × List Ob := ([.c (.p 0 0), .c (.p 1 0), .c (.p 2 0), vi t.1, .c (.h 3), vi t.2.1, vi t.2.2.1, .c (.h 4), vi t.2.2.2.1, vi t.2.2.2.2.1], [.box [cl t.2.2.2.2.2.1, cl t.2.2.2.2.2.2.1], .box [.z, .z, .z], .box [.h 5, .h 6, .h 7], ro t.2.2.2.2.2.2.2.1, ro t.2.2.2.2.2.2.2.2.1, ro t.2.2.2.2.2.2.2.2.2.1, ro t.2.2.2.2.2.2.2.2.2.2.1, ro t.2.2.2.2.2.2.2.2.2.2.2])
theorem enc1I : ∀ a b, enc1 a = enc1 b → a = b := by
  intro a b h
  obtain ⟨a0, a1, a2, a3, a4, a5, a6, a7, a8, a9, a10, a11⟩ := a
  obtain ⟨b0, b1, b2, b3, b4, b5, b6, b7, b8, b9, b10, b11⟩ := b
  simp [enc1, encRw_iff] at h
  simp_all
noncomputable def V1 : (ρ : Type) → List AV → List Ob → (Int → Int → Int → (Vec (Vec Int)) → (Vec (ByteArray × Int × Int × (Vec Int))) → (Vec (Int × Int)) → (Vec (Vec Int)) → (Vec (Vec ByteArray)) → (Vec (Vec (Int × Int))) → Option ρ) → Option ρ := fun ρ avs obs k2 => ofC enc1 (fun t => F1 fuelN t.1 t.2.1 t.2.2.1 t.2.2.2.1 t.2.2.2.2.1 t.2.2.2.2.2.1 t.2.2.2.2.2.2.1 t.2.2.2.2.2.2.2.1 t.2.2.2.2.2.2.2.2.1 t.2.2.2.2.2.2.2.2.2.1 t.2.2.2.2.2.2.2.2.2.2.1 t.2.2.2.2.2.2.2.2.2.2.2 k2) (avs, obs)
theorem V1_enc (ρ : Type) : (fun w1 w2 w3 w4 w5 w6 w7 w8 w9 w10 w11 w12 k2 => V1 ρ [.c (.p 0 0), .c (.p 1 0), .c (.p 2 0), vi w1, .c (.h 3), vi w2, vi w3, .c (.h 4), vi w4, vi w5] [.box [cl w6, cl w7], .box [.z, .z, .z], .box [.h 5, .h 6, .h 7], ro w8, ro w9, ro w10, ro w11, ro w12] k2) = F1 fuelN := by
  funext w1 w2 w3 w4 w5 w6 w7 w8 w9 w10 w11 w12 k2
  exact ofC_enc enc1I _ (w1, w2, w3, w4, w5, w6, w7, w8, w9, w10, w11, w12)
theorem main (Q0 Q1 Q2) (W1 W0) {ρ : Type} (K : AV → List Ob → Option ρ) (a1 a2) : exC Try.prog (G Q0 Q1 Q2) (L W1 W0) [] 0 (bodyOf Try.f79) (entry 49 [.a [cl a1, cl a2]] [] []) (finO Try.prog Try.f79.results.toList 0 [] [] K) =
    B (fun y1 => Q0 [vl y1]) (fun w1 w2 w3 w4 w5 w6 w7 k0 => W0 ρ [.c (.p 0 0), .c (.p 1 0), .c (.p 2 0), vi w1, vi w2] [.box [cl w3, cl w4], .box [.z, .z, .z], .box [.h 3, .h 4, .h 5], ro w5, ro w6, ro w7] k0) a1 a2 (fun x1 x2 x3 => K (.a [.h 0, .h 1, .h 2]) [ro x1, ro x2, ro x3]) := by kernel_rfl
theorem Gok : (G impl_copyGraph.Q impl_Weave_annotate.Q impl_Weave_extract.Q).ok Try.prog := ⟨(by
    intro ρ f args K r h
    rcases sel_cases h with ⟨hb, h⟩ | ⟨-, h⟩
    · obtain rfl := beq_nat hb
      exact qEntry_ok impl_copyGraph.ac h
    rcases sel_cases h with ⟨hb, h⟩ | ⟨-, h⟩
    · obtain rfl := beq_nat hb
      exact qEntry_ok impl_Weave_annotate.ac h
    rcases sel_cases h with ⟨hb, h⟩ | ⟨-, h⟩
    · obtain rfl := beq_nat hb
      exact qEntry_ok impl_Weave_extract.ac h
    cases h),
  (by
    intro ρ f args K
    simp only [G]
    cases Nat.beq f 118 with
    | true => exact qEntry_nat args K
    | false =>
    simp only [sel]
    cases Nat.beq f 119 with
    | true => exact qEntry_nat args K
    | false =>
    simp only [sel]
    cases Nat.beq f 120 with
    | true => exact qEntry_nat args K
    | false =>
    simp only [sel]
    rfl),
  (fun ρ f st caps args dst K r h => (by cases h))⟩
theorem hm : Try.prog.follows .mixedOrders = true := by kernel_rfl
theorem e1 : atomsL [] 2 c1 = [] := by kernel_rfl
theorem ok1 (ρ : Type) (st : St) (K : Exit → St → Option ρ) (r : ρ) (h : (L V1 V0) ρ 1 st K = some r) : AW Try.prog (.loop c1) st fun e st' => K e st' = some r := by
  refine loop_ok (ct := ct1) (lv := lv1) (n := 49) (m := 0) (ks := []) (j := 1) (jn := []) (L := (L V1 V0)) Gok hm (by rw [e1]; exact Lor.ok_nil _ _) enc1I (fun k t => F1 k t.1 t.2.1 t.2.2.1 t.2.2.2.1 t.2.2.2.2.1 t.2.2.2.2.2.1 t.2.2.2.2.2.2.1 t.2.2.2.2.2.2.2.1 t.2.2.2.2.2.2.2.2.1 t.2.2.2.2.2.2.2.2.2.1 t.2.2.2.2.2.2.2.2.2.2.1 t.2.2.2.2.2.2.2.2.2.2.2 (fun z1 z2 z3 z4 z5 z6 z7 z8 z9 => K (.exit 2) (mkS 49 [1, 2, 3, 4, 5, 14, 15] [.c (.p 0 0), .c (.p 1 0), .c (.p 2 0), vi z1, .c (.h 3), vi z2, vi z3] [.box [cl z4, cl z5], .box [.z, .z, .z], .box [.h 4, .h 5, .h 6], ro z6, ro z7, ro z8, ro z9] []))) (fun t => rfl) (fun k t => ?_) (fun _ => fuelN) h
  refine (step1 impl_copyGraph.Q impl_Weave_annotate.Q impl_Weave_extract.Q V1 V0 K _ t.1 t.2.1 t.2.2.1 t.2.2.2.1 t.2.2.2.2.1 t.2.2.2.2.2.1 t.2.2.2.2.2.2.1 t.2.2.2.2.2.2.2.1 t.2.2.2.2.2.2.2.2.1 t.2.2.2.2.2.2.2.2.2.1 t.2.2.2.2.2.2.2.2.2.2.1 t.2.2.2.2.2.2.2.2.2.2.2).trans ?_
  refine congrArg (fun W => B1 t.1 t.2.1 t.2.2.1 t.2.2.2.1 t.2.2.2.2.1 t.2.2.2.2.2.1 t.2.2.2.2.2.2.1 t.2.2.2.2.2.2.2.1 t.2.2.2.2.2.2.2.2.1 t.2.2.2.2.2.2.2.2.2.1 t.2.2.2.2.2.2.2.2.2.2.1 t.2.2.2.2.2.2.2.2.2.2.2 W (fun z1 z2 z3 z4 z5 z6 z7 z8 z9 => K (.exit 2) (mkS 49 [1, 2, 3, 4, 5, 14, 15] [.c (.p 0 0), .c (.p 1 0), .c (.p 2 0), vi z1, .c (.h 3), vi z2, vi z3] [.box [cl z4, cl z5], .box [.z, .z, .z], .box [.h 4, .h 5, .h 6], ro z6, ro z7, ro z8, ro z9] []))) ?_
  funext u1 u2 u3 u4 u5 u6 u7 u8 u9 u10 u11 u12
  exact ofC_enc enc1I _ (u1, u2, u3, u4, u5, u6, u7, u8, u9, u10, u11, u12)
theorem e0 : atomsL [] 1 c0 = [(1, 1, .loop c1)] := by kernel_rfl
theorem ok0 (ρ : Type) (st : St) (K : Exit → St → Option ρ) (r : ρ) (h : (L V1 V0) ρ 0 st K = some r) : AW Try.prog (.loop c0) st fun e st' => K e st' = some r := by
  refine loop_ok (ct := ct0) (lv := lv0) (n := 49) (m := 0) (ks := []) (j := 0) (jn := []) (L := (L V1 V0)) Gok hm (by rw [e0]; exact Lor.ok_cons ok1 (Lor.ok_nil _ _)) enc0I (fun k t => F0 k t.1 t.2.1 t.2.2.1 t.2.2.2.1 t.2.2.2.2.1 t.2.2.2.2.2.1 t.2.2.2.2.2.2 (fun z1 z2 z3 => K (.exit 0) (mkS 49 [2, 3] [.c (.p 0 0), .c (.p 1 0)] [.box [.z, .z, .z], .box [.h 2, .h 3, .h 4], ro z1, ro z2, ro z3] []))) (fun t => rfl) (fun k t => ?_) (fun _ => fuelN) h
  refine (step0 impl_copyGraph.Q impl_Weave_annotate.Q impl_Weave_extract.Q V1 V0 K _ t.1 t.2.1 t.2.2.1 t.2.2.2.1 t.2.2.2.2.1 t.2.2.2.2.2.1 t.2.2.2.2.2.2).trans ?_
  rw [impl_Weave_annotate.wrap, impl_Weave_extract.wrap, V1_enc]
  refine congrArg (fun W => B0 impl_Weave_annotate.F impl_Weave_extract.F (F1 fuelN) t.1 t.2.1 t.2.2.1 t.2.2.2.1 t.2.2.2.2.1 t.2.2.2.2.2.1 t.2.2.2.2.2.2 W (fun z1 z2 z3 => K (.exit 0) (mkS 49 [2, 3] [.c (.p 0 0), .c (.p 1 0)] [.box [.z, .z, .z], .box [.h 2, .h 3, .h 4], ro z1, ro z2, ro z3] []))) ?_
  funext u1 u2 u3 u4 u5 u6 u7
  exact ofC_enc enc0I _ (u1, u2, u3, u4, u5, u6, u7)
theorem e : atomsL [] 0 (bodyOf Try.f79) = [(0, 0, .loop c0)] := by kernel_rfl
theorem acc (t : Vec (Vec Int) × (Vec (ByteArray × Int × Int × (Vec Int)))) (x : Vec (Vec Int) × Vec (Vec ByteArray) × (Vec (Vec (Int × Int)))) (h : F t.1 t.2 = some x) : ACc Try.prog 79 (encA t) [] true [] fun rv obs => (rv, obs) = encR x := by
  refine fun_okc (L := (L V1 V0)) (jn := []) (cmds := []) (ks := []) (hin := []) (fn := Try.f79) (body := (bodyOf Try.f79)) Gok hm Try.func79 (by kernel_rfl) (by kernel_rfl) (by rw [e]; exact Lor.ok_cons ok0 (Lor.ok_nil _ _)) ?_ h
  refine (main impl_copyGraph.Q impl_Weave_annotate.Q impl_Weave_extract.Q V1 V0 _ t.1 t.2).trans ?_
  rw [impl_copyGraph.wrap, V0_enc]
  refine congrArg (fun K => B impl_copyGraph.F (F0 fuelN) t.1 t.2 K) ?_
  funext x1 x2 x3
  exact ofC_enc encRI some (x1, x2, x3)
theorem ac0 (t : Vec (Vec Int) × (Vec (ByteArray × Int × Int × (Vec Int)))) (x : Vec (Vec Int) × Vec (Vec ByteArray) × (Vec (Vec (Int × Int)))) (h : F t.1 t.2 = some x) : AC Try.prog 79 (encA t) [] true [] fun rv obs => (rv, obs) = encR x := ACc.ac (body := bodyOf Try.f79) Try.func79 (by kernel_rfl) (by kernel_rfl) (acc t x h)
theorem ac (args : List AV) (x : Vec (Vec Int) × Vec (Vec ByteArray) × (Vec (Vec (Int × Int)))) (h : Q args = some x) : AC Try.prog 79 args [] false [] fun rv obs => (rv, obs) = encR x := by
  obtain ⟨t, rfl, h2⟩ := ofC_some h
  refine (ac0 t x h2).flat fun rv obs e => ?_
  obtain rfl : rv = (encR x).1 := congrArg Prod.fst e
  obtain rfl : obs = (encR x).2 := congrArg Prod.snd e
  refine ⟨by simp [encR, AV.Flat, K.Flat, C.Flat], ?_⟩
  intro o ho
  simp only [encR, List.mem_cons, List.not_mem_nil, or_false] at ho
  rcases ho with rfl | rfl | rfl
  · exact flat_rw rfl _
  · exact flat_rw rfl _
  · exact flat_rw rfl _
end impl_plainOf
/-! loop.example/g00073/impl.PlainOf -/
namespace impl_PlainOf
noncomputable def B {ρ : Type} (C0 : (Vec (Vec Int)) → (Vec (ByteArray × Int × Int × (Vec Int))) → Option Bool) (C1 : (Vec (Vec Int)) → (Vec (ByteArray × Int × Int × (Vec Int))) → Option (Vec (Vec Int) × Vec (Vec ByteArray) × (Vec (Vec (Int × Int))))) (a1 : Vec (Vec Int)) (a2 : Vec (ByteArray × Int × Int × (Vec Int))) (K : Bool → (Vec (Vec Int)) → (Vec (Vec ByteArray)) → (Vec (Vec (Int × Int))) → Option ρ) : Option ρ :=
  (C0 a1 a2).bind fun r1 => sel ((!r1)) (K false (Vec.nil : Vec (Vec Int)) (Vec.nil : Vec (Vec ByteArray)) (Vec.nil : Vec (Vec (Int × Int)))) ((C1 a1 a2).bind fun r2 => K true r2.1 r2.2.1 r2.2.2)
noncomputable def F (a1 : Vec (Vec Int)) (a2 : Vec (ByteArray × Int × Int × (Vec Int))) : Option (Bool × Vec (Vec Int) × Vec (Vec ByteArray) × (Vec (Vec (Int × Int)))) := B impl_WeaveOk.F impl_plainOf.F a1 a2 (fun x1 x2 x3 x4 => some (x1, x2, x3, x4))
def encA (t : Vec (Vec Int) × (Vec (ByteArray × Int × Int × (Vec Int)))) : List AV := [.a [cl t.1, cl t.2]]
def encR (x : Bool × Vec (Vec Int) × Vec (Vec ByteArray) × (Vec (Vec (Int × Int)))) : AV × List Ob := (.tup [.a [.h 0, .h 1, .h 2], .c (cb x.1)], [ro x.2.1, ro x.2.2.1, ro x.2.2.2])
theorem encAI : ∀ a b, encA a = encA b → a = b := by
  intro a b h
  obtain ⟨a0, a1⟩ := a
  obtain ⟨b0, b1⟩ := b
  simp [encA, encRw_iff] at h
  simp_all
theorem encRI : ∀ a b, encR a = encR b → a = b := by
  intro a b h
  obtain ⟨a0, a1, a2, a3⟩ := a
  obtain ⟨b0, b1, b2, b3⟩ := b
  simp [encR, encRw_iff] at h
  simp_all
noncomputable def Q (args : List AV) : Option (Bool × Vec (Vec Int) × Vec (Vec ByteArray) × (Vec (Vec (Int × Int)))) := ofC encA (fun t => F t.1 t.2) args
theorem wrap : (fun (y1 : Vec (Vec Int)) (y2 : Vec (ByteArray × Int × Int × (Vec Int))) => Q [.a [cl y1, cl y2]]) = F := by
  funext y1 y2
  exact ofC_enc encAI _ (y1, y2)
noncomputable def G (Q0 : List AV → Option Bool) (Q1 : List AV → Option (Vec (Vec Int) × Vec (Vec ByteArray) × (Vec (Vec (Int × Int))))) : Orc := ⟨fun f => sel (Nat.beq f 78) 0 (sel (Nat.beq f 79) 0 (9)), fun ρ f args K => sel (Nat.beq f 78) (qEntry impl_WeaveOk.encR Q0 args K) (sel (Nat.beq f 79) (qEntry impl_plainOf.encR Q1 args K) (Option.none)), noE, false⟩
noncomputable def L : Lor := fun ρ j st K => Option.none
theorem main (Q0 Q1) {ρ : Type} (K : AV → List Ob → Option ρ) (a1 a2) : exC Try.prog (G Q0 Q1) (L) [] 0 (bodyOf Try.f38) (entry 10 [.a [cl a1, cl a2]] [] []) (finO Try.prog Try.f38.results.toList 0 [] [.ad (.p 2 0) 34, .ad (.p 2 1) 58, .ad (.p 2 2) 59] K) =
    B (fun y1 y2 => Q0 [.a [cl y1, cl y2]]) (fun y1 y2 => Q1 [.a [cl y1, cl y2]]) a1 a2 (fun x1 x2 x3 x4 => K (.tup [.a [.h 0, .h 1, .h 2], .c (cb x1)]) [ro x2, ro x3, ro x4]) := by kernel_rfl
theorem Gok : (G impl_WeaveOk.Q impl_plainOf.Q).ok Try.prog := ⟨(by
    intro ρ f args K r h
    rcases sel_cases h with ⟨hb, h⟩ | ⟨-, h⟩
    · obtain rfl := beq_nat hb
      exact qEntry_ok impl_WeaveOk.ac h
    rcases sel_cases h with ⟨hb, h⟩ | ⟨-, h⟩
    · obtain rfl := beq_nat hb
      exact qEntry_ok impl_plainOf.ac h
    cases h),
  (by
    intro ρ f args K
    simp only [G]
    cases Nat.beq f 78 with
    | true => exact qEntry_nat args K
    | false =>
    simp only [sel]
    cases Nat.beq f 79 with
    | true => exact qEntry_nat args K
    | false =>
    simp only [sel]
    rfl),
  (fun ρ f st caps args dst K r h => (by cases h))⟩
theorem hm : Try.prog.follows .mixedOrders = true := by kernel_rfl
theorem e : atomsL [] 0 (bodyOf Try.f38) = [] := by kernel_rfl
theorem acc (t : Vec (Vec Int) × (Vec (ByteArray × Int × Int × (Vec Int)))) (x : Bool × Vec (Vec Int) × Vec (Vec ByteArray) × (Vec (Vec (Int × Int)))) (h : F t.1 t.2 = some x) : ACc Try.prog 38 (encA t) [] true [] fun rv obs => (rv, obs) = encR x := by
  refine fun_okc (L := (L)) (jn := []) (cmds := [.ad (.p 2 0) 34, .ad (.p 2 1) 58, .ad (.p 2 2) 59]) (ks := []) (hin := []) (fn := Try.f38) (body := (bodyOf Try.f38)) Gok hm Try.func38 (by kernel_rfl) (by kernel_rfl) (by rw [e]; exact Lor.ok_nil _ _) ?_ h
  refine (main impl_WeaveOk.Q impl_plainOf.Q _ t.1 t.2).trans ?_
  rw [impl_WeaveOk.wrap, impl_plainOf.wrap]
  refine congrArg (fun K => B impl_WeaveOk.F impl_plainOf.F t.1 t.2 K) ?_
  funext x1 x2 x3 x4
  exact ofC_enc encRI some (x1, x2, x3, x4)
theorem ac0 (t : Vec (Vec Int) × (Vec (ByteArray × Int × Int × (Vec Int)))) (x : Bool × Vec (Vec Int) × Vec (Vec ByteArray) × (Vec (Vec (Int × Int)))) (h : F t.1 t.2 = some x) : AC Try.prog 38 (encA t) [] true [] fun rv obs => (rv, obs) = encR x := ACc.ac (body := bodyOf Try.f38) Try.func38 (by kernel_rfl) (by kernel_rfl) (acc t x h)
theorem ac (args : List AV) (x : Bool × Vec (Vec Int) × Vec (Vec ByteArray) × (Vec (Vec (Int × Int)))) (h : Q args = some x) : AC Try.prog 38 args [] false [] fun rv obs => (rv, obs) = encR x := by
  obtain ⟨t, rfl, h2⟩ := ofC_some h
  refine (ac0 t x h2).flat fun rv obs e => ?_
  obtain rfl : rv = (encR x).1 := congrArg Prod.fst e
  obtain rfl : obs = (encR x).2 := congrArg Prod.snd e
  refine ⟨by simp [encR, AV.Flat, K.Flat, C.Flat], ?_⟩
  intro o ho
  simp only [encR, List.mem_cons, List.not_mem_nil, or_false] at ho
  rcases ho with rfl | rfl | rfl
  · exact flat_rw rfl _
  · exact flat_rw rfl _
  · exact flat_rw rfl _
end impl_PlainOf
end Go.Al
