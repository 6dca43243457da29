import Derived.Test.YtnkmpehikhmbjaaAlE
import Derived.Test.YtnkmpehikhmbjaaSC
import Derived.Test.YtnkmpehikhmbjaaGCom
set_option linter.unusedVariables false
set_option linter.unusedSimpArgs false
set_option linter.constructorNameAsVariable false
set_option linter.unusedSectionVars false
set_option maxRecDepth 100000
namespace Go.Al
open Go.Proofs

/-! loop.example/g00073/spec.l14Differs -/
namespace spec_l14Differs
noncomputable def B {ρ : Type} (C0 : (Vec (ByteArray × Int × Int)) → Int → Option Int) (a1 : Vec (ByteArray × Int × Int)) (a2 : Vec (ByteArray × Int × Int)) (a3 : Int) (K : Bool → Option ρ) : Option ρ :=
  (C0 a1 a3).bind fun r1 => (C0 a2 a3).bind fun r2 => sel (decide (r1 < (0 : Int))) (sel (decide ((0 : Int) ≤ r1)) (K true) (K (decide ((0 : Int) ≤ r2)))) (sel (decide (r2 < (0 : Int))) (sel (decide ((0 : Int) ≤ r1)) (K true) (K (decide ((0 : Int) ≤ r2)))) (chk (decide (0 ≤ r1 ∧ r1 < (a1.n : Int))) (chk (decide (0 ≤ r2 ∧ r2 < (a2.n : Int))) (K (!(decide ((a1.g r1.toNat).1 = (a2.g r2.toNat).1) && (decide ((a1.g r1.toNat).2.1 = (a2.g r2.toNat).2.1) && decide ((a1.g r1.toNat).2.2 = (a2.g r2.toNat).2.2))))))))
noncomputable def F (a1 : Vec (ByteArray × Int × Int)) (a2 : Vec (ByteArray × Int × Int)) (a3 : Int) : Option Bool := B spec_l13Id.F a1 a2 a3 (fun x1 => some (x1))
def encA (t : (Vec (ByteArray × Int × Int)) × (Vec (ByteArray × Int × Int)) × Int) : List AV := [vl t.1, vl t.2.1, vi t.2.2]
def encR (x : Bool) : AV × List Ob := (vb x, [])
theorem encAI : ∀ a b, encA a = encA b → a = b := by
  intro a b h
  obtain ⟨a0, a1, a2⟩ := a
  obtain ⟨b0, b1, b2⟩ := b
  simp [encA, encRw_iff] at h
  simp_all
theorem encRI : ∀ a b, encR a = encR b → a = b := by
  intro a b h
  simp [encR, encRw_iff] at h
  simp_all
noncomputable def Q (args : List AV) : Option Bool := ofC encA (fun t => F t.1 t.2.1 t.2.2) args
theorem wrap : (fun (y1 : Vec (ByteArray × Int × Int)) (y2 : Vec (ByteArray × Int × Int)) (y3 : Int) => Q [vl y1, vl y2, vi y3]) = F := by
  funext y1 y2 y3
  exact ofC_enc encAI _ (y1, y2, y3)
noncomputable def G (Q0 : List AV → Option Int) : Orc := ⟨fun f => sel (Nat.beq f 93) 0 (9), fun ρ f args K => sel (Nat.beq f 93) (qEntry spec_l13Id.encR Q0 args K) (Option.none), noE, false⟩
noncomputable def L : Lor := fun ρ j st K => Option.none
theorem main (Q0) {ρ : Type} (K : AV → List Ob → Option ρ) (a1 a2 a3) : exC Try.prog (G Q0) (L) [] 0 (bodyOf Try.f94) (entry 36 [vl a1, vl a2, vi a3] [] []) (finO Try.prog Try.f94.results.toList 0 [] [] K) =
    B (fun y1 y2 => Q0 [vl y1, vi y2]) a1 a2 a3 (fun x1 => K (vb x1) []) := by kernel_rfl
theorem Gok : (G spec_l13Id.Q).ok Try.prog := ⟨(by
    intro ρ f args K r h
    rcases sel_cases h with ⟨hb, h⟩ | ⟨-, h⟩
    · obtain rfl := beq_nat hb
      exact qEntry_ok spec_l13Id.ac h
    cases h),
  (by
    intro ρ f args K
    simp only [G]
    cases Nat.beq f 93 with
    | true => exact qEntry_nat args K
    | false =>
    simp only [sel]
    rfl),
  (fun ρ f st caps args dst K r h => (by cases h))⟩
theorem hm : Try.prog.follows .mixedOrders = true := by kernel_rfl
theorem e : atomsL [] 0 (bodyOf Try.f94) = [] := by kernel_rfl
theorem acc (t : (Vec (ByteArray × Int × Int)) × (Vec (ByteArray × Int × Int)) × Int) (x : Bool) (h : F t.1 t.2.1 t.2.2 = some x) : ACc Try.prog 94 (encA t) [] true [] fun rv obs => (rv, obs) = encR x := by
  refine fun_okc (L := (L)) (jn := []) (cmds := []) (ks := []) (hin := []) (fn := Try.f94) (body := (bodyOf Try.f94)) Gok hm Try.func94 (by kernel_rfl) (by kernel_rfl) (by rw [e]; exact Lor.ok_nil _ _) ?_ h
  refine (main spec_l13Id.Q _ t.1 t.2.1 t.2.2).trans ?_
  rw [spec_l13Id.wrap]
  refine congrArg (fun K => B spec_l13Id.F t.1 t.2.1 t.2.2 K) ?_
  funext x1
  exact ofC_enc encRI some (x1)
theorem ac0 (t : (Vec (ByteArray × Int × Int)) × (Vec (ByteArray × Int × Int)) × Int) (x : Bool) (h : F t.1 t.2.1 t.2.2 = some x) : AC Try.prog 94 (encA t) [] true [] fun rv obs => (rv, obs) = encR x := ACc.ac (body := bodyOf Try.f94) Try.func94 (by kernel_rfl) (by kernel_rfl) (acc t x h)
theorem ac (args : List AV) (x : Bool) (h : Q args = some x) : AC Try.prog 94 args [] false [] fun rv obs => (rv, obs) = encR x := by
  obtain ⟨t, rfl, h2⟩ := ofC_some h
  refine (ac0 t x h2).flat fun rv obs e => ?_
  obtain rfl : rv = (encR x).1 := congrArg Prod.fst e
  obtain rfl : obs = (encR x).2 := congrArg Prod.snd e
  refine ⟨by simp [encR, AV.Flat, K.Flat, C.Flat], ?_⟩
  simp [encR]
end spec_l14Differs
/-! loop.example/g00073/spec.l14Touched -/
namespace spec_l14Touched
noncomputable def B1 {ρ : Type} (C1 : (Vec (ByteArray × Int × Int)) → (Vec (ByteArray × Int × Int)) → Int → Option Bool) (v1 : Vec ((Vec Int) × ByteArray × (Vec (ByteArray × Int × Int)))) (v2 : Int) (v3 : Int) (v4 : Bool) (v5 : Int) (v6 : Vec Int) (W : (Vec ((Vec Int) × ByteArray × (Vec (ByteArray × Int × Int)))) → Int → Int → Bool → Int → (Vec Int) → Option ρ) (K2 : (Vec ((Vec Int) × ByteArray × (Vec (ByteArray × Int × Int)))) → Int → Int → Bool → (Vec Int) → Option ρ) : Option ρ :=
  chk (decide (0 ≤ v2 ∧ v2 < (v1.n : Int))) (sel (decide (v5 < (((v1.g v2.toNat).1).n : Int))) (sel (v4) (W v1 v2 v3 true (wr (v5 + (1 : Int))) v6) (chk (decide (0 ≤ v2 ∧ v2 < (v1.n : Int))) (chk (decide (0 ≤ v2 ∧ v2 < (v1.n : Int))) (chk (decide (0 ≤ v5 ∧ v5 < (((v1.g v2.toNat).1).n : Int))) (chk (decide (0 ≤ (((v1.g v2.toNat).1).g v5.toNat) ∧ (((v1.g v2.toNat).1).g v5.toNat) < (v1.n : Int))) ((C1 ((v1.g v2.toNat).2.2) ((v1.g (((v1.g v2.toNat).1).g v5.toNat).toNat).2.2) v3).bind fun r2 => W v1 v2 v3 r2 (wr (v5 + (1 : Int))) v6)))))) (K2 v1 v2 v3 v4 v6))
noncomputable def F1 {ρ : Type} : Nat → (Vec ((Vec Int) × ByteArray × (Vec (ByteArray × Int × Int)))) → Int → Int → Bool → Int → (Vec Int) → ((Vec ((Vec Int) × ByteArray × (Vec (ByteArray × Int × Int)))) → Int → Int → Bool → (Vec Int) → Option ρ) → Option ρ
  | 0, _, _, _, _, _, _, _ => none
  | k + 1, v1, v2, v3, v4, v5, v6, K2 => B1 spec_l14Differs.F v1 v2 v3 v4 v5 v6 (fun v1' v2' v3' v4' v5' v6' => F1 k v1' v2' v3' v4' v5' v6' K2) K2
noncomputable def B0 {ρ : Type} (C0 : (Vec (ByteArray × Int × Int)) → Int → Option Int) (L1 : (Vec ((Vec Int) × ByteArray × (Vec (ByteArray × Int × Int)))) → Int → Int → Bool → Int → (Vec Int) → ((Vec ((Vec Int) × ByteArray × (Vec (ByteArray × Int × Int)))) → Int → Int → Bool → (Vec Int) → Option ρ) → Option ρ) (v1 : Vec ((Vec Int) × ByteArray × (Vec (ByteArray × Int × Int)))) (v2 : Int) (v3 : Int) (v4 : Vec Int) (W : (Vec ((Vec Int) × ByteArray × (Vec (ByteArray × Int × Int)))) → Int → Int → (Vec Int) → Option ρ) (K0 : (Vec Int) → Option ρ) : Option ρ :=
  sel (decide (v3 < (12 : Int))) (chk (decide (0 ≤ v2 ∧ v2 < (v1.n : Int))) (sel (decide ((((v1.g v2.toNat).1).n : Int) = (0 : Int))) (chk (decide (0 ≤ v2 ∧ v2 < (v1.n : Int))) ((C0 ((v1.g v2.toNat).2.2) v3).bind fun r1 => L1 v1 v2 v3 (decide ((0 : Int) ≤ r1)) (0 : Int) v4 (fun e11 e12 e13 e14 e15 => sel (e14) (chk (decide ((e15.n + (Vec.lit [e13] : Vec Int).n) * 9 ≤ maxN)) (W e11 e12 (wr (e13 + (1 : Int))) (Vec.app e15 (Vec.lit [e13] : Vec Int)))) (W e11 e12 (wr (e13 + (1 : Int))) e15)))) (L1 v1 v2 v3 false (0 : Int) v4 (fun e11 e12 e13 e14 e15 => sel (e14) (chk (decide ((e15.n + (Vec.lit [e13] : Vec Int).n) * 9 ≤ maxN)) (W e11 e12 (wr (e13 + (1 : Int))) (Vec.app e15 (Vec.lit [e13] : Vec Int)))) (W e11 e12 (wr (e13 + (1 : Int))) e15))))) (K0 v4)
noncomputable def F0 {ρ : Type} : Nat → (Vec ((Vec Int) × ByteArray × (Vec (ByteArray × Int × Int)))) → Int → Int → (Vec Int) → ((Vec Int) → Option ρ) → Option ρ
  | 0, _, _, _, _, _ => none
  | k + 1, v1, v2, v3, v4, K0 => B0 spec_l13Id.F (F1 fuelN) v1 v2 v3 v4 (fun v1' v2' v3' v4' => F0 k v1' v2' v3' v4' K0) K0
noncomputable def B {ρ : Type} (L0 : (Vec ((Vec Int) × ByteArray × (Vec (ByteArray × Int × Int)))) → Int → Int → (Vec Int) → ((Vec Int) → Option ρ) → Option ρ) (a1 : Vec ((Vec Int) × ByteArray × (Vec (ByteArray × Int × Int)))) (a2 : Int) (K : (Vec Int) → Option ρ) : Option ρ :=
  L0 a1 a2 (0 : Int) (Vec.nil : Vec Int) (fun e01 => K e01)
noncomputable def F (a1 : Vec ((Vec Int) × ByteArray × (Vec (ByteArray × Int × Int)))) (a2 : Int) : Option (Vec Int) := B (F0 fuelN) a1 a2 (fun x1 => some (x1))
def encA (t : (Vec ((Vec Int) × ByteArray × (Vec (ByteArray × Int × Int)))) × Int) : List AV := [vl t.1, vi t.2]
def encR (x : Vec Int) : AV × List Ob := (.c (.h 0), [ro x])
theorem encAI : ∀ a b, encA a = encA b → a = b := by
  intro a b h
  obtain ⟨a0, a1⟩ := a
  obtain ⟨b0, b1⟩ := b
  simp [encA, encRw_iff] at h
  simp_all
theorem encRI : ∀ a b, encR a = encR b → a = b := by
  intro a b h
  simp [encR, encRw_iff] at h
  simp_all
noncomputable def Q (args : List AV) : Option (Vec Int) := ofC encA (fun t => F t.1 t.2) args
theorem wrap : (fun (y1 : Vec ((Vec Int) × ByteArray × (Vec (ByteArray × Int × Int)))) (y2 : Int) => Q [vl y1, vi y2]) = F := by
  funext y1 y2
  exact ofC_enc encAI _ (y1, y2)
noncomputable def G (Q0 : List AV → Option Int) (Q1 : List AV → Option Bool) : Orc := ⟨fun f => sel (Nat.beq f 93) 0 (sel (Nat.beq f 94) 0 (9)), fun ρ f args K => sel (Nat.beq f 93) (qEntry spec_l13Id.encR Q0 args K) (sel (Nat.beq f 94) (qEntry spec_l14Differs.encR Q1 args K) (Option.none)), noE, false⟩
noncomputable def L (W1 : (ρ : Type) → List AV → List Ob → ((Vec ((Vec Int) × ByteArray × (Vec (ByteArray × Int × Int)))) → Int → Int → Bool → (Vec Int) → Option ρ) → Option ρ) (W0 : (ρ : Type) → List AV → List Ob → ((Vec Int) → Option ρ) → Option ρ) : Lor := fun ρ j st K => sel (Nat.beq j 0) (cutO Try.prog 69 [0, 1, 5, 6] 0 [] [.ad (.s 5) 23] st fun avs obs => W0 ρ avs obs (fun z1 => K (.exit 0) (mkS 69 [5] [.c (.h 0)] [ro z1] []))) (sel (Nat.beq j 1) (cutO Try.prog 69 [0, 1, 5, 6, 7, 8] 0 [] [] st fun avs obs => W1 ρ avs obs (fun z1 z2 z3 z4 z5 => K (.exit 2) (mkS 69 [0, 1, 5, 6, 7] [vl z1, vi z2, .c (.h 0), vi z3, vb z4] [ro z5] []))) (Option.none))
noncomputable def c0 : Code := loopC (atomN [] 0 (bodyOf Try.f45) 0)
noncomputable def c1 : Code := loopC (atomN [] 1 c0 0)
def ct0 : Cut := ⟨[0, 1, 5, 6], [.ad (.s 5) 23]⟩
def lv0 : Exit → Cut
  | .exit 0 => ⟨[5], []⟩
  | _ => ⟨[], []⟩
theorem step0 (Q0 Q1) (W1 W0) {ρ : Type} (K : Exit → St → Option ρ) (W : List AV → List Ob → Option ρ) (v1 v2 v3 v4) : exC Try.prog (G Q0 Q1) (L W1 W0) [] 1 c0 (mkS 69 [0, 1, 5, 6] [vl v1, vi v2, .c (.h 0), vi v3] [ro v4] []) (bodyK Try.prog 69 0 [] ct0 W lv0 K) =
    B0 (fun y1 y2 => Q0 [vl y1, vi y2]) (fun w1 w2 w3 w4 w5 w6 k2 => W1 ρ [vl w1, vi w2, .c (.h 0), vi w3, vb w4, vi w5] [ro w6] k2) v1 v2 v3 v4 (fun u1 u2 u3 u4 => W [vl u1, vi u2, .c (.h 0), vi u3] [ro u4]) (fun z1 => K (.exit 0) (mkS 69 [5] [.c (.h 0)] [ro z1] [])) := by kernel_rfl
def enc0 (t : (Vec ((Vec Int) × ByteArray × (Vec (ByteArray × Int × Int)))) × Int × Int × Vec Int) : List AV × List Ob := ([vl t.1, vi t.2.1, .c (.h 0), vi t.2.2.1], [ro t.2.2.2])
theorem enc0I : ∀ a b, enc0 a = enc0 b → a = b := by
  intro a b h
  obtain ⟨a0, a1, a2, a3⟩ := a
  obtain ⟨b0, b1, b2, b3⟩ := b
  simp [enc0, encRw_iff] at h
  simp_all
noncomputable def V0 : (ρ : Type) → List AV → List Ob → ((Vec Int) → Option ρ) → Option ρ := fun ρ avs obs k0 => ofC enc0 (fun t => F0 fuelN t.1 t.2.1 t.2.2.1 t.2.2.2 k0) (avs, obs)
theorem V0_enc (ρ : Type) : (fun w1 w2 w3 w4 k0 => V0 ρ [vl w1, vi w2, .c (.h 0), vi w3] [ro w4] k0) = F0 fuelN := by
  funext w1 w2 w3 w4 k0
  exact ofC_enc enc0I _ (w1, w2, w3, w4)
def ct1 : Cut := ⟨[0, 1, 5, 6, 7, 8], []⟩
def lv1 : Exit → Cut
  | .exit 2 => ⟨[0, 1, 5, 6, 7], []⟩
  | _ => ⟨[], []⟩
theorem step1 (Q0 Q1) (W1 W0) {ρ : Type} (K : Exit → St → Option ρ) (W : List AV → List Ob → Option ρ) (v1 v2 v3 v4 v5 v6) : exC Try.prog (G Q0 Q1) (L W1 W0) [] 2 c1 (mkS 69 [0, 1, 5, 6, 7, 8] [vl v1, vi v2, .c (.h 0), vi v3, vb v4, vi v5] [ro v6] []) (bodyK Try.prog 69 0 [] ct1 W lv1 K) =
    B1 (fun y1 y2 y3 => Q1 [vl y1, vl y2, vi y3]) v1 v2 v3 v4 v5 v6 (fun u1 u2 u3 u4 u5 u6 => W [vl u1, vi u2, .c (.h 0), vi u3, vb u4, vi u5] [ro u6]) (fun z1 z2 z3 z4 z5 => K (.exit 2) (mkS 69 [0, 1, 5, 6, 7] [vl z1, vi z2, .c (.h 0), vi z3, vb z4] [ro z5] [])) := by kernel_rfl
def enc1 (t : (Vec ((Vec Int) × ByteArray × (Vec (ByteArray × Int × Int)))) × Int × Int × Bool × Int × Vec Int) : List AV × List Ob := ([vl t.1, vi t.2.1, .c (.h 0), vi t.2.2.1, vb t.2.2.2.1, vi t.2.2.2.2.1], [ro t.2.2.2.2.2])
theorem enc1I : ∀ a b, enc1 a = enc1 b → a = b := by
  intro a b h
  obtain ⟨a0, a1, a2, a3, a4, a5⟩ := a
  obtain ⟨b0, b1, b2, b3, b4, b5⟩ := b
  simp [enc1, encRw_iff] at h
  simp_all
noncomputable def V1 : (ρ : Type) → List AV → List Ob → ((Vec ((Vec Int) × ByteArray × (Vec (ByteArray × Int × Int)))) → Int → Int → Bool → (Vec Int) → Option ρ) → Option ρ := fun ρ avs obs k2 => ofC enc1 (fun t => F1 fuelN t.1 t.2.1 t.2.2.1 t.2.2.2.1 t.2.2.2.2.1 t.2.2.2.2.2 k2) (avs, obs)
theorem V1_enc (ρ : Type) : (fun w1 w2 w3 w4 w5 w6 k2 => V1 ρ [vl w1, vi w2, .c (.h 0), vi w3, vb w4, vi w5] [ro w6] k2) = F1 fuelN := by
  funext w1 w2 w3 w4 w5 w6 k2
  exact ofC_enc enc1I _ (w1, w2, w3, w4, w5, w6)
theorem main (Q0 Q1) (W1 W0) {ρ : Type} (K : AV → List Ob → Option ρ) (a1 a2) : exC Try.prog (G Q0 Q1) (L W1 W0) [] 0 (bodyOf Try.f45) (entry 69 [vl a1, vi a2] [] []) (finO Try.prog Try.f45.results.toList 0 [] [] K) =
    B (fun w1 w2 w3 w4 k0 => W0 ρ [vl w1, vi w2, .c (.h 0), vi w3] [ro w4] k0) a1 a2 (fun x1 => K (.c (.h 0)) [ro x1]) := by kernel_rfl
theorem Gok : (G spec_l13Id.Q spec_l14Differs.Q).ok Try.prog := ⟨(by
    intro ρ f args K r h
    rcases sel_cases h with ⟨hb, h⟩ | ⟨-, h⟩
    · obtain rfl := beq_nat hb
      exact qEntry_ok spec_l13Id.ac h
    rcases sel_cases h with ⟨hb, h⟩ | ⟨-, h⟩
    · obtain rfl := beq_nat hb
      exact qEntry_ok spec_l14Differs.ac h
    cases h),
  (by
    intro ρ f args K
    simp only [G]
    cases Nat.beq f 93 with
    | true => exact qEntry_nat args K
    | false =>
    simp only [sel]
    cases Nat.beq f 94 with
    | true => exact qEntry_nat args K
    | false =>
    simp only [sel]
    rfl),
  (fun ρ f st caps args dst K r h => (by cases h))⟩
theorem hm : Try.prog.follows .mixedOrders = true := by kernel_rfl
theorem e1 : atomsL [] 2 c1 = [] := by kernel_rfl
theorem ok1 (ρ : Type) (st : St) (K : Exit → St → Option ρ) (r : ρ) (h : (L V1 V0) ρ 1 st K = some r) : AW Try.prog (.loop c1) st fun e st' => K e st' = some r := by
  refine loop_ok (ct := ct1) (lv := lv1) (n := 69) (m := 0) (ks := []) (j := 1) (jn := []) (L := (L V1 V0)) Gok hm (by rw [e1]; exact Lor.ok_nil _ _) enc1I (fun k t => F1 k t.1 t.2.1 t.2.2.1 t.2.2.2.1 t.2.2.2.2.1 t.2.2.2.2.2 (fun z1 z2 z3 z4 z5 => K (.exit 2) (mkS 69 [0, 1, 5, 6, 7] [vl z1, vi z2, .c (.h 0), vi z3, vb z4] [ro z5] []))) (fun t => rfl) (fun k t => ?_) (fun _ => fuelN) h
  refine (step1 spec_l13Id.Q spec_l14Differs.Q V1 V0 K _ t.1 t.2.1 t.2.2.1 t.2.2.2.1 t.2.2.2.2.1 t.2.2.2.2.2).trans ?_
  rw [spec_l14Differs.wrap]
  refine congrArg (fun W => B1 spec_l14Differs.F t.1 t.2.1 t.2.2.1 t.2.2.2.1 t.2.2.2.2.1 t.2.2.2.2.2 W (fun z1 z2 z3 z4 z5 => K (.exit 2) (mkS 69 [0, 1, 5, 6, 7] [vl z1, vi z2, .c (.h 0), vi z3, vb z4] [ro z5] []))) ?_
  funext u1 u2 u3 u4 u5 u6
  exact ofC_enc enc1I _ (u1, u2, u3, u4, u5, u6)
theorem e0 : atomsL [] 1 c0 = [(1, 1, .loop c1)] := by kernel_rfl
theorem ok0 (ρ : Type) (st : St) (K : Exit → St → Option ρ) (r : ρ) (h : (L V1 V0) ρ 0 st K = some r) : AW Try.prog (.loop c0) st fun e st' => K e st' = some r := by
  refine loop_ok (ct := ct0) (lv := lv0) (n := 69) (m := 0) (ks := []) (j := 0) (jn := []) (L := (L V1 V0)) Gok hm (by rw [e0]; exact Lor.ok_cons ok1 (Lor.ok_nil _ _)) enc0I (fun k t => F0 k t.1 t.2.1 t.2.2.1 t.2.2.2 (fun z1 => K (.exit 0) (mkS 69 [5] [.c (.h 0)] [ro z1] []))) (fun t => rfl) (fun k t => ?_) (fun _ => fuelN) h
  refine (step0 spec_l13Id.Q spec_l14Differs.Q V1 V0 K _ t.1 t.2.1 t.2.2.1 t.2.2.2).trans ?_
  rw [spec_l13Id.wrap, V1_enc]
  refine congrArg (fun W => B0 spec_l13Id.F (F1 fuelN) t.1 t.2.1 t.2.2.1 t.2.2.2 W (fun z1 => K (.exit 0) (mkS 69 [5] [.c (.h 0)] [ro z1] []))) ?_
  funext u1 u2 u3 u4
  exact ofC_enc enc0I _ (u1, u2, u3, u4)
theorem e : atomsL [] 0 (bodyOf Try.f45) = [(0, 0, .loop c0)] := by kernel_rfl
theorem acc (t : (Vec ((Vec Int) × ByteArray × (Vec (ByteArray × Int × Int)))) × Int) (x : Vec Int) (h : F t.1 t.2 = some x) : ACc Try.prog 45 (encA t) [] true [] fun rv obs => (rv, obs) = encR x := by
  refine fun_okc (L := (L V1 V0)) (jn := []) (cmds := []) (ks := []) (hin := []) (fn := Try.f45) (body := (bodyOf Try.f45)) Gok hm Try.func45 (by kernel_rfl) (by kernel_rfl) (by rw [e]; exact Lor.ok_cons ok0 (Lor.ok_nil _ _)) ?_ h
  refine (main spec_l13Id.Q spec_l14Differs.Q V1 V0 _ t.1 t.2).trans ?_
  rw [V0_enc]
  refine congrArg (fun K => B (F0 fuelN) t.1 t.2 K) ?_
  funext x1
  exact ofC_enc encRI some (x1)
theorem ac0 (t : (Vec ((Vec Int) × ByteArray × (Vec (ByteArray × Int × Int)))) × Int) (x : Vec Int) (h : F t.1 t.2 = some x) : AC Try.prog 45 (encA t) [] true [] fun rv obs => (rv, obs) = encR x := ACc.ac (body := bodyOf Try.f45) Try.func45 (by kernel_rfl) (by kernel_rfl) (acc t x h)
theorem ac (args : List AV) (x : Vec Int) (h : Q args = some x) : AC Try.prog 45 args [] false [] fun rv obs => (rv, obs) = encR x := by
  obtain ⟨t, rfl, h2⟩ := ofC_some h
  refine (ac0 t x h2).flat fun rv obs e => ?_
  obtain rfl : rv = (encR x).1 := congrArg Prod.fst e
  obtain rfl : obs = (encR x).2 := congrArg Prod.snd e
  refine ⟨by simp [encR, AV.Flat, K.Flat, C.Flat], ?_⟩
  intro o ho
  simp only [encR, List.mem_cons, List.not_mem_nil, or_false] at ho
  subst ho
  exact flat_rw rfl _
end spec_l14Touched
/-! loop.example/g00073/spec.TouchedIn -/
namespace spec_TouchedIn
noncomputable def B {ρ : Type} (C0 : (Vec ((Vec Int) × ByteArray × (Vec (ByteArray × Int × Int)))) → (Vec Int) → Option Bool) (C1 : Int → Int → Int → Option Bool) (C2 : (Vec ((Vec Int) × ByteArray × (Vec (ByteArray × Int × Int)))) → Int → Option (Vec Int)) (a1 : Vec ((Vec Int) × ByteArray × (Vec (ByteArray × Int × Int)))) (a2 : Vec Int) (a3 : Int) (K : (Vec Int) → Option ρ) : Option ρ :=
  (C0 a1 a2).bind fun r1 => sel ((!r1)) (K (Vec.nil : Vec Int)) ((C1 a3 (0 : Int) (wr ((a1.n : Int) - (1 : Int)))).bind fun r2 => sel ((!r2)) (K (Vec.nil : Vec Int)) ((C2 a1 a3).bind fun r3 => K r3))
noncomputable def F (a1 : Vec ((Vec Int) × ByteArray × (Vec (ByteArray × Int × Int)))) (a2 : Vec Int) (a3 : Int) : Option (Vec Int) := B spec_CommitsOk.F spec_l01In.F spec_l14Touched.F a1 a2 a3 (fun x1 => some (x1))
def encA (t : (Vec ((Vec Int) × ByteArray × (Vec (ByteArray × Int × Int)))) × Vec Int × Int) : List AV := [vl t.1, vl t.2.1, vi t.2.2]
def encR (x : Vec Int) : AV × List Ob := (.c (.h 0), [ro x])
theorem encAI : ∀ a b, encA a = encA b → a = b := by
  intro a b h
  obtain ⟨a0, a1, a2⟩ := a
  obtain ⟨b0, b1, b2⟩ := b
  simp [encA, encRw_iff] at h
  simp_all
theorem encRI : ∀ a b, encR a = encR b → a = b := by
  intro a b h
  simp [encR, encRw_iff] at h
  simp_all
noncomputable def Q (args : List AV) : Option (Vec Int) := ofC encA (fun t => F t.1 t.2.1 t.2.2) args
theorem wrap : (fun (y1 : Vec ((Vec Int) × ByteArray × (Vec (ByteArray × Int × Int)))) (y2 : Vec Int) (y3 : Int) => Q [vl y1, vl y2, vi y3]) = F := by
  funext y1 y2 y3
  exact ofC_enc encAI _ (y1, y2, y3)
noncomputable def G (Q0 : List AV → Option Bool) (Q1 : List AV → Option Bool) (Q2 : List AV → Option (Vec Int)) : Orc := ⟨fun f => sel (Nat.beq f 43) 0 (sel (Nat.beq f 44) 0 (sel (Nat.beq f 45) 0 (9))), fun ρ f args K => sel (Nat.beq f 43) (qEntry spec_CommitsOk.encR Q0 args K) (sel (Nat.beq f 44) (qEntry spec_l01In.encR Q1 args K) (sel (Nat.beq f 45) (qEntry spec_l14Touched.encR Q2 args K) (Option.none))), noE, false⟩
noncomputable def L : Lor := fun ρ j st K => Option.none
theorem main (Q0 Q1 Q2) {ρ : Type} (K : AV → List Ob → Option ρ) (a1 a2 a3) : exC Try.prog (G Q0 Q1 Q2) (L) [] 0 (bodyOf Try.f10) (entry 23 [vl a1, vl a2, vi a3] [] []) (finO Try.prog Try.f10.results.toList 0 [] [.ad (.s 6) 23] K) =
    B (fun y1 y2 => Q0 [vl y1, vl y2]) (fun y1 y2 y3 => Q1 [vi y1, vi y2, vi y3]) (fun y1 y2 => Q2 [vl y1, vi y2]) a1 a2 a3 (fun x1 => K (.c (.h 0)) [ro x1]) := by kernel_rfl
theorem Gok : (G spec_CommitsOk.Q spec_l01In.Q spec_l14Touched.Q).ok Try.prog := ⟨(by
    intro ρ f args K r h
    rcases sel_cases h with ⟨hb, h⟩ | ⟨-, h⟩
    · obtain rfl := beq_nat hb
      exact qEntry_ok spec_CommitsOk.ac h
    rcases sel_cases h with ⟨hb, h⟩ | ⟨-, h⟩
    · obtain rfl := beq_nat hb
      exact qEntry_ok spec_l01In.ac h
    rcases sel_cases h with ⟨hb, h⟩ | ⟨-, h⟩
    · obtain rfl := beq_nat hb
      exact qEntry_ok spec_l14Touched.ac h
    cases h),
  (by
    intro ρ f args K
    simp only [G]
    cases Nat.beq f 43 with
    | true => exact qEntry_nat args K
    | false =>
    simp only [sel]
    cases Nat.beq f 44 with
    | true => exact qEntry_nat args K
    | false =>
    simp only [sel]
    cases Nat.beq f 45 with
    | true => exact qEntry_nat args K
    | false =>
    simp only [sel]
    rfl),
  (fun ρ f st caps args dst K r h => (by cases h))⟩
theorem hm : Try.prog.follows .mixedOrders = true := by kernel_rfl
theorem e : atomsL [] 0 (bodyOf Try.f10) = [] := by kernel_rfl
theorem acc (t : (Vec ((Vec Int) × ByteArray × (Vec (ByteArray × Int × Int)))) × Vec Int × Int) (x : Vec Int) (h : F t.1 t.2.1 t.2.2 = some x) : ACc Try.prog 10 (encA t) [] true [] fun rv obs => (rv, obs) = encR x := by
  refine fun_okc (L := (L)) (jn := []) (cmds := [.ad (.s 6) 23]) (ks := []) (hin := []) (fn := Try.f10) (body := (bodyOf Try.f10)) Gok hm Try.func10 (by kernel_rfl) (by kernel_rfl) (by rw [e]; exact Lor.ok_nil _ _) ?_ h
  refine (main spec_CommitsOk.Q spec_l01In.Q spec_l14Touched.Q _ t.1 t.2.1 t.2.2).trans ?_
  rw [spec_CommitsOk.wrap, spec_l01In.wrap, spec_l14Touched.wrap]
  refine congrArg (fun K => B spec_CommitsOk.F spec_l01In.F spec_l14Touched.F t.1 t.2.1 t.2.2 K) ?_
  funext x1
  exact ofC_enc encRI some (x1)
theorem ac0 (t : (Vec ((Vec Int) × ByteArray × (Vec (ByteArray × Int × Int)))) × Vec Int × Int) (x : Vec Int) (h : F t.1 t.2.1 t.2.2 = some x) : AC Try.prog 10 (encA t) [] true [] fun rv obs => (rv, obs) = encR x := ACc.ac (body := bodyOf Try.f10) Try.func10 (by kernel_rfl) (by kernel_rfl) (acc t x h)
theorem ac (args : List AV) (x : Vec Int) (h : Q args = some x) : AC Try.prog 10 args [] false [] fun rv obs => (rv, obs) = encR x := by
  obtain ⟨t, rfl, h2⟩ := ofC_some h
  refine (ac0 t x h2).flat fun rv obs e => ?_
  obtain rfl : rv = (encR x).1 := congrArg Prod.fst e
  obtain rfl : obs = (encR x).2 := congrArg Prod.snd e
  refine ⟨by simp [encR, AV.Flat, K.Flat, C.Flat], ?_⟩
  intro o ho
  simp only [encR, List.mem_cons, List.not_mem_nil, or_false] at ho
  subst ho
  exact flat_rw rfl _
end spec_TouchedIn
/-! loop.example/g00073/impl.isPlace -/
namespace impl_isPlace
noncomputable def B {ρ : Type} (C0 : Int → Int → Int → Option Bool) (a1 : Int) (a2 : Int) (K : Bool → Option ρ) : Option ρ :=
  (C0 a1 (0 : Int) (wr (a2 - (1 : Int)))).bind fun r1 => K r1
noncomputable def F (a1 : Int) (a2 : Int) : Option Bool := B impl_inRange.F a1 a2 (fun x1 => some (x1))
def encA (t : Int × Int) : List AV := [vi t.1, vi t.2]
def encR (x : Bool) : AV × List Ob := (vb x, [])
theorem encAI : ∀ a b, encA a = encA b → a = b := by
  intro a b h
  obtain ⟨a0, a1⟩ := a
  obtain ⟨b0, b1⟩ := b
  simp [encA, encRw_iff] at h
  simp_all
theorem encRI : ∀ a b, encR a = encR b → a = b := by
  intro a b h
  simp [encR, encRw_iff] at h
  simp_all
noncomputable def Q (args : List AV) : Option Bool := ofC encA (fun t => F t.1 t.2) args
theorem wrap : (fun (y1 : Int) (y2 : Int) => Q [vi y1, vi y2]) = F := by
  funext y1 y2
  exact ofC_enc encAI _ (y1, y2)
noncomputable def G (Q0 : List AV → Option Bool) : Orc := ⟨fun f => sel (Nat.beq f 72) 0 (9), fun ρ f args K => sel (Nat.beq f 72) (qEntry impl_inRange.encR Q0 args K) (Option.none), noE, false⟩
noncomputable def L : Lor := fun ρ j st K => Option.none
theorem main (Q0) {ρ : Type} (K : AV → List Ob → Option ρ) (a1 a2) : exC Try.prog (G Q0) (L) [] 0 (bodyOf Try.f47) (entry 9 [vi a1, vi a2] [] []) (finO Try.prog Try.f47.results.toList 0 [] [] K) =
    B (fun y1 y2 y3 => Q0 [vi y1, vi y2, vi y3]) a1 a2 (fun x1 => K (vb x1) []) := by kernel_rfl
theorem Gok : (G impl_inRange.Q).ok Try.prog := ⟨(by
    intro ρ f args K r h
    rcases sel_cases h with ⟨hb, h⟩ | ⟨-, h⟩
    · obtain rfl := beq_nat hb
      exact qEntry_ok impl_inRange.ac h
    cases h),
  (by
    intro ρ f args K
    simp only [G]
    cases Nat.beq f 72 with
    | true => exact qEntry_nat args K
    | false =>
    simp only [sel]
    rfl),
  (fun ρ f st caps args dst K r h => (by cases h))⟩
theorem hm : Try.prog.follows .mixedOrders = true := by kernel_rfl
theorem e : atomsL [] 0 (bodyOf Try.f47) = [] := by kernel_rfl
theorem acc (t : Int × Int) (x : Bool) (h : F t.1 t.2 = some x) : ACc Try.prog 47 (encA t) [] true [] fun rv obs => (rv, obs) = encR x := by
  refine fun_okc (L := (L)) (jn := []) (cmds := []) (ks := []) (hin := []) (fn := Try.f47) (body := (bodyOf Try.f47)) Gok hm Try.func47 (by kernel_rfl) (by kernel_rfl) (by rw [e]; exact Lor.ok_nil _ _) ?_ h
  refine (main impl_inRange.Q _ t.1 t.2).trans ?_
  rw [impl_inRange.wrap]
  refine congrArg (fun K => B impl_inRange.F t.1 t.2 K) ?_
  funext x1
  exact ofC_enc encRI some (x1)
theorem ac0 (t : Int × Int) (x : Bool) (h : F t.1 t.2 = some x) : AC Try.prog 47 (encA t) [] true [] fun rv obs => (rv, obs) = encR x := ACc.ac (body := bodyOf Try.f47) Try.func47 (by kernel_rfl) (by kernel_rfl) (acc t x h)
theorem ac (args : List AV) (x : Bool) (h : Q args = some x) : AC Try.prog 47 args [] false [] fun rv obs => (rv, obs) = encR x := by
  obtain ⟨t, rfl, h2⟩ := ofC_some h
  refine (ac0 t x h2).flat fun rv obs e => ?_
  obtain rfl : rv = (encR x).1 := congrArg Prod.fst e
  obtain rfl : obs = (encR x).2 := congrArg Prod.snd e
  refine ⟨by simp [encR, AV.Flat, K.Flat, C.Flat], ?_⟩
  simp [encR]
end impl_isPlace
/-! loop.example/g00073/impl.unlike -/
namespace impl_unlike
noncomputable def B {ρ : Type} (C0 : (Vec (ByteArray × Int × Int)) → Int → Option Int) (a1 : Vec Int) (a2 : ByteArray) (a3 : Vec (ByteArray × Int × Int)) (a4 : Vec Int) (a5 : ByteArray) (a6 : Vec (ByteArray × Int × Int)) (a7 : Int) (K : Bool → Option ρ) : Option ρ :=
  (C0 a3 a7).bind fun r1 => (C0 a6 a7).bind fun r2 => sel (decide (r1 < (0 : Int))) (sel (decide ((0 : Int) ≤ r1)) (K true) (K (decide ((0 : Int) ≤ r2)))) (sel (decide (r2 < (0 : Int))) (sel (decide ((0 : Int) ≤ r1)) (K true) (K (decide ((0 : Int) ≤ r2)))) (chk (decide (0 ≤ r1 ∧ r1 < (a3.n : Int))) (chk (decide (0 ≤ r2 ∧ r2 < (a6.n : Int))) (K (!(decide ((a3.g r1.toNat).1 = (a6.g r2.toNat).1) && (decide ((a3.g r1.toNat).2.1 = (a6.g r2.toNat).2.1) && decide ((a3.g r1.toNat).2.2 = (a6.g r2.toNat).2.2))))))))
noncomputable def F (a1 : Vec Int) (a2 : ByteArray) (a3 : Vec (ByteArray × Int × Int)) (a4 : Vec Int) (a5 : ByteArray) (a6 : Vec (ByteArray × Int × Int)) (a7 : Int) : Option Bool := B impl_idAt.F a1 a2 a3 a4 a5 a6 a7 (fun x1 => some (x1))
def encA (t : Vec Int × ByteArray × (Vec (ByteArray × Int × Int)) × Vec Int × ByteArray × (Vec (ByteArray × Int × Int)) × Int) : List AV := [.a [cl t.1, cs t.2.1, cl t.2.2.1], .a [cl t.2.2.2.1, cs t.2.2.2.2.1, cl t.2.2.2.2.2.1], vi t.2.2.2.2.2.2]
def encR (x : Bool) : AV × List Ob := (vb x, [])
theorem encAI : ∀ a b, encA a = encA b → a = b := by
  intro a b h
  obtain ⟨a0, a1, a2, a3, a4, a5, a6⟩ := a
  obtain ⟨b0, b1, b2, b3, b4, b5, b6⟩ := b
  simp [encA, encRw_iff] at h
  simp_all
theorem encRI : ∀ a b, encR a = encR b → a = b := by
  intro a b h
  simp [encR, encRw_iff] at h
  simp_all
noncomputable def Q (args : List AV) : Option Bool := ofC encA (fun t => F t.1 t.2.1 t.2.2.1 t.2.2.2.1 t.2.2.2.2.1 t.2.2.2.2.2.1 t.2.2.2.2.2.2) args
theorem wrap : (fun (y1 : Vec Int) (y2 : ByteArray) (y3 : Vec (ByteArray × Int × Int)) (y4 : Vec Int) (y5 : ByteArray) (y6 : Vec (ByteArray × Int × Int)) (y7 : Int) => Q [.a [cl y1, cs y2, cl y3], .a [cl y4, cs y5, cl y6], vi y7]) = F := by
  funext y1 y2 y3 y4 y5 y6 y7
  exact ofC_enc encAI _ (y1, y2, y3, y4, y5, y6, y7)
noncomputable def G (Q0 : List AV → Option Int) : Orc := ⟨fun f => sel (Nat.beq f 100) 0 (9), fun ρ f args K => sel (Nat.beq f 100) (qEntry impl_idAt.encR Q0 args K) (Option.none), noE, false⟩
noncomputable def L : Lor := fun ρ j st K => Option.none
theorem main (Q0) {ρ : Type} (K : AV → List Ob → Option ρ) (a1 a2 a3 a4 a5 a6 a7) : exC Try.prog (G Q0) (L) [] 0 (bodyOf Try.f101) (entry 40 [.a [cl a1, cs a2, cl a3], .a [cl a4, cs a5, cl a6], vi a7] [] []) (finO Try.prog Try.f101.results.toList 0 [] [] K) =
    B (fun y1 y2 => Q0 [vl y1, vi y2]) a1 a2 a3 a4 a5 a6 a7 (fun x1 => K (vb x1) []) := by kernel_rfl
theorem Gok : (G impl_idAt.Q).ok Try.prog := ⟨(by
    intro ρ f args K r h
    rcases sel_cases h with ⟨hb, h⟩ | ⟨-, h⟩
    · obtain rfl := beq_nat hb
      exact qEntry_ok impl_idAt.ac h
    cases h),
  (by
    intro ρ f args K
    simp only [G]
    cases Nat.beq f 100 with
    | true => exact qEntry_nat args K
    | false =>
    simp only [sel]
    rfl),
  (fun ρ f st caps args dst K r h => (by cases h))⟩
theorem hm : Try.prog.follows .mixedOrders = true := by kernel_rfl
theorem e : atomsL [] 0 (bodyOf Try.f101) = [] := by kernel_rfl
theorem acc (t : Vec Int × ByteArray × (Vec (ByteArray × Int × Int)) × Vec Int × ByteArray × (Vec (ByteArray × Int × Int)) × Int) (x : Bool) (h : F t.1 t.2.1 t.2.2.1 t.2.2.2.1 t.2.2.2.2.1 t.2.2.2.2.2.1 t.2.2.2.2.2.2 = some x) : ACc Try.prog 101 (encA t) [] true [] fun rv obs => (rv, obs) = encR x := by
  refine fun_okc (L := (L)) (jn := []) (cmds := []) (ks := []) (hin := []) (fn := Try.f101) (body := (bodyOf Try.f101)) Gok hm Try.func101 (by kernel_rfl) (by kernel_rfl) (by rw [e]; exact Lor.ok_nil _ _) ?_ h
  refine (main impl_idAt.Q _ t.1 t.2.1 t.2.2.1 t.2.2.2.1 t.2.2.2.2.1 t.2.2.2.2.2.1 t.2.2.2.2.2.2).trans ?_
  rw [impl_idAt.wrap]
  refine congrArg (fun K => B impl_idAt.F t.1 t.2.1 t.2.2.1 t.2.2.2.1 t.2.2.2.2.1 t.2.2.2.2.2.1 t.2.2.2.2.2.2 K) ?_
  funext x1
  exact ofC_enc encRI some (x1)
theorem ac0 (t : Vec Int × ByteArray × (Vec (ByteArray × Int × Int)) × Vec Int × ByteArray × (Vec (ByteArray × Int × Int)) × Int) (x : Bool) (h : F t.1 t.2.1 t.2.2.1 t.2.2.2.1 t.2.2.2.2.1 t.2.2.2.2.2.1 t.2.2.2.2.2.2 = some x) : AC Try.prog 101 (encA t) [] true [] fun rv obs => (rv, obs) = encR x := ACc.ac (body := bodyOf Try.f101) Try.func101 (by kernel_rfl) (by kernel_rfl) (acc t x h)
theorem ac (args : List AV) (x : Bool) (h : Q args = some x) : AC Try.prog 101 args [] false [] fun rv obs => (rv, obs) = encR x := by
  obtain ⟨t, rfl, h2⟩ := ofC_some h
  refine (ac0 t x h2).flat fun rv obs e => ?_
  obtain rfl : rv = (encR x).1 := congrArg Prod.fst e
  obtain rfl : obs = (encR x).2 := congrArg Prod.snd e
  refine ⟨by simp [encR, AV.Flat, K.Flat, C.Flat], ?_⟩
  simp [encR]
end impl_unlike
/-! loop.example/g00073/impl.touched -/
namespace impl_touched
noncomputable def B1 {ρ : Type} (C1 : (Vec Int) → ByteArray → (Vec (ByteArray × Int × Int)) → (Vec Int) → ByteArray → (Vec (ByteArray × Int × Int)) → Int → Option Bool) (v1 : Vec ((Vec Int) × ByteArray × (Vec (ByteArray × Int × Int)))) (v2 : Int) (v3 : Int) (v4 : Bool) (v5 : Int) (v6 : Vec Int) (v7 : Int) (v8 : Int) (v9 : Vec Int) (W : (Vec ((Vec Int) × ByteArray × (Vec (ByteArray × Int × Int)))) → Int → Int → Bool → Int → (Vec Int) → Int → Int → (Vec Int) → Option ρ) (K2 : (Vec ((Vec Int) × ByteArray × (Vec (ByteArray × Int × Int)))) → Int → Int → Bool → Int → (Vec Int) → Option ρ) : Option ρ :=
  sel (decide (v8 < v7)) (chk (decide (0 ≤ v8 ∧ v8 < (v6.n : Int))) (sel (v4) (W v1 v2 v3 true v5 v6 v7 (wr (v8 + (1 : Int))) v9) (chk (decide (0 ≤ v2 ∧ v2 < (v1.n : Int))) (chk (decide (0 ≤ (v6.g v8.toNat) ∧ (v6.g v8.toNat) < (v1.n : Int))) ((C1 ((v1.g v2.toNat).1) ((v1.g v2.toNat).2.1) ((v1.g v2.toNat).2.2) ((v1.g (v6.g v8.toNat).toNat).1) ((v1.g (v6.g v8.toNat).toNat).2.1) ((v1.g (v6.g v8.toNat).toNat).2.2) v3).bind fun r2 => W v1 v2 v3 r2 v5 v6 v7 (wr (v8 + (1 : Int))) v9))))) (K2 v1 v2 v3 v4 v5 v9)
noncomputable def F1 {ρ : Type} : Nat → (Vec ((Vec Int) × ByteArray × (Vec (ByteArray × Int × Int)))) → Int → Int → Bool → Int → (Vec Int) → Int → Int → (Vec Int) → ((Vec ((Vec Int) × ByteArray × (Vec (ByteArray × Int × Int)))) → Int → Int → Bool → Int → (Vec Int) → Option ρ) → Option ρ
  | 0, _, _, _, _, _, _, _, _, _, _ => none
  | k + 1, v1, v2, v3, v4, v5, v6, v7, v8, v9, K2 => B1 impl_unlike.F v1 v2 v3 v4 v5 v6 v7 v8 v9 (fun v1' v2' v3' v4' v5' v6' v7' v8' v9' => F1 k v1' v2' v3' v4' v5' v6' v7' v8' v9' K2) K2
noncomputable def B0 {ρ : Type} (C0 : (Vec (ByteArray × Int × Int)) → Int → Option Int) (L1 : (Vec ((Vec Int) × ByteArray × (Vec (ByteArray × Int × Int)))) → Int → Int → Bool → Int → (Vec Int) → Int → Int → (Vec Int) → ((Vec ((Vec Int) × ByteArray × (Vec (ByteArray × Int × Int)))) → Int → Int → Bool → Int → (Vec Int) → Option ρ) → Option ρ) (v1 : Vec ((Vec Int) × ByteArray × (Vec (ByteArray × Int × Int)))) (v2 : Int) (v3 : Int) (v4 : Vec Int) (W : (Vec ((Vec Int) × ByteArray × (Vec (ByteArray × Int × Int)))) → Int → Int → (Vec Int) → Option ρ) (K0 : (Vec Int) → Option ρ) : Option ρ :=
  sel (decide (v3 < (12 : Int))) (chk (decide (0 ≤ v2 ∧ v2 < (v1.n : Int))) (sel (decide ((((v1.g v2.toNat).1).n : Int) = (0 : Int))) (chk (decide (0 ≤ v2 ∧ v2 < (v1.n : Int))) ((C0 ((v1.g v2.toNat).2.2) v3).bind fun r1 => chk (decide (0 ≤ v2 ∧ v2 < (v1.n : Int))) (L1 v1 v2 v3 (decide ((0 : Int) ≤ r1)) v3 ((v1.g v2.toNat).1) (((v1.g v2.toNat).1).n : Int) (0 : Int) v4 (fun e11 e12 e13 e14 e15 e16 => sel (e14) (chk (decide ((e16.n + (Vec.lit [e13] : Vec Int).n) * 9 ≤ maxN)) (W e11 e12 (wr (e15 + (1 : Int))) (Vec.app e16 (Vec.lit [e13] : Vec Int)))) (W e11 e12 (wr (e15 + (1 : Int))) e16))))) (chk (decide (0 ≤ v2 ∧ v2 < (v1.n : Int))) (L1 v1 v2 v3 false v3 ((v1.g v2.toNat).1) (((v1.g v2.toNat).1).n : Int) (0 : Int) v4 (fun e11 e12 e13 e14 e15 e16 => sel (e14) (chk (decide ((e16.n + (Vec.lit [e13] : Vec Int).n) * 9 ≤ maxN)) (W e11 e12 (wr (e15 + (1 : Int))) (Vec.app e16 (Vec.lit [e13] : Vec Int)))) (W e11 e12 (wr (e15 + (1 : Int))) e16)))))) (K0 v4)
noncomputable def F0 {ρ : Type} : Nat → (Vec ((Vec Int) × ByteArray × (Vec (ByteArray × Int × Int)))) → Int → Int → (Vec Int) → ((Vec Int) → Option ρ) → Option ρ
  | 0, _, _, _, _, _ => none
  | k + 1, v1, v2, v3, v4, K0 => B0 impl_idAt.F (F1 fuelN) v1 v2 v3 v4 (fun v1' v2' v3' v4' => F0 k v1' v2' v3' v4' K0) K0
noncomputable def B {ρ : Type} (L0 : (Vec ((Vec Int) × ByteArray × (Vec (ByteArray × Int × Int)))) → Int → Int → (Vec Int) → ((Vec Int) → Option ρ) → Option ρ) (a1 : Vec ((Vec Int) × ByteArray × (Vec (ByteArray × Int × Int)))) (a2 : Int) (K : (Vec Int) → Option ρ) : Option ρ :=
  L0 a1 a2 (0 : Int) (Vec.nil : Vec Int) (fun e01 => K e01)
noncomputable def F (a1 : Vec ((Vec Int) × ByteArray × (Vec (ByteArray × Int × Int)))) (a2 : Int) : Option (Vec Int) := B (F0 fuelN) a1 a2 (fun x1 => some (x1))
def encA (t : (Vec ((Vec Int) × ByteArray × (Vec (ByteArray × Int × Int)))) × Int) : List AV := [vl t.1, vi t.2]
def encR (x : Vec Int) : AV × List Ob := (.c (.h 0), [ro x])
theorem encAI : ∀ a b, encA a = encA b → a = b := by
  intro a b h
  obtain ⟨a0, a1⟩ := a
  obtain ⟨b0, b1⟩ := b
  simp [encA, encRw_iff] at h
  simp_all
theorem encRI : ∀ a b, encR a = encR b → a = b := by
  intro a b h
  simp [encR, encRw_iff] at h
  simp_all
noncomputable def Q (args : List AV) : Option (Vec Int) := ofC encA (fun t => F t.1 t.2) args
theorem wrap : (fun (y1 : Vec ((Vec Int) × ByteArray × (Vec (ByteArray × Int × Int)))) (y2 : Int) => Q [vl y1, vi y2]) = F := by
  funext y1 y2
  exact ofC_enc encAI _ (y1, y2)
noncomputable def G (Q0 : List AV → Option Int) (Q1 : List AV → Option Bool) : Orc := ⟨fun f => sel (Nat.beq f 100) 0 (sel (Nat.beq f 101) 0 (9)), fun ρ f args K => sel (Nat.beq f 100) (qEntry impl_idAt.encR Q0 args K) (sel (Nat.beq f 101) (qEntry impl_unlike.encR Q1 args K) (Option.none)), noE, false⟩
noncomputable def L (W1 : (ρ : Type) → List AV → List Ob → ((Vec ((Vec Int) × ByteArray × (Vec (ByteArray × Int × Int)))) → Int → Int → Bool → Int → (Vec Int) → Option ρ) → Option ρ) (W0 : (ρ : Type) → List AV → List Ob → ((Vec Int) → Option ρ) → Option ρ) : Lor := fun ρ j st K => sel (Nat.beq j 0) (cutO Try.prog 61 [0, 1, 5, 10] 0 [] [.ad (.s 5) 23] st fun avs obs => W0 ρ avs obs (fun z1 => K (.exit 0) (mkS 61 [5] [.c (.h 0)] [ro z1] []))) (sel (Nat.beq j 1) (cutO Try.prog 61 [0, 1, 5, 6, 7, 10, 34, 35, 36] 0 [] [] st fun avs obs => W1 ρ avs obs (fun z1 z2 z3 z4 z5 z6 => K (.exit 2) (mkS 61 [0, 1, 5, 6, 7, 10] [vl z1, vi z2, .c (.h 0), vi z3, vb z4, vi z5] [ro z6] []))) (Option.none))
noncomputable def c0 : Code := loopC (atomN [] 0 (bodyOf Try.f49) 0)
noncomputable def c1 : Code := loopC (atomN [] 1 c0 0)
def ct0 : Cut := ⟨[0, 1, 5, 10], [.ad (.s 5) 23]⟩
def lv0 : Exit → Cut
  | .exit 0 => ⟨[5], []⟩
  | _ => ⟨[], []⟩
theorem step0 (Q0 Q1) (W1 W0) {ρ : Type} (K : Exit → St → Option ρ) (W : List AV → List Ob → Option ρ) (v1 v2 v3 v4) : exC Try.prog (G Q0 Q1) (L W1 W0) [] 1 c0 (mkS 61 [0, 1, 5, 10] [vl v1, vi v2, .c (.h 0), vi v3] [ro v4] []) (bodyK Try.prog 61 0 [] ct0 W lv0 K) =
    B0 (fun y1 y2 => Q0 [vl y1, vi y2]) (fun w1 w2 w3 w4 w5 w6 w7 w8 w9 k2 => W1 ρ [vl w1, vi w2, .c (.h 0), vi w3, vb w4, vi w5, vl w6, vi w7, vi w8] [ro w9] k2) v1 v2 v3 v4 (fun u1 u2 u3 u4 => W [vl u1, vi u2, .c (.h 0), vi u3] [ro u4]) (fun z1 => K (.exit 0) (mkS 61 [5] [.c (.h 0)] [ro z1] [])) := by kernel_rfl
def enc0 (t : (Vec ((Vec Int) × ByteArray × (Vec (ByteArray × Int × Int)))) × Int × Int × Vec Int) : List AV × List Ob := ([vl t.1, vi t.2.1, .c (.h 0), vi t.2.2.1], [ro t.2.2.2])
theorem enc0I : ∀ a b, enc0 a = enc0 b → a = b := by
  intro a b h
  obtain ⟨a0, a1, a2, a3⟩ := a
  obtain ⟨b0, b1, b2, b3⟩ := b
  simp [enc0, encRw_iff] at h
  simp_all
noncomputable def V0 : (ρ : Type) → List AV → List Ob → ((Vec Int) → Option ρ) → Option ρ := fun ρ avs obs k0 => ofC enc0 (fun t => F0 fuelN t.1 t.2.1 t.2.2.1 t.2.2.2 k0) (avs, obs)
theorem V0_enc (ρ : Type) : (fun w1 w2 w3 w4 k0 => V0 ρ [vl w1, vi w2, .c (.h 0), vi w3] [ro w4] k0) = F0 fuelN := by
  funext w1 w2 w3 w4 k0
  exact ofC_enc enc0I _ (w1, w2, w3, w4)
def ct1 : Cut := ⟨[0, 1, 5, 6, 7, 10, 34, 35, 36], []⟩
def lv1 : Exit → Cut
  | .exit 2 => ⟨[0, 1, 5, 6, 7, 10], []⟩
  | _ => ⟨[], []⟩
theorem step1 (Q0 Q1) (W1 W0) {ρ : Type} (K : Exit → St → Option ρ) (W : List AV → List Ob → Option ρ) (v1 v2 v3 v4 v5 v6 v7 v8 v9) : exC Try.prog (G Q0 Q1) (L W1 W0) [] 2 c1 (mkS 61 [0, 1, 5, 6, 7, 10, 34, 35, 36] [vl v1, vi v2, .c (.h 0), vi v3, vb v4, vi v5, vl v6, vi v7, vi v8] [ro v9] []) (bodyK Try.prog 61 0 [] ct1 W lv1 K) =
    B1 (fun y1 y2 y3 y4 y5 y6 y7 => Q1 [.a [cl y1, cs y2, cl y3], .a [cl y4, cs y5, cl y6], vi y7]) v1 v2 v3 v4 v5 v6 v7 v8 v9 (fun u1 u2 u3 u4 u5 u6 u7 u8 u9 => W [vl u1, vi u2, .c (.h 0), vi u3, vb u4, vi u5, vl u6, vi u7, vi u8] [ro u9]) (fun z1 z2 z3 z4 z5 z6 => K (.exit 2) (mkS 61 [0, 1, 5, 6, 7, 10] [vl z1, vi z2, .c (.h 0), vi z3, vb z4, vi z5] [ro z6] [])) := by kernel_rfl
def enc1 (t : (Vec ((Vec Int) × ByteArray × (Vec (ByteArray × Int × Int)))) × Int × Int × Bool × Int × Vec Int × Int × Int × Vec Int) : List AV × List Ob := ([vl t.1, vi t.2.1, .c (.h 0), vi t.2.2.1, vb t.2.2.2.1, vi t.2.2.2.2.1, vl t.2.2.2.2.2.1, vi t.2.2.2.2.2.2.1, vi t.2.2.2.2.2.2.2.1], [ro t.2.2.2.2.2.2.2.2])
theorem enc1I : ∀ a b, enc1 a = enc1 b → a = b := by
  intro a b h
  obtain ⟨a0, a1, a2, a3, a4, a5, a6, a7, a8⟩ := a
  obtain ⟨b0, b1, b2, b3, b4, b5, b6, b7, b8⟩ := b
  simp [enc1, encRw_iff] at h
  simp_all
noncomputable def V1 : (ρ : Type) → List AV → List Ob → ((Vec ((Vec Int) × ByteArray × (Vec (ByteArray × Int × Int)))) → Int → Int → Bool → Int → (Vec Int) → Option ρ) → Option ρ := fun ρ avs obs k2 => ofC enc1 (fun t => F1 fuelN t.1 t.2.1 t.2.2.1 t.2.2.2.1 t.2.2.2.2.1 t.2.2.2.2.2.1 t.2.2.2.2.2.2.1 t.2.2.2.2.2.2.2.1 t.2.2.2.2.2.2.2.2 k2) (avs, obs)
theorem V1_enc (ρ : Type) : (fun w1 w2 w3 w4 w5 w6 w7 w8 w9 k2 => V1 ρ [vl w1, vi w2, .c (.h 0), vi w3, vb w4, vi w5, vl w6, vi w7, vi w8] [ro w9] k2) = F1 fuelN := by
  funext w1 w2 w3 w4 w5 w6 w7 w8 w9 k2
  exact ofC_enc enc1I _ (w1, w2, w3, w4, w5, w6, w7, w8, w9)
theorem main (Q0 Q1) (W1 W0) {ρ : Type} (K : AV → List Ob → Option ρ) (a1 a2) : exC Try.prog (G Q0 Q1) (L W1 W0) [] 0 (bodyOf Try.f49) (entry 61 [vl a1, vi a2] [] []) (finO Try.prog Try.f49.results.toList 0 [] [] K) =
    B (fun w1 w2 w3 w4 k0 => W0 ρ [vl w1, vi w2, .c (.h 0), vi w3] [ro w4] k0) a1 a2 (fun x1 => K (.c (.h 0)) [ro x1]) := by kernel_rfl
theorem Gok : (G impl_idAt.Q impl_unlike.Q).ok Try.prog := ⟨(by
    intro ρ f args K r h
    rcases sel_cases h with ⟨hb, h⟩ | ⟨-, h⟩
    · obtain rfl := beq_nat hb
      exact qEntry_ok impl_idAt.ac h
    rcases sel_cases h with ⟨hb, h⟩ | ⟨-, h⟩
    · obtain rfl := beq_nat hb
      exact qEntry_ok impl_unlike.ac h
    cases h),
  (by
    intro ρ f args K
    simp only [G]
    cases Nat.beq f 100 with
    | true => exact qEntry_nat args K
    | false =>
    simp only [sel]
    cases Nat.beq f 101 with
    | true => exact qEntry_nat args K
    | false =>
    simp only [sel]
    rfl),
  (fun ρ f st caps args dst K r h => (by cases h))⟩
theorem hm : Try.prog.follows .mixedOrders = true := by kernel_rfl
theorem e1 : atomsL [] 2 c1 = [] := by kernel_rfl
theorem ok1 (ρ : Type) (st : St) (K : Exit → St → Option ρ) (r : ρ) (h : (L V1 V0) ρ 1 st K = some r) : AW Try.prog (.loop c1) st fun e st' => K e st' = some r := by
  refine loop_ok (ct := ct1) (lv := lv1) (n := 61) (m := 0) (ks := []) (j := 1) (jn := []) (L := (L V1 V0)) Gok hm (by rw [e1]; exact Lor.ok_nil _ _) enc1I (fun k t => F1 k t.1 t.2.1 t.2.2.1 t.2.2.2.1 t.2.2.2.2.1 t.2.2.2.2.2.1 t.2.2.2.2.2.2.1 t.2.2.2.2.2.2.2.1 t.2.2.2.2.2.2.2.2 (fun z1 z2 z3 z4 z5 z6 => K (.exit 2) (mkS 61 [0, 1, 5, 6, 7, 10] [vl z1, vi z2, .c (.h 0), vi z3, vb z4, vi z5] [ro z6] []))) (fun t => rfl) (fun k t => ?_) (fun _ => fuelN) h
  refine (step1 impl_idAt.Q impl_unlike.Q V1 V0 K _ t.1 t.2.1 t.2.2.1 t.2.2.2.1 t.2.2.2.2.1 t.2.2.2.2.2.1 t.2.2.2.2.2.2.1 t.2.2.2.2.2.2.2.1 t.2.2.2.2.2.2.2.2).trans ?_
  rw [impl_unlike.wrap]
  refine congrArg (fun W => B1 impl_unlike.F t.1 t.2.1 t.2.2.1 t.2.2.2.1 t.2.2.2.2.1 t.2.2.2.2.2.1 t.2.2.2.2.2.2.1 t.2.2.2.2.2.2.2.1 t.2.2.2.2.2.2.2.2 W (fun z1 z2 z3 z4 z5 z6 => K (.exit 2) (mkS 61 [0, 1, 5, 6, 7, 10] [vl z1, vi z2, .c (.h 0), vi z3, vb z4, vi z5] [ro z6] []))) ?_
  funext u1 u2 u3 u4 u5 u6 u7 u8 u9
  exact ofC_enc enc1I _ (u1, u2, u3, u4, u5, u6, u7, u8, u9)
theorem e0 : atomsL [] 1 c0 = [(1, 1, .loop c1)] := by kernel_rfl
theorem ok0 (ρ : Type) (st : St) (K : Exit → St → Option ρ) (r : ρ) (h : (L V1 V0) ρ 0 st K = some r) : AW Try.prog (.loop c0) st fun e st' => K e st' = some r := by
  refine loop_ok (ct := ct0) (lv := lv0) (n := 61) (m := 0) (ks := []) (j := 0) (jn := []) (L := (L V1 V0)) Gok hm (by rw [e0]; exact Lor.ok_cons ok1 (Lor.ok_nil _ _)) enc0I (fun k t => F0 k t.1 t.2.1 t.2.2.1 t.2.2.2 (fun z1 => K (.exit 0) (mkS 61 [5] [.c (.h 0)] [ro z1] []))) (fun t => rfl) (fun k t => ?_) (fun _ => fuelN) h
  refine (step0 impl_idAt.Q impl_unlike.Q V1 V0 K _ t.1 t.2.1 t.2.2.1 t.2.2.2).trans ?_
  rw [impl_idAt.wrap, V1_enc]
  refine congrArg (fun W => B0 impl_idAt.F (F1 fuelN) t.1 t.2.1 t.2.2.1 t.2.2.2 W (fun z1 => K (.exit 0) (mkS 61 [5] [.c (.h 0)] [ro z1] []))) ?_
  funext u1 u2 u3 u4
  exact ofC_enc enc0I _ (u1, u2, u3, u4)
theorem e : atomsL [] 0 (bodyOf Try.f49) = [(0, 0, .loop c0)] := by kernel_rfl
theorem acc (t : (Vec ((Vec Int) × ByteArray × (Vec (ByteArray × Int × Int)))) × Int) (x : Vec Int) (h : F t.1 t.2 = some x) : ACc Try.prog 49 (encA t) [] true [] fun rv obs => (rv, obs) = encR x := by
  refine fun_okc (L := (L V1 V0)) (jn := []) (cmds := []) (ks := []) (hin := []) (fn := Try.f49) (body := (bodyOf Try.f49)) Gok hm Try.func49 (by kernel_rfl) (by kernel_rfl) (by rw [e]; exact Lor.ok_cons ok0 (Lor.ok_nil _ _)) ?_ h
  refine (main impl_idAt.Q impl_unlike.Q V1 V0 _ t.1 t.2).trans ?_
  rw [V0_enc]
  refine congrArg (fun K => B (F0 fuelN) t.1 t.2 K) ?_
  funext x1
  exact ofC_enc encRI some (x1)
theorem ac0 (t : (Vec ((Vec Int) × ByteArray × (Vec (ByteArray × Int × Int)))) × Int) (x : Vec Int) (h : F t.1 t.2 = some x) : AC Try.prog 49 (encA t) [] true [] fun rv obs => (rv, obs) = encR x := ACc.ac (body := bodyOf Try.f49) Try.func49 (by kernel_rfl) (by kernel_rfl) (acc t x h)
theorem ac (args : List AV) (x : Vec Int) (h : Q args = some x) : AC Try.prog 49 args [] false [] fun rv obs => (rv, obs) = encR x := by
  obtain ⟨t, rfl, h2⟩ := ofC_some h
  refine (ac0 t x h2).flat fun rv obs e => ?_
  obtain rfl : rv = (encR x).1 := congrArg Prod.fst e
  obtain rfl : obs = (encR x).2 := congrArg Prod.snd e
  refine ⟨by simp [encR, AV.Flat, K.Flat, C.Flat], ?_⟩
  intro o ho
  simp only [encR, List.mem_cons, List.not_mem_nil, or_false] at ho
  subst ho
  exact flat_rw rfl _
end impl_touched
/-! loop.example/g00073/impl.TouchedIn -/
namespace impl_TouchedIn
noncomputable def B {ρ : Type} (C0 : Int → Int → Option Bool) (C1 : (Vec ((Vec Int) × ByteArray × (Vec (ByteArray × Int × Int)))) → (Vec Int) → Option Bool) (C2 : (Vec ((Vec Int) × ByteArray × (Vec (ByteArray × Int × Int)))) → Int → Option (Vec Int)) (a1 : Vec ((Vec Int) × ByteArray × (Vec (ByteArray × Int × Int)))) (a2 : Vec Int) (a3 : Int) (K : (Vec Int) → Option ρ) : Option ρ :=
  (C0 a3 (a1.n : Int)).bind fun r1 => sel ((!r1)) (K (Vec.nil : Vec Int)) ((C1 a1 a2).bind fun r2 => sel ((!r2)) (K (Vec.nil : Vec Int)) ((C2 a1 a3).bind fun r3 => K r3))
noncomputable def F (a1 : Vec ((Vec Int) × ByteArray × (Vec (ByteArray × Int × Int)))) (a2 : Vec Int) (a3 : Int) : Option (Vec Int) := B impl_isPlace.F impl_CommitsOk.F impl_touched.F a1 a2 a3 (fun x1 => some (x1))
def encA (t : (Vec ((Vec Int) × ByteArray × (Vec (ByteArray × Int × Int)))) × Vec Int × Int) : List AV := [vl t.1, vl t.2.1, vi t.2.2]
def encR (x : Vec Int) : AV × List Ob := (.c (.h 0), [ro x])
theorem encAI : ∀ a b, encA a = encA b → a = b := by
  intro a b h
  obtain ⟨a0, a1, a2⟩ := a
  obtain ⟨b0, b1, b2⟩ := b
  simp [encA, encRw_iff] at h
  simp_all
theorem encRI : ∀ a b, encR a = encR b → a = b := by
  intro a b h
  simp [encR, encRw_iff] at h
  simp_all
noncomputable def Q (args : List AV) : Option (Vec Int) := ofC encA (fun t => F t.1 t.2.1 t.2.2) args
theorem wrap : (fun (y1 : Vec ((Vec Int) × ByteArray × (Vec (ByteArray × Int × Int)))) (y2 : Vec Int) (y3 : Int) => Q [vl y1, vl y2, vi y3]) = F := by
  funext y1 y2 y3
  exact ofC_enc encAI _ (y1, y2, y3)
noncomputable def G (Q0 : List AV → Option Bool) (Q1 : List AV → Option Bool) (Q2 : List AV → Option (Vec Int)) : Orc := ⟨fun f => sel (Nat.beq f 47) 0 (sel (Nat.beq f 48) 0 (sel (Nat.beq f 49) 0 (9))), fun ρ f args K => sel (Nat.beq f 47) (qEntry impl_isPlace.encR Q0 args K) (sel (Nat.beq f 48) (qEntry impl_CommitsOk.encR Q1 args K) (sel (Nat.beq f 49) (qEntry impl_touched.encR Q2 args K) (Option.none))), noE, false⟩
noncomputable def L : Lor := fun ρ j st K => Option.none
theorem main (Q0 Q1 Q2) {ρ : Type} (K : AV → List Ob → Option ρ) (a1 a2 a3) : exC Try.prog (G Q0 Q1 Q2) (L) [] 0 (bodyOf Try.f13) (entry 21 [vl a1, vl a2, vi a3] [] []) (finO Try.prog Try.f13.results.toList 0 [] [.ad (.s 6) 23] K) =
    B (fun y1 y2 => Q0 [vi y1, vi y2]) (fun y1 y2 => Q1 [vl y1, vl y2]) (fun y1 y2 => Q2 [vl y1, vi y2]) a1 a2 a3 (fun x1 => K (.c (.h 0)) [ro x1]) := by kernel_rfl
theorem Gok : (G impl_isPlace.Q impl_CommitsOk.Q impl_touched.Q).ok Try.prog := ⟨(by
    intro ρ f args K r h
    rcases sel_cases h with ⟨hb, h⟩ | ⟨-, h⟩
    · obtain rfl := beq_nat hb
      exact qEntry_ok impl_isPlace.ac h
    rcases sel_cases h with ⟨hb, h⟩ | ⟨-, h⟩
    · obtain rfl := beq_nat hb
      exact qEntry_ok impl_CommitsOk.ac h
    rcases sel_cases h with ⟨hb, h⟩ | ⟨-, h⟩
    · obtain rfl := beq_nat hb
      exact qEntry_ok impl_touched.ac h
    cases h),
  (by
    intro ρ f args K
    simp only [G]
    cases Nat.beq f 47 with
    | true => exact qEntry_nat args K
    | false =>
    simp only [sel]
    cases Nat.beq f 48 with
    | true => exact qEntry_nat args K
    | false =>
    simp only [sel]
    cases Nat.beq f 49 with
    | true => exact qEntry_nat args K
    | false =>
    simp only [sel]
    rfl),
  (fun ρ f st caps args dst K r h => (by cases h))⟩
theorem hm : Try.prog.follows .mixedOrders = true := by kernel_rfl
theorem e : atomsL [] 0 (bodyOf Try.f13) = [] := by kernel_rfl
theorem acc (t : (Vec ((Vec Int) × ByteArray × (Vec (ByteArray × Int × Int)))) × Vec Int × Int) (x : Vec Int) (h : F t.1 t.2.1 t.2.2 = some x) : ACc Try.prog 13 (encA t) [] true [] fun rv obs => (rv, obs) = encR x := by
  refine fun_okc (L := (L)) (jn := []) (cmds := [.ad (.s 6) 23]) (ks := []) (hin := []) (fn := Try.f13) (body := (bodyOf Try.f13)) Gok hm Try.func13 (by kernel_rfl) (by kernel_rfl) (by rw [e]; exact Lor.ok_nil _ _) ?_ h
  refine (main impl_isPlace.Q impl_CommitsOk.Q impl_touched.Q _ t.1 t.2.1 t.2.2).trans ?_
  rw [impl_isPlace.wrap, impl_CommitsOk.wrap, impl_touched.wrap]
  refine congrArg (fun K => B impl_isPlace.F impl_CommitsOk.F impl_touched.F t.1 t.2.1 t.2.2 K) ?_
  funext x1
  exact ofC_enc encRI some (x1)
theorem ac0 (t : (Vec ((Vec Int) × ByteArray × (Vec (ByteArray × Int × Int)))) × Vec Int × Int) (x : Vec Int) (h : F t.1 t.2.1 t.2.2 = some x) : AC Try.prog 13 (encA t) [] true [] fun rv obs => (rv, obs) = encR x := ACc.ac (body := bodyOf Try.f13) Try.func13 (by kernel_rfl) (by kernel_rfl) (acc t x h)
theorem ac (args : List AV) (x : Vec Int) (h : Q args = some x) : AC Try.prog 13 args [] false [] fun rv obs => (rv, obs) = encR x := by
  obtain ⟨t, rfl, h2⟩ := ofC_some h
  refine (ac0 t x h2).flat fun rv obs e => ?_
  obtain rfl : rv = (encR x).1 := congrArg Prod.fst e
  obtain rfl : obs = (encR x).2 := congrArg Prod.snd e
  refine ⟨by simp [encR, AV.Flat, K.Flat, C.Flat], ?_⟩
  intro o ho
  simp only [encR, List.mem_cons, List.not_mem_nil, or_false] at ho
  subst ho
  exact flat_rw rfl _
end impl_TouchedIn
end Go.Al
