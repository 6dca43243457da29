import Derived.Test.YtnkmpehikhmbjaaAlE
import Derived.Test.YtnkmpehikhmbjaaSC
import Derived.Test.YtnkmpehikhmbjaaGMo
set_option linter.unusedVariables false
set_option linter.unusedSimpArgs false
set_option linter.constructorNameAsVariable false
set_option linter.unusedSectionVars false
set_option maxRecDepth 100000
namespace Go.Al
open Go.Proofs

/-! loop.example/g00073/spec.l11Region -/
namespace spec_l11Region
noncomputable def B0 {ρ : Type} (v1 : Vec (Int × Int × Int × ByteArray)) (v2 : Bool) (v3 : Bool) (v4 : Int) (v5 : Bool) (v6 : Bool) (v7 : Vec ByteArray) (v8 : Vec ByteArray) (v9 : Vec ByteArray) (W : (Vec (Int × Int × Int × ByteArray)) → Bool → Bool → Int → Bool → Bool → (Vec ByteArray) → (Vec ByteArray) → (Vec ByteArray) → Option ρ) (K0 : Bool → Bool → Bool → Bool → (Vec ByteArray) → (Vec ByteArray) → (Vec ByteArray) → Option ρ) : Option ρ :=
  let d1 := (Vec.lit [(v1.g v4.toNat).2.2.2] : Vec ByteArray)
  let d2 := (decide ((v7.n + d1.n) * 17 ≤ maxN))
  let d3 := (wr (v4 + (1 : Int)))
  let d4 := (decide ((v1.g v4.toNat).1 = (2 : Int)))
  let d5 := (decide ((v1.g v4.toNat).1 = (5 : Int)))
  let d6 := (decide ((v1.g v4.toNat).1 = (3 : Int)))
  let d7 := (decide ((v1.g v4.toNat).1 = (4 : Int)))
  let d8 := (decide ((v8.n + d1.n) * 17 ≤ maxN))
  let d9 := (decide ((v9.n + d1.n) * 17 ≤ maxN))
  sel (decide (v4 < (v1.n : Int))) (chk (decide (0 ≤ v4 ∧ v4 < (v1.n : Int))) (chk (decide (0 ≤ v4 ∧ v4 < (v1.n : Int))) (sel (v2) (sel (v3) (sel d4 (chk d8 (sel d4 (chk d2 (W v1 true true d3 v5 v6 (Vec.app v7 d1) (Vec.app v8 d1) v9)) (sel d6 (chk d2 (W v1 true true d3 v5 v6 (Vec.app v7 d1) (Vec.app v8 d1) v9)) (W v1 true true d3 v5 v6 v7 (Vec.app v8 d1) v9)))) (sel d5 (chk d8 (sel d4 (chk d2 (W v1 true true d3 v5 v6 (Vec.app v7 d1) (Vec.app v8 d1) v9)) (sel d6 (chk d2 (W v1 true true d3 v5 v6 (Vec.app v7 d1) (Vec.app v8 d1) v9)) (W v1 true true d3 v5 v6 v7 (Vec.app v8 d1) v9)))) (chk d9 (sel d4 (chk d2 (W v1 true true d3 v5 v6 (Vec.app v7 d1) v8 (Vec.app v9 d1))) (sel d6 (chk d2 (W v1 true true d3 v5 v6 (Vec.app v7 d1) v8 (Vec.app v9 d1))) (W v1 true true d3 v5 v6 v7 v8 (Vec.app v9 d1))))))) (sel d6 (sel d4 (chk d8 (sel d4 (chk d2 (W v1 true true d3 v5 v6 (Vec.app v7 d1) (Vec.app v8 d1) v9)) (sel d6 (chk d2 (W v1 true true d3 v5 v6 (Vec.app v7 d1) (Vec.app v8 d1) v9)) (W v1 true true d3 v5 v6 v7 (Vec.app v8 d1) v9)))) (sel d5 (chk d8 (sel d4 (chk d2 (W v1 true true d3 v5 v6 (Vec.app v7 d1) (Vec.app v8 d1) v9)) (sel d6 (chk d2 (W v1 true true d3 v5 v6 (Vec.app v7 d1) (Vec.app v8 d1) v9)) (W v1 true true d3 v5 v6 v7 (Vec.app v8 d1) v9)))) (chk d9 (sel d4 (chk d2 (W v1 true true d3 v5 v6 (Vec.app v7 d1) v8 (Vec.app v9 d1))) (sel d6 (chk d2 (W v1 true true d3 v5 v6 (Vec.app v7 d1) v8 (Vec.app v9 d1))) (W v1 true true d3 v5 v6 v7 v8 (Vec.app v9 d1))))))) (sel d4 (chk d8 (sel d4 (chk d2 (W v1 true d5 d3 v5 v6 (Vec.app v7 d1) (Vec.app v8 d1) v9)) (sel d6 (chk d2 (W v1 true d5 d3 v5 v6 (Vec.app v7 d1) (Vec.app v8 d1) v9)) (W v1 true d5 d3 v5 v6 v7 (Vec.app v8 d1) v9)))) (sel d5 (chk d8 (sel d4 (chk d2 (W v1 true d5 d3 v5 v6 (Vec.app v7 d1) (Vec.app v8 d1) v9)) (sel d6 (chk d2 (W v1 true d5 d3 v5 v6 (Vec.app v7 d1) (Vec.app v8 d1) v9)) (W v1 true d5 d3 v5 v6 v7 (Vec.app v8 d1) v9)))) (chk d9 (sel d4 (chk d2 (W v1 true d5 d3 v5 v6 (Vec.app v7 d1) v8 (Vec.app v9 d1))) (sel d6 (chk d2 (W v1 true d5 d3 v5 v6 (Vec.app v7 d1) v8 (Vec.app v9 d1))) (W v1 true d5 d3 v5 v6 v7 v8 (Vec.app v9 d1))))))))) (sel d4 (sel (v3) (sel d4 (chk d8 (sel d4 (chk d2 (W v1 true true d3 v5 v6 (Vec.app v7 d1) (Vec.app v8 d1) v9)) (sel d6 (chk d2 (W v1 true true d3 v5 v6 (Vec.app v7 d1) (Vec.app v8 d1) v9)) (W v1 true true d3 v5 v6 v7 (Vec.app v8 d1) v9)))) (sel d5 (chk d8 (sel d4 (chk d2 (W v1 true true d3 v5 v6 (Vec.app v7 d1) (Vec.app v8 d1) v9)) (sel d6 (chk d2 (W v1 true true d3 v5 v6 (Vec.app v7 d1) (Vec.app v8 d1) v9)) (W v1 true true d3 v5 v6 v7 (Vec.app v8 d1) v9)))) (chk d9 (sel d4 (chk d2 (W v1 true true d3 v5 v6 (Vec.app v7 d1) v8 (Vec.app v9 d1))) (sel d6 (chk d2 (W v1 true true d3 v5 v6 (Vec.app v7 d1) v8 (Vec.app v9 d1))) (W v1 true true d3 v5 v6 v7 v8 (Vec.app v9 d1))))))) (sel d6 (sel d4 (chk d8 (sel d4 (chk d2 (W v1 true true d3 v5 v6 (Vec.app v7 d1) (Vec.app v8 d1) v9)) (sel d6 (chk d2 (W v1 true true d3 v5 v6 (Vec.app v7 d1) (Vec.app v8 d1) v9)) (W v1 true true d3 v5 v6 v7 (Vec.app v8 d1) v9)))) (sel d5 (chk d8 (sel d4 (chk d2 (W v1 true true d3 v5 v6 (Vec.app v7 d1) (Vec.app v8 d1) v9)) (sel d6 (chk d2 (W v1 true true d3 v5 v6 (Vec.app v7 d1) (Vec.app v8 d1) v9)) (W v1 true true d3 v5 v6 v7 (Vec.app v8 d1) v9)))) (chk d9 (sel d4 (chk d2 (W v1 true true d3 v5 v6 (Vec.app v7 d1) v8 (Vec.app v9 d1))) (sel d6 (chk d2 (W v1 true true d3 v5 v6 (Vec.app v7 d1) v8 (Vec.app v9 d1))) (W v1 true true d3 v5 v6 v7 v8 (Vec.app v9 d1))))))) (sel d4 (chk d8 (sel d4 (chk d2 (W v1 true d5 d3 v5 v6 (Vec.app v7 d1) (Vec.app v8 d1) v9)) (sel d6 (chk d2 (W v1 true d5 d3 v5 v6 (Vec.app v7 d1) (Vec.app v8 d1) v9)) (W v1 true d5 d3 v5 v6 v7 (Vec.app v8 d1) v9)))) (sel d5 (chk d8 (sel d4 (chk d2 (W v1 true d5 d3 v5 v6 (Vec.app v7 d1) (Vec.app v8 d1) v9)) (sel d6 (chk d2 (W v1 true d5 d3 v5 v6 (Vec.app v7 d1) (Vec.app v8 d1) v9)) (W v1 true d5 d3 v5 v6 v7 (Vec.app v8 d1) v9)))) (chk d9 (sel d4 (chk d2 (W v1 true d5 d3 v5 v6 (Vec.app v7 d1) v8 (Vec.app v9 d1))) (sel d6 (chk d2 (W v1 true d5 d3 v5 v6 (Vec.app v7 d1) v8 (Vec.app v9 d1))) (W v1 true d5 d3 v5 v6 v7 v8 (Vec.app v9 d1))))))))) (sel (v3) (sel d4 (chk d8 (sel d4 (chk d2 (W v1 d7 true d3 v5 v6 (Vec.app v7 d1) (Vec.app v8 d1) v9)) (sel d6 (chk d2 (W v1 d7 true d3 v5 v6 (Vec.app v7 d1) (Vec.app v8 d1) v9)) (W v1 d7 true d3 v5 v6 v7 (Vec.app v8 d1) v9)))) (sel d5 (chk d8 (sel d4 (chk d2 (W v1 d7 true d3 v5 v6 (Vec.app v7 d1) (Vec.app v8 d1) v9)) (sel d6 (chk d2 (W v1 d7 true d3 v5 v6 (Vec.app v7 d1) (Vec.app v8 d1) v9)) (W v1 d7 true d3 v5 v6 v7 (Vec.app v8 d1) v9)))) (chk d9 (sel d4 (chk d2 (W v1 d7 true d3 v5 v6 (Vec.app v7 d1) v8 (Vec.app v9 d1))) (sel d6 (chk d2 (W v1 d7 true d3 v5 v6 (Vec.app v7 d1) v8 (Vec.app v9 d1))) (W v1 d7 true d3 v5 v6 v7 v8 (Vec.app v9 d1))))))) (sel d6 (sel d4 (chk d8 (sel d4 (chk d2 (W v1 d7 true d3 v5 v6 (Vec.app v7 d1) (Vec.app v8 d1) v9)) (sel d6 (chk d2 (W v1 d7 true d3 v5 v6 (Vec.app v7 d1) (Vec.app v8 d1) v9)) (W v1 d7 true d3 v5 v6 v7 (Vec.app v8 d1) v9)))) (sel d5 (chk d8 (sel d4 (chk d2 (W v1 d7 true d3 v5 v6 (Vec.app v7 d1) (Vec.app v8 d1) v9)) (sel d6 (chk d2 (W v1 d7 true d3 v5 v6 (Vec.app v7 d1) (Vec.app v8 d1) v9)) (W v1 d7 true d3 v5 v6 v7 (Vec.app v8 d1) v9)))) (chk d9 (sel d4 (chk d2 (W v1 d7 true d3 v5 v6 (Vec.app v7 d1) v8 (Vec.app v9 d1))) (sel d6 (chk d2 (W v1 d7 true d3 v5 v6 (Vec.app v7 d1) v8 (Vec.app v9 d1))) (W v1 d7 true d3 v5 v6 v7 v8 (Vec.app v9 d1))))))) (sel d4 (chk d8 (sel d4 (chk d2 (W v1 d7 d5 d3 v5 v6 (Vec.app v7 d1) (Vec.app v8 d1) v9)) (sel d6 (chk d2 (W v1 d7 d5 d3 v5 v6 (Vec.app v7 d1) (Vec.app v8 d1) v9)) (W v1 d7 d5 d3 v5 v6 v7 (Vec.app v8 d1) v9)))) (sel d5 (chk d8 (sel d4 (chk d2 (W v1 d7 d5 d3 v5 v6 (Vec.app v7 d1) (Vec.app v8 d1) v9)) (sel d6 (chk d2 (W v1 d7 d5 d3 v5 v6 (Vec.app v7 d1) (Vec.app v8 d1) v9)) (W v1 d7 d5 d3 v5 v6 v7 (Vec.app v8 d1) v9)))) (chk d9 (sel d4 (chk d2 (W v1 d7 d5 d3 v5 v6 (Vec.app v7 d1) v8 (Vec.app v9 d1))) (sel d6 (chk d2 (W v1 d7 d5 d3 v5 v6 (Vec.app v7 d1) v8 (Vec.app v9 d1))) (W v1 d7 d5 d3 v5 v6 v7 v8 (Vec.app v9 d1))))))))))))) (K0 v2 v3 v5 v6 v7 v8 v9)
noncomputable def F0 {ρ : Type} : Nat → (Vec (Int × Int × Int × ByteArray)) → Bool → Bool → Int → Bool → Bool → (Vec ByteArray) → (Vec ByteArray) → (Vec ByteArray) → (Bool → Bool → Bool → Bool → (Vec ByteArray) → (Vec ByteArray) → (Vec ByteArray) → Option ρ) → Option ρ
  | 0, _, _, _, _, _, _, _, _, _, _ => none
  | k + 1, v1, v2, v3, v4, v5, v6, v7, v8, v9, K0 => B0 v1 v2 v3 v4 v5 v6 v7 v8 v9 (fun v1' v2' v3' v4' v5' v6' v7' v8' v9' => F0 k v1' v2' v3' v4' v5' v6' v7' v8' v9' K0) K0
noncomputable def B {ρ : Type} (L0 : (Vec (Int × Int × Int × ByteArray)) → Bool → Bool → Int → Bool → Bool → (Vec ByteArray) → (Vec ByteArray) → (Vec ByteArray) → (Bool → Bool → Bool → Bool → (Vec ByteArray) → (Vec ByteArray) → (Vec ByteArray) → Option ρ) → Option ρ) (a1 : Vec (Int × Int × Int × ByteArray)) (K : Bool → (Vec ByteArray) → (Vec ByteArray) → (Vec ByteArray) → Option ρ) : Option ρ :=
  L0 a1 false false (0 : Int) false false (Vec.nil : Vec ByteArray) (Vec.nil : Vec ByteArray) (Vec.nil : Vec ByteArray) (fun e01 e02 e03 e04 e05 e06 e07 => sel (e01) (sel ((!e02)) (K e02 e05 e06 e07) (K e02 (Vec.nil : Vec ByteArray) e06 e07)) (K false e05 e06 e07))
noncomputable def F (a1 : Vec (Int × Int × Int × ByteArray)) : Option (Bool × Vec ByteArray × Vec ByteArray × Vec ByteArray) := B (F0 fuelN) a1 (fun x1 x2 x3 x4 => some (x1, x2, x3, x4))
def encA (t : Vec (Int × Int × Int × ByteArray)) : List AV := [vl t]
def encR (x : Bool × Vec ByteArray × Vec ByteArray × Vec ByteArray) : AV × List Ob := (.a [cb x.1, .h 0, .h 1, .h 2], [ro x.2.1, ro x.2.2.1, ro x.2.2.2])
theorem encAI : ∀ a b, encA a = encA b → a = b := by
  intro a b h
  simp [encA, encRw_iff] at h
  simp_all
theorem encRI : ∀ a b, encR a = encR b → a = b := by
  intro a b h
  obtain ⟨a0, a1, a2, a3⟩ := a
  obtain ⟨b0, b1, b2, b3⟩ := b
  simp [encR, encRw_iff] at h
  simp_all
noncomputable def Q (args : List AV) : Option (Bool × Vec ByteArray × Vec ByteArray × Vec ByteArray) := ofC encA (fun t => F t) args
theorem wrap : (fun (y1 : Vec (Int × Int × Int × ByteArray)) => Q [vl y1]) = F := by
  funext y1
  exact ofC_enc encAI _ (y1)
noncomputable def G : Orc := ⟨fun f => 9, fun ρ f args K => Option.none, noE, false⟩
noncomputable def L (W0 : (ρ : Type) → List AV → List Ob → (Bool → Bool → Bool → Bool → (Vec ByteArray) → (Vec ByteArray) → (Vec ByteArray) → Option ρ) → Option ρ) : Lor := fun ρ j st K => sel (Nat.beq j 0) (cutO Try.prog 86 [0, 2, 3, 4, 5, 6, 7] 0 [] [.ad (.s 6) 51, .ad (.p 3 2) 51, .ad (.p 3 3) 51] st fun avs obs => W0 ρ avs obs (fun z1 z2 z3 z4 z5 z6 z7 => K (.exit 0) (mkS 86 [2, 3, 4, 5, 6] [.c (.p 0 0), .c (.p 1 0), vb z1, vb z2, .c (.h 2)] [.box [cb z3, .z, .z, .z], .box [cb z4, .z, .h 3, .h 4], ro z5, ro z6, ro z7] []))) (Option.none)
noncomputable def c0 : Code := loopC (atomN [] 0 (bodyOf Try.f56) 0)
def ct0 : Cut := ⟨[0, 2, 3, 4, 5, 6, 7], [.ad (.s 6) 51, .ad (.p 3 2) 51, .ad (.p 3 3) 51]⟩
def lv0 : Exit → Cut
  | .exit 0 => ⟨[2, 3, 4, 5, 6], []⟩
  | _ => ⟨[], []⟩
theorem step0 (W0) {ρ : Type} (K : Exit → St → Option ρ) (W : List AV → List Ob → Option ρ) (v1 v2 v3 v4 v5 v6 v7 v8 v9) : exC Try.prog (G) (L W0) [] 1 c0 (mkS 86 [0, 2, 3, 4, 5, 6, 7] [vl v1, .c (.p 0 0), .c (.p 1 0), vb v2, vb v3, .c (.h 2), vi v4] [.box [cb v5, .z, .z, .z], .box [cb v6, .z, .h 3, .h 4], ro v7, ro v8, ro v9] []) (bodyK Try.prog 86 0 [] ct0 W lv0 K) =
    B0 v1 v2 v3 v4 v5 v6 v7 v8 v9 (fun u1 u2 u3 u4 u5 u6 u7 u8 u9 => W [vl u1, .c (.p 0 0), .c (.p 1 0), vb u2, vb u3, .c (.h 2), vi u4] [.box [cb u5, .z, .z, .z], .box [cb u6, .z, .h 3, .h 4], ro u7, ro u8, ro u9]) (fun z1 z2 z3 z4 z5 z6 z7 => K (.exit 0) (mkS 86 [2, 3, 4, 5, 6] [.c (.p 0 0), .c (.p 1 0), vb z1, vb z2, .c (.h 2)] [.box [cb z3, .z, .z, .z], .box [cb z4, .z, .h 3, .h 4], ro z5, ro z6, ro z7] [])) := by kernel_rfl
def enc0 (t : (Vec (Int × Int × Int × ByteArray)) × Bool × Bool × Int × Bool × Bool × Vec ByteArray × Vec ByteArray × Vec ByteArray) : List AV × List Ob := ([vl t.1, .c (.p 0 0), .c (.p 1 0), vb t.2.1, vb t.2.2.1, .c (.h 2), vi t.2.2.2.1], [.box [cb t.2.2.2.2.1, .z, .z, .z], .box [cb t.2.2.2.2.2.1, .z, .h 3, .h 4], ro t.2.2.2.2.2.2.1, ro t.2.2.2.2.2.2.2.1, ro t.2.2.2.2.2.2.2.2])
theorem enc0I : ∀ a b, enc0 a = enc0 b → a = b := by
  intro a b h
  obtain ⟨a0, a1, a2, a3, a4, a5, a6, a7, a8⟩ := a
  obtain ⟨b0, b1, b2, b3, b4, b5, b6, b7, b8⟩ := b
  simp [enc0, encRw_iff] at h
  simp_all
noncomputable def V0 : (ρ : Type) → List AV → List Ob → (Bool → Bool → Bool → Bool → (Vec ByteArray) → (Vec ByteArray) → (Vec ByteArray) → Option ρ) → Option ρ := fun ρ avs obs k0 => ofC enc0 (fun t => F0 fuelN t.1 t.2.1 t.2.2.1 t.2.2.2.1 t.2.2.2.2.1 t.2.2.2.2.2.1 t.2.2.2.2.2.2.1 t.2.2.2.2.2.2.2.1 t.2.2.2.2.2.2.2.2 k0) (avs, obs)
theorem V0_enc (ρ : Type) : (fun w1 w2 w3 w4 w5 w6 w7 w8 w9 k0 => V0 ρ [vl w1, .c (.p 0 0), .c (.p 1 0), vb w2, vb w3, .c (.h 2), vi w4] [.box [cb w5, .z, .z, .z], .box [cb w6, .z, .h 3, .h 4], ro w7, ro w8, ro w9] k0) = F0 fuelN := by
  funext w1 w2 w3 w4 w5 w6 w7 w8 w9 k0
  exact ofC_enc enc0I _ (w1, w2, w3, w4, w5, w6, w7, w8, w9)
theorem main (W0) {ρ : Type} (K : AV → List Ob → Option ρ) (a1) : exC Try.prog (G) (L W0) [] 0 (bodyOf Try.f56) (entry 86 [vl a1] [] []) (finO Try.prog Try.f56.results.toList 0 [] [.ad (.p 2 1) 51] K) =
    B (fun w1 w2 w3 w4 w5 w6 w7 w8 w9 k0 => W0 ρ [vl w1, .c (.p 0 0), .c (.p 1 0), vb w2, vb w3, .c (.h 2), vi w4] [.box [cb w5, .z, .z, .z], .box [cb w6, .z, .h 3, .h 4], ro w7, ro w8, ro w9] k0) a1 (fun x1 x2 x3 x4 => K (.a [cb x1, .h 0, .h 1, .h 2]) [ro x2, ro x3, ro x4]) := by kernel_rfl
theorem Gok : (G).ok Try.prog := ⟨(fun ρ f args K r h => (by cases h)),
  (fun ρ f args K => rfl),
  (fun ρ f st caps args dst K r h => (by cases h))⟩
theorem hm : Try.prog.follows .mixedOrders = true := by kernel_rfl
theorem e0 : atomsL [] 1 c0 = [] := by kernel_rfl
theorem ok0 (ρ : Type) (st : St) (K : Exit → St → Option ρ) (r : ρ) (h : (L V0) ρ 0 st K = some r) : AW Try.prog (.loop c0) st fun e st' => K e st' = some r := by
  refine loop_ok (ct := ct0) (lv := lv0) (n := 86) (m := 0) (ks := []) (j := 0) (jn := []) (L := (L V0)) Gok hm (by rw [e0]; exact Lor.ok_nil _ _) enc0I (fun k t => F0 k t.1 t.2.1 t.2.2.1 t.2.2.2.1 t.2.2.2.2.1 t.2.2.2.2.2.1 t.2.2.2.2.2.2.1 t.2.2.2.2.2.2.2.1 t.2.2.2.2.2.2.2.2 (fun z1 z2 z3 z4 z5 z6 z7 => K (.exit 0) (mkS 86 [2, 3, 4, 5, 6] [.c (.p 0 0), .c (.p 1 0), vb z1, vb z2, .c (.h 2)] [.box [cb z3, .z, .z, .z], .box [cb z4, .z, .h 3, .h 4], ro z5, ro z6, ro z7] []))) (fun t => rfl) (fun k t => ?_) (fun _ => fuelN) h
  refine (step0 V0 K _ t.1 t.2.1 t.2.2.1 t.2.2.2.1 t.2.2.2.2.1 t.2.2.2.2.2.1 t.2.2.2.2.2.2.1 t.2.2.2.2.2.2.2.1 t.2.2.2.2.2.2.2.2).trans ?_
  refine congrArg (fun W => B0 t.1 t.2.1 t.2.2.1 t.2.2.2.1 t.2.2.2.2.1 t.2.2.2.2.2.1 t.2.2.2.2.2.2.1 t.2.2.2.2.2.2.2.1 t.2.2.2.2.2.2.2.2 W (fun z1 z2 z3 z4 z5 z6 z7 => K (.exit 0) (mkS 86 [2, 3, 4, 5, 6] [.c (.p 0 0), .c (.p 1 0), vb z1, vb z2, .c (.h 2)] [.box [cb z3, .z, .z, .z], .box [cb z4, .z, .h 3, .h 4], ro z5, ro z6, ro z7] []))) ?_
  funext u1 u2 u3 u4 u5 u6 u7 u8 u9
  exact ofC_enc enc0I _ (u1, u2, u3, u4, u5, u6, u7, u8, u9)
theorem e : atomsL [] 0 (bodyOf Try.f56) = [(0, 0, .loop c0)] := by kernel_rfl
theorem acc (t : Vec (Int × Int × Int × ByteArray)) (x : Bool × Vec ByteArray × Vec ByteArray × Vec ByteArray) (h : F t = some x) : ACc Try.prog 56 (encA t) [] true [] fun rv obs => (rv, obs) = encR x := by
  refine fun_okc (L := (L V0)) (jn := []) (cmds := [.ad (.p 2 1) 51]) (ks := []) (hin := []) (fn := Try.f56) (body := (bodyOf Try.f56)) Gok hm Try.func56 (by kernel_rfl) (by kernel_rfl) (by rw [e]; exact Lor.ok_cons ok0 (Lor.ok_nil _ _)) ?_ h
  refine (main V0 _ t).trans ?_
  rw [V0_enc]
  refine congrArg (fun K => B (F0 fuelN) t K) ?_
  funext x1 x2 x3 x4
  exact ofC_enc encRI some (x1, x2, x3, x4)
theorem ac0 (t : Vec (Int × Int × Int × ByteArray)) (x : Bool × Vec ByteArray × Vec ByteArray × Vec ByteArray) (h : F t = some x) : AC Try.prog 56 (encA t) [] true [] fun rv obs => (rv, obs) = encR x := ACc.ac (body := bodyOf Try.f56) Try.func56 (by kernel_rfl) (by kernel_rfl) (acc t x h)
theorem ac (args : List AV) (x : Bool × Vec ByteArray × Vec ByteArray × Vec ByteArray) (h : Q args = some x) : AC Try.prog 56 args [] false [] fun rv obs => (rv, obs) = encR x := by
  obtain ⟨t, rfl, h2⟩ := ofC_some h
  refine (ac0 t x h2).flat fun rv obs e => ?_
  obtain rfl : rv = (encR x).1 := congrArg Prod.fst e
  obtain rfl : obs = (encR x).2 := congrArg Prod.snd e
  refine ⟨by simp [encR, AV.Flat, K.Flat, C.Flat], ?_⟩
  intro o ho
  simp only [encR, List.mem_cons, List.not_mem_nil, or_false] at ho
  rcases ho with rfl | rfl | rfl
  · exact flat_rw rfl _
  · exact flat_rw rfl _
  · exact flat_rw rfl _
end spec_l11Region
/-! loop.example/g00073/spec.RegionsOf -/
namespace spec_RegionsOf
noncomputable def B0 {ρ : Type} (C1 : (Vec (Int × Int × Int × ByteArray)) → Option (Bool × Vec ByteArray × Vec ByteArray × Vec ByteArray)) (v1 : Int) (v2 : Int) (v3 : Vec (Int × Int × Int × ByteArray)) (v4 : Vec (Bool × (Vec ByteArray) × (Vec ByteArray) × (Vec ByteArray))) (v5 : Vec (Int × Int × Int × ByteArray)) (W : Int → Int → (Vec (Int × Int × Int × ByteArray)) → (Vec (Bool × (Vec ByteArray) × (Vec ByteArray) × (Vec ByteArray))) → (Vec (Int × Int × Int × ByteArray)) → Option ρ) (K0 : Int → (Vec (Bool × (Vec ByteArray) × (Vec ByteArray) × (Vec ByteArray))) → Option ρ) : Option ρ :=
  sel (decide (v2 ≤ (v3.n : Int))) (sel (decide (v1 = (0 : Int))) (sel (decide (v2 < (v3.n : Int))) (chk (decide (0 ≤ v2 ∧ v2 < (v3.n : Int))) (chk (decide (v2.toNat < v3.n)) (sel ((!decide ((v3.g v2.toNat).1 = (1 : Int)))) (chk (decide (0 ≤ v2 ∧ v2 < (v3.n : Int))) (chk (decide (v2.toNat < v3.n)) (chk (decide ((v5.n + (Vec.lit [((v3.g v2.toNat).1, (v3.g v2.toNat).2.1, (v3.g v2.toNat).2.2.1, (v3.g v2.toNat).2.2.2)] : Vec (Int × Int × Int × ByteArray)).n) * 41 ≤ maxN)) (W v1 (wr (v2 + (1 : Int))) v3 v4 (Vec.app v5 (Vec.lit [((v3.g v2.toNat).1, (v3.g v2.toNat).2.1, (v3.g v2.toNat).2.2.1, (v3.g v2.toNat).2.2.2)] : Vec (Int × Int × Int × ByteArray))))))) (sel (decide ((0 : Int) < (v5.n : Int))) ((C1 v5).bind fun r2 => chk (decide ((v4.n + (Vec.lit [(r2.1, r2.2.1, r2.2.2.1, r2.2.2.2)] : Vec (Bool × (Vec ByteArray) × (Vec ByteArray) × (Vec ByteArray))).n) * 81 ≤ maxN)) (sel (decide (v2 < (v3.n : Int))) (chk (decide (0 ≤ v2 ∧ v2 < (v3.n : Int))) (chk (decide (v2.toNat < v3.n)) (chk (decide (((Vec.app v4 (Vec.lit [(r2.1, r2.2.1, r2.2.2.1, r2.2.2.2)] : Vec (Bool × (Vec ByteArray) × (Vec ByteArray) × (Vec ByteArray)))).n + (Vec.lit [(false, (Vec.lit [(v3.g v2.toNat).2.2.2] : Vec ByteArray), (Vec.nil : Vec ByteArray), (Vec.nil : Vec ByteArray))] : Vec (Bool × (Vec ByteArray) × (Vec ByteArray) × (Vec ByteArray))).n) * 81 ≤ maxN)) (W v1 (wr (v2 + (1 : Int))) v3 (Vec.app (Vec.app v4 (Vec.lit [(r2.1, r2.2.1, r2.2.2.1, r2.2.2.2)] : Vec (Bool × (Vec ByteArray) × (Vec ByteArray) × (Vec ByteArray)))) (Vec.lit [(false, (Vec.lit [(v3.g v2.toNat).2.2.2] : Vec ByteArray), (Vec.nil : Vec ByteArray), (Vec.nil : Vec ByteArray))] : Vec (Bool × (Vec ByteArray) × (Vec ByteArray) × (Vec ByteArray)))) (Vec.nil : Vec (Int × Int × Int × ByteArray)))))) (W v1 (wr (v2 + (1 : Int))) v3 (Vec.app v4 (Vec.lit [(r2.1, r2.2.1, r2.2.2.1, r2.2.2.2)] : Vec (Bool × (Vec ByteArray) × (Vec ByteArray) × (Vec ByteArray)))) (Vec.nil : Vec (Int × Int × Int × ByteArray))))) (sel (decide (v2 < (v3.n : Int))) (chk (decide (0 ≤ v2 ∧ v2 < (v3.n : Int))) (chk (decide (v2.toNat < v3.n)) (chk (decide ((v4.n + (Vec.lit [(false, (Vec.lit [(v3.g v2.toNat).2.2.2] : Vec ByteArray), (Vec.nil : Vec ByteArray), (Vec.nil : Vec ByteArray))] : Vec (Bool × (Vec ByteArray) × (Vec ByteArray) × (Vec ByteArray))).n) * 81 ≤ maxN)) (W v1 (wr (v2 + (1 : Int))) v3 (Vec.app v4 (Vec.lit [(false, (Vec.lit [(v3.g v2.toNat).2.2.2] : Vec ByteArray), (Vec.nil : Vec ByteArray), (Vec.nil : Vec ByteArray))] : Vec (Bool × (Vec ByteArray) × (Vec ByteArray) × (Vec ByteArray)))) (Vec.nil : Vec (Int × Int × Int × ByteArray)))))) (W v1 (wr (v2 + (1 : Int))) v3 v4 (Vec.nil : Vec (Int × Int × Int × ByteArray)))))))) (sel (decide ((0 : Int) < (v5.n : Int))) ((C1 v5).bind fun r3 => chk (decide ((v4.n + (Vec.lit [(r3.1, r3.2.1, r3.2.2.1, r3.2.2.2)] : Vec (Bool × (Vec ByteArray) × (Vec ByteArray) × (Vec ByteArray))).n) * 81 ≤ maxN)) (sel (decide (v2 < (v3.n : Int))) (chk (decide (0 ≤ v2 ∧ v2 < (v3.n : Int))) (chk (decide (v2.toNat < v3.n)) (chk (decide (((Vec.app v4 (Vec.lit [(r3.1, r3.2.1, r3.2.2.1, r3.2.2.2)] : Vec (Bool × (Vec ByteArray) × (Vec ByteArray) × (Vec ByteArray)))).n + (Vec.lit [(false, (Vec.lit [(v3.g v2.toNat).2.2.2] : Vec ByteArray), (Vec.nil : Vec ByteArray), (Vec.nil : Vec ByteArray))] : Vec (Bool × (Vec ByteArray) × (Vec ByteArray) × (Vec ByteArray))).n) * 81 ≤ maxN)) (W v1 (wr (v2 + (1 : Int))) v3 (Vec.app (Vec.app v4 (Vec.lit [(r3.1, r3.2.1, r3.2.2.1, r3.2.2.2)] : Vec (Bool × (Vec ByteArray) × (Vec ByteArray) × (Vec ByteArray)))) (Vec.lit [(false, (Vec.lit [(v3.g v2.toNat).2.2.2] : Vec ByteArray), (Vec.nil : Vec ByteArray), (Vec.nil : Vec ByteArray))] : Vec (Bool × (Vec ByteArray) × (Vec ByteArray) × (Vec ByteArray)))) (Vec.nil : Vec (Int × Int × Int × ByteArray)))))) (W v1 (wr (v2 + (1 : Int))) v3 (Vec.app v4 (Vec.lit [(r3.1, r3.2.1, r3.2.2.1, r3.2.2.2)] : Vec (Bool × (Vec ByteArray) × (Vec ByteArray) × (Vec ByteArray)))) (Vec.nil : Vec (Int × Int × Int × ByteArray))))) (sel (decide (v2 < (v3.n : Int))) (chk (decide (0 ≤ v2 ∧ v2 < (v3.n : Int))) (chk (decide (v2.toNat < v3.n)) (chk (decide ((v4.n + (Vec.lit [(false, (Vec.lit [(v3.g v2.toNat).2.2.2] : Vec ByteArray), (Vec.nil : Vec ByteArray), (Vec.nil : Vec ByteArray))] : Vec (Bool × (Vec ByteArray) × (Vec ByteArray) × (Vec ByteArray))).n) * 81 ≤ maxN)) (W v1 (wr (v2 + (1 : Int))) v3 (Vec.app v4 (Vec.lit [(false, (Vec.lit [(v3.g v2.toNat).2.2.2] : Vec ByteArray), (Vec.nil : Vec ByteArray), (Vec.nil : Vec ByteArray))] : Vec (Bool × (Vec ByteArray) × (Vec ByteArray) × (Vec ByteArray)))) (Vec.nil : Vec (Int × Int × Int × ByteArray)))))) (W v1 (wr (v2 + (1 : Int))) v3 v4 (Vec.nil : Vec (Int × Int × Int × ByteArray)))))) (K0 v1 v4)) (K0 v1 v4)
noncomputable def F0 {ρ : Type} : Nat → Int → Int → (Vec (Int × Int × Int × ByteArray)) → (Vec (Bool × (Vec ByteArray) × (Vec ByteArray) × (Vec ByteArray))) → (Vec (Int × Int × Int × ByteArray)) → (Int → (Vec (Bool × (Vec ByteArray) × (Vec ByteArray) × (Vec ByteArray))) → Option ρ) → Option ρ
  | 0, _, _, _, _, _, _ => none
  | k + 1, v1, v2, v3, v4, v5, K0 => B0 spec_l11Region.F v1 v2 v3 v4 v5 (fun v1' v2' v3' v4' v5' => F0 k v1' v2' v3' v4' v5' K0) K0
noncomputable def B {ρ : Type} (C0 : (Vec (Vec Int)) → (Vec (ByteArray × Int × Int × (Vec Int))) → Int → Int → Option (Int × (Vec (Int × Int × Int × ByteArray)))) (L0 : Int → Int → (Vec (Int × Int × Int × ByteArray)) → (Vec (Bool × (Vec ByteArray) × (Vec ByteArray) × (Vec ByteArray))) → (Vec (Int × Int × Int × ByteArray)) → (Int → (Vec (Bool × (Vec ByteArray) × (Vec ByteArray) × (Vec ByteArray))) → Option ρ) → Option ρ) (a1 : Vec (Vec Int)) (a2 : Vec (ByteArray × Int × Int × (Vec Int))) (a3 : Int) (a4 : Int) (K : Int → (Vec (Bool × (Vec ByteArray) × (Vec ByteArray) × (Vec ByteArray))) → Option ρ) : Option ρ :=
  (C0 a1 a2 a3 a4).bind fun r1 => L0 r1.1 (0 : Int) r1.2 (Vec.nil : Vec (Bool × (Vec ByteArray) × (Vec ByteArray) × (Vec ByteArray))) (Vec.nil : Vec (Int × Int × Int × ByteArray)) (fun e01 e02 => K e01 e02)
noncomputable def F (a1 : Vec (Vec Int)) (a2 : Vec (ByteArray × Int × Int × (Vec Int))) (a3 : Int) (a4 : Int) : Option (Int × (Vec (Bool × (Vec ByteArray) × (Vec ByteArray) × (Vec ByteArray)))) := B spec_MarksOf.F (F0 fuelN) a1 a2 a3 a4 (fun x1 x2 => some (x1, x2))
def encA (t : Vec (Vec Int) × (Vec (ByteArray × Int × Int × (Vec Int))) × Int × Int) : List AV := [.a [cl t.1, cl t.2.1], vi t.2.2.1, vi t.2.2.2]
def encR (x : Int × (Vec (Bool × (Vec ByteArray) × (Vec ByteArray) × (Vec ByteArray)))) : AV × List Ob := (.tup [.c (.h 0), .c (ci x.1)], [ro x.2])
theorem encAI : ∀ a b, encA a = encA b → a = b := by
  intro a b h
  obtain ⟨a0, a1, a2, a3⟩ := a
  obtain ⟨b0, b1, b2, b3⟩ := b
  simp [encA, encRw_iff] at h
  simp_all
theorem encRI : ∀ a b, encR a = encR b → a = b := by
  intro a b h
  obtain ⟨a0, a1⟩ := a
  obtain ⟨b0, b1⟩ := b
  simp [encR, encRw_iff] at h
  simp_all
noncomputable def Q (args : List AV) : Option (Int × (Vec (Bool × (Vec ByteArray) × (Vec ByteArray) × (Vec ByteArray)))) := ofC encA (fun t => F t.1 t.2.1 t.2.2.1 t.2.2.2) args
theorem wrap : (fun (y1 : Vec (Vec Int)) (y2 : Vec (ByteArray × Int × Int × (Vec Int))) (y3 : Int) (y4 : Int) => Q [.a [cl y1, cl y2], vi y3, vi y4]) = F := by
  funext y1 y2 y3 y4
  exact ofC_enc encAI _ (y1, y2, y3, y4)
noncomputable def G (Q0 : List AV → Option (Int × (Vec (Int × Int × Int × ByteArray)))) (Q1 : List AV → Option (Bool × Vec ByteArray × Vec ByteArray × Vec ByteArray)) : Orc := ⟨fun f => sel (Nat.beq f 55) 0 (sel (Nat.beq f 56) 0 (9)), fun ρ f args K => sel (Nat.beq f 55) (qEntry spec_MarksOf.encR Q0 args K) (sel (Nat.beq f 56) (qEntry spec_l11Region.encR Q1 args K) (Option.none)), noE, false⟩
noncomputable def L (W0 : (ρ : Type) → List AV → List Ob → (Int → (Vec (Bool × (Vec ByteArray) × (Vec ByteArray) × (Vec ByteArray))) → Option ρ) → Option ρ) : Lor := fun ρ j st K => sel (Nat.beq j 0) (cutO Try.prog 77 [8, 9, 10, 11, 12] 0 [] [.ad (.s 10) 39, .ad (.s 11) 84] st fun avs obs => W0 ρ avs obs (fun z1 z2 => K (.exit 0) (mkS 77 [9, 10] [vi z1, .c (.h 0)] [ro z2] []))) (Option.none)
noncomputable def c0 : Code := loopC (atomN [] 0 (bodyOf Try.f20) 0)
def ct0 : Cut := ⟨[8, 9, 10, 11, 12], [.ad (.s 10) 39, .ad (.s 11) 84]⟩
def lv0 : Exit → Cut
  | .exit 0 => ⟨[9, 10], []⟩
  | _ => ⟨[], []⟩
theorem step0 (Q0 Q1) (W0) {ρ : Type} (K : Exit → St → Option ρ) (W : List AV → List Ob → Option ρ) (v1 v2 v3 v4 v5) : exC Try.prog (G Q0 Q1) (L W0) [] 1 c0 (mkS 77 [8, 9, 10, 11, 12] [.c (.h 0), vi v1, .c (.h 1), .c (.h 2), vi v2] [ro v3, ro v4, ro v5] []) (bodyK Try.prog 77 0 [] ct0 W lv0 K) =
    B0 (fun y1 => Q1 [vl y1]) v1 v2 v3 v4 v5 (fun u1 u2 u3 u4 u5 => W [.c (.h 0), vi u1, .c (.h 1), .c (.h 2), vi u2] [ro u3, ro u4, ro u5]) (fun z1 z2 => K (.exit 0) (mkS 77 [9, 10] [vi z1, .c (.h 0)] [ro z2] [])) := by kernel_rfl
def enc0 (t : Int × Int × (Vec (Int × Int × Int × ByteArray)) × (Vec (Bool × (Vec ByteArray) × (Vec ByteArray) × (Vec ByteArray))) × (Vec (Int × Int × Int × ByteArray))) : List AV × List Ob := ([.c (.h 0), vi t.1, .c (.h 1), .c (.h 2), vi t.2.1], [ro t.2.2.1, ro t.2.2.2.1, ro t.2.2.2.2])
theorem enc0I : ∀ a b, enc0 a = enc0 b → a = b := by
  intro a b h
  obtain ⟨a0, a1, a2, a3, a4⟩ := a
  obtain ⟨b0, b1, b2, b3, b4⟩ := b
  simp [enc0, encRw_iff] at h
  simp_all
noncomputable def V0 : (ρ : Type) → List AV → List Ob → (Int → (Vec (Bool × (Vec ByteArray) × (Vec ByteArray) × (Vec ByteArray))) → Option ρ) → Option ρ := fun ρ avs obs k0 => ofC enc0 (fun t => F0 fuelN t.1 t.2.1 t.2.2.1 t.2.2.2.1 t.2.2.2.2 k0) (avs, obs)
theorem V0_enc (ρ : Type) : (fun w1 w2 w3 w4 w5 k0 => V0 ρ [.c (.h 0), vi w1, .c (.h 1), .c (.h 2), vi w2] [ro w3, ro w4, ro w5] k0) = F0 fuelN := by
  funext w1 w2 w3 w4 w5 k0
  exact ofC_enc enc0I _ (w1, w2, w3, w4, w5)
theorem main (Q0 Q1) (W0) {ρ : Type} (K : AV → List Ob → Option ρ) (a1 a2 a3 a4) : exC Try.prog (G Q0 Q1) (L W0) [] 0 (bodyOf Try.f20) (entry 77 [.a [cl a1, cl a2], vi a3, vi a4] [] []) (finO Try.prog Try.f20.results.toList 0 [] [] K) =
    B (fun y1 y2 y3 y4 => Q0 [.a [cl y1, cl y2], vi y3, vi y4]) (fun w1 w2 w3 w4 w5 k0 => W0 ρ [.c (.h 0), vi w1, .c (.h 1), .c (.h 2), vi w2] [ro w3, ro w4, ro w5] k0) a1 a2 a3 a4 (fun x1 x2 => K (.tup [.c (.h 0), .c (ci x1)]) [ro x2]) := by kernel_rfl
theorem Gok : (G spec_MarksOf.Q spec_l11Region.Q).ok Try.prog := ⟨(by
    intro ρ f args K r h
    rcases sel_cases h with ⟨hb, h⟩ | ⟨-, h⟩
    · obtain rfl := beq_nat hb
      exact qEntry_ok spec_MarksOf.ac h
    rcases sel_cases h with ⟨hb, h⟩ | ⟨-, h⟩
    · obtain rfl := beq_nat hb
      exact qEntry_ok spec_l11Region.ac h
    cases h),
  (by
    intro ρ f args K
    simp only [G]
    cases Nat.beq f 55 with
    | true => exact qEntry_nat args K
    | false =>
    simp only [sel]
    cases Nat.beq f 56 with
    | true => exact qEntry_nat args K
    | false =>
    simp only [sel]
    rfl),
  (fun ρ f st caps args dst K r h => (by cases h))⟩
theorem hm : Try.prog.follows .mixedOrders = true := by kernel_rfl
theorem e0 : atomsL [] 1 c0 = [] := by kernel_rfl
theorem ok0 (ρ : Type) (st : St) (K : Exit → St → Option ρ) (r : ρ) (h : (L V0) ρ 0 st K = some r) : AW Try.prog (.loop c0) st fun e st' => K e st' = some r := by
  refine loop_ok (ct := ct0) (lv := lv0) (n := 77) (m := 0) (ks := []) (j := 0) (jn := []) (L := (L V0)) Gok hm (by rw [e0]; exact Lor.ok_nil _ _) enc0I (fun k t => F0 k t.1 t.2.1 t.2.2.1 t.2.2.2.1 t.2.2.2.2 (fun z1 z2 => K (.exit 0) (mkS 77 [9, 10] [vi z1, .c (.h 0)] [ro z2] []))) (fun t => rfl) (fun k t => ?_) (fun _ => fuelN) h
  refine (step0 spec_MarksOf.Q spec_l11Region.Q V0 K _ t.1 t.2.1 t.2.2.1 t.2.2.2.1 t.2.2.2.2).trans ?_
  rw [spec_l11Region.wrap]
  refine congrArg (fun W => B0 spec_l11Region.F t.1 t.2.1 t.2.2.1 t.2.2.2.1 t.2.2.2.2 W (fun z1 z2 => K (.exit 0) (mkS 77 [9, 10] [vi z1, .c (.h 0)] [ro z2] []))) ?_
  funext u1 u2 u3 u4 u5
  exact ofC_enc enc0I _ (u1, u2, u3, u4, u5)
theorem e : atomsL [] 0 (bodyOf Try.f20) = [(0, 0, .loop c0)] := by kernel_rfl
theorem acc (t : Vec (Vec Int) × (Vec (ByteArray × Int × Int × (Vec Int))) × Int × Int) (x : Int × (Vec (Bool × (Vec ByteArray) × (Vec ByteArray) × (Vec ByteArray)))) (h : F t.1 t.2.1 t.2.2.1 t.2.2.2 = some x) : ACc Try.prog 20 (encA t) [] true [] fun rv obs => (rv, obs) = encR x := by
  refine fun_okc (L := (L V0)) (jn := []) (cmds := []) (ks := []) (hin := []) (fn := Try.f20) (body := (bodyOf Try.f20)) Gok hm Try.func20 (by kernel_rfl) (by kernel_rfl) (by rw [e]; exact Lor.ok_cons ok0 (Lor.ok_nil _ _)) ?_ h
  refine (main spec_MarksOf.Q spec_l11Region.Q V0 _ t.1 t.2.1 t.2.2.1 t.2.2.2).trans ?_
  rw [spec_MarksOf.wrap, V0_enc]
  refine congrArg (fun K => B spec_MarksOf.F (F0 fuelN) t.1 t.2.1 t.2.2.1 t.2.2.2 K) ?_
  funext x1 x2
  exact ofC_enc encRI some (x1, x2)
theorem ac0 (t : Vec (Vec Int) × (Vec (ByteArray × Int × Int × (Vec Int))) × Int × Int) (x : Int × (Vec (Bool × (Vec ByteArray) × (Vec ByteArray) × (Vec ByteArray)))) (h : F t.1 t.2.1 t.2.2.1 t.2.2.2 = some x) : AC Try.prog 20 (encA t) [] true [] fun rv obs => (rv, obs) = encR x := ACc.ac (body := bodyOf Try.f20) Try.func20 (by kernel_rfl) (by kernel_rfl) (acc t x h)
theorem ac (args : List AV) (x : Int × (Vec (Bool × (Vec ByteArray) × (Vec ByteArray) × (Vec ByteArray)))) (h : Q args = some x) : AC Try.prog 20 args [] false [] fun rv obs => (rv, obs) = encR x := by
  obtain ⟨t, rfl, h2⟩ := ofC_some h
  refine (ac0 t x h2).flat fun rv obs e => ?_
  obtain rfl : rv = (encR x).1 := congrArg Prod.fst e
  obtain rfl : obs = (encR x).2 := congrArg Prod.snd e
  refine ⟨by simp [encR, AV.Flat, K.Flat, C.Flat], ?_⟩
  intro o ho
  simp only [encR, List.mem_cons, List.not_mem_nil, or_false] at ho
  subst ho
  exact flat_rw rfl _
end spec_RegionsOf
/-! loop.example/g00073/impl.regionOf -/
namespace impl_regionOf
noncomputable def B0 {ρ : Type} (v1 : Bool) (v2 : Bool) (v3 : Vec (Int × Int × Int × ByteArray)) (v4 : Int) (v5 : Int) (v6 : Bool) (v7 : Bool) (v8 : Vec ByteArray) (v9 : Vec ByteArray) (v10 : Vec ByteArray) (W : Bool → Bool → (Vec (Int × Int × Int × ByteArray)) → Int → Int → Bool → Bool → (Vec ByteArray) → (Vec ByteArray) → (Vec ByteArray) → Option ρ) (K0 : Bool → Bool → Bool → Bool → (Vec ByteArray) → (Vec ByteArray) → (Vec ByteArray) → Option ρ) : Option ρ :=
  let d1 := (Vec.lit [(v3.g v5.toNat).2.2.2] : Vec ByteArray)
  let d2 := (decide ((v3.g v5.toNat).1 = (5 : Int)))
  let d3 := (decide ((v9.n + d1.n) * 17 ≤ maxN))
  let d4 := (wr (v5 + (1 : Int)))
  let d5 := (decide ((v3.g v5.toNat).1 = (2 : Int)))
  let d6 := (decide ((v3.g v5.toNat).1 = (4 : Int)))
  let d7 := (decide ((v10.n + d1.n) * 17 ≤ maxN))
  let d8 := (decide ((v8.n + d1.n) * 17 ≤ maxN))
  let d9 := (decide ((v3.g v5.toNat).1 = (3 : Int)))
  sel (decide (v5 < v4)) (chk (decide (0 ≤ v5 ∧ v5 < (v3.n : Int))) (sel (v1) (sel (v2) (sel d5 (chk d8 (sel d5 (chk d3 (W true true v3 v4 d4 v6 v7 (Vec.app v8 d1) (Vec.app v9 d1) v10)) (sel d2 (chk d3 (W true true v3 v4 d4 v6 v7 (Vec.app v8 d1) (Vec.app v9 d1) v10)) (chk d7 (W true true v3 v4 d4 v6 v7 (Vec.app v8 d1) v9 (Vec.app v10 d1)))))) (sel d9 (chk d8 (sel d5 (chk d3 (W true true v3 v4 d4 v6 v7 (Vec.app v8 d1) (Vec.app v9 d1) v10)) (sel d2 (chk d3 (W true true v3 v4 d4 v6 v7 (Vec.app v8 d1) (Vec.app v9 d1) v10)) (chk d7 (W true true v3 v4 d4 v6 v7 (Vec.app v8 d1) v9 (Vec.app v10 d1)))))) (sel d5 (chk d3 (W true true v3 v4 d4 v6 v7 v8 (Vec.app v9 d1) v10)) (sel d2 (chk d3 (W true true v3 v4 d4 v6 v7 v8 (Vec.app v9 d1) v10)) (chk d7 (W true true v3 v4 d4 v6 v7 v8 v9 (Vec.app v10 d1))))))) (sel d9 (sel d5 (chk d8 (sel d5 (chk d3 (W true true v3 v4 d4 v6 v7 (Vec.app v8 d1) (Vec.app v9 d1) v10)) (sel d2 (chk d3 (W true true v3 v4 d4 v6 v7 (Vec.app v8 d1) (Vec.app v9 d1) v10)) (chk d7 (W true true v3 v4 d4 v6 v7 (Vec.app v8 d1) v9 (Vec.app v10 d1)))))) (sel d9 (chk d8 (sel d5 (chk d3 (W true true v3 v4 d4 v6 v7 (Vec.app v8 d1) (Vec.app v9 d1) v10)) (sel d2 (chk d3 (W true true v3 v4 d4 v6 v7 (Vec.app v8 d1) (Vec.app v9 d1) v10)) (chk d7 (W true true v3 v4 d4 v6 v7 (Vec.app v8 d1) v9 (Vec.app v10 d1)))))) (sel d5 (chk d3 (W true true v3 v4 d4 v6 v7 v8 (Vec.app v9 d1) v10)) (sel d2 (chk d3 (W true true v3 v4 d4 v6 v7 v8 (Vec.app v9 d1) v10)) (chk d7 (W true true v3 v4 d4 v6 v7 v8 v9 (Vec.app v10 d1))))))) (sel d5 (chk d8 (sel d5 (chk d3 (W true d2 v3 v4 d4 v6 v7 (Vec.app v8 d1) (Vec.app v9 d1) v10)) (sel d2 (chk d3 (W true d2 v3 v4 d4 v6 v7 (Vec.app v8 d1) (Vec.app v9 d1) v10)) (chk d7 (W true d2 v3 v4 d4 v6 v7 (Vec.app v8 d1) v9 (Vec.app v10 d1)))))) (sel d9 (chk d8 (sel d5 (chk d3 (W true d2 v3 v4 d4 v6 v7 (Vec.app v8 d1) (Vec.app v9 d1) v10)) (sel d2 (chk d3 (W true d2 v3 v4 d4 v6 v7 (Vec.app v8 d1) (Vec.app v9 d1) v10)) (chk d7 (W true d2 v3 v4 d4 v6 v7 (Vec.app v8 d1) v9 (Vec.app v10 d1)))))) (sel d5 (chk d3 (W true d2 v3 v4 d4 v6 v7 v8 (Vec.app v9 d1) v10)) (sel d2 (chk d3 (W true d2 v3 v4 d4 v6 v7 v8 (Vec.app v9 d1) v10)) (chk d7 (W true d2 v3 v4 d4 v6 v7 v8 v9 (Vec.app v10 d1))))))))) (sel d5 (sel (v2) (sel d5 (chk d8 (sel d5 (chk d3 (W true true v3 v4 d4 v6 v7 (Vec.app v8 d1) (Vec.app v9 d1) v10)) (sel d2 (chk d3 (W true true v3 v4 d4 v6 v7 (Vec.app v8 d1) (Vec.app v9 d1) v10)) (chk d7 (W true true v3 v4 d4 v6 v7 (Vec.app v8 d1) v9 (Vec.app v10 d1)))))) (sel d9 (chk d8 (sel d5 (chk d3 (W true true v3 v4 d4 v6 v7 (Vec.app v8 d1) (Vec.app v9 d1) v10)) (sel d2 (chk d3 (W true true v3 v4 d4 v6 v7 (Vec.app v8 d1) (Vec.app v9 d1) v10)) (chk d7 (W true true v3 v4 d4 v6 v7 (Vec.app v8 d1) v9 (Vec.app v10 d1)))))) (sel d5 (chk d3 (W true true v3 v4 d4 v6 v7 v8 (Vec.app v9 d1) v10)) (sel d2 (chk d3 (W true true v3 v4 d4 v6 v7 v8 (Vec.app v9 d1) v10)) (chk d7 (W true true v3 v4 d4 v6 v7 v8 v9 (Vec.app v10 d1))))))) (sel d9 (sel d5 (chk d8 (sel d5 (chk d3 (W true true v3 v4 d4 v6 v7 (Vec.app v8 d1) (Vec.app v9 d1) v10)) (sel d2 (chk d3 (W true true v3 v4 d4 v6 v7 (Vec.app v8 d1) (Vec.app v9 d1) v10)) (chk d7 (W true true v3 v4 d4 v6 v7 (Vec.app v8 d1) v9 (Vec.app v10 d1)))))) (sel d9 (chk d8 (sel d5 (chk d3 (W true true v3 v4 d4 v6 v7 (Vec.app v8 d1) (Vec.app v9 d1) v10)) (sel d2 (chk d3 (W true true v3 v4 d4 v6 v7 (Vec.app v8 d1) (Vec.app v9 d1) v10)) (chk d7 (W true true v3 v4 d4 v6 v7 (Vec.app v8 d1) v9 (Vec.app v10 d1)))))) (sel d5 (chk d3 (W true true v3 v4 d4 v6 v7 v8 (Vec.app v9 d1) v10)) (sel d2 (chk d3 (W true true v3 v4 d4 v6 v7 v8 (Vec.app v9 d1) v10)) (chk d7 (W true true v3 v4 d4 v6 v7 v8 v9 (Vec.app v10 d1))))))) (sel d5 (chk d8 (sel d5 (chk d3 (W true d2 v3 v4 d4 v6 v7 (Vec.app v8 d1) (Vec.app v9 d1) v10)) (sel d2 (chk d3 (W true d2 v3 v4 d4 v6 v7 (Vec.app v8 d1) (Vec.app v9 d1) v10)) (chk d7 (W true d2 v3 v4 d4 v6 v7 (Vec.app v8 d1) v9 (Vec.app v10 d1)))))) (sel d9 (chk d8 (sel d5 (chk d3 (W true d2 v3 v4 d4 v6 v7 (Vec.app v8 d1) (Vec.app v9 d1) v10)) (sel d2 (chk d3 (W true d2 v3 v4 d4 v6 v7 (Vec.app v8 d1) (Vec.app v9 d1) v10)) (chk d7 (W true d2 v3 v4 d4 v6 v7 (Vec.app v8 d1) v9 (Vec.app v10 d1)))))) (sel d5 (chk d3 (W true d2 v3 v4 d4 v6 v7 v8 (Vec.app v9 d1) v10)) (sel d2 (chk d3 (W true d2 v3 v4 d4 v6 v7 v8 (Vec.app v9 d1) v10)) (chk d7 (W true d2 v3 v4 d4 v6 v7 v8 v9 (Vec.app v10 d1))))))))) (sel (v2) (sel d5 (chk d8 (sel d5 (chk d3 (W d6 true v3 v4 d4 v6 v7 (Vec.app v8 d1) (Vec.app v9 d1) v10)) (sel d2 (chk d3 (W d6 true v3 v4 d4 v6 v7 (Vec.app v8 d1) (Vec.app v9 d1) v10)) (chk d7 (W d6 true v3 v4 d4 v6 v7 (Vec.app v8 d1) v9 (Vec.app v10 d1)))))) (sel d9 (chk d8 (sel d5 (chk d3 (W d6 true v3 v4 d4 v6 v7 (Vec.app v8 d1) (Vec.app v9 d1) v10)) (sel d2 (chk d3 (W d6 true v3 v4 d4 v6 v7 (Vec.app v8 d1) (Vec.app v9 d1) v10)) (chk d7 (W d6 true v3 v4 d4 v6 v7 (Vec.app v8 d1) v9 (Vec.app v10 d1)))))) (sel d5 (chk d3 (W d6 true v3 v4 d4 v6 v7 v8 (Vec.app v9 d1) v10)) (sel d2 (chk d3 (W d6 true v3 v4 d4 v6 v7 v8 (Vec.app v9 d1) v10)) (chk d7 (W d6 true v3 v4 d4 v6 v7 v8 v9 (Vec.app v10 d1))))))) (sel d9 (sel d5 (chk d8 (sel d5 (chk d3 (W d6 true v3 v4 d4 v6 v7 (Vec.app v8 d1) (Vec.app v9 d1) v10)) (sel d2 (chk d3 (W d6 true v3 v4 d4 v6 v7 (Vec.app v8 d1) (Vec.app v9 d1) v10)) (chk d7 (W d6 true v3 v4 d4 v6 v7 (Vec.app v8 d1) v9 (Vec.app v10 d1)))))) (sel d9 (chk d8 (sel d5 (chk d3 (W d6 true v3 v4 d4 v6 v7 (Vec.app v8 d1) (Vec.app v9 d1) v10)) (sel d2 (chk d3 (W d6 true v3 v4 d4 v6 v7 (Vec.app v8 d1) (Vec.app v9 d1) v10)) (chk d7 (W d6 true v3 v4 d4 v6 v7 (Vec.app v8 d1) v9 (Vec.app v10 d1)))))) (sel d5 (chk d3 (W d6 true v3 v4 d4 v6 v7 v8 (Vec.app v9 d1) v10)) (sel d2 (chk d3 (W d6 true v3 v4 d4 v6 v7 v8 (Vec.app v9 d1) v10)) (chk d7 (W d6 true v3 v4 d4 v6 v7 v8 v9 (Vec.app v10 d1))))))) (sel d5 (chk d8 (sel d5 (chk d3 (W d6 d2 v3 v4 d4 v6 v7 (Vec.app v8 d1) (Vec.app v9 d1) v10)) (sel d2 (chk d3 (W d6 d2 v3 v4 d4 v6 v7 (Vec.app v8 d1) (Vec.app v9 d1) v10)) (chk d7 (W d6 d2 v3 v4 d4 v6 v7 (Vec.app v8 d1) v9 (Vec.app v10 d1)))))) (sel d9 (chk d8 (sel d5 (chk d3 (W d6 d2 v3 v4 d4 v6 v7 (Vec.app v8 d1) (Vec.app v9 d1) v10)) (sel d2 (chk d3 (W d6 d2 v3 v4 d4 v6 v7 (Vec.app v8 d1) (Vec.app v9 d1) v10)) (chk d7 (W d6 d2 v3 v4 d4 v6 v7 (Vec.app v8 d1) v9 (Vec.app v10 d1)))))) (sel d5 (chk d3 (W d6 d2 v3 v4 d4 v6 v7 v8 (Vec.app v9 d1) v10)) (sel d2 (chk d3 (W d6 d2 v3 v4 d4 v6 v7 v8 (Vec.app v9 d1) v10)) (chk d7 (W d6 d2 v3 v4 d4 v6 v7 v8 v9 (Vec.app v10 d1)))))))))))) (K0 v1 v2 v6 v7 v8 v9 v10)
noncomputable def F0 {ρ : Type} : Nat → Bool → Bool → (Vec (Int × Int × Int × ByteArray)) → Int → Int → Bool → Bool → (Vec ByteArray) → (Vec ByteArray) → (Vec ByteArray) → (Bool → Bool → Bool → Bool → (Vec ByteArray) → (Vec ByteArray) → (Vec ByteArray) → Option ρ) → Option ρ
  | 0, _, _, _, _, _, _, _, _, _, _, _ => none
  | k + 1, v1, v2, v3, v4, v5, v6, v7, v8, v9, v10, K0 => B0 v1 v2 v3 v4 v5 v6 v7 v8 v9 v10 (fun v1' v2' v3' v4' v5' v6' v7' v8' v9' v10' => F0 k v1' v2' v3' v4' v5' v6' v7' v8' v9' v10' K0) K0
noncomputable def B {ρ : Type} (L0 : Bool → Bool → (Vec (Int × Int × Int × ByteArray)) → Int → Int → Bool → Bool → (Vec ByteArray) → (Vec ByteArray) → (Vec ByteArray) → (Bool → Bool → Bool → Bool → (Vec ByteArray) → (Vec ByteArray) → (Vec ByteArray) → Option ρ) → Option ρ) (a1 : Vec (Int × Int × Int × ByteArray)) (K : Bool → (Vec ByteArray) → (Vec ByteArray) → (Vec ByteArray) → Option ρ) : Option ρ :=
  L0 false false a1 (a1.n : Int) (0 : Int) false false (Vec.nil : Vec ByteArray) (Vec.nil : Vec ByteArray) (Vec.nil : Vec ByteArray) (fun e01 e02 e03 e04 e05 e06 e07 => sel (e01) (sel (e02) (K true (Vec.nil : Vec ByteArray) e06 e07) (K e04 e05 e06 e07)) (K e04 e05 e06 e07))
noncomputable def F (a1 : Vec (Int × Int × Int × ByteArray)) : Option (Bool × Vec ByteArray × Vec ByteArray × Vec ByteArray) := B (F0 fuelN) a1 (fun x1 x2 x3 x4 => some (x1, x2, x3, x4))
def encA (t : Vec (Int × Int × Int × ByteArray)) : List AV := [vl t]
def encR (x : Bool × Vec ByteArray × Vec ByteArray × Vec ByteArray) : AV × List Ob := (.a [cb x.1, .h 0, .h 1, .h 2], [ro x.2.1, ro x.2.2.1, ro x.2.2.2])
theorem encAI : ∀ a b, encA a = encA b → a = b := by
  intro a b h
  simp [encA, encRw_iff] at h
  simp_all
theorem encRI : ∀ a b, encR a = encR b → a = b := by
  intro a b h
  obtain ⟨a0, a1, a2, a3⟩ := a
  obtain ⟨b0, b1, b2, b3⟩ := b
  simp [encR, encRw_iff] at h
  simp_all
noncomputable def Q (args : List AV) : Option (Bool × Vec ByteArray × Vec ByteArray × Vec ByteArray) := ofC encA (fun t => F t) args
theorem wrap : (fun (y1 : Vec (Int × Int × Int × ByteArray)) => Q [vl y1]) = F := by
  funext y1
  exact ofC_enc encAI _ (y1)
noncomputable def G : Orc := ⟨fun f => 9, fun ρ f args K => Option.none, noE, false⟩
noncomputable def L (W0 : (ρ : Type) → List AV → List Ob → (Bool → Bool → Bool → Bool → (Vec ByteArray) → (Vec ByteArray) → (Vec ByteArray) → Option ρ) → Option ρ) : Lor := fun ρ j st K => sel (Nat.beq j 0) (cutO Try.prog 82 [2, 3, 4, 5, 9, 10, 11] 0 [] [.ad (.p 3 1) 51, .ad (.p 3 2) 51, .ad (.p 3 3) 51] st fun avs obs => W0 ρ avs obs (fun z1 z2 z3 z4 z5 z6 z7 => K (.exit 0) (mkS 82 [2, 3, 4, 5] [.c (.p 0 0), .c (.p 1 0), vb z1, vb z2] [.box [cb z3, .z, .z, .z], .box [cb z4, .h 2, .h 3, .h 4], ro z5, ro z6, ro z7] []))) (Option.none)
noncomputable def c0 : Code := loopC (atomN [] 0 (bodyOf Try.f108) 0)
def ct0 : Cut := ⟨[2, 3, 4, 5, 9, 10, 11], [.ad (.p 3 1) 51, .ad (.p 3 2) 51, .ad (.p 3 3) 51]⟩
def lv0 : Exit → Cut
  | .exit 0 => ⟨[2, 3, 4, 5], []⟩
  | _ => ⟨[], []⟩
theorem step0 (W0) {ρ : Type} (K : Exit → St → Option ρ) (W : List AV → List Ob → Option ρ) (v1 v2 v3 v4 v5 v6 v7 v8 v9 v10) : exC Try.prog (G) (L W0) [] 1 c0 (mkS 82 [2, 3, 4, 5, 9, 10, 11] [.c (.p 0 0), .c (.p 1 0), vb v1, vb v2, vl v3, vi v4, vi v5] [.box [cb v6, .z, .z, .z], .box [cb v7, .h 2, .h 3, .h 4], ro v8, ro v9, ro v10] []) (bodyK Try.prog 82 0 [] ct0 W lv0 K) =
    B0 v1 v2 v3 v4 v5 v6 v7 v8 v9 v10 (fun u1 u2 u3 u4 u5 u6 u7 u8 u9 u10 => W [.c (.p 0 0), .c (.p 1 0), vb u1, vb u2, vl u3, vi u4, vi u5] [.box [cb u6, .z, .z, .z], .box [cb u7, .h 2, .h 3, .h 4], ro u8, ro u9, ro u10]) (fun z1 z2 z3 z4 z5 z6 z7 => K (.exit 0) (mkS 82 [2, 3, 4, 5] [.c (.p 0 0), .c (.p 1 0), vb z1, vb z2] [.box [cb z3, .z, .z, .z], .box [cb z4, .h 2, .h 3, .h 4], ro z5, ro z6, ro z7] [])) := by kernel_rfl
def enc0 (t : Bool × Bool × (Vec (Int × Int × Int × ByteArray)) × Int × Int × Bool × Bool × Vec ByteArray × Vec ByteArray × Vec ByteArray) : List AV × List Ob := ([.c (.p 0 0), .c (.p 1 0), vb t.1, vb t.2.1, vl t.2.2.1, vi t.2.2.2.1, vi t.2.2.2.2.1], [.box [cb t.2.2.2.2.2.1, .z, .z, .z], .box [cb t.2.2.2.2.2.2.1, .h 2, .h 3, .h 4], ro t.2.2.2.2.2.2.2.1, ro t.2.2.2.2.2.2.2.2.1, ro t.2.2.2.2.2.2.2.2.2])
theorem enc0I : ∀ a b, enc0 a = enc0 b → a = b := by
  intro a b h
  obtain ⟨a0, a1, a2, a3, a4, a5, a6, a7, a8, a9⟩ := a
  obtain ⟨b0, b1, b2, b3, b4, b5, b6, b7, b8, b9⟩ := b
  simp [enc0, encRw_iff] at h
  simp_all
noncomputable def V0 : (ρ : Type) → List AV → List Ob → (Bool → Bool → Bool → Bool → (Vec ByteArray) → (Vec ByteArray) → (Vec ByteArray) → Option ρ) → Option ρ := fun ρ avs obs k0 => ofC enc0 (fun t => F0 fuelN t.1 t.2.1 t.2.2.1 t.2.2.2.1 t.2.2.2.2.1 t.2.2.2.2.2.1 t.2.2.2.2.2.2.1 t.2.2.2.2.2.2.2.1 t.2.2.2.2.2.2.2.2.1 t.2.2.2.2.2.2.2.2.2 k0) (avs, obs)
theorem V0_enc (ρ : Type) : (fun w1 w2 w3 w4 w5 w6 w7 w8 w9 w10 k0 => V0 ρ [.c (.p 0 0), .c (.p 1 0), vb w1, vb w2, vl w3, vi w4, vi w5] [.box [cb w6, .z, .z, .z], .box [cb w7, .h 2, .h 3, .h 4], ro w8, ro w9, ro w10] k0) = F0 fuelN := by
  funext w1 w2 w3 w4 w5 w6 w7 w8 w9 w10 k0
  exact ofC_enc enc0I _ (w1, w2, w3, w4, w5, w6, w7, w8, w9, w10)
theorem main (W0) {ρ : Type} (K : AV → List Ob → Option ρ) (a1) : exC Try.prog (G) (L W0) [] 0 (bodyOf Try.f108) (entry 82 [vl a1] [] []) (finO Try.prog Try.f108.results.toList 0 [] [.ad (.p 2 1) 51] K) =
    B (fun w1 w2 w3 w4 w5 w6 w7 w8 w9 w10 k0 => W0 ρ [.c (.p 0 0), .c (.p 1 0), vb w1, vb w2, vl w3, vi w4, vi w5] [.box [cb w6, .z, .z, .z], .box [cb w7, .h 2, .h 3, .h 4], ro w8, ro w9, ro w10] k0) a1 (fun x1 x2 x3 x4 => K (.a [cb x1, .h 0, .h 1, .h 2]) [ro x2, ro x3, ro x4]) := by kernel_rfl
theorem Gok : (G).ok Try.prog := ⟨(fun ρ f args K r h => (by cases h)),
  (fun ρ f args K => rfl),
  (fun ρ f st caps args dst K r h => (by cases h))⟩
theorem hm : Try.prog.follows .mixedOrders = true := by kernel_rfl
theorem e0 : atomsL [] 1 c0 = [] := by kernel_rfl
theorem ok0 (ρ : Type) (st : St) (K : Exit → St → Option ρ) (r : ρ) (h : (L V0) ρ 0 st K = some r) : AW Try.prog (.loop c0) st fun e st' => K e st' = some r := by
  refine loop_ok (ct := ct0) (lv := lv0) (n := 82) (m := 0) (ks := []) (j := 0) (jn := []) (L := (L V0)) Gok hm (by rw [e0]; exact Lor.ok_nil _ _) enc0I (fun k t => F0 k t.1 t.2.1 t.2.2.1 t.2.2.2.1 t.2.2.2.2.1 t.2.2.2.2.2.1 t.2.2.2.2.2.2.1 t.2.2.2.2.2.2.2.1 t.2.2.2.2.2.2.2.2.1 t.2.2.2.2.2.2.2.2.2 (fun z1 z2 z3 z4 z5 z6 z7 => K (.exit 0) (mkS 82 [2, 3, 4, 5] [.c (.p 0 0), .c (.p 1 0), vb z1, vb z2] [.box [cb z3, .z, .z, .z], .box [cb z4, .h 2, .h 3, .h 4], ro z5, ro z6, ro z7] []))) (fun t => rfl) (fun k t => ?_) (fun _ => fuelN) h
  refine (step0 V0 K _ t.1 t.2.1 t.2.2.1 t.2.2.2.1 t.2.2.2.2.1 t.2.2.2.2.2.1 t.2.2.2.2.2.2.1 t.2.2.2.2.2.2.2.1 t.2.2.2.2.2.2.2.2.1 t.2.2.2.2.2.2.2.2.2).trans ?_
  refine congrArg (fun W => B0 t.1 t.2.1 t.2.2.1 t.2.2.2.1 t.2.2.2.2.1 t.2.2.2.2.2.1 t.2.2.2.2.2.2.1 t.2.2.2.2.2.2.2.1 t.2.2.2.2.2.2.2.2.1 t.2.2.2.2.2.2.2.2.2 W (fun z1 z2 z3 z4 z5 z6 z7 => K (.exit 0) (mkS 82 [2, 3, 4, 5] [.c (.p 0 0), .c (.p 1 0), vb z1, vb z2] [.box [cb z3, .z, .z, .z], .box [cb z4, .h 2, .h 3, .h 4], ro z5, ro z6, ro z7] []))) ?_
  funext u1 u2 u3 u4 u5 u6 u7 u8 u9 u10
  exact ofC_enc enc0I _ (u1, u2, u3, u4, u5, u6, u7, u8, u9, u10)
theorem e : atomsL [] 0 (bodyOf Try.f108) = [(0, 0, .loop c0)] := by kernel_rfl
theorem acc (t : Vec (Int × Int × Int × ByteArray)) (x : Bool × Vec ByteArray × Vec ByteArray × Vec ByteArray) (h : F t = some x) : ACc Try.prog 108 (encA t) [] true [] fun rv obs => (rv, obs) = encR x := by
  refine fun_okc (L := (L V0)) (jn := []) (cmds := [.ad (.p 2 1) 51]) (ks := []) (hin := []) (fn := Try.f108) (body := (bodyOf Try.f108)) Gok hm Try.func108 (by kernel_rfl) (by kernel_rfl) (by rw [e]; exact Lor.ok_cons ok0 (Lor.ok_nil _ _)) ?_ h
  refine (main V0 _ t).trans ?_
  rw [V0_enc]
  refine congrArg (fun K => B (F0 fuelN) t K) ?_
  funext x1 x2 x3 x4
  exact ofC_enc encRI some (x1, x2, x3, x4)
theorem ac0 (t : Vec (Int × Int × Int × ByteArray)) (x : Bool × Vec ByteArray × Vec ByteArray × Vec ByteArray) (h : F t = some x) : AC Try.prog 108 (encA t) [] true [] fun rv obs => (rv, obs) = encR x := ACc.ac (body := bodyOf Try.f108) Try.func108 (by kernel_rfl) (by kernel_rfl) (acc t x h)
theorem ac (args : List AV) (x : Bool × Vec ByteArray × Vec ByteArray × Vec ByteArray) (h : Q args = some x) : AC Try.prog 108 args [] false [] fun rv obs => (rv, obs) = encR x := by
  obtain ⟨t, rfl, h2⟩ := ofC_some h
  refine (ac0 t x h2).flat fun rv obs e => ?_
  obtain rfl : rv = (encR x).1 := congrArg Prod.fst e
  obtain rfl : obs = (encR x).2 := congrArg Prod.snd e
  refine ⟨by simp [encR, AV.Flat, K.Flat, C.Flat], ?_⟩
  intro o ho
  simp only [encR, List.mem_cons, List.not_mem_nil, or_false] at ho
  rcases ho with rfl | rfl | rfl
  · exact flat_rw rfl _
  · exact flat_rw rfl _
  · exact flat_rw rfl _
end impl_regionOf
/-! (*loop.example/g00073/impl.Weave).regionsOf$1 -/
namespace impl_Weave_regionsOf_1_sfaa7
noncomputable def B {ρ : Type} (C0 : (Vec (Int × Int × Int × ByteArray)) → Option (Bool × Vec ByteArray × Vec ByteArray × Vec ByteArray)) (a1 : Vec (Int × Int × Int × ByteArray)) (a2 : Vec (Bool × (Vec ByteArray) × (Vec ByteArray) × (Vec ByteArray))) (K : (Vec (Int × Int × Int × ByteArray)) → (Vec (Bool × (Vec ByteArray) × (Vec ByteArray) × (Vec ByteArray))) → Option ρ) : Option ρ :=
  sel (decide ((0 : Int) < (a1.n : Int))) ((C0 a1).bind fun r1 => chk (decide ((a2.n + (Vec.lit [(r1.1, r1.2.1, r1.2.2.1, r1.2.2.2)] : Vec (Bool × (Vec ByteArray) × (Vec ByteArray) × (Vec ByteArray))).n) * 81 ≤ maxN)) (K a1 (Vec.app a2 (Vec.lit [(r1.1, r1.2.1, r1.2.2.1, r1.2.2.2)] : Vec (Bool × (Vec ByteArray) × (Vec ByteArray) × (Vec ByteArray)))))) (K a1 a2)
noncomputable def F (a1 : Vec (Int × Int × Int × ByteArray)) (a2 : Vec (Bool × (Vec ByteArray) × (Vec ByteArray) × (Vec ByteArray))) : Option ((Vec (Int × Int × Int × ByteArray)) × (Vec (Bool × (Vec ByteArray) × (Vec ByteArray) × (Vec ByteArray)))) := B impl_regionOf.F a1 a2 (fun x1 x2 => some (x1, x2))
def encA (t : (Vec (Int × Int × Int × ByteArray)) × (Vec (Bool × (Vec ByteArray) × (Vec ByteArray) × (Vec ByteArray)))) : List AV × List Ob := ([.c (.p 0 0), .c (.p 1 0)], [.box [.h 2], .box [.h 3], ro t.1, ro t.2])
def encR (x : (Vec (Int × Int × Int × ByteArray)) × (Vec (Bool × (Vec ByteArray) × (Vec ByteArray) × (Vec ByteArray)))) : AV × List Ob := (.tup [], [.box [.z], .box [.h 3], ro x.1, ro x.2])
theorem encAI : ∀ a b, encA a = encA b → a = b := by
  intro a b h
  obtain ⟨a0, a1⟩ := a
  obtain ⟨b0, b1⟩ := b
  simp [encA, encRw_iff] at h
  simp_all
theorem encRI : ∀ a b, encR a = encR b → a = b := by
  intro a b h
  obtain ⟨a0, a1⟩ := a
  obtain ⟨b0, b1⟩ := b
  simp [encR, encRw_iff] at h
  simp_all
noncomputable def Q (args : List AV) (hin : List Ob) : Option ((Vec (Int × Int × Int × ByteArray)) × (Vec (Bool × (Vec ByteArray) × (Vec ByteArray) × (Vec ByteArray)))) := ofC encA (fun t => F t.1 t.2) (args, hin)
theorem wrap : (fun (y1 : Vec (Int × Int × Int × ByteArray)) (y2 : Vec (Bool × (Vec ByteArray) × (Vec ByteArray) × (Vec ByteArray))) => Q [.c (.p 0 0), .c (.p 1 0)] [.box [.h 2], .box [.h 3], ro y1, ro y2]) = F := by
  funext y1 y2
  exact ofC_enc encAI _ (y1, y2)
noncomputable def G (Q0 : List AV → Option (Bool × Vec ByteArray × Vec ByteArray × Vec ByteArray)) : Orc := ⟨fun f => sel (Nat.beq f 108) 0 (9), fun ρ f args K => sel (Nat.beq f 108) (qEntry impl_regionOf.encR Q0 args K) (Option.none), noE, false⟩
noncomputable def L : Lor := fun ρ j st K => Option.none
theorem main (Q0) {ρ : Type} (K : AV → List Ob → Option ρ) (a1 a2) : exC Try.prog (G Q0) (L) [] 0 (bodyOf Try.f107) (entry 10 [.c (.p 0 0), .c (.p 1 0)] [.box [.h 2], .box [.h 3], ro a1, ro a2] [true, true, true, false]) (finO Try.prog Try.f107.results.toList 4 [true, true, true, false] [] K) =
    B (fun y1 => Q0 [vl y1]) a1 a2 (fun x1 x2 => K (.tup []) [.box [.z], .box [.h 3], ro x1, ro x2]) := by kernel_rfl
theorem Gok : (G impl_regionOf.Q).ok Try.prog := ⟨(by
    intro ρ f args K r h
    rcases sel_cases h with ⟨hb, h⟩ | ⟨-, h⟩
    · obtain rfl := beq_nat hb
      exact qEntry_ok impl_regionOf.ac h
    cases h),
  (by
    intro ρ f args K
    simp only [G]
    cases Nat.beq f 108 with
    | true => exact qEntry_nat args K
    | false =>
    simp only [sel]
    rfl),
  (fun ρ f st caps args dst K r h => (by cases h))⟩
theorem hm : Try.prog.follows .mixedOrders = true := by kernel_rfl
theorem e : atomsL [] 0 (bodyOf Try.f107) = [] := by kernel_rfl
theorem acc (t : (Vec (Int × Int × Int × ByteArray)) × (Vec (Bool × (Vec ByteArray) × (Vec ByteArray) × (Vec ByteArray)))) (x : (Vec (Int × Int × Int × ByteArray)) × (Vec (Bool × (Vec ByteArray) × (Vec ByteArray) × (Vec ByteArray)))) (h : F t.1 t.2 = some x) : ACc Try.prog 107 (encA t).1 (encA t).2 true [true, true, true, false] fun rv obs => (rv, obs) = encR x := by
  refine fun_okc (L := (L)) (jn := []) (cmds := []) (ks := [true, true, true, false]) (hin := (encA t).2) (fn := Try.f107) (body := (bodyOf Try.f107)) Gok hm Try.func107 (by kernel_rfl) (by kernel_rfl) (by rw [e]; exact Lor.ok_nil _ _) ?_ h
  refine (main impl_regionOf.Q _ t.1 t.2).trans ?_
  rw [impl_regionOf.wrap]
  refine congrArg (fun K => B impl_regionOf.F t.1 t.2 K) ?_
  funext x1 x2
  exact ofC_enc encRI some (x1, x2)
theorem ac0 (t : (Vec (Int × Int × Int × ByteArray)) × (Vec (Bool × (Vec ByteArray) × (Vec ByteArray) × (Vec ByteArray)))) (x : (Vec (Int × Int × Int × ByteArray)) × (Vec (Bool × (Vec ByteArray) × (Vec ByteArray) × (Vec ByteArray)))) (h : F t.1 t.2 = some x) : AC Try.prog 107 (encA t).1 (encA t).2 true [true, true, true, false] fun rv obs => (rv, obs) = encR x := ACc.ac (body := bodyOf Try.f107) Try.func107 (by kernel_rfl) (by kernel_rfl) (acc t x h)
theorem ac (args : List AV) (hin : List Ob) (x : (Vec (Int × Int × Int × ByteArray)) × (Vec (Bool × (Vec ByteArray) × (Vec ByteArray) × (Vec ByteArray)))) (h : Q args hin = some x) : AC Try.prog 107 args hin false [true, true, true, false] fun rv obs => (rv, obs) = encR x := by
  obtain ⟨t, he, h2⟩ := ofC_some h
  obtain rfl : args = (encA t).1 := (congrArg Prod.fst he).symm
  obtain rfl : hin = (encA t).2 := (congrArg Prod.snd he).symm
  refine (ac0 t x h2).flat fun rv obs e => ?_
  obtain rfl : rv = (encR x).1 := congrArg Prod.fst e
  obtain rfl : obs = (encR x).2 := congrArg Prod.snd e
  refine ⟨by simp [encR, AV.Flat, K.Flat, C.Flat], ?_⟩
  intro o ho
  simp only [encR, List.mem_cons, List.not_mem_nil, or_false] at ho
  rcases ho with rfl | rfl | rfl | rfl
  · simp [Ob.Flat, C.Flat, N.Flat]
  · simp [Ob.Flat, C.Flat, N.Flat]
  · exact flat_rw rfl _
  · exact flat_rw rfl _
end impl_Weave_regionsOf_1_sfaa7
/-! (*loop.example/g00073/impl.Weave).regionsOf -/
namespace impl_Weave_regionsOf
noncomputable def B0 {ρ : Type} (C1 : (Vec (Int × Int × Int × ByteArray)) → (Vec (Bool × (Vec ByteArray) × (Vec ByteArray) × (Vec ByteArray))) → Option ((Vec (Int × Int × Int × ByteArray)) × (Vec (Bool × (Vec ByteArray) × (Vec ByteArray) × (Vec ByteArray))))) (v1 : Int) (v2 : Int) (v3 : Vec (Int × Int × Int × ByteArray)) (v4 : Vec (Bool × (Vec ByteArray) × (Vec ByteArray) × (Vec ByteArray))) (v5 : Vec (Int × Int × Int × ByteArray)) (W : Int → Int → (Vec (Int × Int × Int × ByteArray)) → (Vec (Bool × (Vec ByteArray) × (Vec ByteArray) × (Vec ByteArray))) → (Vec (Int × Int × Int × ByteArray)) → Option ρ) (K0 : (Vec (Bool × (Vec ByteArray) × (Vec ByteArray) × (Vec ByteArray))) → (Vec (Int × Int × Int × ByteArray)) → Option ρ) : Option ρ :=
  sel (decide (v2 < v1)) (chk (decide (0 ≤ v2 ∧ v2 < (v3.n : Int))) (chk (decide (v2.toNat < v3.n)) (sel ((!decide ((v3.g v2.toNat).1 = (1 : Int)))) (chk (decide ((v5.n + (Vec.lit [((v3.g v2.toNat).1, (v3.g v2.toNat).2.1, (v3.g v2.toNat).2.2.1, (v3.g v2.toNat).2.2.2)] : Vec (Int × Int × Int × ByteArray)).n) * 41 ≤ maxN)) (W v1 (wr (v2 + (1 : Int))) v3 v4 (Vec.app v5 (Vec.lit [((v3.g v2.toNat).1, (v3.g v2.toNat).2.1, (v3.g v2.toNat).2.2.1, (v3.g v2.toNat).2.2.2)] : Vec (Int × Int × Int × ByteArray))))) ((C1 v5 v4).bind fun r3 => chk (decide ((r3.2.n + (Vec.lit [(false, (Vec.lit [(v3.g v2.toNat).2.2.2] : Vec ByteArray), (Vec.nil : Vec ByteArray), (Vec.nil : Vec ByteArray))] : Vec (Bool × (Vec ByteArray) × (Vec ByteArray) × (Vec ByteArray))).n) * 81 ≤ maxN)) (W v1 (wr (v2 + (1 : Int))) v3 (Vec.app r3.2 (Vec.lit [(false, (Vec.lit [(v3.g v2.toNat).2.2.2] : Vec ByteArray), (Vec.nil : Vec ByteArray), (Vec.nil : Vec ByteArray))] : Vec (Bool × (Vec ByteArray) × (Vec ByteArray) × (Vec ByteArray)))) (Vec.nil : Vec (Int × Int × Int × ByteArray))))))) (K0 v4 v5)
noncomputable def F0 {ρ : Type} : Nat → Int → Int → (Vec (Int × Int × Int × ByteArray)) → (Vec (Bool × (Vec ByteArray) × (Vec ByteArray) × (Vec ByteArray))) → (Vec (Int × Int × Int × ByteArray)) → ((Vec (Bool × (Vec ByteArray) × (Vec ByteArray) × (Vec ByteArray))) → (Vec (Int × Int × Int × ByteArray)) → Option ρ) → Option ρ
  | 0, _, _, _, _, _, _ => none
  | k + 1, v1, v2, v3, v4, v5, K0 => B0 impl_Weave_regionsOf_1_sfaa7.F v1 v2 v3 v4 v5 (fun v1' v2' v3' v4' v5' => F0 k v1' v2' v3' v4' v5' K0) K0
noncomputable def B {ρ : Type} (C0 : (Vec (Vec Int)) → (Vec (ByteArray × Int × Int × (Vec Int))) → Int → Int → Option (Vec (Int × Int × Int × ByteArray))) (C1 : (Vec (Int × Int × Int × ByteArray)) → (Vec (Bool × (Vec ByteArray) × (Vec ByteArray) × (Vec ByteArray))) → Option ((Vec (Int × Int × Int × ByteArray)) × (Vec (Bool × (Vec ByteArray) × (Vec ByteArray) × (Vec ByteArray))))) (L0 : Int → Int → (Vec (Int × Int × Int × ByteArray)) → (Vec (Bool × (Vec ByteArray) × (Vec ByteArray) × (Vec ByteArray))) → (Vec (Int × Int × Int × ByteArray)) → ((Vec (Bool × (Vec ByteArray) × (Vec ByteArray) × (Vec ByteArray))) → (Vec (Int × Int × Int × ByteArray)) → Option ρ) → Option ρ) (a1 : Vec (Vec Int)) (a2 : Vec (ByteArray × Int × Int × (Vec Int))) (a3 : Int) (a4 : Int) (K : (Vec (Bool × (Vec ByteArray) × (Vec ByteArray) × (Vec ByteArray))) → Option ρ) : Option ρ :=
  (C0 a1 a2 a3 a4).bind fun r1 => L0 (r1.n : Int) (0 : Int) r1 (Vec.nil : Vec (Bool × (Vec ByteArray) × (Vec ByteArray) × (Vec ByteArray))) (Vec.nil : Vec (Int × Int × Int × ByteArray)) (fun e01 e02 => (C1 e02 e01).bind fun r2 => K r2.2)
noncomputable def F (a1 : Vec (Vec Int)) (a2 : Vec (ByteArray × Int × Int × (Vec Int))) (a3 : Int) (a4 : Int) : Option (Vec (Bool × (Vec ByteArray) × (Vec ByteArray) × (Vec ByteArray))) := B impl_Weave_marksOf.F impl_Weave_regionsOf_1_sfaa7.F (F0 fuelN) a1 a2 a3 a4 (fun x1 => some (x1))
def encA (t : Vec (Vec Int) × (Vec (ByteArray × Int × Int × (Vec Int))) × Int × Int) : List AV := [.ra [nl t.1, nl t.2.1], vi t.2.2.1, vi t.2.2.2]
def encR (x : Vec (Bool × (Vec ByteArray) × (Vec ByteArray) × (Vec ByteArray))) : AV × List Ob := (.c (.h 0), [ro x])
theorem encAI : ∀ a b, encA a = encA b → a = b := by
  intro a b h
  obtain ⟨a0, a1, a2, a3⟩ := a
  obtain ⟨b0, b1, b2, b3⟩ := b
  simp [encA, encRw_iff] at h
  simp_all
theorem encRI : ∀ a b, encR a = encR b → a = b := by
  intro a b h
  simp [encR, encRw_iff] at h
  simp_all
noncomputable def Q (args : List AV) : Option (Vec (Bool × (Vec ByteArray) × (Vec ByteArray) × (Vec ByteArray))) := ofC encA (fun t => F t.1 t.2.1 t.2.2.1 t.2.2.2) args
theorem wrap : (fun (y1 : Vec (Vec Int)) (y2 : Vec (ByteArray × Int × Int × (Vec Int))) (y3 : Int) (y4 : Int) => Q [.ra [nl y1, nl y2], vi y3, vi y4]) = F := by
  funext y1 y2 y3 y4
  exact ofC_enc encAI _ (y1, y2, y3, y4)
noncomputable def G (Q0 : List AV → Option (Vec (Int × Int × Int × ByteArray))) (Q1 : List AV → List Ob → Option ((Vec (Int × Int × Int × ByteArray)) × (Vec (Bool × (Vec ByteArray) × (Vec ByteArray) × (Vec ByteArray))))) : Orc := ⟨fun f => sel (Nat.beq f 109) 0 (9), fun ρ f args K => sel (Nat.beq f 109) (qEntry impl_Weave_marksOf.encR Q0 args K) (Option.none), fun ρ f st args dst K => sel (Nat.beq f 107) (callE Try.prog 107 [true, true] false [true, true, true, false] impl_Weave_regionsOf_1_sfaa7.encR Q1 st args dst K) (Option.none), false⟩
noncomputable def L (W0 : (ρ : Type) → List AV → List Ob → ((Vec (Bool × (Vec ByteArray) × (Vec ByteArray) × (Vec ByteArray))) → (Vec (Int × Int × Int × ByteArray)) → Option ρ) → Option ρ) : Lor := fun ρ j st K => sel (Nat.beq j 0) (cutO Try.prog 43 [7, 8, 9, 16, 17, 18] 0 [] [.ad (.p 7 0) 39, .ad (.p 8 0) 84] st fun avs obs => W0 ρ avs obs (fun z1 z2 => K (.exit 0) (mkS 43 [7, 9] [.c (.p 0 0), .fn 107 [.p 1 0, .p 0 0]] [.box [.h 2], .box [.h 3], ro z1, ro z2] []))) (Option.none)
noncomputable def c0 : Code := loopC (atomN [] 0 (bodyOf Try.f60) 0)
def ct0 : Cut := ⟨[7, 8, 9, 16, 17, 18], [.ad (.p 7 0) 39, .ad (.p 8 0) 84]⟩
def lv0 : Exit → Cut
  | .exit 0 => ⟨[7, 9], []⟩
  | _ => ⟨[], []⟩
theorem step0 (Q0 Q1) (W0) {ρ : Type} (K : Exit → St → Option ρ) (W : List AV → List Ob → Option ρ) (v1 v2 v3 v4 v5) : exC Try.prog (G Q0 Q1) (L W0) [] 1 c0 (mkS 43 [7, 8, 9, 16, 17, 18] [.c (.p 0 0), .c (.p 1 0), .fn 107 [.p 1 0, .p 0 0], .c (.h 2), vi v1, vi v2] [.box [.h 3], .box [.h 4], ro v3, ro v4, ro v5] []) (bodyK Try.prog 43 0 [] ct0 W lv0 K) =
    B0 (fun y1 y2 => Q1 [.c (.p 0 0), .c (.p 1 0)] [.box [.h 2], .box [.h 3], ro y1, ro y2]) v1 v2 v3 v4 v5 (fun u1 u2 u3 u4 u5 => W [.c (.p 0 0), .c (.p 1 0), .fn 107 [.p 1 0, .p 0 0], .c (.h 2), vi u1, vi u2] [.box [.h 3], .box [.h 4], ro u3, ro u4, ro u5]) (fun z1 z2 => K (.exit 0) (mkS 43 [7, 9] [.c (.p 0 0), .fn 107 [.p 1 0, .p 0 0]] [.box [.h 2], .box [.h 3], ro z1, ro z2] [])) := by kernel_rfl
def enc0 (t : Int × Int × (Vec (Int × Int × Int × ByteArray)) × (Vec (Bool × (Vec ByteArray) × (Vec ByteArray) × (Vec ByteArray))) × (Vec (Int × Int × Int × ByteArray))) : List AV × List Ob := ([.c (.p 0 0), .c (.p 1 0), .fn 107 [.p 1 0, .p 0 0], .c (.h 2), vi t.1, vi t.2.1], [.box [.h 3], .box [.h 4], ro t.2.2.1, ro t.2.2.2.1, ro t.2.2.2.2])
theorem enc0I : ∀ a b, enc0 a = enc0 b → a = b := by
  intro a b h
  obtain ⟨a0, a1, a2, a3, a4⟩ := a
  obtain ⟨b0, b1, b2, b3, b4⟩ := b
  simp [enc0, encRw_iff] at h
  simp_all
noncomputable def V0 : (ρ : Type) → List AV → List Ob → ((Vec (Bool × (Vec ByteArray) × (Vec ByteArray) × (Vec ByteArray))) → (Vec (Int × Int × Int × ByteArray)) → Option ρ) → Option ρ := fun ρ avs obs k0 => ofC enc0 (fun t => F0 fuelN t.1 t.2.1 t.2.2.1 t.2.2.2.1 t.2.2.2.2 k0) (avs, obs)
theorem V0_enc (ρ : Type) : (fun w1 w2 w3 w4 w5 k0 => V0 ρ [.c (.p 0 0), .c (.p 1 0), .fn 107 [.p 1 0, .p 0 0], .c (.h 2), vi w1, vi w2] [.box [.h 3], .box [.h 4], ro w3, ro w4, ro w5] k0) = F0 fuelN := by
  funext w1 w2 w3 w4 w5 k0
  exact ofC_enc enc0I _ (w1, w2, w3, w4, w5)
theorem main (Q0 Q1) (W0) {ρ : Type} (K : AV → List Ob → Option ρ) (a1 a2 a3 a4) : exC Try.prog (G Q0 Q1) (L W0) [] 0 (bodyOf Try.f60) (entry 43 [.ra [nl a1, nl a2], vi a3, vi a4] [] []) (finO Try.prog Try.f60.results.toList 0 [] [] K) =
    B (fun y1 y2 y3 y4 => Q0 [.ra [nl y1, nl y2], vi y3, vi y4]) (fun y1 y2 => Q1 [.c (.p 0 0), .c (.p 1 0)] [.box [.h 2], .box [.h 3], ro y1, ro y2]) (fun w1 w2 w3 w4 w5 k0 => W0 ρ [.c (.p 0 0), .c (.p 1 0), .fn 107 [.p 1 0, .p 0 0], .c (.h 2), vi w1, vi w2] [.box [.h 3], .box [.h 4], ro w3, ro w4, ro w5] k0) a1 a2 a3 a4 (fun x1 => K (.c (.h 0)) [ro x1]) := by kernel_rfl
theorem Gok : (G impl_Weave_marksOf.Q impl_Weave_regionsOf_1_sfaa7.Q).ok Try.prog := ⟨(by
    intro ρ f args K r h
    rcases sel_cases h with ⟨hb, h⟩ | ⟨-, h⟩
    · obtain rfl := beq_nat hb
      exact qEntry_ok impl_Weave_marksOf.ac h
    cases h),
  (by
    intro ρ f args K
    simp only [G]
    cases Nat.beq f 109 with
    | true => exact qEntry_nat args K
    | false =>
    simp only [sel]
    rfl),
  (by
    intro ρ f st caps args dst K r h
    rcases sel_cases h with ⟨hb, h⟩ | ⟨-, h⟩
    · obtain rfl := beq_nat hb
      exact callE_ok (fun h => by cases h) impl_Weave_regionsOf_1_sfaa7.ac h
    cases h)⟩
theorem hm : Try.prog.follows .mixedOrders = true := by kernel_rfl
theorem e0 : atomsL [] 1 c0 = [] := by kernel_rfl
theorem ok0 (ρ : Type) (st : St) (K : Exit → St → Option ρ) (r : ρ) (h : (L V0) ρ 0 st K = some r) : AW Try.prog (.loop c0) st fun e st' => K e st' = some r := by
  refine loop_ok (ct := ct0) (lv := lv0) (n := 43) (m := 0) (ks := []) (j := 0) (jn := []) (L := (L V0)) Gok hm (by rw [e0]; exact Lor.ok_nil _ _) enc0I (fun k t => F0 k t.1 t.2.1 t.2.2.1 t.2.2.2.1 t.2.2.2.2 (fun z1 z2 => K (.exit 0) (mkS 43 [7, 9] [.c (.p 0 0), .fn 107 [.p 1 0, .p 0 0]] [.box [.h 2], .box [.h 3], ro z1, ro z2] []))) (fun t => rfl) (fun k t => ?_) (fun _ => fuelN) h
  refine (step0 impl_Weave_marksOf.Q impl_Weave_regionsOf_1_sfaa7.Q V0 K _ t.1 t.2.1 t.2.2.1 t.2.2.2.1 t.2.2.2.2).trans ?_
  rw [impl_Weave_regionsOf_1_sfaa7.wrap]
  refine congrArg (fun W => B0 impl_Weave_regionsOf_1_sfaa7.F t.1 t.2.1 t.2.2.1 t.2.2.2.1 t.2.2.2.2 W (fun z1 z2 => K (.exit 0) (mkS 43 [7, 9] [.c (.p 0 0), .fn 107 [.p 1 0, .p 0 0]] [.box [.h 2], .box [.h 3], ro z1, ro z2] []))) ?_
  funext u1 u2 u3 u4 u5
  exact ofC_enc enc0I _ (u1, u2, u3, u4, u5)
theorem e : atomsL [] 0 (bodyOf Try.f60) = [(0, 0, .loop c0)] := by kernel_rfl
theorem acc (t : Vec (Vec Int) × (Vec (ByteArray × Int × Int × (Vec Int))) × Int × Int) (x : Vec (Bool × (Vec ByteArray) × (Vec ByteArray) × (Vec ByteArray))) (h : F t.1 t.2.1 t.2.2.1 t.2.2.2 = some x) : ACc Try.prog 60 (encA t) [] true [] fun rv obs => (rv, obs) = encR x := by
  refine fun_okc (L := (L V0)) (jn := []) (cmds := []) (ks := []) (hin := []) (fn := Try.f60) (body := (bodyOf Try.f60)) Gok hm Try.func60 (by kernel_rfl) (by kernel_rfl) (by rw [e]; exact Lor.ok_cons ok0 (Lor.ok_nil _ _)) ?_ h
  refine (main impl_Weave_marksOf.Q impl_Weave_regionsOf_1_sfaa7.Q V0 _ t.1 t.2.1 t.2.2.1 t.2.2.2).trans ?_
  rw [impl_Weave_marksOf.wrap, impl_Weave_regionsOf_1_sfaa7.wrap, V0_enc]
  refine congrArg (fun K => B impl_Weave_marksOf.F impl_Weave_regionsOf_1_sfaa7.F (F0 fuelN) t.1 t.2.1 t.2.2.1 t.2.2.2 K) ?_
  funext x1
  exact ofC_enc encRI some (x1)
theorem ac0 (t : Vec (Vec Int) × (Vec (ByteArray × Int × Int × (Vec Int))) × Int × Int) (x : Vec (Bool × (Vec ByteArray) × (Vec ByteArray) × (Vec ByteArray))) (h : F t.1 t.2.1 t.2.2.1 t.2.2.2 = some x) : AC Try.prog 60 (encA t) [] true [] fun rv obs => (rv, obs) = encR x := ACc.ac (body := bodyOf Try.f60) Try.func60 (by kernel_rfl) (by kernel_rfl) (acc t x h)
theorem ac (args : List AV) (x : Vec (Bool × (Vec ByteArray) × (Vec ByteArray) × (Vec ByteArray))) (h : Q args = some x) : AC Try.prog 60 args [] false [] fun rv obs => (rv, obs) = encR x := by
  obtain ⟨t, rfl, h2⟩ := ofC_some h
  refine (ac0 t x h2).flat fun rv obs e => ?_
  obtain rfl : rv = (encR x).1 := congrArg Prod.fst e
  obtain rfl : obs = (encR x).2 := congrArg Prod.snd e
  refine ⟨by simp [encR, AV.Flat, K.Flat, C.Flat], ?_⟩
  intro o ho
  simp only [encR, List.mem_cons, List.not_mem_nil, or_false] at ho
  subst ho
  exact flat_rw rfl _
end impl_Weave_regionsOf
/-! loop.example/g00073/impl.RegionsOf -/
namespace impl_RegionsOf
noncomputable def B {ρ : Type} (C0 : (Vec (Vec Int)) → (Vec (ByteArray × Int × Int × (Vec Int))) → (Vec Int) → Option Int) (C1 : (Vec (Vec Int)) → (Vec (ByteArray × Int × Int × (Vec Int))) → Int → Int → Option (Vec (Bool × (Vec ByteArray) × (Vec ByteArray) × (Vec ByteArray)))) (a1 : Vec (Vec Int)) (a2 : Vec (ByteArray × Int × Int × (Vec Int))) (a3 : Int) (a4 : Int) (K : Int → (Vec (Bool × (Vec ByteArray) × (Vec ByteArray) × (Vec ByteArray))) → Option ρ) : Option ρ :=
  (C0 a1 a2 (Vec.lit [a3, a4] : Vec Int)).bind fun r1 => sel ((!decide (r1 = (0 : Int)))) (K r1 (Vec.nil : Vec (Bool × (Vec ByteArray) × (Vec ByteArray) × (Vec ByteArray)))) ((C1 a1 a2 a3 a4).bind fun r2 => K (0 : Int) r2)
noncomputable def F (a1 : Vec (Vec Int)) (a2 : Vec (ByteArray × Int × Int × (Vec Int))) (a3 : Int) (a4 : Int) : Option (Int × (Vec (Bool × (Vec ByteArray) × (Vec ByteArray) × (Vec ByteArray)))) := B impl_versionsCode.F impl_Weave_regionsOf.F a1 a2 a3 a4 (fun x1 x2 => some (x1, x2))
def encA (t : Vec (Vec Int) × (Vec (ByteArray × Int × Int × (Vec Int))) × Int × Int) : List AV := [.a [cl t.1, cl t.2.1], vi t.2.2.1, vi t.2.2.2]
def encR (x : Int × (Vec (Bool × (Vec ByteArray) × (Vec ByteArray) × (Vec ByteArray)))) : AV × List Ob := (.tup [.c (.h 0), .c (ci x.1)], [ro x.2])
theorem encAI : ∀ a b, encA a = encA b → a = b := by
  intro a b h
  obtain ⟨a0, a1, a2, a3⟩ := a
  obtain ⟨b0, b1, b2, b3⟩ := b
  simp [encA, encRw_iff] at h
  simp_all
theorem encRI : ∀ a b, encR a = encR b → a = b := by
  intro a b h
  obtain ⟨a0, a1⟩ := a
  obtain ⟨b0, b1⟩ := b
  simp [encR, encRw_iff] at h
  simp_all
noncomputable def Q (args : List AV) : Option (Int × (Vec (Bool × (Vec ByteArray) × (Vec ByteArray) × (Vec ByteArray)))) := ofC encA (fun t => F t.1 t.2.1 t.2.2.1 t.2.2.2) args
theorem wrap : (fun (y1 : Vec (Vec Int)) (y2 : Vec (ByteArray × Int × Int × (Vec Int))) (y3 : Int) (y4 : Int) => Q [.a [cl y1, cl y2], vi y3, vi y4]) = F := by
  funext y1 y2 y3 y4
  exact ofC_enc encAI _ (y1, y2, y3, y4)
noncomputable def G (Q0 : List AV → Option Int) (Q1 : List AV → Option (Vec (Bool × (Vec ByteArray) × (Vec ByteArray) × (Vec ByteArray)))) : Orc := ⟨fun f => sel (Nat.beq f 59) 0 (sel (Nat.beq f 60) 0 (9)), fun ρ f args K => sel (Nat.beq f 59) (qEntry impl_versionsCode.encR Q0 args K) (sel (Nat.beq f 60) (qEntry impl_Weave_regionsOf.encR Q1 args K) (Option.none)), noE, false⟩
noncomputable def L : Lor := fun ρ j st K => Option.none
theorem main (Q0 Q1) {ρ : Type} (K : AV → List Ob → Option ρ) (a1 a2 a3 a4) : exC Try.prog (G Q0 Q1) (L) [] 0 (bodyOf Try.f22) (entry 20 [.a [cl a1, cl a2], vi a3, vi a4] [] []) (finO Try.prog Try.f22.results.toList 0 [] [.ad (.s 6) 39] K) =
    B (fun y1 y2 y3 => Q0 [.a [cl y1, cl y2], vl y3]) (fun y1 y2 y3 y4 => Q1 [.ra [nl y1, nl y2], vi y3, vi y4]) a1 a2 a3 a4 (fun x1 x2 => K (.tup [.c (.h 0), .c (ci x1)]) [ro x2]) := by kernel_rfl
theorem Gok : (G impl_versionsCode.Q impl_Weave_regionsOf.Q).ok Try.prog := ⟨(by
    intro ρ f args K r h
    rcases sel_cases h with ⟨hb, h⟩ | ⟨-, h⟩
    · obtain rfl := beq_nat hb
      exact qEntry_ok impl_versionsCode.ac h
    rcases sel_cases h with ⟨hb, h⟩ | ⟨-, h⟩
    · obtain rfl := beq_nat hb
      exact qEntry_ok impl_Weave_regionsOf.ac h
    cases h),
  (by
    intro ρ f args K
    simp only [G]
    cases Nat.beq f 59 with
    | true => exact qEntry_nat args K
    | false =>
    simp only [sel]
    cases Nat.beq f 60 with
    | true => exact qEntry_nat args K
    | false =>
    simp only [sel]
    rfl),
  (fun ρ f st caps args dst K r h => (by cases h))⟩
theorem hm : Try.prog.follows .mixedOrders = true := by kernel_rfl
theorem e : atomsL [] 0 (bodyOf Try.f22) = [] := by kernel_rfl
theorem acc (t : Vec (Vec Int) × (Vec (ByteArray × Int × Int × (Vec Int))) × Int × Int) (x : Int × (Vec (Bool × (Vec ByteArray) × (Vec ByteArray) × (Vec ByteArray)))) (h : F t.1 t.2.1 t.2.2.1 t.2.2.2 = some x) : ACc Try.prog 22 (encA t) [] true [] fun rv obs => (rv, obs) = encR x := by
  refine fun_okc (L := (L)) (jn := []) (cmds := [.ad (.s 6) 39]) (ks := []) (hin := []) (fn := Try.f22) (body := (bodyOf Try.f22)) Gok hm Try.func22 (by kernel_rfl) (by kernel_rfl) (by rw [e]; exact Lor.ok_nil _ _) ?_ h
  refine (main impl_versionsCode.Q impl_Weave_regionsOf.Q _ t.1 t.2.1 t.2.2.1 t.2.2.2).trans ?_
  rw [impl_versionsCode.wrap, impl_Weave_regionsOf.wrap]
  refine congrArg (fun K => B impl_versionsCode.F impl_Weave_regionsOf.F t.1 t.2.1 t.2.2.1 t.2.2.2 K) ?_
  funext x1 x2
  exact ofC_enc encRI some (x1, x2)
theorem ac0 (t : Vec (Vec Int) × (Vec (ByteArray × Int × Int × (Vec Int))) × Int × Int) (x : Int × (Vec (Bool × (Vec ByteArray) × (Vec ByteArray) × (Vec ByteArray)))) (h : F t.1 t.2.1 t.2.2.1 t.2.2.2 = some x) : AC Try.prog 22 (encA t) [] true [] fun rv obs => (rv, obs) = encR x := ACc.ac (body := bodyOf Try.f22) Try.func22 (by kernel_rfl) (by kernel_rfl) (acc t x h)
theorem ac (args : List AV) (x : Int × (Vec (Bool × (Vec ByteArray) × (Vec ByteArray) × (Vec ByteArray)))) (h : Q args = some x) : AC Try.prog 22 args [] false [] fun rv obs => (rv, obs) = encR x := by
  obtain ⟨t, rfl, h2⟩ := ofC_some h
  refine (ac0 t x h2).flat fun rv obs e => ?_
  obtain rfl : rv = (encR x).1 := congrArg Prod.fst e
  obtain rfl : obs = (encR x).2 := congrArg Prod.snd e
  refine ⟨by simp [encR, AV.Flat, K.Flat, C.Flat], ?_⟩
  intro o ho
  simp only [encR, List.mem_cons, List.not_mem_nil, or_false] at ho
  subst ho
  exact flat_rw rfl _
end impl_RegionsOf
end Go.Al
