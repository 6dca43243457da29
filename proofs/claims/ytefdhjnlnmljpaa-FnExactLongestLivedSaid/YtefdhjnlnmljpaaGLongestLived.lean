import Derived.Test.YtefdhjnlnmljpaaAlF
import Derived.Test.YtefdhjnlnmljpaaSC
import Derived.Test.YtefdhjnlnmljpaaGWv
import Derived.Test.YtefdhjnlnmljpaaGWl
set_option linter.unusedVariables false
set_option linter.unusedSimpArgs false
set_option linter.constructorNameAsVariable false
set_option linter.unusedSectionVars false
set_option maxRecDepth 100000
namespace Go.Al
open Go.Proofs

/-! loop.example/g00073/spec.LongestLived -/
namespace spec_LongestLived
noncomputable def B1 {ρ : Type} (C_spec_l06Closure : (Vec (Vec Int)) → (Vec (ByteArray × Int × Int × (Vec Int))) → Int → Option (Vec Bool)) (C_spec_l06Live : ByteArray → Int → Int → (Vec Int) → (Vec Bool) → Option Bool) (v1 : Int) (v2 : Int) (v3 : Bool) (v4 : Int) (v5 : Int) (v6 : Int) (v7 : Vec (Vec Int)) (v8 : Vec (ByteArray × Int × Int × (Vec Int))) (W : Int → Int → Bool → Int → Int → Int → (Vec (Vec Int)) → (Vec (ByteArray × Int × Int × (Vec Int))) → Option ρ) (K2 : Int → Int → Bool → Int → Int → (Vec (Vec Int)) → (Vec (ByteArray × Int × Int × (Vec Int))) → Option ρ) : Option ρ :=
  sel (decide (v6 < (v7.n : Int))) (chk (decide (0 ≤ v4 ∧ v4 < (v8.n : Int))) ((C_spec_l06Closure v7 v8 v6).bind fun r2 => (C_spec_l06Live ((v8.g v4.toNat).1) ((v8.g v4.toNat).2.1) ((v8.g v4.toNat).2.2.1) ((v8.g v4.toNat).2.2.2) r2).bind fun r3 => sel (r3) (W v1 v2 v3 v4 (wr (v5 + (1 : Int))) (wr (v6 + (1 : Int))) v7 v8) (W v1 v2 v3 v4 v5 (wr (v6 + (1 : Int))) v7 v8))) (K2 v1 v2 v3 v4 v5 v7 v8)
noncomputable def F1 {ρ : Type} : Nat → Int → Int → Bool → Int → Int → Int → (Vec (Vec Int)) → (Vec (ByteArray × Int × Int × (Vec Int))) → (Int → Int → Bool → Int → Int → (Vec (Vec Int)) → (Vec (ByteArray × Int × Int × (Vec Int))) → Option ρ) → Option ρ
  | 0, _, _, _, _, _, _, _, _, _ => none
  | k + 1, v1, v2, v3, v4, v5, v6, v7, v8, K2 => B1 spec_l06Closure.F spec_l06Live.F v1 v2 v3 v4 v5 v6 v7 v8 (fun v1' v2' v3' v4' v5' v6' v7' v8' => F1 k v1' v2' v3' v4' v5' v6' v7' v8' K2) K2
noncomputable def B0 {ρ : Type} (L1 : Int → Int → Bool → Int → Int → Int → (Vec (Vec Int)) → (Vec (ByteArray × Int × Int × (Vec Int))) → (Int → Int → Bool → Int → Int → (Vec (Vec Int)) → (Vec (ByteArray × Int × Int × (Vec Int))) → Option ρ) → Option ρ) (v1 : Int) (v2 : Int) (v3 : Bool) (v4 : Int) (v5 : Vec (Vec Int)) (v6 : Vec (ByteArray × Int × Int × (Vec Int))) (W : Int → Int → Bool → Int → (Vec (Vec Int)) → (Vec (ByteArray × Int × Int × (Vec Int))) → Option ρ) (K0 : Int → Option ρ) : Option ρ :=
  sel (decide (v4 < (v6.n : Int))) (sel (v3) (L1 v1 v2 v3 v4 (0 : Int) (0 : Int) v5 v6 (fun e11 e12 e13 e14 e15 e16 e17 => sel (decide (e12 < e15)) (W e14 e15 e13 (wr (e14 + (1 : Int))) e16 e17) (W e11 e12 e13 (wr (e14 + (1 : Int))) e16 e17))) (K0 v1)) (K0 v1)
noncomputable def F0 {ρ : Type} : Nat → Int → Int → Bool → Int → (Vec (Vec Int)) → (Vec (ByteArray × Int × Int × (Vec Int))) → (Int → Option ρ) → Option ρ
  | 0, _, _, _, _, _, _, _ => none
  | k + 1, v1, v2, v3, v4, v5, v6, K0 => B0 (F1 fuelN) v1 v2 v3 v4 v5 v6 (fun v1' v2' v3' v4' v5' v6' => F0 k v1' v2' v3' v4' v5' v6' K0) K0
noncomputable def B {ρ : Type} (C_spec_WeaveOk : (Vec (Vec Int)) → (Vec (ByteArray × Int × Int × (Vec Int))) → Option Bool) (L0 : Int → Int → Bool → Int → (Vec (Vec Int)) → (Vec (ByteArray × Int × Int × (Vec Int))) → (Int → Option ρ) → Option ρ) (a1 : Vec (Vec Int)) (a2 : Vec (ByteArray × Int × Int × (Vec Int))) (K : Int → Option ρ) : Option ρ :=
  (C_spec_WeaveOk a1 a2).bind fun r1 => L0 (-1 : Int) (-1 : Int) r1 (0 : Int) a1 a2 (fun e01 => K e01)
noncomputable def F (a1 : Vec (Vec Int)) (a2 : Vec (ByteArray × Int × Int × (Vec Int))) : Option Int := B spec_WeaveOk.F (F0 fuelN) a1 a2 (fun x1 => some (x1))
def encA (t : Vec (Vec Int) × (Vec (ByteArray × Int × Int × (Vec Int)))) : List AV := [.a [.n (.sl 1 (encRw t.1)), .n (.sl 4 (encRw t.2))]]
def encR (x : Int) : AV × List Ob := (.c (.n (.v (.int .i64 x))), [])
theorem encAI : ∀ a b, encA a = encA b → a = b := by
  intro a b h
  obtain ⟨a0, a1⟩ := a
  obtain ⟨b0, b1⟩ := b
  simp [encA, encRw_iff] at h
  simp_all
theorem encRI : ∀ a b, encR a = encR b → a = b := by
  intro a b h
  simp [encR, encRw_iff] at h
  simp_all
noncomputable def Q (args : List AV) : Option Int := ofC encA (fun t => F t.1 t.2) args
theorem wrap : (fun (y1 : Vec (Vec Int)) (y2 : Vec (ByteArray × Int × Int × (Vec Int))) => Q [.a [.n (.sl 1 (encRw y1)), .n (.sl 4 (encRw y2))]]) = F := by
  funext y1 y2
  exact ofC_enc encAI _ (y1, y2)
noncomputable def G (q_spec_WeaveOk : List AV → Option Bool) (q_spec_l06Closure : List AV → Option (Vec Bool)) (q_spec_l06Live : List AV → Option Bool) : Orc := ⟨fun f => sel (Nat.beq f 48) 0 (sel (Nat.beq f 50) 0 (sel (Nat.beq f 49) 0 (9))), fun ρ f args K => sel (Nat.beq f 48) (qEntry spec_WeaveOk.encR q_spec_WeaveOk args K) (sel (Nat.beq f 50) (qEntry spec_l06Closure.encR q_spec_l06Closure args K) (sel (Nat.beq f 49) (qEntry spec_l06Live.encR q_spec_l06Live args K) (Option.none))), noE⟩
noncomputable def L (W1 : (ρ : Type) → List AV → List Ob → (Int → Int → Bool → Int → Int → (Vec (Vec Int)) → (Vec (ByteArray × Int × Int × (Vec Int))) → Option ρ) → Option ρ) (W0 : (ρ : Type) → List AV → List Ob → (Int → Option ρ) → Option ρ) : Lor := fun ρ j st K => sel (Nat.beq j 0) (cutO Try.prog 45 [1, 3, 4, 5, 6] 0 [] [] st fun avs obs => W0 ρ avs obs (fun z1 => K (.exit 0) (mkS 45 [3] [.c (.n (.v (.int .i64 z1)))] [] []))) (sel (Nat.beq j 1) (cutO Try.prog 45 [1, 3, 4, 5, 6, 7, 8] 0 [] [] st fun avs obs => W1 ρ avs obs (fun z1 z2 z3 z4 z5 z6 z7 => K (.exit 2) (mkS 45 [1, 3, 4, 5, 6, 7] [.c (.p 0 0), .c (.n (.v (.int .i64 z1))), .c (.n (.v (.int .i64 z2))), .c (.n (.v (.bool z3))), .c (.n (.v (.int .i64 z4))), .c (.n (.v (.int .i64 z5)))] [.box [.n (.sl 1 (encRw z6)), .n (.sl 4 (encRw z7))]] []))) (Option.none))
noncomputable def c0 : Code := loopC (atomN [] 0 (bodyOf Try.f12) 0)
noncomputable def c1 : Code := loopC (atomN [] 1 c0 0)
def ct0 : Cut := ⟨[1, 3, 4, 5, 6], []⟩
def lv0 : Exit → Cut
  | .exit 0 => ⟨[3], []⟩
  | _ => ⟨[], []⟩
theorem step0 (q_spec_WeaveOk : List AV → Option Bool) (q_spec_l06Closure : List AV → Option (Vec Bool)) (q_spec_l06Live : List AV → Option Bool) (W1 : (ρ : Type) → List AV → List Ob → (Int → Int → Bool → Int → Int → (Vec (Vec Int)) → (Vec (ByteArray × Int × Int × (Vec Int))) → Option ρ) → Option ρ) (W0 : (ρ : Type) → List AV → List Ob → (Int → Option ρ) → Option ρ) {ρ : Type} (K : Exit → St → Option ρ) (W : List AV → List Ob → Option ρ) (v1 : Int) (v2 : Int) (v3 : Bool) (v4 : Int) (v5 : Vec (Vec Int)) (v6 : Vec (ByteArray × Int × Int × (Vec Int))) : exC Try.prog (G q_spec_WeaveOk q_spec_l06Closure q_spec_l06Live) (L W1 W0) [] 1 c0 (mkS 45 [1, 3, 4, 5, 6] [.c (.p 0 0), .c (.n (.v (.int .i64 v1))), .c (.n (.v (.int .i64 v2))), .c (.n (.v (.bool v3))), .c (.n (.v (.int .i64 v4)))] [.box [.n (.sl 1 (encRw v5)), .n (.sl 4 (encRw v6))]] []) (bodyK Try.prog 45 0 [] ct0 W lv0 K) =
    B0 (fun w1 w2 w3 w4 w5 w6 w7 w8 k2 => W1 ρ [.c (.p 0 0), .c (.n (.v (.int .i64 w1))), .c (.n (.v (.int .i64 w2))), .c (.n (.v (.bool w3))), .c (.n (.v (.int .i64 w4))), .c (.n (.v (.int .i64 w5))), .c (.n (.v (.int .i64 w6)))] [.box [.n (.sl 1 (encRw w7)), .n (.sl 4 (encRw w8))]] k2) v1 v2 v3 v4 v5 v6 (fun u1 u2 u3 u4 u5 u6 => W [.c (.p 0 0), .c (.n (.v (.int .i64 u1))), .c (.n (.v (.int .i64 u2))), .c (.n (.v (.bool u3))), .c (.n (.v (.int .i64 u4)))] [.box [.n (.sl 1 (encRw u5)), .n (.sl 4 (encRw u6))]]) (fun z1 => K (.exit 0) (mkS 45 [3] [.c (.n (.v (.int .i64 z1)))] [] [])) := by kernel_rfl
def enc0 (t : Int × Int × Bool × Int × Vec (Vec Int) × (Vec (ByteArray × Int × Int × (Vec Int)))) : List AV × List Ob := ([.c (.p 0 0), .c (.n (.v (.int .i64 t.1))), .c (.n (.v (.int .i64 t.2.1))), .c (.n (.v (.bool t.2.2.1))), .c (.n (.v (.int .i64 t.2.2.2.1)))], [.box [.n (.sl 1 (encRw t.2.2.2.2.1)), .n (.sl 4 (encRw t.2.2.2.2.2))]])
theorem enc0I : ∀ a b, enc0 a = enc0 b → a = b := by
  intro a b h
  obtain ⟨a0, a1, a2, a3, a4, a5⟩ := a
  obtain ⟨b0, b1, b2, b3, b4, b5⟩ := b
  simp [enc0, encRw_iff] at h
  simp_all
noncomputable def V0 : (ρ : Type) → List AV → List Ob → (Int → Option ρ) → Option ρ := fun ρ avs obs k0 => ofC enc0 (fun t => F0 fuelN t.1 t.2.1 t.2.2.1 t.2.2.2.1 t.2.2.2.2.1 t.2.2.2.2.2 k0) (avs, obs)
theorem V0_enc (ρ : Type) : (fun w1 w2 w3 w4 w5 w6 k0 => V0 ρ [.c (.p 0 0), .c (.n (.v (.int .i64 w1))), .c (.n (.v (.int .i64 w2))), .c (.n (.v (.bool w3))), .c (.n (.v (.int .i64 w4)))] [.box [.n (.sl 1 (encRw w5)), .n (.sl 4 (encRw w6))]] k0) = F0 fuelN := by
  funext w1 w2 w3 w4 w5 w6 k0
  exact ofC_enc enc0I _ (w1, w2, w3, w4, w5, w6)
def ct1 : Cut := ⟨[1, 3, 4, 5, 6, 7, 8], []⟩
def lv1 : Exit → Cut
  | .exit 2 => ⟨[1, 3, 4, 5, 6, 7], []⟩
  | _ => ⟨[], []⟩
theorem step1 (q_spec_WeaveOk : List AV → Option Bool) (q_spec_l06Closure : List AV → Option (Vec Bool)) (q_spec_l06Live : List AV → Option Bool) (W1 : (ρ : Type) → List AV → List Ob → (Int → Int → Bool → Int → Int → (Vec (Vec Int)) → (Vec (ByteArray × Int × Int × (Vec Int))) → Option ρ) → Option ρ) (W0 : (ρ : Type) → List AV → List Ob → (Int → Option ρ) → Option ρ) {ρ : Type} (K : Exit → St → Option ρ) (W : List AV → List Ob → Option ρ) (v1 : Int) (v2 : Int) (v3 : Bool) (v4 : Int) (v5 : Int) (v6 : Int) (v7 : Vec (Vec Int)) (v8 : Vec (ByteArray × Int × Int × (Vec Int))) : exC Try.prog (G q_spec_WeaveOk q_spec_l06Closure q_spec_l06Live) (L W1 W0) [] 2 c1 (mkS 45 [1, 3, 4, 5, 6, 7, 8] [.c (.p 0 0), .c (.n (.v (.int .i64 v1))), .c (.n (.v (.int .i64 v2))), .c (.n (.v (.bool v3))), .c (.n (.v (.int .i64 v4))), .c (.n (.v (.int .i64 v5))), .c (.n (.v (.int .i64 v6)))] [.box [.n (.sl 1 (encRw v7)), .n (.sl 4 (encRw v8))]] []) (bodyK Try.prog 45 0 [] ct1 W lv1 K) =
    B1 (fun y1 y2 y3 => q_spec_l06Closure [.a [.n (.sl 1 (encRw y1)), .n (.sl 4 (encRw y2))], .c (.n (.v (.int .i64 y3)))]) (fun y1 y2 y3 y4 y5 => q_spec_l06Live [.a [.n (.v (.string y1)), .n (.v (.int .i64 y2)), .n (.v (.int .i64 y3)), .n (.sl 1 (encRw y4))], .c (.n (.sl 1 (encRw y5)))]) v1 v2 v3 v4 v5 v6 v7 v8 (fun u1 u2 u3 u4 u5 u6 u7 u8 => W [.c (.p 0 0), .c (.n (.v (.int .i64 u1))), .c (.n (.v (.int .i64 u2))), .c (.n (.v (.bool u3))), .c (.n (.v (.int .i64 u4))), .c (.n (.v (.int .i64 u5))), .c (.n (.v (.int .i64 u6)))] [.box [.n (.sl 1 (encRw u7)), .n (.sl 4 (encRw u8))]]) (fun z1 z2 z3 z4 z5 z6 z7 => K (.exit 2) (mkS 45 [1, 3, 4, 5, 6, 7] [.c (.p 0 0), .c (.n (.v (.int .i64 z1))), .c (.n (.v (.int .i64 z2))), .c (.n (.v (.bool z3))), .c (.n (.v (.int .i64 z4))), .c (.n (.v (.int .i64 z5)))] [.box [.n (.sl 1 (encRw z6)), .n (.sl 4 (encRw z7))]] [])) := by kernel_rfl
def enc1 (t : Int × Int × Bool × Int × Int × Int × Vec (Vec Int) × (Vec (ByteArray × Int × Int × (Vec Int)))) : List AV × List Ob := ([.c (.p 0 0), .c (.n (.v (.int .i64 t.1))), .c (.n (.v (.int .i64 t.2.1))), .c (.n (.v (.bool t.2.2.1))), .c (.n (.v (.int .i64 t.2.2.2.1))), .c (.n (.v (.int .i64 t.2.2.2.2.1))), .c (.n (.v (.int .i64 t.2.2.2.2.2.1)))], [.box [.n (.sl 1 (encRw t.2.2.2.2.2.2.1)), .n (.sl 4 (encRw t.2.2.2.2.2.2.2))]])
theorem enc1I : ∀ a b, enc1 a = enc1 b → a = b := by
  intro a b h
  obtain ⟨a0, a1, a2, a3, a4, a5, a6, a7⟩ := a
  obtain ⟨b0, b1, b2, b3, b4, b5, b6, b7⟩ := b
  simp [enc1, encRw_iff] at h
  simp_all
noncomputable def V1 : (ρ : Type) → List AV → List Ob → (Int → Int → Bool → Int → Int → (Vec (Vec Int)) → (Vec (ByteArray × Int × Int × (Vec Int))) → Option ρ) → Option ρ := fun ρ avs obs k2 => ofC enc1 (fun t => F1 fuelN t.1 t.2.1 t.2.2.1 t.2.2.2.1 t.2.2.2.2.1 t.2.2.2.2.2.1 t.2.2.2.2.2.2.1 t.2.2.2.2.2.2.2 k2) (avs, obs)
theorem V1_enc (ρ : Type) : (fun w1 w2 w3 w4 w5 w6 w7 w8 k2 => V1 ρ [.c (.p 0 0), .c (.n (.v (.int .i64 w1))), .c (.n (.v (.int .i64 w2))), .c (.n (.v (.bool w3))), .c (.n (.v (.int .i64 w4))), .c (.n (.v (.int .i64 w5))), .c (.n (.v (.int .i64 w6)))] [.box [.n (.sl 1 (encRw w7)), .n (.sl 4 (encRw w8))]] k2) = F1 fuelN := by
  funext w1 w2 w3 w4 w5 w6 w7 w8 k2
  exact ofC_enc enc1I _ (w1, w2, w3, w4, w5, w6, w7, w8)
theorem main (q_spec_WeaveOk : List AV → Option Bool) (q_spec_l06Closure : List AV → Option (Vec Bool)) (q_spec_l06Live : List AV → Option Bool) (W1 : (ρ : Type) → List AV → List Ob → (Int → Int → Bool → Int → Int → (Vec (Vec Int)) → (Vec (ByteArray × Int × Int × (Vec Int))) → Option ρ) → Option ρ) (W0 : (ρ : Type) → List AV → List Ob → (Int → Option ρ) → Option ρ) {ρ : Type} (K : AV → List Ob → Option ρ) (a1 : Vec (Vec Int)) (a2 : Vec (ByteArray × Int × Int × (Vec Int))) : exC Try.prog (G q_spec_WeaveOk q_spec_l06Closure q_spec_l06Live) (L W1 W0) [] 0 (bodyOf Try.f12) (entry 45 [.a [.n (.sl 1 (encRw a1)), .n (.sl 4 (encRw a2))]] [] []) (finO Try.prog Try.f12.results.toList 0 [] [] K) =
    B (fun y1 y2 => q_spec_WeaveOk [.a [.n (.sl 1 (encRw y1)), .n (.sl 4 (encRw y2))]]) (fun w1 w2 w3 w4 w5 w6 k0 => W0 ρ [.c (.p 0 0), .c (.n (.v (.int .i64 w1))), .c (.n (.v (.int .i64 w2))), .c (.n (.v (.bool w3))), .c (.n (.v (.int .i64 w4)))] [.box [.n (.sl 1 (encRw w5)), .n (.sl 4 (encRw w6))]] k0) a1 a2 (fun x1 => K (.c (.n (.v (.int .i64 x1)))) []) := by kernel_rfl
theorem Gok : (G spec_WeaveOk.Q spec_l06Closure.Q spec_l06Live.Q).ok Try.prog := ⟨(by
    intro ρ f args K r h
    rcases sel_cases h with ⟨hb, h⟩ | ⟨-, h⟩
    · obtain rfl := beq_nat hb
      exact qEntry_ok spec_WeaveOk.ac h
    rcases sel_cases h with ⟨hb, h⟩ | ⟨-, h⟩
    · obtain rfl := beq_nat hb
      exact qEntry_ok spec_l06Closure.ac h
    rcases sel_cases h with ⟨hb, h⟩ | ⟨-, h⟩
    · obtain rfl := beq_nat hb
      exact qEntry_ok spec_l06Live.ac h
    cases h),
  (by
    intro ρ f args K
    simp only [G]
    cases Nat.beq f 48 with
    | true => exact qEntry_nat args K
    | false =>
    simp only [sel]
    cases Nat.beq f 50 with
    | true => exact qEntry_nat args K
    | false =>
    simp only [sel]
    cases Nat.beq f 49 with
    | true => exact qEntry_nat args K
    | false =>
    simp only [sel]
    rfl),
  (fun ρ f st caps args dst K r h => (by cases h))⟩
theorem hm : Try.prog.follows .mixedOrders = true := by kernel_rfl
theorem e1 : atomsL [] 2 c1 = [] := by kernel_rfl
theorem ok1 (ρ : Type) (st : St) (K : Exit → St → Option ρ) (r : ρ) (h : (L V1 V0) ρ 1 st K = some r) : AW Try.prog (.loop c1) st fun e st' => K e st' = some r := by
  refine loop_ok (ct := ct1) (lv := lv1) (n := 45) (m := 0) (ks := []) (j := 1) (jn := []) (L := (L V1 V0)) Gok hm (by rw [e1]; exact Lor.ok_nil _ _) enc1I (fun k t => F1 k t.1 t.2.1 t.2.2.1 t.2.2.2.1 t.2.2.2.2.1 t.2.2.2.2.2.1 t.2.2.2.2.2.2.1 t.2.2.2.2.2.2.2 (fun z1 z2 z3 z4 z5 z6 z7 => K (.exit 2) (mkS 45 [1, 3, 4, 5, 6, 7] [.c (.p 0 0), .c (.n (.v (.int .i64 z1))), .c (.n (.v (.int .i64 z2))), .c (.n (.v (.bool z3))), .c (.n (.v (.int .i64 z4))), .c (.n (.v (.int .i64 z5)))] [.box [.n (.sl 1 (encRw z6)), .n (.sl 4 (encRw z7))]] []))) (fun t => rfl) (fun k t => ?_) (fun _ => fuelN) h
  refine (step1 spec_WeaveOk.Q spec_l06Closure.Q spec_l06Live.Q V1 V0 K _ t.1 t.2.1 t.2.2.1 t.2.2.2.1 t.2.2.2.2.1 t.2.2.2.2.2.1 t.2.2.2.2.2.2.1 t.2.2.2.2.2.2.2).trans ?_
  rw [spec_l06Closure.wrap, spec_l06Live.wrap]
  refine congrArg (fun W => B1 spec_l06Closure.F spec_l06Live.F t.1 t.2.1 t.2.2.1 t.2.2.2.1 t.2.2.2.2.1 t.2.2.2.2.2.1 t.2.2.2.2.2.2.1 t.2.2.2.2.2.2.2 W (fun z1 z2 z3 z4 z5 z6 z7 => K (.exit 2) (mkS 45 [1, 3, 4, 5, 6, 7] [.c (.p 0 0), .c (.n (.v (.int .i64 z1))), .c (.n (.v (.int .i64 z2))), .c (.n (.v (.bool z3))), .c (.n (.v (.int .i64 z4))), .c (.n (.v (.int .i64 z5)))] [.box [.n (.sl 1 (encRw z6)), .n (.sl 4 (encRw z7))]] []))) ?_
  funext u1 u2 u3 u4 u5 u6 u7 u8
  exact ofC_enc enc1I _ (u1, u2, u3, u4, u5, u6, u7, u8)
theorem e0 : atomsL [] 1 c0 = [(1, 1, .loop c1)] := by kernel_rfl
theorem ok0 (ρ : Type) (st : St) (K : Exit → St → Option ρ) (r : ρ) (h : (L V1 V0) ρ 0 st K = some r) : AW Try.prog (.loop c0) st fun e st' => K e st' = some r := by
  refine loop_ok (ct := ct0) (lv := lv0) (n := 45) (m := 0) (ks := []) (j := 0) (jn := []) (L := (L V1 V0)) Gok hm (by rw [e0]; exact Lor.ok_cons ok1 (Lor.ok_nil _ _)) enc0I (fun k t => F0 k t.1 t.2.1 t.2.2.1 t.2.2.2.1 t.2.2.2.2.1 t.2.2.2.2.2 (fun z1 => K (.exit 0) (mkS 45 [3] [.c (.n (.v (.int .i64 z1)))] [] []))) (fun t => rfl) (fun k t => ?_) (fun _ => fuelN) h
  refine (step0 spec_WeaveOk.Q spec_l06Closure.Q spec_l06Live.Q V1 V0 K _ t.1 t.2.1 t.2.2.1 t.2.2.2.1 t.2.2.2.2.1 t.2.2.2.2.2).trans ?_
  rw [V1_enc]
  refine congrArg (fun W => B0 (F1 fuelN) t.1 t.2.1 t.2.2.1 t.2.2.2.1 t.2.2.2.2.1 t.2.2.2.2.2 W (fun z1 => K (.exit 0) (mkS 45 [3] [.c (.n (.v (.int .i64 z1)))] [] []))) ?_
  funext u1 u2 u3 u4 u5 u6
  exact ofC_enc enc0I _ (u1, u2, u3, u4, u5, u6)
theorem e : atomsL [] 0 (bodyOf Try.f12) = [(0, 0, .loop c0)] := by kernel_rfl
theorem acc (t : Vec (Vec Int) × (Vec (ByteArray × Int × Int × (Vec Int)))) (x : Int) (h : F t.1 t.2 = some x) : ACc Try.prog 12 (encA t) [] true [] fun rv obs => (rv, obs) = encR x := by
  refine fun_okc (L := (L V1 V0)) (jn := []) (cmds := []) (ks := []) (hin := []) (fn := Try.f12) (body := (bodyOf Try.f12)) Gok hm Try.func12 (by kernel_rfl) (by kernel_rfl) (by rw [e]; exact Lor.ok_cons ok0 (Lor.ok_nil _ _)) ?_ h
  refine (main spec_WeaveOk.Q spec_l06Closure.Q spec_l06Live.Q V1 V0 _ t.1 t.2).trans ?_
  rw [spec_WeaveOk.wrap, V0_enc]
  refine congrArg (fun K => B spec_WeaveOk.F (F0 fuelN) t.1 t.2 K) ?_
  funext x1
  exact ofC_enc encRI some (x1)
theorem ac0 (t : Vec (Vec Int) × (Vec (ByteArray × Int × Int × (Vec Int)))) (x : Int) (h : F t.1 t.2 = some x) : AC Try.prog 12 (encA t) [] true [] fun rv obs => (rv, obs) = encR x := ACc.ac (body := bodyOf Try.f12) Try.func12 (by kernel_rfl) (by kernel_rfl) (acc t x h)
theorem ac (args : List AV) (x : Int) (h : Q args = some x) : AC Try.prog 12 args [] false [] fun rv obs => (rv, obs) = encR x := by
  obtain ⟨t, rfl, h2⟩ := ofC_some h
  refine (ac0 t x h2).flat fun rv obs e => ?_
  obtain rfl : rv = (encR x).1 := congrArg Prod.fst e
  obtain rfl : obs = (encR x).2 := congrArg Prod.snd e
  refine ⟨by simp [encR, AV.Flat, K.Flat, C.Flat], ?_⟩
  simp [encR]
end spec_LongestLived
/-! (*loop.example/g00073/impl.Weave).livesIn -/
namespace impl_Weave_livesIn
noncomputable def B0 {ρ : Type} (C_impl_Body_isLive : ByteArray → Int → Int → (Vec Int) → Int → Option Bool) (v1 : Vec (Vec Int)) (v2 : Vec (ByteArray × Int × Int × (Vec Int))) (v3 : Int) (v4 : Int) (v5 : Int) (v6 : Vec Int) (v7 : Vec (IK .u64)) (W : (Vec (Vec Int)) → (Vec (ByteArray × Int × Int × (Vec Int))) → Int → Int → Int → (Vec Int) → (Vec (IK .u64)) → Option ρ) (K0 : (Vec Int) → Option ρ) : Option ρ :=
  sel (decide (v5 < v4)) (chk (decide (0 ≤ v5 ∧ v5 < (v7.n : Int))) (chk (decide (v5.toNat < v7.n)) (chk (decide (0 ≤ v3 ∧ v3 < (v2.n : Int))) ((C_impl_Body_isLive ((v2.g v3.toNat).1) ((v2.g v3.toNat).2.1) ((v2.g v3.toNat).2.2.1) ((v2.g v3.toNat).2.2.2) ((v7.g v5.toNat).v)).bind fun r2 => sel (r2) (chk (decide ((v6.n + (Vec.lit [v5] : Vec Int).n) * 9 ≤ maxN)) (W v1 v2 v3 v4 (wr (v5 + (1 : Int))) (Vec.app v6 (Vec.lit [v5] : Vec Int)) v7)) (W v1 v2 v3 v4 (wr (v5 + (1 : Int))) v6 v7))))) (K0 v6)
noncomputable def F0 {ρ : Type} : Nat → (Vec (Vec Int)) → (Vec (ByteArray × Int × Int × (Vec Int))) → Int → Int → Int → (Vec Int) → (Vec (IK .u64)) → ((Vec Int) → Option ρ) → Option ρ
  | 0, _, _, _, _, _, _, _, _ => none
  | k + 1, v1, v2, v3, v4, v5, v6, v7, K0 => B0 impl_Body_isLive.F v1 v2 v3 v4 v5 v6 v7 (fun v1' v2' v3' v4' v5' v6' v7' => F0 k v1' v2' v3' v4' v5' v6' v7' K0) K0
noncomputable def B {ρ : Type} (C_impl_closures : (Vec (Vec Int)) → Option (Vec (IK .u64))) (L0 : (Vec (Vec Int)) → (Vec (ByteArray × Int × Int × (Vec Int))) → Int → Int → Int → (Vec Int) → (Vec (IK .u64)) → ((Vec Int) → Option ρ) → Option ρ) (a1 : Vec (Vec Int)) (a2 : Vec (ByteArray × Int × Int × (Vec Int))) (a3 : Int) (K : (Vec Int) → Option ρ) : Option ρ :=
  (C_impl_closures a1).bind fun r1 => L0 a1 a2 a3 (r1.n : Int) (0 : Int) (Vec.nil : Vec Int) r1 (fun e01 => K e01)
noncomputable def F (a1 : Vec (Vec Int)) (a2 : Vec (ByteArray × Int × Int × (Vec Int))) (a3 : Int) : Option (Vec Int) := B impl_closures.F (F0 fuelN) a1 a2 a3 (fun x1 => some (x1))
def encA (t : Vec (Vec Int) × (Vec (ByteArray × Int × Int × (Vec Int))) × Int) : List AV := [.ra [.sl 1 (encRw t.1), .sl 4 (encRw t.2.1)], .c (.n (.v (.int .i64 t.2.2)))]
def encR (x : Vec Int) : AV × List Ob := (.c (.h 0), [.row 1 (encRw x) []])
theorem encAI : ∀ a b, encA a = encA b → a = b := by
  intro a b h
  obtain ⟨a0, a1, a2⟩ := a
  obtain ⟨b0, b1, b2⟩ := b
  simp [encA, encRw_iff] at h
  simp_all
theorem encRI : ∀ a b, encR a = encR b → a = b := by
  intro a b h
  simp [encR, encRw_iff] at h
  simp_all
noncomputable def Q (args : List AV) : Option (Vec Int) := ofC encA (fun t => F t.1 t.2.1 t.2.2) args
theorem wrap : (fun (y1 : Vec (Vec Int)) (y2 : Vec (ByteArray × Int × Int × (Vec Int))) (y3 : Int) => Q [.ra [.sl 1 (encRw y1), .sl 4 (encRw y2)], .c (.n (.v (.int .i64 y3)))]) = F := by
  funext y1 y2 y3
  exact ofC_enc encAI _ (y1, y2, y3)
noncomputable def G (q_impl_closures : List AV → Option (Vec (IK .u64))) (q_impl_Body_isLive : List AV → Option Bool) : Orc := ⟨fun f => sel (Nat.beq f 90) 0 (sel (Nat.beq f 91) 0 (9)), fun ρ f args K => sel (Nat.beq f 90) (qEntry impl_closures.encR q_impl_closures args K) (sel (Nat.beq f 91) (qEntry impl_Body_isLive.encR q_impl_Body_isLive args K) (Option.none)), noE⟩
noncomputable def L (W0 : (ρ : Type) → List AV → List Ob → ((Vec Int) → Option ρ) → Option ρ) : Lor := fun ρ j st K => sel (Nat.beq j 0) (cutO Try.prog 34 [0, 1, 5, 12, 13, 14] 0 [] [.ad (.s 5) 64] st fun avs obs => W0 ρ avs obs (fun z1 => K (.exit 0) (mkS 34 [5] [.c (.h 0)] [.row 1 (encRw z1) []] []))) (Option.none)
noncomputable def c0 : Code := loopC (atomN [] 0 (bodyOf Try.f54) 0)
def ct0 : Cut := ⟨[0, 1, 5, 12, 13, 14], [.ad (.s 5) 64]⟩
def lv0 : Exit → Cut
  | .exit 0 => ⟨[5], []⟩
  | _ => ⟨[], []⟩
theorem step0 (q_impl_closures : List AV → Option (Vec (IK .u64))) (q_impl_Body_isLive : List AV → Option Bool) (W0 : (ρ : Type) → List AV → List Ob → ((Vec Int) → Option ρ) → Option ρ) {ρ : Type} (K : Exit → St → Option ρ) (W : List AV → List Ob → Option ρ) (v1 : Vec (Vec Int)) (v2 : Vec (ByteArray × Int × Int × (Vec Int))) (v3 : Int) (v4 : Int) (v5 : Int) (v6 : Vec Int) (v7 : Vec (IK .u64)) : exC Try.prog (G q_impl_closures q_impl_Body_isLive) (L W0) [] 1 c0 (mkS 34 [0, 1, 5, 12, 13, 14] [.ra [.sl 1 (encRw v1), .sl 4 (encRw v2)], .c (.n (.v (.int .i64 v3))), .c (.h 0), .c (.h 1), .c (.n (.v (.int .i64 v4))), .c (.n (.v (.int .i64 v5)))] [.row 1 (encRw v6) [], .row 1 (encRw v7) []] []) (bodyK Try.prog 34 0 [] ct0 W lv0 K) =
    B0 (fun y1 y2 y3 y4 y5 => q_impl_Body_isLive [.a [.n (.v (.string y1)), .n (.v (.int .i64 y2)), .n (.v (.int .i64 y3)), .n (.sl 1 (encRw y4))], .c (.n (.v (.int .u64 y5)))]) v1 v2 v3 v4 v5 v6 v7 (fun u1 u2 u3 u4 u5 u6 u7 => W [.ra [.sl 1 (encRw u1), .sl 4 (encRw u2)], .c (.n (.v (.int .i64 u3))), .c (.h 0), .c (.h 1), .c (.n (.v (.int .i64 u4))), .c (.n (.v (.int .i64 u5)))] [.row 1 (encRw u6) [], .row 1 (encRw u7) []]) (fun z1 => K (.exit 0) (mkS 34 [5] [.c (.h 0)] [.row 1 (encRw z1) []] [])) := by kernel_rfl
def enc0 (t : Vec (Vec Int) × (Vec (ByteArray × Int × Int × (Vec Int))) × Int × Int × Int × Vec Int × Vec (IK .u64)) : List AV × List Ob := ([.ra [.sl 1 (encRw t.1), .sl 4 (encRw t.2.1)], .c (.n (.v (.int .i64 t.2.2.1))), .c (.h 0), .c (.h 1), .c (.n (.v (.int .i64 t.2.2.2.1))), .c (.n (.v (.int .i64 t.2.2.2.2.1)))], [.row 1 (encRw t.2.2.2.2.2.1) [], .row 1 (encRw t.2.2.2.2.2.2) []])
theorem enc0I : ∀ a b, enc0 a = enc0 b → a = b := by
  intro a b h
  obtain ⟨a0, a1, a2, a3, a4, a5, a6⟩ := a
  obtain ⟨b0, b1, b2, b3, b4, b5, b6⟩ := b
  simp [enc0, encRw_iff] at h
  simp_all
noncomputable def V0 : (ρ : Type) → List AV → List Ob → ((Vec Int) → Option ρ) → Option ρ := fun ρ avs obs k0 => ofC enc0 (fun t => F0 fuelN t.1 t.2.1 t.2.2.1 t.2.2.2.1 t.2.2.2.2.1 t.2.2.2.2.2.1 t.2.2.2.2.2.2 k0) (avs, obs)
theorem V0_enc (ρ : Type) : (fun w1 w2 w3 w4 w5 w6 w7 k0 => V0 ρ [.ra [.sl 1 (encRw w1), .sl 4 (encRw w2)], .c (.n (.v (.int .i64 w3))), .c (.h 0), .c (.h 1), .c (.n (.v (.int .i64 w4))), .c (.n (.v (.int .i64 w5)))] [.row 1 (encRw w6) [], .row 1 (encRw w7) []] k0) = F0 fuelN := by
  funext w1 w2 w3 w4 w5 w6 w7 k0
  exact ofC_enc enc0I _ (w1, w2, w3, w4, w5, w6, w7)
theorem main (q_impl_closures : List AV → Option (Vec (IK .u64))) (q_impl_Body_isLive : List AV → Option Bool) (W0 : (ρ : Type) → List AV → List Ob → ((Vec Int) → Option ρ) → Option ρ) {ρ : Type} (K : AV → List Ob → Option ρ) (a1 : Vec (Vec Int)) (a2 : Vec (ByteArray × Int × Int × (Vec Int))) (a3 : Int) : exC Try.prog (G q_impl_closures q_impl_Body_isLive) (L W0) [] 0 (bodyOf Try.f54) (entry 34 [.ra [.sl 1 (encRw a1), .sl 4 (encRw a2)], .c (.n (.v (.int .i64 a3)))] [] []) (finO Try.prog Try.f54.results.toList 0 [] [] K) =
    B (fun y1 => q_impl_closures [.c (.n (.sl 1 (encRw y1)))]) (fun w1 w2 w3 w4 w5 w6 w7 k0 => W0 ρ [.ra [.sl 1 (encRw w1), .sl 4 (encRw w2)], .c (.n (.v (.int .i64 w3))), .c (.h 0), .c (.h 1), .c (.n (.v (.int .i64 w4))), .c (.n (.v (.int .i64 w5)))] [.row 1 (encRw w6) [], .row 1 (encRw w7) []] k0) a1 a2 a3 (fun x1 => K (.c (.h 0)) [.row 1 (encRw x1) []]) := by kernel_rfl
theorem Gok : (G impl_closures.Q impl_Body_isLive.Q).ok Try.prog := ⟨(by
    intro ρ f args K r h
    rcases sel_cases h with ⟨hb, h⟩ | ⟨-, h⟩
    · obtain rfl := beq_nat hb
      exact qEntry_ok impl_closures.ac h
    rcases sel_cases h with ⟨hb, h⟩ | ⟨-, h⟩
    · obtain rfl := beq_nat hb
      exact qEntry_ok impl_Body_isLive.ac h
    cases h),
  (by
    intro ρ f args K
    simp only [G]
    cases Nat.beq f 90 with
    | true => exact qEntry_nat args K
    | false =>
    simp only [sel]
    cases Nat.beq f 91 with
    | true => exact qEntry_nat args K
    | false =>
    simp only [sel]
    rfl),
  (fun ρ f st caps args dst K r h => (by cases h))⟩
theorem hm : Try.prog.follows .mixedOrders = true := by kernel_rfl
theorem e0 : atomsL [] 1 c0 = [] := by kernel_rfl
theorem ok0 (ρ : Type) (st : St) (K : Exit → St → Option ρ) (r : ρ) (h : (L V0) ρ 0 st K = some r) : AW Try.prog (.loop c0) st fun e st' => K e st' = some r := by
  refine loop_ok (ct := ct0) (lv := lv0) (n := 34) (m := 0) (ks := []) (j := 0) (jn := []) (L := (L V0)) Gok hm (by rw [e0]; exact Lor.ok_nil _ _) enc0I (fun k t => F0 k t.1 t.2.1 t.2.2.1 t.2.2.2.1 t.2.2.2.2.1 t.2.2.2.2.2.1 t.2.2.2.2.2.2 (fun z1 => K (.exit 0) (mkS 34 [5] [.c (.h 0)] [.row 1 (encRw z1) []] []))) (fun t => rfl) (fun k t => ?_) (fun _ => fuelN) h
  refine (step0 impl_closures.Q impl_Body_isLive.Q V0 K _ t.1 t.2.1 t.2.2.1 t.2.2.2.1 t.2.2.2.2.1 t.2.2.2.2.2.1 t.2.2.2.2.2.2).trans ?_
  rw [impl_Body_isLive.wrap]
  refine congrArg (fun W => B0 impl_Body_isLive.F t.1 t.2.1 t.2.2.1 t.2.2.2.1 t.2.2.2.2.1 t.2.2.2.2.2.1 t.2.2.2.2.2.2 W (fun z1 => K (.exit 0) (mkS 34 [5] [.c (.h 0)] [.row 1 (encRw z1) []] []))) ?_
  funext u1 u2 u3 u4 u5 u6 u7
  exact ofC_enc enc0I _ (u1, u2, u3, u4, u5, u6, u7)
theorem e : atomsL [] 0 (bodyOf Try.f54) = [(0, 0, .loop c0)] := by kernel_rfl
theorem acc (t : Vec (Vec Int) × (Vec (ByteArray × Int × Int × (Vec Int))) × Int) (x : Vec Int) (h : F t.1 t.2.1 t.2.2 = some x) : ACc Try.prog 54 (encA t) [] true [] fun rv obs => (rv, obs) = encR x := by
  refine fun_okc (L := (L V0)) (jn := []) (cmds := []) (ks := []) (hin := []) (fn := Try.f54) (body := (bodyOf Try.f54)) Gok hm Try.func54 (by kernel_rfl) (by kernel_rfl) (by rw [e]; exact Lor.ok_cons ok0 (Lor.ok_nil _ _)) ?_ h
  refine (main impl_closures.Q impl_Body_isLive.Q V0 _ t.1 t.2.1 t.2.2).trans ?_
  rw [impl_closures.wrap, V0_enc]
  refine congrArg (fun K => B impl_closures.F (F0 fuelN) t.1 t.2.1 t.2.2 K) ?_
  funext x1
  exact ofC_enc encRI some (x1)
theorem ac0 (t : Vec (Vec Int) × (Vec (ByteArray × Int × Int × (Vec Int))) × Int) (x : Vec Int) (h : F t.1 t.2.1 t.2.2 = some x) : AC Try.prog 54 (encA t) [] true [] fun rv obs => (rv, obs) = encR x := ACc.ac (body := bodyOf Try.f54) Try.func54 (by kernel_rfl) (by kernel_rfl) (acc t x h)
theorem ac (args : List AV) (x : Vec Int) (h : Q args = some x) : AC Try.prog 54 args [] false [] fun rv obs => (rv, obs) = encR x := by
  obtain ⟨t, rfl, h2⟩ := ofC_some h
  refine (ac0 t x h2).flat fun rv obs e => ?_
  obtain rfl : rv = (encR x).1 := congrArg Prod.fst e
  obtain rfl : obs = (encR x).2 := congrArg Prod.snd e
  refine ⟨by simp [encR, AV.Flat, K.Flat, C.Flat], ?_⟩
  intro o ho
  simp only [encR, List.mem_cons, List.not_mem_nil, or_false] at ho
  subst ho
  exact flat_rw rfl _
end impl_Weave_livesIn
/-! loop.example/g00073/impl.LongestLived -/
namespace impl_LongestLived
noncomputable def B0 {ρ : Type} (C_impl_Weave_livesIn : (Vec (Vec Int)) → (Vec (ByteArray × Int × Int × (Vec Int))) → Int → Option (Vec Int)) (v1 : Int) (v2 : Int) (v3 : Int) (v4 : Int) (v5 : Vec (Vec Int)) (v6 : Vec (ByteArray × Int × Int × (Vec Int))) (W : Int → Int → Int → Int → (Vec (Vec Int)) → (Vec (ByteArray × Int × Int × (Vec Int))) → Option ρ) (K0 : Int → Option ρ) : Option ρ :=
  sel (decide (v4 < v3)) ((C_impl_Weave_livesIn v5 v6 v4).bind fun r2 => sel (decide (v2 < (r2.n : Int))) (W v4 (r2.n : Int) v3 (wr (v4 + (1 : Int))) v5 v6) (W v1 v2 v3 (wr (v4 + (1 : Int))) v5 v6)) (K0 v1)
noncomputable def F0 {ρ : Type} : Nat → Int → Int → Int → Int → (Vec (Vec Int)) → (Vec (ByteArray × Int × Int × (Vec Int))) → (Int → Option ρ) → Option ρ
  | 0, _, _, _, _, _, _, _ => none
  | k + 1, v1, v2, v3, v4, v5, v6, K0 => B0 impl_Weave_livesIn.F v1 v2 v3 v4 v5 v6 (fun v1' v2' v3' v4' v5' v6' => F0 k v1' v2' v3' v4' v5' v6' K0) K0
noncomputable def B {ρ : Type} (C_impl_WeaveOk : (Vec (Vec Int)) → (Vec (ByteArray × Int × Int × (Vec Int))) → Option Bool) (L0 : Int → Int → Int → Int → (Vec (Vec Int)) → (Vec (ByteArray × Int × Int × (Vec Int))) → (Int → Option ρ) → Option ρ) (a1 : Vec (Vec Int)) (a2 : Vec (ByteArray × Int × Int × (Vec Int))) (K : Int → Option ρ) : Option ρ :=
  (C_impl_WeaveOk a1 a2).bind fun r1 => sel ((!r1)) (K (-1 : Int)) (L0 (-1 : Int) (-1 : Int) (a2.n : Int) (0 : Int) a1 a2 (fun e01 => K e01))
noncomputable def F (a1 : Vec (Vec Int)) (a2 : Vec (ByteArray × Int × Int × (Vec Int))) : Option Int := B impl_WeaveOk.F (F0 fuelN) a1 a2 (fun x1 => some (x1))
def encA (t : Vec (Vec Int) × (Vec (ByteArray × Int × Int × (Vec Int)))) : List AV := [.a [.n (.sl 1 (encRw t.1)), .n (.sl 4 (encRw t.2))]]
def encR (x : Int) : AV × List Ob := (.c (.n (.v (.int .i64 x))), [])
theorem encAI : ∀ a b, encA a = encA b → a = b := by
  intro a b h
  obtain ⟨a0, a1⟩ := a
  obtain ⟨b0, b1⟩ := b
  simp [encA, encRw_iff] at h
  simp_all
theorem encRI : ∀ a b, encR a = encR b → a = b := by
  intro a b h
  simp [encR, encRw_iff] at h
  simp_all
noncomputable def Q (args : List AV) : Option Int := ofC encA (fun t => F t.1 t.2) args
theorem wrap : (fun (y1 : Vec (Vec Int)) (y2 : Vec (ByteArray × Int × Int × (Vec Int))) => Q [.a [.n (.sl 1 (encRw y1)), .n (.sl 4 (encRw y2))]]) = F := by
  funext y1 y2
  exact ofC_enc encAI _ (y1, y2)
noncomputable def G (q_impl_WeaveOk : List AV → Option Bool) (q_impl_Weave_livesIn : List AV → Option (Vec Int)) : Orc := ⟨fun f => sel (Nat.beq f 53) 0 (sel (Nat.beq f 54) 0 (9)), fun ρ f args K => sel (Nat.beq f 53) (qEntry impl_WeaveOk.encR q_impl_WeaveOk args K) (sel (Nat.beq f 54) (qEntry impl_Weave_livesIn.encR q_impl_Weave_livesIn args K) (Option.none)), noE⟩
noncomputable def L (W0 : (ρ : Type) → List AV → List Ob → (Int → Option ρ) → Option ρ) : Lor := fun ρ j st K => sel (Nat.beq j 0) (cutO Try.prog 26 [1, 3, 4, 12, 13] 0 [] [] st fun avs obs => W0 ρ avs obs (fun z1 => K (.exit 0) (mkS 26 [3] [.c (.n (.v (.int .i64 z1)))] [] []))) (Option.none)
noncomputable def c0 : Code := loopC (atomN [] 0 (bodyOf Try.f14) 0)
def ct0 : Cut := ⟨[1, 3, 4, 12, 13], []⟩
def lv0 : Exit → Cut
  | .exit 0 => ⟨[3], []⟩
  | _ => ⟨[], []⟩
theorem step0 (q_impl_WeaveOk : List AV → Option Bool) (q_impl_Weave_livesIn : List AV → Option (Vec Int)) (W0 : (ρ : Type) → List AV → List Ob → (Int → Option ρ) → Option ρ) {ρ : Type} (K : Exit → St → Option ρ) (W : List AV → List Ob → Option ρ) (v1 : Int) (v2 : Int) (v3 : Int) (v4 : Int) (v5 : Vec (Vec Int)) (v6 : Vec (ByteArray × Int × Int × (Vec Int))) : exC Try.prog (G q_impl_WeaveOk q_impl_Weave_livesIn) (L W0) [] 1 c0 (mkS 26 [1, 3, 4, 12, 13] [.c (.p 0 0), .c (.n (.v (.int .i64 v1))), .c (.n (.v (.int .i64 v2))), .c (.n (.v (.int .i64 v3))), .c (.n (.v (.int .i64 v4)))] [.box [.n (.sl 1 (encRw v5)), .n (.sl 4 (encRw v6))]] []) (bodyK Try.prog 26 0 [] ct0 W lv0 K) =
    B0 (fun y1 y2 y3 => q_impl_Weave_livesIn [.ra [.sl 1 (encRw y1), .sl 4 (encRw y2)], .c (.n (.v (.int .i64 y3)))]) v1 v2 v3 v4 v5 v6 (fun u1 u2 u3 u4 u5 u6 => W [.c (.p 0 0), .c (.n (.v (.int .i64 u1))), .c (.n (.v (.int .i64 u2))), .c (.n (.v (.int .i64 u3))), .c (.n (.v (.int .i64 u4)))] [.box [.n (.sl 1 (encRw u5)), .n (.sl 4 (encRw u6))]]) (fun z1 => K (.exit 0) (mkS 26 [3] [.c (.n (.v (.int .i64 z1)))] [] [])) := by kernel_rfl
def enc0 (t : Int × Int × Int × Int × Vec (Vec Int) × (Vec (ByteArray × Int × Int × (Vec Int)))) : List AV × List Ob := ([.c (.p 0 0), .c (.n (.v (.int .i64 t.1))), .c (.n (.v (.int .i64 t.2.1))), .c (.n (.v (.int .i64 t.2.2.1))), .c (.n (.v (.int .i64 t.2.2.2.1)))], [.box [.n (.sl 1 (encRw t.2.2.2.2.1)), .n (.sl 4 (encRw t.2.2.2.2.2))]])
theorem enc0I : ∀ a b, enc0 a = enc0 b → a = b := by
  intro a b h
  obtain ⟨a0, a1, a2, a3, a4, a5⟩ := a
  obtain ⟨b0, b1, b2, b3, b4, b5⟩ := b
  simp [enc0, encRw_iff] at h
  simp_all
noncomputable def V0 : (ρ : Type) → List AV → List Ob → (Int → Option ρ) → Option ρ := fun ρ avs obs k0 => ofC enc0 (fun t => F0 fuelN t.1 t.2.1 t.2.2.1 t.2.2.2.1 t.2.2.2.2.1 t.2.2.2.2.2 k0) (avs, obs)
theorem V0_enc (ρ : Type) : (fun w1 w2 w3 w4 w5 w6 k0 => V0 ρ [.c (.p 0 0), .c (.n (.v (.int .i64 w1))), .c (.n (.v (.int .i64 w2))), .c (.n (.v (.int .i64 w3))), .c (.n (.v (.int .i64 w4)))] [.box [.n (.sl 1 (encRw w5)), .n (.sl 4 (encRw w6))]] k0) = F0 fuelN := by
  funext w1 w2 w3 w4 w5 w6 k0
  exact ofC_enc enc0I _ (w1, w2, w3, w4, w5, w6)
theorem main (q_impl_WeaveOk : List AV → Option Bool) (q_impl_Weave_livesIn : List AV → Option (Vec Int)) (W0 : (ρ : Type) → List AV → List Ob → (Int → Option ρ) → Option ρ) {ρ : Type} (K : AV → List Ob → Option ρ) (a1 : Vec (Vec Int)) (a2 : Vec (ByteArray × Int × Int × (Vec Int))) : exC Try.prog (G q_impl_WeaveOk q_impl_Weave_livesIn) (L W0) [] 0 (bodyOf Try.f14) (entry 26 [.a [.n (.sl 1 (encRw a1)), .n (.sl 4 (encRw a2))]] [] []) (finO Try.prog Try.f14.results.toList 0 [] [] K) =
    B (fun y1 y2 => q_impl_WeaveOk [.a [.n (.sl 1 (encRw y1)), .n (.sl 4 (encRw y2))]]) (fun w1 w2 w3 w4 w5 w6 k0 => W0 ρ [.c (.p 0 0), .c (.n (.v (.int .i64 w1))), .c (.n (.v (.int .i64 w2))), .c (.n (.v (.int .i64 w3))), .c (.n (.v (.int .i64 w4)))] [.box [.n (.sl 1 (encRw w5)), .n (.sl 4 (encRw w6))]] k0) a1 a2 (fun x1 => K (.c (.n (.v (.int .i64 x1)))) []) := by kernel_rfl
theorem Gok : (G impl_WeaveOk.Q impl_Weave_livesIn.Q).ok Try.prog := ⟨(by
    intro ρ f args K r h
    rcases sel_cases h with ⟨hb, h⟩ | ⟨-, h⟩
    · obtain rfl := beq_nat hb
      exact qEntry_ok impl_WeaveOk.ac h
    rcases sel_cases h with ⟨hb, h⟩ | ⟨-, h⟩
    · obtain rfl := beq_nat hb
      exact qEntry_ok impl_Weave_livesIn.ac h
    cases h),
  (by
    intro ρ f args K
    simp only [G]
    cases Nat.beq f 53 with
    | true => exact qEntry_nat args K
    | false =>
    simp only [sel]
    cases Nat.beq f 54 with
    | true => exact qEntry_nat args K
    | false =>
    simp only [sel]
    rfl),
  (fun ρ f st caps args dst K r h => (by cases h))⟩
theorem hm : Try.prog.follows .mixedOrders = true := by kernel_rfl
theorem e0 : atomsL [] 1 c0 = [] := by kernel_rfl
theorem ok0 (ρ : Type) (st : St) (K : Exit → St → Option ρ) (r : ρ) (h : (L V0) ρ 0 st K = some r) : AW Try.prog (.loop c0) st fun e st' => K e st' = some r := by
  refine loop_ok (ct := ct0) (lv := lv0) (n := 26) (m := 0) (ks := []) (j := 0) (jn := []) (L := (L V0)) Gok hm (by rw [e0]; exact Lor.ok_nil _ _) enc0I (fun k t => F0 k t.1 t.2.1 t.2.2.1 t.2.2.2.1 t.2.2.2.2.1 t.2.2.2.2.2 (fun z1 => K (.exit 0) (mkS 26 [3] [.c (.n (.v (.int .i64 z1)))] [] []))) (fun t => rfl) (fun k t => ?_) (fun _ => fuelN) h
  refine (step0 impl_WeaveOk.Q impl_Weave_livesIn.Q V0 K _ t.1 t.2.1 t.2.2.1 t.2.2.2.1 t.2.2.2.2.1 t.2.2.2.2.2).trans ?_
  rw [impl_Weave_livesIn.wrap]
  refine congrArg (fun W => B0 impl_Weave_livesIn.F t.1 t.2.1 t.2.2.1 t.2.2.2.1 t.2.2.2.2.1 t.2.2.2.2.2 W (fun z1 => K (.exit 0) (mkS 26 [3] [.c (.n (.v (.int .i64 z1)))] [] []))) ?_
  funext u1 u2 u3 u4 u5 u6
  exact ofC_enc enc0I _ (u1, u2, u3, u4, u5, u6)
theorem e : atomsL [] 0 (bodyOf Try.f14) = [(0, 0, .loop c0)] := by kernel_rfl
theorem acc (t : Vec (Vec Int) × (Vec (ByteArray × Int × Int × (Vec Int)))) (x : Int) (h : F t.1 t.2 = some x) : ACc Try.prog 14 (encA t) [] true [] fun rv obs => (rv, obs) = encR x := by
  refine fun_okc (L := (L V0)) (jn := []) (cmds := []) (ks := []) (hin := []) (fn := Try.f14) (body := (bodyOf Try.f14)) Gok hm Try.func14 (by kernel_rfl) (by kernel_rfl) (by rw [e]; exact Lor.ok_cons ok0 (Lor.ok_nil _ _)) ?_ h
  refine (main impl_WeaveOk.Q impl_Weave_livesIn.Q V0 _ t.1 t.2).trans ?_
  rw [impl_WeaveOk.wrap, V0_enc]
  refine congrArg (fun K => B impl_WeaveOk.F (F0 fuelN) t.1 t.2 K) ?_
  funext x1
  exact ofC_enc encRI some (x1)
theorem ac0 (t : Vec (Vec Int) × (Vec (ByteArray × Int × Int × (Vec Int)))) (x : Int) (h : F t.1 t.2 = some x) : AC Try.prog 14 (encA t) [] true [] fun rv obs => (rv, obs) = encR x := ACc.ac (body := bodyOf Try.f14) Try.func14 (by kernel_rfl) (by kernel_rfl) (acc t x h)
theorem ac (args : List AV) (x : Int) (h : Q args = some x) : AC Try.prog 14 args [] false [] fun rv obs => (rv, obs) = encR x := by
  obtain ⟨t, rfl, h2⟩ := ofC_some h
  refine (ac0 t x h2).flat fun rv obs e => ?_
  obtain rfl : rv = (encR x).1 := congrArg Prod.fst e
  obtain rfl : obs = (encR x).2 := congrArg Prod.snd e
  refine ⟨by simp [encR, AV.Flat, K.Flat, C.Flat], ?_⟩
  simp [encR]
end impl_LongestLived
/-! loop.example/g00073/laws.FnExactLongestLived -/
namespace laws_FnExactLongestLived
noncomputable def B {ρ : Type} (C_laws_szWeave : (Vec (Vec Int)) → (Vec (ByteArray × Int × Int × (Vec Int))) → Int → Option Int) (C_laws_toWeave : (Vec (Vec Int)) → (Vec (ByteArray × Int × Int × (Vec Int))) → Option (Vec (Vec Int) × (Vec (ByteArray × Int × Int × (Vec Int))))) (C_spec_LongestLived : (Vec (Vec Int)) → (Vec (ByteArray × Int × Int × (Vec Int))) → Option Int) (C_impl_LongestLived : (Vec (Vec Int)) → (Vec (ByteArray × Int × Int × (Vec Int))) → Option Int) (C_laws_eqWeave : (Vec (Vec Int)) → (Vec (ByteArray × Int × Int × (Vec Int))) → (Vec (Vec Int)) → (Vec (ByteArray × Int × Int × (Vec Int))) → Option Bool) (a1 : Vec (Vec Int)) (a2 : Vec (ByteArray × Int × Int × (Vec Int))) (K : Bool → Option ρ) : Option ρ :=
  (C_laws_szWeave a1 a2 (1048576 : Int)).bind fun r1 => sel (decide (r1 < (0 : Int))) (K true) ((C_laws_toWeave a1 a2).bind fun r2 => (C_spec_LongestLived r2.1 r2.2).bind fun r3 => (C_laws_toWeave a1 a2).bind fun r4 => (C_impl_LongestLived r4.1 r4.2).bind fun r5 => sel ((!decide (r5 = r3))) (K false) ((C_laws_toWeave a1 a2).bind fun r6 => (C_laws_eqWeave r4.1 r4.2 r6.1 r6.2).bind fun r7 => sel ((!r7)) (K false) (K true)))
noncomputable def F (a1 : Vec (Vec Int)) (a2 : Vec (ByteArray × Int × Int × (Vec Int))) : Option Bool := B laws_szWeave.F laws_toWeave.F spec_LongestLived.F impl_LongestLived.F laws_eqWeave.F a1 a2 (fun x1 => some (x1))
def encA (t : Vec (Vec Int) × (Vec (ByteArray × Int × Int × (Vec Int)))) : List AV := [.a [.n (.sl 1 (encRw t.1)), .n (.sl 4 (encRw t.2))]]
def encR (x : Bool) : AV × List Ob := (.c (.n (.v (.bool x))), [])
theorem encAI : ∀ a b, encA a = encA b → a = b := by
  intro a b h
  obtain ⟨a0, a1⟩ := a
  obtain ⟨b0, b1⟩ := b
  simp [encA, encRw_iff] at h
  simp_all
theorem encRI : ∀ a b, encR a = encR b → a = b := by
  intro a b h
  simp [encR, encRw_iff] at h
  simp_all
noncomputable def Q (args : List AV) : Option Bool := ofC encA (fun t => F t.1 t.2) args
theorem wrap : (fun (y1 : Vec (Vec Int)) (y2 : Vec (ByteArray × Int × Int × (Vec Int))) => Q [.a [.n (.sl 1 (encRw y1)), .n (.sl 4 (encRw y2))]]) = F := by
  funext y1 y2
  exact ofC_enc encAI _ (y1, y2)
noncomputable def G (q_laws_szWeave : List AV → Option Int) (q_laws_toWeave : List AV → Option (Vec (Vec Int) × (Vec (ByteArray × Int × Int × (Vec Int))))) (q_spec_LongestLived : List AV → Option Int) (q_impl_LongestLived : List AV → Option Int) (q_laws_eqWeave : List AV → Option Bool) : Orc := ⟨fun f => sel (Nat.beq f 11) 0 (sel (Nat.beq f 13) 0 (sel (Nat.beq f 12) 0 (sel (Nat.beq f 14) 0 (sel (Nat.beq f 15) 0 (9))))), fun ρ f args K => sel (Nat.beq f 11) (qEntry laws_szWeave.encR q_laws_szWeave args K) (sel (Nat.beq f 13) (qEntry laws_toWeave.encR q_laws_toWeave args K) (sel (Nat.beq f 12) (qEntry spec_LongestLived.encR q_spec_LongestLived args K) (sel (Nat.beq f 14) (qEntry impl_LongestLived.encR q_impl_LongestLived args K) (sel (Nat.beq f 15) (qEntry laws_eqWeave.encR q_laws_eqWeave args K) (Option.none))))), noE⟩
noncomputable def L : Lor := fun ρ j st K => Option.none
theorem main (q_laws_szWeave : List AV → Option Int) (q_laws_toWeave : List AV → Option (Vec (Vec Int) × (Vec (ByteArray × Int × Int × (Vec Int))))) (q_spec_LongestLived : List AV → Option Int) (q_impl_LongestLived : List AV → Option Int) (q_laws_eqWeave : List AV → Option Bool) {ρ : Type} (K : AV → List Ob → Option ρ) (a1 : Vec (Vec Int)) (a2 : Vec (ByteArray × Int × Int × (Vec Int))) : exC Try.prog (G q_laws_szWeave q_laws_toWeave q_spec_LongestLived q_impl_LongestLived q_laws_eqWeave) (L) [] 0 (bodyOf Try.f3) (entry 27 [.a [.n (.sl 1 (encRw a1)), .n (.sl 4 (encRw a2))]] [] []) (finO Try.prog Try.f3.results.toList 0 [] [] K) =
    B (fun y1 y2 y3 => q_laws_szWeave [.a [.n (.sl 1 (encRw y1)), .n (.sl 4 (encRw y2))], .c (.n (.v (.int .i64 y3)))]) (fun y1 y2 => q_laws_toWeave [.a [.n (.sl 1 (encRw y1)), .n (.sl 4 (encRw y2))]]) (fun y1 y2 => q_spec_LongestLived [.a [.n (.sl 1 (encRw y1)), .n (.sl 4 (encRw y2))]]) (fun y1 y2 => q_impl_LongestLived [.a [.n (.sl 1 (encRw y1)), .n (.sl 4 (encRw y2))]]) (fun y1 y2 y3 y4 => q_laws_eqWeave [.a [.n (.sl 1 (encRw y1)), .n (.sl 4 (encRw y2))], .a [.n (.sl 1 (encRw y3)), .n (.sl 4 (encRw y4))]]) a1 a2 (fun x1 => K (.c (.n (.v (.bool x1)))) []) := by kernel_rfl
theorem Gok : (G laws_szWeave.Q laws_toWeave.Q spec_LongestLived.Q impl_LongestLived.Q laws_eqWeave.Q).ok Try.prog := ⟨(by
    intro ρ f args K r h
    rcases sel_cases h with ⟨hb, h⟩ | ⟨-, h⟩
    · obtain rfl := beq_nat hb
      exact qEntry_ok laws_szWeave.ac h
    rcases sel_cases h with ⟨hb, h⟩ | ⟨-, h⟩
    · obtain rfl := beq_nat hb
      exact qEntry_ok laws_toWeave.ac h
    rcases sel_cases h with ⟨hb, h⟩ | ⟨-, h⟩
    · obtain rfl := beq_nat hb
      exact qEntry_ok spec_LongestLived.ac h
    rcases sel_cases h with ⟨hb, h⟩ | ⟨-, h⟩
    · obtain rfl := beq_nat hb
      exact qEntry_ok impl_LongestLived.ac h
    rcases sel_cases h with ⟨hb, h⟩ | ⟨-, h⟩
    · obtain rfl := beq_nat hb
      exact qEntry_ok laws_eqWeave.ac h
    cases h),
  (by
    intro ρ f args K
    simp only [G]
    cases Nat.beq f 11 with
    | true => exact qEntry_nat args K
    | false =>
    simp only [sel]
    cases Nat.beq f 13 with
    | true => exact qEntry_nat args K
    | false =>
    simp only [sel]
    cases Nat.beq f 12 with
    | true => exact qEntry_nat args K
    | false =>
    simp only [sel]
    cases Nat.beq f 14 with
    | true => exact qEntry_nat args K
    | false =>
    simp only [sel]
    cases Nat.beq f 15 with
    | true => exact qEntry_nat args K
    | false =>
    simp only [sel]
    rfl),
  (fun ρ f st caps args dst K r h => (by cases h))⟩
theorem hm : Try.prog.follows .mixedOrders = true := by kernel_rfl
theorem e : atomsL [] 0 (bodyOf Try.f3) = [] := by kernel_rfl
theorem acc (t : Vec (Vec Int) × (Vec (ByteArray × Int × Int × (Vec Int)))) (x : Bool) (h : F t.1 t.2 = some x) : ACc Try.prog 3 (encA t) [] true [] fun rv obs => (rv, obs) = encR x := by
  refine fun_okc (L := (L)) (jn := []) (cmds := []) (ks := []) (hin := []) (fn := Try.f3) (body := (bodyOf Try.f3)) Gok hm Try.func3 (by kernel_rfl) (by kernel_rfl) (by rw [e]; exact Lor.ok_nil _ _) ?_ h
  refine (main laws_szWeave.Q laws_toWeave.Q spec_LongestLived.Q impl_LongestLived.Q laws_eqWeave.Q _ t.1 t.2).trans ?_
  rw [laws_szWeave.wrap, laws_toWeave.wrap, spec_LongestLived.wrap, impl_LongestLived.wrap, laws_eqWeave.wrap]
  refine congrArg (fun K => B laws_szWeave.F laws_toWeave.F spec_LongestLived.F impl_LongestLived.F laws_eqWeave.F t.1 t.2 K) ?_
  funext x1
  exact ofC_enc encRI some (x1)
theorem ac0 (t : Vec (Vec Int) × (Vec (ByteArray × Int × Int × (Vec Int)))) (x : Bool) (h : F t.1 t.2 = some x) : AC Try.prog 3 (encA t) [] true [] fun rv obs => (rv, obs) = encR x := ACc.ac (body := bodyOf Try.f3) Try.func3 (by kernel_rfl) (by kernel_rfl) (acc t x h)
theorem ac (args : List AV) (x : Bool) (h : Q args = some x) : AC Try.prog 3 args [] false [] fun rv obs => (rv, obs) = encR x := by
  obtain ⟨t, rfl, h2⟩ := ofC_some h
  refine (ac0 t x h2).flat fun rv obs e => ?_
  obtain rfl : rv = (encR x).1 := congrArg Prod.fst e
  obtain rfl : obs = (encR x).2 := congrArg Prod.snd e
  refine ⟨by simp [encR, AV.Flat, K.Flat, C.Flat], ?_⟩
  simp [encR]
end laws_FnExactLongestLived
end Go.Al
