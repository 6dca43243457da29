import Derived.Test.YtefdhjnlnmljpaaAlF
import Derived.Test.YtefdhjnlnmljpaaSC
import Derived.Test.YtefdhjnlnmljpaaGWv
import Derived.Test.YtefdhjnlnmljpaaGWl
import Derived.Test.YtefdhjnlnmljpaaGCmp
set_option linter.unusedVariables false
set_option linter.unusedSimpArgs false
set_option linter.constructorNameAsVariable false
set_option linter.unusedSectionVars false
set_option maxRecDepth 100000
namespace Go.Al
open Go.Proofs

/-! loop.example/g00073/spec.Apart -/
namespace spec_Apart
noncomputable def B0 {ρ : Type} (v1 : Int) (v2 : Int) (v3 : Vec (Int × Int × Int × ByteArray)) (W : Int → Int → (Vec (Int × Int × Int × ByteArray)) → Option ρ) (K0 : Int → Option ρ) : Option ρ :=
  sel (decide (v2 < (v3.n : Int))) (chk (decide (0 ≤ v2 ∧ v2 < (v3.n : Int))) (chk (decide (v2.toNat < v3.n)) (sel ((!decide ((v3.g v2.toNat).1 = (1 : Int)))) (W (wr (v1 + (1 : Int))) (wr (v2 + (1 : Int))) v3) (W v1 (wr (v2 + (1 : Int))) v3)))) (K0 v1)
noncomputable def F0 {ρ : Type} : Nat → Int → Int → (Vec (Int × Int × Int × ByteArray)) → (Int → Option ρ) → Option ρ
  | 0, _, _, _, _ => none
  | k + 1, v1, v2, v3, K0 => B0 v1 v2 v3 (fun v1' v2' v3' => F0 k v1' v2' v3' K0) K0
noncomputable def B {ρ : Type} (C_spec_Compare : (Vec (Vec Int)) → (Vec (ByteArray × Int × Int × (Vec Int))) → Int → Int → Option (Int × (Vec (Int × Int × Int × ByteArray)))) (L0 : Int → Int → (Vec (Int × Int × Int × ByteArray)) → (Int → Option ρ) → Option ρ) (a1 : Vec (Vec Int)) (a2 : Vec (ByteArray × Int × Int × (Vec Int))) (a3 : Int) (a4 : Int) (K : Int → Option ρ) : Option ρ :=
  (C_spec_Compare a1 a2 a3 a4).bind fun r1 => sel ((!decide (r1.1 = (0 : Int)))) (K (-1 : Int)) (L0 (0 : Int) (0 : Int) r1.2 (fun e01 => K e01))
noncomputable def F (a1 : Vec (Vec Int)) (a2 : Vec (ByteArray × Int × Int × (Vec Int))) (a3 : Int) (a4 : Int) : Option Int := B spec_Compare.F (F0 fuelN) a1 a2 a3 a4 (fun x1 => some (x1))
def encA (t : Vec (Vec Int) × (Vec (ByteArray × Int × Int × (Vec Int))) × Int × Int) : List AV := [.a [.n (.sl 1 (encRw t.1)), .n (.sl 4 (encRw t.2.1))], .c (.n (.v (.int .i64 t.2.2.1))), .c (.n (.v (.int .i64 t.2.2.2)))]
def encR (x : Int) : AV × List Ob := (.c (.n (.v (.int .i64 x))), [])
theorem encAI : ∀ a b, encA a = encA b → a = b := by
  intro a b h
  obtain ⟨a0, a1, a2, a3⟩ := a
  obtain ⟨b0, b1, b2, b3⟩ := b
  simp [encA, encRw_iff] at h
  simp_all
theorem encRI : ∀ a b, encR a = encR b → a = b := by
  intro a b h
  simp [encR, encRw_iff] at h
  simp_all
noncomputable def Q (args : List AV) : Option Int := ofC encA (fun t => F t.1 t.2.1 t.2.2.1 t.2.2.2) args
theorem wrap : (fun (y1 : Vec (Vec Int)) (y2 : Vec (ByteArray × Int × Int × (Vec Int))) (y3 : Int) (y4 : Int) => Q [.a [.n (.sl 1 (encRw y1)), .n (.sl 4 (encRw y2))], .c (.n (.v (.int .i64 y3))), .c (.n (.v (.int .i64 y4)))]) = F := by
  funext y1 y2 y3 y4
  exact ofC_enc encAI _ (y1, y2, y3, y4)
noncomputable def G (q_spec_Compare : List AV → Option (Int × (Vec (Int × Int × Int × ByteArray)))) : Orc := ⟨fun f => sel (Nat.beq f 29) 0 (9), fun ρ f args K => sel (Nat.beq f 29) (qEntry spec_Compare.encR q_spec_Compare args K) (Option.none), noE⟩
noncomputable def L (W0 : (ρ : Type) → List AV → List Ob → (Int → Option ρ) → Option ρ) : Lor := fun ρ j st K => sel (Nat.beq j 0) (cutO Try.prog 35 [7, 9, 10] 0 [] [] st fun avs obs => W0 ρ avs obs (fun z1 => K (.exit 0) (mkS 35 [9] [.c (.n (.v (.int .i64 z1)))] [] []))) (Option.none)
noncomputable def c0 : Code := loopC (atomN [] 0 (bodyOf Try.f16) 0)
def ct0 : Cut := ⟨[7, 9, 10], []⟩
def lv0 : Exit → Cut
  | .exit 0 => ⟨[9], []⟩
  | _ => ⟨[], []⟩
theorem step0 (q_spec_Compare : List AV → Option (Int × (Vec (Int × Int × Int × ByteArray)))) (W0 : (ρ : Type) → List AV → List Ob → (Int → Option ρ) → Option ρ) {ρ : Type} (K : Exit → St → Option ρ) (W : List AV → List Ob → Option ρ) (v1 : Int) (v2 : Int) (v3 : Vec (Int × Int × Int × ByteArray)) : exC Try.prog (G q_spec_Compare) (L W0) [] 1 c0 (mkS 35 [7, 9, 10] [.c (.h 0), .c (.n (.v (.int .i64 v1))), .c (.n (.v (.int .i64 v2)))] [.row 4 (encRw v3) []] []) (bodyK Try.prog 35 0 [] ct0 W lv0 K) =
    B0 v1 v2 v3 (fun u1 u2 u3 => W [.c (.h 0), .c (.n (.v (.int .i64 u1))), .c (.n (.v (.int .i64 u2)))] [.row 4 (encRw u3) []]) (fun z1 => K (.exit 0) (mkS 35 [9] [.c (.n (.v (.int .i64 z1)))] [] [])) := by kernel_rfl
def enc0 (t : Int × Int × (Vec (Int × Int × Int × ByteArray))) : List AV × List Ob := ([.c (.h 0), .c (.n (.v (.int .i64 t.1))), .c (.n (.v (.int .i64 t.2.1)))], [.row 4 (encRw t.2.2) []])
theorem enc0I : ∀ a b, enc0 a = enc0 b → a = b := by
  intro a b h
  obtain ⟨a0, a1, a2⟩ := a
  obtain ⟨b0, b1, b2⟩ := b
  simp [enc0, encRw_iff] at h
  simp_all
noncomputable def V0 : (ρ : Type) → List AV → List Ob → (Int → Option ρ) → Option ρ := fun ρ avs obs k0 => ofC enc0 (fun t => F0 fuelN t.1 t.2.1 t.2.2 k0) (avs, obs)
theorem V0_enc (ρ : Type) : (fun w1 w2 w3 k0 => V0 ρ [.c (.h 0), .c (.n (.v (.int .i64 w1))), .c (.n (.v (.int .i64 w2)))] [.row 4 (encRw w3) []] k0) = F0 fuelN := by
  funext w1 w2 w3 k0
  exact ofC_enc enc0I _ (w1, w2, w3)
theorem main (q_spec_Compare : List AV → Option (Int × (Vec (Int × Int × Int × ByteArray)))) (W0 : (ρ : Type) → List AV → List Ob → (Int → Option ρ) → Option ρ) {ρ : Type} (K : AV → List Ob → Option ρ) (a1 : Vec (Vec Int)) (a2 : Vec (ByteArray × Int × Int × (Vec Int))) (a3 : Int) (a4 : Int) : exC Try.prog (G q_spec_Compare) (L W0) [] 0 (bodyOf Try.f16) (entry 35 [.a [.n (.sl 1 (encRw a1)), .n (.sl 4 (encRw a2))], .c (.n (.v (.int .i64 a3))), .c (.n (.v (.int .i64 a4)))] [] []) (finO Try.prog Try.f16.results.toList 0 [] [] K) =
    B (fun y1 y2 y3 y4 => q_spec_Compare [.a [.n (.sl 1 (encRw y1)), .n (.sl 4 (encRw y2))], .c (.n (.v (.int .i64 y3))), .c (.n (.v (.int .i64 y4)))]) (fun w1 w2 w3 k0 => W0 ρ [.c (.h 0), .c (.n (.v (.int .i64 w1))), .c (.n (.v (.int .i64 w2)))] [.row 4 (encRw w3) []] k0) a1 a2 a3 a4 (fun x1 => K (.c (.n (.v (.int .i64 x1)))) []) := by kernel_rfl
theorem Gok : (G spec_Compare.Q).ok Try.prog := ⟨(by
    intro ρ f args K r h
    rcases sel_cases h with ⟨hb, h⟩ | ⟨-, h⟩
    · obtain rfl := beq_nat hb
      exact qEntry_ok spec_Compare.ac h
    cases h),
  (by
    intro ρ f args K
    simp only [G]
    cases Nat.beq f 29 with
    | true => exact qEntry_nat args K
    | false =>
    simp only [sel]
    rfl),
  (fun ρ f st caps args dst K r h => (by cases h))⟩
theorem hm : Try.prog.follows .mixedOrders = true := by kernel_rfl
theorem e0 : atomsL [] 1 c0 = [] := by kernel_rfl
theorem ok0 (ρ : Type) (st : St) (K : Exit → St → Option ρ) (r : ρ) (h : (L V0) ρ 0 st K = some r) : AW Try.prog (.loop c0) st fun e st' => K e st' = some r := by
  refine loop_ok (ct := ct0) (lv := lv0) (n := 35) (m := 0) (ks := []) (j := 0) (jn := []) (L := (L V0)) Gok hm (by rw [e0]; exact Lor.ok_nil _ _) enc0I (fun k t => F0 k t.1 t.2.1 t.2.2 (fun z1 => K (.exit 0) (mkS 35 [9] [.c (.n (.v (.int .i64 z1)))] [] []))) (fun t => rfl) (fun k t => ?_) (fun _ => fuelN) h
  refine (step0 spec_Compare.Q V0 K _ t.1 t.2.1 t.2.2).trans ?_
  refine congrArg (fun W => B0 t.1 t.2.1 t.2.2 W (fun z1 => K (.exit 0) (mkS 35 [9] [.c (.n (.v (.int .i64 z1)))] [] []))) ?_
  funext u1 u2 u3
  exact ofC_enc enc0I _ (u1, u2, u3)
theorem e : atomsL [] 0 (bodyOf Try.f16) = [(0, 0, .loop c0)] := by kernel_rfl
theorem acc (t : Vec (Vec Int) × (Vec (ByteArray × Int × Int × (Vec Int))) × Int × Int) (x : Int) (h : F t.1 t.2.1 t.2.2.1 t.2.2.2 = some x) : ACc Try.prog 16 (encA t) [] true [] fun rv obs => (rv, obs) = encR x := by
  refine fun_okc (L := (L V0)) (jn := []) (cmds := []) (ks := []) (hin := []) (fn := Try.f16) (body := (bodyOf Try.f16)) Gok hm Try.func16 (by kernel_rfl) (by kernel_rfl) (by rw [e]; exact Lor.ok_cons ok0 (Lor.ok_nil _ _)) ?_ h
  refine (main spec_Compare.Q V0 _ t.1 t.2.1 t.2.2.1 t.2.2.2).trans ?_
  rw [spec_Compare.wrap, V0_enc]
  refine congrArg (fun K => B spec_Compare.F (F0 fuelN) t.1 t.2.1 t.2.2.1 t.2.2.2 K) ?_
  funext x1
  exact ofC_enc encRI some (x1)
theorem ac0 (t : Vec (Vec Int) × (Vec (ByteArray × Int × Int × (Vec Int))) × Int × Int) (x : Int) (h : F t.1 t.2.1 t.2.2.1 t.2.2.2 = some x) : AC Try.prog 16 (encA t) [] true [] fun rv obs => (rv, obs) = encR x := ACc.ac (body := bodyOf Try.f16) Try.func16 (by kernel_rfl) (by kernel_rfl) (acc t x h)
theorem ac (args : List AV) (x : Int) (h : Q args = some x) : AC Try.prog 16 args [] false [] fun rv obs => (rv, obs) = encR x := by
  obtain ⟨t, rfl, h2⟩ := ofC_some h
  refine (ac0 t x h2).flat fun rv obs e => ?_
  obtain rfl : rv = (encR x).1 := congrArg Prod.fst e
  obtain rfl : obs = (encR x).2 := congrArg Prod.snd e
  refine ⟨by simp [encR, AV.Flat, K.Flat, C.Flat], ?_⟩
  simp [encR]
end spec_Apart
/-! loop.example/g00073/impl.Apart -/
namespace impl_Apart
noncomputable def B0 {ρ : Type} (v1 : Int) (v2 : Int) (v3 : Int) (v4 : Vec (Int × Int × Int × ByteArray)) (W : Int → Int → Int → (Vec (Int × Int × Int × ByteArray)) → Option ρ) (K0 : Int → Option ρ) : Option ρ :=
  sel (decide (v3 < v2)) (chk (decide (0 ≤ v3 ∧ v3 < (v4.n : Int))) (chk (decide (v3.toNat < v4.n)) (sel ((!decide ((v4.g v3.toNat).1 = (1 : Int)))) (W (wr (v1 + (1 : Int))) v2 (wr (v3 + (1 : Int))) v4) (W v1 v2 (wr (v3 + (1 : Int))) v4)))) (K0 v1)
noncomputable def F0 {ρ : Type} : Nat → Int → Int → Int → (Vec (Int × Int × Int × ByteArray)) → (Int → Option ρ) → Option ρ
  | 0, _, _, _, _, _ => none
  | k + 1, v1, v2, v3, v4, K0 => B0 v1 v2 v3 v4 (fun v1' v2' v3' v4' => F0 k v1' v2' v3' v4' K0) K0
noncomputable def B {ρ : Type} (C_impl_Compare : (Vec (Vec Int)) → (Vec (ByteArray × Int × Int × (Vec Int))) → Int → Int → Option (Int × (Vec (Int × Int × Int × ByteArray)))) (L0 : Int → Int → Int → (Vec (Int × Int × Int × ByteArray)) → (Int → Option ρ) → Option ρ) (a1 : Vec (Vec Int)) (a2 : Vec (ByteArray × Int × Int × (Vec Int))) (a3 : Int) (a4 : Int) (K : Int → Option ρ) : Option ρ :=
  (C_impl_Compare a1 a2 a3 a4).bind fun r1 => sel ((!decide (r1.1 = (0 : Int)))) (K (-1 : Int)) (L0 (0 : Int) (r1.2.n : Int) (0 : Int) r1.2 (fun e01 => K e01))
noncomputable def F (a1 : Vec (Vec Int)) (a2 : Vec (ByteArray × Int × Int × (Vec Int))) (a3 : Int) (a4 : Int) : Option Int := B impl_Compare.F (F0 fuelN) a1 a2 a3 a4 (fun x1 => some (x1))
def encA (t : Vec (Vec Int) × (Vec (ByteArray × Int × Int × (Vec Int))) × Int × Int) : List AV := [.a [.n (.sl 1 (encRw t.1)), .n (.sl 4 (encRw t.2.1))], .c (.n (.v (.int .i64 t.2.2.1))), .c (.n (.v (.int .i64 t.2.2.2)))]
def encR (x : Int) : AV × List Ob := (.c (.n (.v (.int .i64 x))), [])
theorem encAI : ∀ a b, encA a = encA b → a = b := by
  intro a b h
  obtain ⟨a0, a1, a2, a3⟩ := a
  obtain ⟨b0, b1, b2, b3⟩ := b
  simp [encA, encRw_iff] at h
  simp_all
theorem encRI : ∀ a b, encR a = encR b → a = b := by
  intro a b h
  simp [encR, encRw_iff] at h
  simp_all
noncomputable def Q (args : List AV) : Option Int := ofC encA (fun t => F t.1 t.2.1 t.2.2.1 t.2.2.2) args
theorem wrap : (fun (y1 : Vec (Vec Int)) (y2 : Vec (ByteArray × Int × Int × (Vec Int))) (y3 : Int) (y4 : Int) => Q [.a [.n (.sl 1 (encRw y1)), .n (.sl 4 (encRw y2))], .c (.n (.v (.int .i64 y3))), .c (.n (.v (.int .i64 y4)))]) = F := by
  funext y1 y2 y3 y4
  exact ofC_enc encAI _ (y1, y2, y3, y4)
noncomputable def G (q_impl_Compare : List AV → Option (Int × (Vec (Int × Int × Int × ByteArray)))) : Orc := ⟨fun f => sel (Nat.beq f 30) 0 (9), fun ρ f args K => sel (Nat.beq f 30) (qEntry impl_Compare.encR q_impl_Compare args K) (Option.none), noE⟩
noncomputable def L (W0 : (ρ : Type) → List AV → List Ob → (Int → Option ρ) → Option ρ) : Lor := fun ρ j st K => sel (Nat.beq j 0) (cutO Try.prog 34 [9, 21, 22, 23] 0 [] [] st fun avs obs => W0 ρ avs obs (fun z1 => K (.exit 0) (mkS 34 [9] [.c (.n (.v (.int .i64 z1)))] [] []))) (Option.none)
noncomputable def c0 : Code := loopC (atomN [] 0 (bodyOf Try.f17) 0)
def ct0 : Cut := ⟨[9, 21, 22, 23], []⟩
def lv0 : Exit → Cut
  | .exit 0 => ⟨[9], []⟩
  | _ => ⟨[], []⟩
theorem step0 (q_impl_Compare : List AV → Option (Int × (Vec (Int × Int × Int × ByteArray)))) (W0 : (ρ : Type) → List AV → List Ob → (Int → Option ρ) → Option ρ) {ρ : Type} (K : Exit → St → Option ρ) (W : List AV → List Ob → Option ρ) (v1 : Int) (v2 : Int) (v3 : Int) (v4 : Vec (Int × Int × Int × ByteArray)) : exC Try.prog (G q_impl_Compare) (L W0) [] 1 c0 (mkS 34 [9, 21, 22, 23] [.c (.n (.v (.int .i64 v1))), .c (.h 0), .c (.n (.v (.int .i64 v2))), .c (.n (.v (.int .i64 v3)))] [.row 4 (encRw v4) []] []) (bodyK Try.prog 34 0 [] ct0 W lv0 K) =
    B0 v1 v2 v3 v4 (fun u1 u2 u3 u4 => W [.c (.n (.v (.int .i64 u1))), .c (.h 0), .c (.n (.v (.int .i64 u2))), .c (.n (.v (.int .i64 u3)))] [.row 4 (encRw u4) []]) (fun z1 => K (.exit 0) (mkS 34 [9] [.c (.n (.v (.int .i64 z1)))] [] [])) := by kernel_rfl
def enc0 (t : Int × Int × Int × (Vec (Int × Int × Int × ByteArray))) : List AV × List Ob := ([.c (.n (.v (.int .i64 t.1))), .c (.h 0), .c (.n (.v (.int .i64 t.2.1))), .c (.n (.v (.int .i64 t.2.2.1)))], [.row 4 (encRw t.2.2.2) []])
theorem enc0I : ∀ a b, enc0 a = enc0 b → a = b := by
  intro a b h
  obtain ⟨a0, a1, a2, a3⟩ := a
  obtain ⟨b0, b1, b2, b3⟩ := b
  simp [enc0, encRw_iff] at h
  simp_all
noncomputable def V0 : (ρ : Type) → List AV → List Ob → (Int → Option ρ) → Option ρ := fun ρ avs obs k0 => ofC enc0 (fun t => F0 fuelN t.1 t.2.1 t.2.2.1 t.2.2.2 k0) (avs, obs)
theorem V0_enc (ρ : Type) : (fun w1 w2 w3 w4 k0 => V0 ρ [.c (.n (.v (.int .i64 w1))), .c (.h 0), .c (.n (.v (.int .i64 w2))), .c (.n (.v (.int .i64 w3)))] [.row 4 (encRw w4) []] k0) = F0 fuelN := by
  funext w1 w2 w3 w4 k0
  exact ofC_enc enc0I _ (w1, w2, w3, w4)
theorem main (q_impl_Compare : List AV → Option (Int × (Vec (Int × Int × Int × ByteArray)))) (W0 : (ρ : Type) → List AV → List Ob → (Int → Option ρ) → Option ρ) {ρ : Type} (K : AV → List Ob → Option ρ) (a1 : Vec (Vec Int)) (a2 : Vec (ByteArray × Int × Int × (Vec Int))) (a3 : Int) (a4 : Int) : exC Try.prog (G q_impl_Compare) (L W0) [] 0 (bodyOf Try.f17) (entry 34 [.a [.n (.sl 1 (encRw a1)), .n (.sl 4 (encRw a2))], .c (.n (.v (.int .i64 a3))), .c (.n (.v (.int .i64 a4)))] [] []) (finO Try.prog Try.f17.results.toList 0 [] [] K) =
    B (fun y1 y2 y3 y4 => q_impl_Compare [.a [.n (.sl 1 (encRw y1)), .n (.sl 4 (encRw y2))], .c (.n (.v (.int .i64 y3))), .c (.n (.v (.int .i64 y4)))]) (fun w1 w2 w3 w4 k0 => W0 ρ [.c (.n (.v (.int .i64 w1))), .c (.h 0), .c (.n (.v (.int .i64 w2))), .c (.n (.v (.int .i64 w3)))] [.row 4 (encRw w4) []] k0) a1 a2 a3 a4 (fun x1 => K (.c (.n (.v (.int .i64 x1)))) []) := by kernel_rfl
theorem Gok : (G impl_Compare.Q).ok Try.prog := ⟨(by
    intro ρ f args K r h
    rcases sel_cases h with ⟨hb, h⟩ | ⟨-, h⟩
    · obtain rfl := beq_nat hb
      exact qEntry_ok impl_Compare.ac h
    cases h),
  (by
    intro ρ f args K
    simp only [G]
    cases Nat.beq f 30 with
    | true => exact qEntry_nat args K
    | false =>
    simp only [sel]
    rfl),
  (fun ρ f st caps args dst K r h => (by cases h))⟩
theorem hm : Try.prog.follows .mixedOrders = true := by kernel_rfl
theorem e0 : atomsL [] 1 c0 = [] := by kernel_rfl
theorem ok0 (ρ : Type) (st : St) (K : Exit → St → Option ρ) (r : ρ) (h : (L V0) ρ 0 st K = some r) : AW Try.prog (.loop c0) st fun e st' => K e st' = some r := by
  refine loop_ok (ct := ct0) (lv := lv0) (n := 34) (m := 0) (ks := []) (j := 0) (jn := []) (L := (L V0)) Gok hm (by rw [e0]; exact Lor.ok_nil _ _) enc0I (fun k t => F0 k t.1 t.2.1 t.2.2.1 t.2.2.2 (fun z1 => K (.exit 0) (mkS 34 [9] [.c (.n (.v (.int .i64 z1)))] [] []))) (fun t => rfl) (fun k t => ?_) (fun _ => fuelN) h
  refine (step0 impl_Compare.Q V0 K _ t.1 t.2.1 t.2.2.1 t.2.2.2).trans ?_
  refine congrArg (fun W => B0 t.1 t.2.1 t.2.2.1 t.2.2.2 W (fun z1 => K (.exit 0) (mkS 34 [9] [.c (.n (.v (.int .i64 z1)))] [] []))) ?_
  funext u1 u2 u3 u4
  exact ofC_enc enc0I _ (u1, u2, u3, u4)
theorem e : atomsL [] 0 (bodyOf Try.f17) = [(0, 0, .loop c0)] := by kernel_rfl
theorem acc (t : Vec (Vec Int) × (Vec (ByteArray × Int × Int × (Vec Int))) × Int × Int) (x : Int) (h : F t.1 t.2.1 t.2.2.1 t.2.2.2 = some x) : ACc Try.prog 17 (encA t) [] true [] fun rv obs => (rv, obs) = encR x := by
  refine fun_okc (L := (L V0)) (jn := []) (cmds := []) (ks := []) (hin := []) (fn := Try.f17) (body := (bodyOf Try.f17)) Gok hm Try.func17 (by kernel_rfl) (by kernel_rfl) (by rw [e]; exact Lor.ok_cons ok0 (Lor.ok_nil _ _)) ?_ h
  refine (main impl_Compare.Q V0 _ t.1 t.2.1 t.2.2.1 t.2.2.2).trans ?_
  rw [impl_Compare.wrap, V0_enc]
  refine congrArg (fun K => B impl_Compare.F (F0 fuelN) t.1 t.2.1 t.2.2.1 t.2.2.2 K) ?_
  funext x1
  exact ofC_enc encRI some (x1)
theorem ac0 (t : Vec (Vec Int) × (Vec (ByteArray × Int × Int × (Vec Int))) × Int × Int) (x : Int) (h : F t.1 t.2.1 t.2.2.1 t.2.2.2 = some x) : AC Try.prog 17 (encA t) [] true [] fun rv obs => (rv, obs) = encR x := ACc.ac (body := bodyOf Try.f17) Try.func17 (by kernel_rfl) (by kernel_rfl) (acc t x h)
theorem ac (args : List AV) (x : Int) (h : Q args = some x) : AC Try.prog 17 args [] false [] fun rv obs => (rv, obs) = encR x := by
  obtain ⟨t, rfl, h2⟩ := ofC_some h
  refine (ac0 t x h2).flat fun rv obs e => ?_
  obtain rfl : rv = (encR x).1 := congrArg Prod.fst e
  obtain rfl : obs = (encR x).2 := congrArg Prod.snd e
  refine ⟨by simp [encR, AV.Flat, K.Flat, C.Flat], ?_⟩
  simp [encR]
end impl_Apart
/-! loop.example/g00073/laws.FnExactApart -/
namespace laws_FnExactApart
noncomputable def B {ρ : Type} (C_laws_szWeave : (Vec (Vec Int)) → (Vec (ByteArray × Int × Int × (Vec Int))) → Int → Option Int) (C_laws_toWeave : (Vec (Vec Int)) → (Vec (ByteArray × Int × Int × (Vec Int))) → Option (Vec (Vec Int) × (Vec (ByteArray × Int × Int × (Vec Int))))) (C_spec_Apart : (Vec (Vec Int)) → (Vec (ByteArray × Int × Int × (Vec Int))) → Int → Int → Option Int) (C_impl_Apart : (Vec (Vec Int)) → (Vec (ByteArray × Int × Int × (Vec Int))) → Int → Int → Option Int) (C_laws_eqWeave : (Vec (Vec Int)) → (Vec (ByteArray × Int × Int × (Vec Int))) → (Vec (Vec Int)) → (Vec (ByteArray × Int × Int × (Vec Int))) → Option Bool) (a1 : Vec (Vec Int)) (a2 : Vec (ByteArray × Int × Int × (Vec Int))) (a3 : Int) (a4 : Int) (K : Bool → Option ρ) : Option ρ :=
  (C_laws_szWeave a1 a2 (1048576 : Int)).bind fun r1 => sel (decide (r1 < (0 : Int))) (K true) ((C_laws_toWeave a1 a2).bind fun r2 => (C_spec_Apart r2.1 r2.2 a3 a4).bind fun r3 => (C_laws_toWeave a1 a2).bind fun r4 => (C_impl_Apart r4.1 r4.2 a3 a4).bind fun r5 => sel ((!decide (r5 = r3))) (K false) ((C_laws_toWeave a1 a2).bind fun r6 => (C_laws_eqWeave r4.1 r4.2 r6.1 r6.2).bind fun r7 => sel ((!r7)) (K false) (K true)))
noncomputable def F (a1 : Vec (Vec Int)) (a2 : Vec (ByteArray × Int × Int × (Vec Int))) (a3 : Int) (a4 : Int) : Option Bool := B laws_szWeave.F laws_toWeave.F spec_Apart.F impl_Apart.F laws_eqWeave.F a1 a2 a3 a4 (fun x1 => some (x1))
def encA (t : Vec (Vec Int) × (Vec (ByteArray × Int × Int × (Vec Int))) × Int × Int) : List AV := [.a [.n (.sl 1 (encRw t.1)), .n (.sl 4 (encRw t.2.1))], .c (.n (.v (.int .i64 t.2.2.1))), .c (.n (.v (.int .i64 t.2.2.2)))]
def encR (x : Bool) : AV × List Ob := (.c (.n (.v (.bool x))), [])
theorem encAI : ∀ a b, encA a = encA b → a = b := by
  intro a b h
  obtain ⟨a0, a1, a2, a3⟩ := a
  obtain ⟨b0, b1, b2, b3⟩ := b
  simp [encA, encRw_iff] at h
  simp_all
theorem encRI : ∀ a b, encR a = encR b → a = b := by
  intro a b h
  simp [encR, encRw_iff] at h
  simp_all
noncomputable def Q (args : List AV) : Option Bool := ofC encA (fun t => F t.1 t.2.1 t.2.2.1 t.2.2.2) args
theorem wrap : (fun (y1 : Vec (Vec Int)) (y2 : Vec (ByteArray × Int × Int × (Vec Int))) (y3 : Int) (y4 : Int) => Q [.a [.n (.sl 1 (encRw y1)), .n (.sl 4 (encRw y2))], .c (.n (.v (.int .i64 y3))), .c (.n (.v (.int .i64 y4)))]) = F := by
  funext y1 y2 y3 y4
  exact ofC_enc encAI _ (y1, y2, y3, y4)
noncomputable def G (q_laws_szWeave : List AV → Option Int) (q_laws_toWeave : List AV → Option (Vec (Vec Int) × (Vec (ByteArray × Int × Int × (Vec Int))))) (q_spec_Apart : List AV → Option Int) (q_impl_Apart : List AV → Option Int) (q_laws_eqWeave : List AV → Option Bool) : Orc := ⟨fun f => sel (Nat.beq f 11) 0 (sel (Nat.beq f 13) 0 (sel (Nat.beq f 16) 0 (sel (Nat.beq f 17) 0 (sel (Nat.beq f 15) 0 (9))))), fun ρ f args K => sel (Nat.beq f 11) (qEntry laws_szWeave.encR q_laws_szWeave args K) (sel (Nat.beq f 13) (qEntry laws_toWeave.encR q_laws_toWeave args K) (sel (Nat.beq f 16) (qEntry spec_Apart.encR q_spec_Apart args K) (sel (Nat.beq f 17) (qEntry impl_Apart.encR q_impl_Apart args K) (sel (Nat.beq f 15) (qEntry laws_eqWeave.encR q_laws_eqWeave args K) (Option.none))))), noE⟩
noncomputable def L : Lor := fun ρ j st K => Option.none
theorem main (q_laws_szWeave : List AV → Option Int) (q_laws_toWeave : List AV → Option (Vec (Vec Int) × (Vec (ByteArray × Int × Int × (Vec Int))))) (q_spec_Apart : List AV → Option Int) (q_impl_Apart : List AV → Option Int) (q_laws_eqWeave : List AV → Option Bool) {ρ : Type} (K : AV → List Ob → Option ρ) (a1 : Vec (Vec Int)) (a2 : Vec (ByteArray × Int × Int × (Vec Int))) (a3 : Int) (a4 : Int) : exC Try.prog (G q_laws_szWeave q_laws_toWeave q_spec_Apart q_impl_Apart q_laws_eqWeave) (L) [] 0 (bodyOf Try.f4) (entry 35 [.a [.n (.sl 1 (encRw a1)), .n (.sl 4 (encRw a2))], .c (.n (.v (.int .i64 a3))), .c (.n (.v (.int .i64 a4)))] [] []) (finO Try.prog Try.f4.results.toList 0 [] [] K) =
    B (fun y1 y2 y3 => q_laws_szWeave [.a [.n (.sl 1 (encRw y1)), .n (.sl 4 (encRw y2))], .c (.n (.v (.int .i64 y3)))]) (fun y1 y2 => q_laws_toWeave [.a [.n (.sl 1 (encRw y1)), .n (.sl 4 (encRw y2))]]) (fun y1 y2 y3 y4 => q_spec_Apart [.a [.n (.sl 1 (encRw y1)), .n (.sl 4 (encRw y2))], .c (.n (.v (.int .i64 y3))), .c (.n (.v (.int .i64 y4)))]) (fun y1 y2 y3 y4 => q_impl_Apart [.a [.n (.sl 1 (encRw y1)), .n (.sl 4 (encRw y2))], .c (.n (.v (.int .i64 y3))), .c (.n (.v (.int .i64 y4)))]) (fun y1 y2 y3 y4 => q_laws_eqWeave [.a [.n (.sl 1 (encRw y1)), .n (.sl 4 (encRw y2))], .a [.n (.sl 1 (encRw y3)), .n (.sl 4 (encRw y4))]]) a1 a2 a3 a4 (fun x1 => K (.c (.n (.v (.bool x1)))) []) := by kernel_rfl
theorem Gok : (G laws_szWeave.Q laws_toWeave.Q spec_Apart.Q impl_Apart.Q laws_eqWeave.Q).ok Try.prog := ⟨(by
    intro ρ f args K r h
    rcases sel_cases h with ⟨hb, h⟩ | ⟨-, h⟩
    · obtain rfl := beq_nat hb
      exact qEntry_ok laws_szWeave.ac h
    rcases sel_cases h with ⟨hb, h⟩ | ⟨-, h⟩
    · obtain rfl := beq_nat hb
      exact qEntry_ok laws_toWeave.ac h
    rcases sel_cases h with ⟨hb, h⟩ | ⟨-, h⟩
    · obtain rfl := beq_nat hb
      exact qEntry_ok spec_Apart.ac h
    rcases sel_cases h with ⟨hb, h⟩ | ⟨-, h⟩
    · obtain rfl := beq_nat hb
      exact qEntry_ok impl_Apart.ac h
    rcases sel_cases h with ⟨hb, h⟩ | ⟨-, h⟩
    · obtain rfl := beq_nat hb
      exact qEntry_ok laws_eqWeave.ac h
    cases h),
  (by
    intro ρ f args K
    simp only [G]
    cases Nat.beq f 11 with
    | true => exact qEntry_nat args K
    | false =>
    simp only [sel]
    cases Nat.beq f 13 with
    | true => exact qEntry_nat args K
    | false =>
    simp only [sel]
    cases Nat.beq f 16 with
    | true => exact qEntry_nat args K
    | false =>
    simp only [sel]
    cases Nat.beq f 17 with
    | true => exact qEntry_nat args K
    | false =>
    simp only [sel]
    cases Nat.beq f 15 with
    | true => exact qEntry_nat args K
    | false =>
    simp only [sel]
    rfl),
  (fun ρ f st caps args dst K r h => (by cases h))⟩
theorem hm : Try.prog.follows .mixedOrders = true := by kernel_rfl
theorem e : atomsL [] 0 (bodyOf Try.f4) = [] := by kernel_rfl
theorem acc (t : Vec (Vec Int) × (Vec (ByteArray × Int × Int × (Vec Int))) × Int × Int) (x : Bool) (h : F t.1 t.2.1 t.2.2.1 t.2.2.2 = some x) : ACc Try.prog 4 (encA t) [] true [] fun rv obs => (rv, obs) = encR x := by
  refine fun_okc (L := (L)) (jn := []) (cmds := []) (ks := []) (hin := []) (fn := Try.f4) (body := (bodyOf Try.f4)) Gok hm Try.func4 (by kernel_rfl) (by kernel_rfl) (by rw [e]; exact Lor.ok_nil _ _) ?_ h
  refine (main laws_szWeave.Q laws_toWeave.Q spec_Apart.Q impl_Apart.Q laws_eqWeave.Q _ t.1 t.2.1 t.2.2.1 t.2.2.2).trans ?_
  rw [laws_szWeave.wrap, laws_toWeave.wrap, spec_Apart.wrap, impl_Apart.wrap, laws_eqWeave.wrap]
  refine congrArg (fun K => B laws_szWeave.F laws_toWeave.F spec_Apart.F impl_Apart.F laws_eqWeave.F t.1 t.2.1 t.2.2.1 t.2.2.2 K) ?_
  funext x1
  exact ofC_enc encRI some (x1)
theorem ac0 (t : Vec (Vec Int) × (Vec (ByteArray × Int × Int × (Vec Int))) × Int × Int) (x : Bool) (h : F t.1 t.2.1 t.2.2.1 t.2.2.2 = some x) : AC Try.prog 4 (encA t) [] true [] fun rv obs => (rv, obs) = encR x := ACc.ac (body := bodyOf Try.f4) Try.func4 (by kernel_rfl) (by kernel_rfl) (acc t x h)
theorem ac (args : List AV) (x : Bool) (h : Q args = some x) : AC Try.prog 4 args [] false [] fun rv obs => (rv, obs) = encR x := by
  obtain ⟨t, rfl, h2⟩ := ofC_some h
  refine (ac0 t x h2).flat fun rv obs e => ?_
  obtain rfl : rv = (encR x).1 := congrArg Prod.fst e
  obtain rfl : obs = (encR x).2 := congrArg Prod.snd e
  refine ⟨by simp [encR, AV.Flat, K.Flat, C.Flat], ?_⟩
  simp [encR]
end laws_FnExactApart
end Go.Al
