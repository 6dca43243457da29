import Derived.Test.YtnkmpehikhmbjaaAlE
import Derived.Test.YtnkmpehikhmbjaaSC
import Derived.Test.YtnkmpehikhmbjaaGRegions
set_option linter.unusedVariables false
set_option linter.unusedSimpArgs false
set_option linter.constructorNameAsVariable false
set_option linter.unusedSectionVars false
set_option maxRecDepth 100000
namespace Go.Al
open Go.Proofs

/-! loop.example/g00073/impl.clashesIn -/
namespace impl_clashesIn
noncomputable def B0 {ρ : Type} (v1 : Int) (v2 : Vec (Bool × (Vec ByteArray) × (Vec ByteArray) × (Vec ByteArray))) (v3 : Int) (v4 : Int) (W : Int → (Vec (Bool × (Vec ByteArray) × (Vec ByteArray) × (Vec ByteArray))) → Int → Int → Option ρ) (K0 : Int → Option ρ) : Option ρ :=
  sel (decide (v4 < v3)) (chk (decide (0 ≤ v4 ∧ v4 < (v2.n : Int))) (sel ((v2.g v4.toNat).1) (W (wr (v1 + (1 : Int))) v2 v3 (wr (v4 + (1 : Int)))) (W v1 v2 v3 (wr (v4 + (1 : Int)))))) (K0 v1)
noncomputable def F0 {ρ : Type} : Nat → Int → (Vec (Bool × (Vec ByteArray) × (Vec ByteArray) × (Vec ByteArray))) → Int → Int → (Int → Option ρ) → Option ρ
  | 0, _, _, _, _, _ => none
  | k + 1, v1, v2, v3, v4, K0 => B0 v1 v2 v3 v4 (fun v1' v2' v3' v4' => F0 k v1' v2' v3' v4' K0) K0
noncomputable def B {ρ : Type} (L0 : Int → (Vec (Bool × (Vec ByteArray) × (Vec ByteArray) × (Vec ByteArray))) → Int → Int → (Int → Option ρ) → Option ρ) (a1 : Vec (Bool × (Vec ByteArray) × (Vec ByteArray) × (Vec ByteArray))) (K : Int → Option ρ) : Option ρ :=
  L0 (0 : Int) a1 (a1.n : Int) (0 : Int) (fun e01 => K e01)
noncomputable def F (a1 : Vec (Bool × (Vec ByteArray) × (Vec ByteArray) × (Vec ByteArray))) : Option Int := B (F0 fuelN) a1 (fun x1 => some (x1))
def encA (t : Vec (Bool × (Vec ByteArray) × (Vec ByteArray) × (Vec ByteArray))) : List AV := [vl t]
def encR (x : Int) : AV × List Ob := (vi x, [])
theorem encAI : ∀ a b, encA a = encA b → a = b := by
  intro a b h
  simp [encA, encRw_iff] at h
  simp_all
theorem encRI : ∀ a b, encR a = encR b → a = b := by
  intro a b h
  simp [encR, encRw_iff] at h
  simp_all
noncomputable def Q (args : List AV) : Option Int := ofC encA (fun t => F t) args
theorem wrap : (fun (y1 : Vec (Bool × (Vec ByteArray) × (Vec ByteArray) × (Vec ByteArray))) => Q [vl y1]) = F := by
  funext y1
  exact ofC_enc encAI _ (y1)
noncomputable def G : Orc := ⟨fun f => 9, fun ρ f args K => Option.none, noE, false⟩
noncomputable def L (W0 : (ρ : Type) → List AV → List Ob → (Int → Option ρ) → Option ρ) : Lor := fun ρ j st K => sel (Nat.beq j 0) (cutO Try.prog 18 [3, 6, 7, 8] 0 [] [] st fun avs obs => W0 ρ avs obs (fun z1 => K (.exit 0) (mkS 18 [3] [vi z1] [] []))) (Option.none)
noncomputable def c0 : Code := loopC (atomN [] 0 (bodyOf Try.f69) 0)
def ct0 : Cut := ⟨[3, 6, 7, 8], []⟩
def lv0 : Exit → Cut
  | .exit 0 => ⟨[3], []⟩
  | _ => ⟨[], []⟩
theorem step0 (W0) {ρ : Type} (K : Exit → St → Option ρ) (W : List AV → List Ob → Option ρ) (v1 v2 v3 v4) : exC Try.prog (G) (L W0) [] 1 c0 (mkS 18 [3, 6, 7, 8] [vi v1, vl v2, vi v3, vi v4] [] []) (bodyK Try.prog 18 0 [] ct0 W lv0 K) =
    B0 v1 v2 v3 v4 (fun u1 u2 u3 u4 => W [vi u1, vl u2, vi u3, vi u4] []) (fun z1 => K (.exit 0) (mkS 18 [3] [vi z1] [] [])) := by kernel_rfl
def enc0 (t : Int × (Vec (Bool × (Vec ByteArray) × (Vec ByteArray) × (Vec ByteArray))) × Int × Int) : List AV × List Ob := ([vi t.1, vl t.2.1, vi t.2.2.1, vi t.2.2.2], [])
theorem enc0I : ∀ a b, enc0 a = enc0 b → a = b := by
  intro a b h
  obtain ⟨a0, a1, a2, a3⟩ := a
  obtain ⟨b0, b1, b2, b3⟩ := b
  simp [enc0, encRw_iff] at h
  simp_all
noncomputable def V0 : (ρ : Type) → List AV → List Ob → (Int → Option ρ) → Option ρ := fun ρ avs obs k0 => ofC enc0 (fun t => F0 fuelN t.1 t.2.1 t.2.2.1 t.2.2.2 k0) (avs, obs)
theorem V0_enc (ρ : Type) : (fun w1 w2 w3 w4 k0 => V0 ρ [vi w1, vl w2, vi w3, vi w4] [] k0) = F0 fuelN := by
  funext w1 w2 w3 w4 k0
  exact ofC_enc enc0I _ (w1, w2, w3, w4)
theorem main (W0) {ρ : Type} (K : AV → List Ob → Option ρ) (a1) : exC Try.prog (G) (L W0) [] 0 (bodyOf Try.f69) (entry 18 [vl a1] [] []) (finO Try.prog Try.f69.results.toList 0 [] [] K) =
    B (fun w1 w2 w3 w4 k0 => W0 ρ [vi w1, vl w2, vi w3, vi w4] [] k0) a1 (fun x1 => K (vi x1) []) := by kernel_rfl
theorem Gok : (G).ok Try.prog := ⟨(fun ρ f args K r h => (by cases h)),
  (fun ρ f args K => rfl),
  (fun ρ f st caps args dst K r h => (by cases h))⟩
theorem hm : Try.prog.follows .mixedOrders = true := by kernel_rfl
theorem e0 : atomsL [] 1 c0 = [] := by kernel_rfl
theorem ok0 (ρ : Type) (st : St) (K : Exit → St → Option ρ) (r : ρ) (h : (L V0) ρ 0 st K = some r) : AW Try.prog (.loop c0) st fun e st' => K e st' = some r := by
  refine loop_ok (ct := ct0) (lv := lv0) (n := 18) (m := 0) (ks := []) (j := 0) (jn := []) (L := (L V0)) Gok hm (by rw [e0]; exact Lor.ok_nil _ _) enc0I (fun k t => F0 k t.1 t.2.1 t.2.2.1 t.2.2.2 (fun z1 => K (.exit 0) (mkS 18 [3] [vi z1] [] []))) (fun t => rfl) (fun k t => ?_) (fun _ => fuelN) h
  refine (step0 V0 K _ t.1 t.2.1 t.2.2.1 t.2.2.2).trans ?_
  refine congrArg (fun W => B0 t.1 t.2.1 t.2.2.1 t.2.2.2 W (fun z1 => K (.exit 0) (mkS 18 [3] [vi z1] [] []))) ?_
  funext u1 u2 u3 u4
  exact ofC_enc enc0I _ (u1, u2, u3, u4)
theorem e : atomsL [] 0 (bodyOf Try.f69) = [(0, 0, .loop c0)] := by kernel_rfl
theorem acc (t : Vec (Bool × (Vec ByteArray) × (Vec ByteArray) × (Vec ByteArray))) (x : Int) (h : F t = some x) : ACc Try.prog 69 (encA t) [] true [] fun rv obs => (rv, obs) = encR x := by
  refine fun_okc (L := (L V0)) (jn := []) (cmds := []) (ks := []) (hin := []) (fn := Try.f69) (body := (bodyOf Try.f69)) Gok hm Try.func69 (by kernel_rfl) (by kernel_rfl) (by rw [e]; exact Lor.ok_cons ok0 (Lor.ok_nil _ _)) ?_ h
  refine (main V0 _ t).trans ?_
  rw [V0_enc]
  refine congrArg (fun K => B (F0 fuelN) t K) ?_
  funext x1
  exact ofC_enc encRI some (x1)
theorem ac0 (t : Vec (Bool × (Vec ByteArray) × (Vec ByteArray) × (Vec ByteArray))) (x : Int) (h : F t = some x) : AC Try.prog 69 (encA t) [] true [] fun rv obs => (rv, obs) = encR x := ACc.ac (body := bodyOf Try.f69) Try.func69 (by kernel_rfl) (by kernel_rfl) (acc t x h)
theorem ac (args : List AV) (x : Int) (h : Q args = some x) : AC Try.prog 69 args [] false [] fun rv obs => (rv, obs) = encR x := by
  obtain ⟨t, rfl, h2⟩ := ofC_some h
  refine (ac0 t x h2).flat fun rv obs e => ?_
  obtain rfl : rv = (encR x).1 := congrArg Prod.fst e
  obtain rfl : obs = (encR x).2 := congrArg Prod.snd e
  refine ⟨by simp [encR, AV.Flat, K.Flat, C.Flat], ?_⟩
  simp [encR]
end impl_clashesIn
/-! loop.example/g00073/spec.Clashes -/
namespace spec_Clashes
noncomputable def B0 {ρ : Type} (v1 : Int) (v2 : Int) (v3 : Vec (Bool × (Vec ByteArray) × (Vec ByteArray) × (Vec ByteArray))) (W : Int → Int → (Vec (Bool × (Vec ByteArray) × (Vec ByteArray) × (Vec ByteArray))) → Option ρ) (K0 : Int → Option ρ) : Option ρ :=
  sel (decide (v2 < (v3.n : Int))) (chk (decide (0 ≤ v2 ∧ v2 < (v3.n : Int))) (chk (decide (v2.toNat < v3.n)) (sel ((v3.g v2.toNat).1) (W (wr (v1 + (1 : Int))) (wr (v2 + (1 : Int))) v3) (W v1 (wr (v2 + (1 : Int))) v3)))) (K0 v1)
noncomputable def F0 {ρ : Type} : Nat → Int → Int → (Vec (Bool × (Vec ByteArray) × (Vec ByteArray) × (Vec ByteArray))) → (Int → Option ρ) → Option ρ
  | 0, _, _, _, _ => none
  | k + 1, v1, v2, v3, K0 => B0 v1 v2 v3 (fun v1' v2' v3' => F0 k v1' v2' v3' K0) K0
noncomputable def B {ρ : Type} (C0 : (Vec (Vec Int)) → (Vec (ByteArray × Int × Int × (Vec Int))) → Int → Int → Option (Int × (Vec (Bool × (Vec ByteArray) × (Vec ByteArray) × (Vec ByteArray))))) (L0 : Int → Int → (Vec (Bool × (Vec ByteArray) × (Vec ByteArray) × (Vec ByteArray))) → (Int → Option ρ) → Option ρ) (a1 : Vec (Vec Int)) (a2 : Vec (ByteArray × Int × Int × (Vec Int))) (a3 : Int) (a4 : Int) (K : Int → Option ρ) : Option ρ :=
  (C0 a1 a2 a3 a4).bind fun r1 => sel ((!decide (r1.1 = (0 : Int)))) (K (-1 : Int)) (L0 (0 : Int) (0 : Int) r1.2 (fun e01 => K e01))
noncomputable def F (a1 : Vec (Vec Int)) (a2 : Vec (ByteArray × Int × Int × (Vec Int))) (a3 : Int) (a4 : Int) : Option Int := B spec_RegionsOf.F (F0 fuelN) a1 a2 a3 a4 (fun x1 => some (x1))
def encA (t : Vec (Vec Int) × (Vec (ByteArray × Int × Int × (Vec Int))) × Int × Int) : List AV := [.a [cl t.1, cl t.2.1], vi t.2.2.1, vi t.2.2.2]
def encR (x : Int) : AV × List Ob := (vi x, [])
theorem encAI : ∀ a b, encA a = encA b → a = b := by
  intro a b h
  obtain ⟨a0, a1, a2, a3⟩ := a
  obtain ⟨b0, b1, b2, b3⟩ := b
  simp [encA, encRw_iff] at h
  simp_all
theorem encRI : ∀ a b, encR a = encR b → a = b := by
  intro a b h
  simp [encR, encRw_iff] at h
  simp_all
noncomputable def Q (args : List AV) : Option Int := ofC encA (fun t => F t.1 t.2.1 t.2.2.1 t.2.2.2) args
theorem wrap : (fun (y1 : Vec (Vec Int)) (y2 : Vec (ByteArray × Int × Int × (Vec Int))) (y3 : Int) (y4 : Int) => Q [.a [cl y1, cl y2], vi y3, vi y4]) = F := by
  funext y1 y2 y3 y4
  exact ofC_enc encAI _ (y1, y2, y3, y4)
noncomputable def G (Q0 : List AV → Option (Int × (Vec (Bool × (Vec ByteArray) × (Vec ByteArray) × (Vec ByteArray))))) : Orc := ⟨fun f => sel (Nat.beq f 20) 0 (9), fun ρ f args K => sel (Nat.beq f 20) (qEntry spec_RegionsOf.encR Q0 args K) (Option.none), noE, false⟩
noncomputable def L (W0 : (ρ : Type) → List AV → List Ob → (Int → Option ρ) → Option ρ) : Lor := fun ρ j st K => sel (Nat.beq j 0) (cutO Try.prog 34 [7, 9, 10] 0 [] [] st fun avs obs => W0 ρ avs obs (fun z1 => K (.exit 0) (mkS 34 [9] [vi z1] [] []))) (Option.none)
noncomputable def c0 : Code := loopC (atomN [] 0 (bodyOf Try.f71) 0)
def ct0 : Cut := ⟨[7, 9, 10], []⟩
def lv0 : Exit → Cut
  | .exit 0 => ⟨[9], []⟩
  | _ => ⟨[], []⟩
theorem step0 (Q0) (W0) {ρ : Type} (K : Exit → St → Option ρ) (W : List AV → List Ob → Option ρ) (v1 v2 v3) : exC Try.prog (G Q0) (L W0) [] 1 c0 (mkS 34 [7, 9, 10] [.c (.h 0), vi v1, vi v2] [ro v3] []) (bodyK Try.prog 34 0 [] ct0 W lv0 K) =
    B0 v1 v2 v3 (fun u1 u2 u3 => W [.c (.h 0), vi u1, vi u2] [ro u3]) (fun z1 => K (.exit 0) (mkS 34 [9] [vi z1] [] [])) := by kernel_rfl
def enc0 (t : Int × Int × (Vec (Bool × (Vec ByteArray) × (Vec ByteArray) × (Vec ByteArray)))) : List AV × List Ob := ([.c (.h 0), vi t.1, vi t.2.1], [ro t.2.2])
theorem enc0I : ∀ a b, enc0 a = enc0 b → a = b := by
  intro a b h
  obtain ⟨a0, a1, a2⟩ := a
  obtain ⟨b0, b1, b2⟩ := b
  simp [enc0, encRw_iff] at h
  simp_all
noncomputable def V0 : (ρ : Type) → List AV → List Ob → (Int → Option ρ) → Option ρ := fun ρ avs obs k0 => ofC enc0 (fun t => F0 fuelN t.1 t.2.1 t.2.2 k0) (avs, obs)
theorem V0_enc (ρ : Type) : (fun w1 w2 w3 k0 => V0 ρ [.c (.h 0), vi w1, vi w2] [ro w3] k0) = F0 fuelN := by
  funext w1 w2 w3 k0
  exact ofC_enc enc0I _ (w1, w2, w3)
theorem main (Q0) (W0) {ρ : Type} (K : AV → List Ob → Option ρ) (a1 a2 a3 a4) : exC Try.prog (G Q0) (L W0) [] 0 (bodyOf Try.f71) (entry 34 [.a [cl a1, cl a2], vi a3, vi a4] [] []) (finO Try.prog Try.f71.results.toList 0 [] [] K) =
    B (fun y1 y2 y3 y4 => Q0 [.a [cl y1, cl y2], vi y3, vi y4]) (fun w1 w2 w3 k0 => W0 ρ [.c (.h 0), vi w1, vi w2] [ro w3] k0) a1 a2 a3 a4 (fun x1 => K (vi x1) []) := by kernel_rfl
theorem Gok : (G spec_RegionsOf.Q).ok Try.prog := ⟨(by
    intro ρ f args K r h
    rcases sel_cases h with ⟨hb, h⟩ | ⟨-, h⟩
    · obtain rfl := beq_nat hb
      exact qEntry_ok spec_RegionsOf.ac h
    cases h),
  (by
    intro ρ f args K
    simp only [G]
    cases Nat.beq f 20 with
    | true => exact qEntry_nat args K
    | false =>
    simp only [sel]
    rfl),
  (fun ρ f st caps args dst K r h => (by cases h))⟩
theorem hm : Try.prog.follows .mixedOrders = true := by kernel_rfl
theorem e0 : atomsL [] 1 c0 = [] := by kernel_rfl
theorem ok0 (ρ : Type) (st : St) (K : Exit → St → Option ρ) (r : ρ) (h : (L V0) ρ 0 st K = some r) : AW Try.prog (.loop c0) st fun e st' => K e st' = some r := by
  refine loop_ok (ct := ct0) (lv := lv0) (n := 34) (m := 0) (ks := []) (j := 0) (jn := []) (L := (L V0)) Gok hm (by rw [e0]; exact Lor.ok_nil _ _) enc0I (fun k t => F0 k t.1 t.2.1 t.2.2 (fun z1 => K (.exit 0) (mkS 34 [9] [vi z1] [] []))) (fun t => rfl) (fun k t => ?_) (fun _ => fuelN) h
  refine (step0 spec_RegionsOf.Q V0 K _ t.1 t.2.1 t.2.2).trans ?_
  refine congrArg (fun W => B0 t.1 t.2.1 t.2.2 W (fun z1 => K (.exit 0) (mkS 34 [9] [vi z1] [] []))) ?_
  funext u1 u2 u3
  exact ofC_enc enc0I _ (u1, u2, u3)
theorem e : atomsL [] 0 (bodyOf Try.f71) = [(0, 0, .loop c0)] := by kernel_rfl
theorem acc (t : Vec (Vec Int) × (Vec (ByteArray × Int × Int × (Vec Int))) × Int × Int) (x : Int) (h : F t.1 t.2.1 t.2.2.1 t.2.2.2 = some x) : ACc Try.prog 71 (encA t) [] true [] fun rv obs => (rv, obs) = encR x := by
  refine fun_okc (L := (L V0)) (jn := []) (cmds := []) (ks := []) (hin := []) (fn := Try.f71) (body := (bodyOf Try.f71)) Gok hm Try.func71 (by kernel_rfl) (by kernel_rfl) (by rw [e]; exact Lor.ok_cons ok0 (Lor.ok_nil _ _)) ?_ h
  refine (main spec_RegionsOf.Q V0 _ t.1 t.2.1 t.2.2.1 t.2.2.2).trans ?_
  rw [spec_RegionsOf.wrap, V0_enc]
  refine congrArg (fun K => B spec_RegionsOf.F (F0 fuelN) t.1 t.2.1 t.2.2.1 t.2.2.2 K) ?_
  funext x1
  exact ofC_enc encRI some (x1)
theorem ac0 (t : Vec (Vec Int) × (Vec (ByteArray × Int × Int × (Vec Int))) × Int × Int) (x : Int) (h : F t.1 t.2.1 t.2.2.1 t.2.2.2 = some x) : AC Try.prog 71 (encA t) [] true [] fun rv obs => (rv, obs) = encR x := ACc.ac (body := bodyOf Try.f71) Try.func71 (by kernel_rfl) (by kernel_rfl) (acc t x h)
theorem ac (args : List AV) (x : Int) (h : Q args = some x) : AC Try.prog 71 args [] false [] fun rv obs => (rv, obs) = encR x := by
  obtain ⟨t, rfl, h2⟩ := ofC_some h
  refine (ac0 t x h2).flat fun rv obs e => ?_
  obtain rfl : rv = (encR x).1 := congrArg Prod.fst e
  obtain rfl : obs = (encR x).2 := congrArg Prod.snd e
  refine ⟨by simp [encR, AV.Flat, K.Flat, C.Flat], ?_⟩
  simp [encR]
end spec_Clashes
end Go.Al
