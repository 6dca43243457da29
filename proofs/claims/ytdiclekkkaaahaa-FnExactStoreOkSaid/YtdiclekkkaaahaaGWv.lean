import Derived.Test.YtdiclekkkaaahaaAlE
import Derived.Test.YtdiclekkkaaahaaSC
import Derived.Test.YtdiclekkkaaahaaGRise
set_option linter.unusedVariables false
set_option linter.unusedSimpArgs false
set_option linter.constructorNameAsVariable false
set_option linter.unusedSectionVars false
set_option maxRecDepth 100000
namespace Go.Al
open Go.Proofs

/-! loop.example/g00073/spec.GraphOk -/
namespace spec_GraphOk
noncomputable def B0 {ρ : Type} (C0 : (Vec Int) → Int → Option Bool) (v1 : Vec (Vec Int)) (v2 : Int) (W : (Vec (Vec Int)) → Int → Option ρ) (K0 : Unit → Option ρ) (Kr : Bool → Option ρ) : Option ρ :=
  sel (decide (v2 < (v1.n : Int))) (chk (decide (0 ≤ v2 ∧ v2 < (v1.n : Int))) (sel (decide ((4 : Int) < ((v1.g v2.toNat).n : Int))) (Kr false) (chk (decide (0 ≤ v2 ∧ v2 < (v1.n : Int))) ((C0 (v1.g v2.toNat) v2).bind fun r1 => sel ((!r1)) (Kr false) (W v1 (wr (v2 + (1 : Int)))))))) (K0 ())
noncomputable def F0 {ρ : Type} : Nat → (Vec (Vec Int)) → Int → (Unit → Option ρ) → (Bool → Option ρ) → Option ρ
  | 0, _, _, _, _ => none
  | k + 1, v1, v2, K0, Kr => B0 spec_l05Rise.F v1 v2 (fun v1' v2' => F0 k v1' v2' K0 Kr) K0 Kr
noncomputable def B {ρ : Type} (L0 : (Vec (Vec Int)) → Int → (Unit → Option ρ) → (Bool → Option ρ) → Option ρ) (a1 : Vec (Vec Int)) (K : Bool → Option ρ) : Option ρ :=
  sel (decide ((40 : Int) < (a1.n : Int))) (K false) (L0 a1 (0 : Int) (fun _ => K true) (fun x01 => K x01))
noncomputable def F (a1 : Vec (Vec Int)) : Option Bool := B (F0 fuelN) a1 (fun x1 => some (x1))
def encA (t : Vec (Vec Int)) : List AV := [vl t]
def encR (x : Bool) : AV × List Ob := (vb x, [])
theorem encAI : ∀ a b, encA a = encA b → a = b := by
  intro a b h
  simp [encA, encRw_iff] at h
  simp_all
theorem encRI : ∀ a b, encR a = encR b → a = b := by
  intro a b h
  simp [encR, encRw_iff] at h
  simp_all
noncomputable def Q (args : List AV) : Option Bool := ofC encA (fun t => F t) args
theorem wrap : (fun (y1 : Vec (Vec Int)) => Q [vl y1]) = F := by
  funext y1
  exact ofC_enc encAI _ (y1)
noncomputable def G (Q0 : List AV → Option Bool) : Orc := ⟨fun f => sel (Nat.beq f 59) 0 (9), fun ρ f args K => sel (Nat.beq f 59) (qEntry spec_l05Rise.encR Q0 args K) (Option.none), noE, false⟩
noncomputable def L (W0 : (ρ : Type) → List AV → List Ob → (Unit → Option ρ) → (Bool → Option ρ) → Option ρ) : Lor := fun ρ j st K => sel (Nat.beq j 0) (cutO Try.prog 28 [0, 3] 0 [] [] st fun avs obs => W0 ρ avs obs (fun _ => K (.exit 0) (mkS 28 [] [] [] [])) (fun z1 => K .ret (mkS 28 [2] [vb z1] [] []))) (Option.none)
noncomputable def c0 : Code := loopC (atomN [] 0 (bodyOf Try.f24) 0)
def ct0 : Cut := ⟨[0, 3], []⟩
def lv0 : Exit → Cut
  | .exit 0 => ⟨[], []⟩
  | .ret => ⟨[2], []⟩
  | _ => ⟨[], []⟩
theorem step0 (Q0) (W0) {ρ : Type} (K : Exit → St → Option ρ) (W : List AV → List Ob → Option ρ) (v1 v2) : exC Try.prog (G Q0) (L W0) [] 1 c0 (mkS 28 [0, 3] [vl v1, vi v2] [] []) (bodyK Try.prog 28 0 [] ct0 W lv0 K) =
    B0 (fun y1 y2 => Q0 [vl y1, vi y2]) v1 v2 (fun u1 u2 => W [vl u1, vi u2] []) (fun _ => K (.exit 0) (mkS 28 [] [] [] [])) (fun z1 => K .ret (mkS 28 [2] [vb z1] [] [])) := by kernel_rfl
def enc0 (t : Vec (Vec Int) × Int) : List AV × List Ob := ([vl t.1, vi t.2], [])
theorem enc0I : ∀ a b, enc0 a = enc0 b → a = b := by
  intro a b h
  obtain ⟨a0, a1⟩ := a
  obtain ⟨b0, b1⟩ := b
  simp [enc0, encRw_iff] at h
  simp_all
noncomputable def V0 : (ρ : Type) → List AV → List Ob → (Unit → Option ρ) → (Bool → Option ρ) → Option ρ := fun ρ avs obs k0 kr => ofC enc0 (fun t => F0 fuelN t.1 t.2 k0 kr) (avs, obs)
theorem V0_enc (ρ : Type) : (fun w1 w2 k0 kr => V0 ρ [vl w1, vi w2] [] k0 kr) = F0 fuelN := by
  funext w1 w2 k0 kr
  exact ofC_enc enc0I _ (w1, w2)
theorem main (Q0) (W0) {ρ : Type} (K : AV → List Ob → Option ρ) (a1) : exC Try.prog (G Q0) (L W0) [] 0 (bodyOf Try.f24) (entry 28 [vl a1] [] []) (finO Try.prog Try.f24.results.toList 0 [] [] K) =
    B (fun w1 w2 k0 kr => W0 ρ [vl w1, vi w2] [] k0 kr) a1 (fun x1 => K (vb x1) []) := by kernel_rfl
theorem Gok : (G spec_l05Rise.Q).ok Try.prog := ⟨(by
    intro ρ f args K r h
    rcases sel_cases h with ⟨hb, h⟩ | ⟨-, h⟩
    · obtain rfl := beq_nat hb
      exact qEntry_ok spec_l05Rise.ac h
    cases h),
  (by
    intro ρ f args K
    simp only [G]
    cases Nat.beq f 59 with
    | true => exact qEntry_nat args K
    | false =>
    simp only [sel]
    rfl),
  (fun ρ f st caps args dst K r h => (by cases h))⟩
theorem hm : Try.prog.follows .mixedOrders = true := by kernel_rfl
theorem e0 : atomsL [] 1 c0 = [] := by kernel_rfl
theorem ok0 (ρ : Type) (st : St) (K : Exit → St → Option ρ) (r : ρ) (h : (L V0) ρ 0 st K = some r) : AW Try.prog (.loop c0) st fun e st' => K e st' = some r := by
  refine loop_ok (ct := ct0) (lv := lv0) (n := 28) (m := 0) (ks := []) (j := 0) (jn := []) (L := (L V0)) Gok hm (by rw [e0]; exact Lor.ok_nil _ _) enc0I (fun k t => F0 k t.1 t.2 (fun _ => K (.exit 0) (mkS 28 [] [] [] [])) (fun z1 => K .ret (mkS 28 [2] [vb z1] [] []))) (fun t => rfl) (fun k t => ?_) (fun _ => fuelN) h
  refine (step0 spec_l05Rise.Q V0 K _ t.1 t.2).trans ?_
  rw [spec_l05Rise.wrap]
  refine congrArg (fun W => B0 spec_l05Rise.F t.1 t.2 W (fun _ => K (.exit 0) (mkS 28 [] [] [] [])) (fun z1 => K .ret (mkS 28 [2] [vb z1] [] []))) ?_
  funext u1 u2
  exact ofC_enc enc0I _ (u1, u2)
theorem e : atomsL [] 0 (bodyOf Try.f24) = [(0, 0, .loop c0)] := by kernel_rfl
theorem acc (t : Vec (Vec Int)) (x : Bool) (h : F t = some x) : ACc Try.prog 24 (encA t) [] true [] fun rv obs => (rv, obs) = encR x := by
  refine fun_okc (L := (L V0)) (jn := []) (cmds := []) (ks := []) (hin := []) (fn := Try.f24) (body := (bodyOf Try.f24)) Gok hm Try.func24 (by kernel_rfl) (by kernel_rfl) (by rw [e]; exact Lor.ok_cons ok0 (Lor.ok_nil _ _)) ?_ h
  refine (main spec_l05Rise.Q V0 _ t).trans ?_
  rw [V0_enc]
  refine congrArg (fun K => B (F0 fuelN) t K) ?_
  funext x1
  exact ofC_enc encRI some (x1)
theorem ac0 (t : Vec (Vec Int)) (x : Bool) (h : F t = some x) : AC Try.prog 24 (encA t) [] true [] fun rv obs => (rv, obs) = encR x := ACc.ac (body := bodyOf Try.f24) Try.func24 (by kernel_rfl) (by kernel_rfl) (acc t x h)
theorem ac (args : List AV) (x : Bool) (h : Q args = some x) : AC Try.prog 24 args [] false [] fun rv obs => (rv, obs) = encR x := by
  obtain ⟨t, rfl, h2⟩ := ofC_some h
  refine (ac0 t x h2).flat fun rv obs e => ?_
  obtain rfl : rv = (encR x).1 := congrArg Prod.fst e
  obtain rfl : obs = (encR x).2 := congrArg Prod.snd e
  refine ⟨by simp [encR, AV.Flat, K.Flat, C.Flat], ?_⟩
  simp [encR]
end spec_GraphOk
/-! loop.example/g00073/spec.l05Set -/
namespace spec_l05Set
noncomputable def B2 {ρ : Type} (v1 : Vec (Vec Int)) (v2 : Int) (v3 : Int) (v4 : Vec Bool) (W : (Vec (Vec Int)) → Int → Int → (Vec Bool) → Option ρ) (K4 : (Vec (Vec Int)) → Int → (Vec Bool) → Option ρ) : Option ρ :=
  chk (decide (0 ≤ v2 ∧ v2 < (v1.n : Int))) (sel (decide (v3 < ((v1.g v2.toNat).n : Int))) (chk (decide (0 ≤ v2 ∧ v2 < (v4.n : Int))) (chk (decide (v2.toNat < v4.n)) (sel ((v4.g v2.toNat)) (chk (decide (0 ≤ v2 ∧ v2 < (v1.n : Int))) (chk (decide (0 ≤ v3 ∧ v3 < ((v1.g v2.toNat).n : Int))) (chk (decide (0 ≤ ((v1.g v2.toNat).g v3.toNat) ∧ ((v1.g v2.toNat).g v3.toNat) < (v4.n : Int))) (chk (decide (((v1.g v2.toNat).g v3.toNat).toNat < v4.n)) (W v1 v2 (wr (v3 + (1 : Int))) (Vec.set v4 (((v1.g v2.toNat).g v3.toNat).toNat) true)))))) (K4 v1 v2 v4)))) (K4 v1 v2 v4))
noncomputable def F2 {ρ : Type} : Nat → (Vec (Vec Int)) → Int → Int → (Vec Bool) → ((Vec (Vec Int)) → Int → (Vec Bool) → Option ρ) → Option ρ
  | 0, _, _, _, _, _ => none
  | k + 1, v1, v2, v3, v4, K4 => B2 v1 v2 v3 v4 (fun v1' v2' v3' v4' => F2 k v1' v2' v3' v4' K4) K4
noncomputable def B1 {ρ : Type} (L2 : (Vec (Vec Int)) → Int → Int → (Vec Bool) → ((Vec (Vec Int)) → Int → (Vec Bool) → Option ρ) → Option ρ) (v1 : Vec (Vec Int)) (v2 : Int) (v3 : Vec Bool) (W : (Vec (Vec Int)) → Int → (Vec Bool) → Option ρ) (K2 : (Vec Bool) → Option ρ) : Option ρ :=
  sel (decide ((0 : Int) ≤ v2)) (L2 v1 v2 (0 : Int) v3 (fun e21 e22 e23 => W e21 (wr (e22 - (1 : Int))) e23)) (K2 v3)
noncomputable def F1 {ρ : Type} : Nat → (Vec (Vec Int)) → Int → (Vec Bool) → ((Vec Bool) → Option ρ) → Option ρ
  | 0, _, _, _, _ => none
  | k + 1, v1, v2, v3, K2 => B1 (F2 fuelN) v1 v2 v3 (fun v1' v2' v3' => F1 k v1' v2' v3' K2) K2
noncomputable def B0 {ρ : Type} (C0 : Int → Int → Int → Option Bool) (v1 : Vec (Vec Int)) (v2 : Vec Int) (v3 : Int) (v4 : Vec Bool) (W : (Vec (Vec Int)) → (Vec Int) → Int → (Vec Bool) → Option ρ) (K0 : (Vec (Vec Int)) → (Vec Bool) → Option ρ) : Option ρ :=
  sel (decide (v3 < (v2.n : Int))) (chk (decide (0 ≤ v3 ∧ v3 < (v2.n : Int))) ((C0 (v2.g v3.toNat) (0 : Int) (wr ((v1.n : Int) - (1 : Int)))).bind fun r1 => sel (r1) (chk (decide (0 ≤ v3 ∧ v3 < (v2.n : Int))) (chk (decide (0 ≤ (v2.g v3.toNat) ∧ (v2.g v3.toNat) < (v4.n : Int))) (chk (decide ((v2.g v3.toNat).toNat < v4.n)) (W v1 v2 (wr (v3 + (1 : Int))) (Vec.set v4 ((v2.g v3.toNat).toNat) true))))) (W v1 v2 (wr (v3 + (1 : Int))) v4))) (K0 v1 v4)
noncomputable def F0 {ρ : Type} : Nat → (Vec (Vec Int)) → (Vec Int) → Int → (Vec Bool) → ((Vec (Vec Int)) → (Vec Bool) → Option ρ) → Option ρ
  | 0, _, _, _, _, _ => none
  | k + 1, v1, v2, v3, v4, K0 => B0 spec_l01In.F v1 v2 v3 v4 (fun v1' v2' v3' v4' => F0 k v1' v2' v3' v4' K0) K0
noncomputable def B {ρ : Type} (L0 : (Vec (Vec Int)) → (Vec Int) → Int → (Vec Bool) → ((Vec (Vec Int)) → (Vec Bool) → Option ρ) → Option ρ) (L1 : (Vec (Vec Int)) → Int → (Vec Bool) → ((Vec Bool) → Option ρ) → Option ρ) (a1 : Vec (Vec Int)) (a2 : Vec Int) (K : (Vec Bool) → Option ρ) : Option ρ :=
  chk (decide ((a1.n : Int) = (a1.n : Int) ∧ 0 ≤ (a1.n : Int))) (chk (mkOk (a1.n : Int) 1) (L0 a1 a2 (0 : Int) (Vec.rep ((a1.n : Int).toNat) false : Vec Bool) (fun e01 e02 => L1 e01 (wr ((e01.n : Int) - (1 : Int))) e02 (fun e11 => K e11))))
noncomputable def F (a1 : Vec (Vec Int)) (a2 : Vec Int) : Option (Vec Bool) := B (F0 fuelN) (F1 fuelN) a1 a2 (fun x1 => some (x1))
def encA (t : Vec (Vec Int) × Vec Int) : List AV := [vl t.1, vl t.2]
def encR (x : Vec Bool) : AV × List Ob := (.c (.h 0), [ro x])
theorem encAI : ∀ a b, encA a = encA b → a = b := by
  intro a b h
  obtain ⟨a0, a1⟩ := a
  obtain ⟨b0, b1⟩ := b
  simp [encA, encRw_iff] at h
  simp_all
theorem encRI : ∀ a b, encR a = encR b → a = b := by
  intro a b h
  simp [encR, encRw_iff] at h
  simp_all
noncomputable def Q (args : List AV) : Option (Vec Bool) := ofC encA (fun t => F t.1 t.2) args
theorem wrap : (fun (y1 : Vec (Vec Int)) (y2 : Vec Int) => Q [vl y1, vl y2]) = F := by
  funext y1 y2
  exact ofC_enc encAI _ (y1, y2)
noncomputable def G (Q0 : List AV → Option Bool) : Orc := ⟨fun f => sel (Nat.beq f 26) 0 (9), fun ρ f args K => sel (Nat.beq f 26) (qEntry spec_l01In.encR Q0 args K) (Option.none), noE, false⟩
noncomputable def L (W2 : (ρ : Type) → List AV → List Ob → ((Vec (Vec Int)) → Int → (Vec Bool) → Option ρ) → Option ρ) (W1 : (ρ : Type) → List AV → List Ob → ((Vec Bool) → Option ρ) → Option ρ) (W0 : (ρ : Type) → List AV → List Ob → ((Vec (Vec Int)) → (Vec Bool) → Option ρ) → Option ρ) : Lor := fun ρ j st K => sel (Nat.beq j 0) (cutO Try.prog 64 [0, 1, 5, 6] 0 [] [] st fun avs obs => W0 ρ avs obs (fun z1 z2 => K (.exit 0) (mkS 64 [0, 5] [vl z1, .c (.h 0)] [ro z2] []))) (sel (Nat.beq j 1) (cutO Try.prog 64 [0, 5, 7] 0 [] [] st fun avs obs => W1 ρ avs obs (fun z1 => K (.exit 2) (mkS 64 [5] [.c (.h 0)] [ro z1] []))) (sel (Nat.beq j 2) (cutO Try.prog 64 [0, 5, 7, 8] 0 [] [] st fun avs obs => W2 ρ avs obs (fun z1 z2 z3 => K (.exit 4) (mkS 64 [0, 5, 7] [vl z1, .c (.h 0), vi z2] [ro z3] []))) (Option.none)))
noncomputable def c0 : Code := loopC (atomN [] 0 (bodyOf Try.f67) 0)
noncomputable def c1 : Code := loopC (atomN [] 0 (bodyOf Try.f67) 1)
noncomputable def c2 : Code := loopC (atomN [] 2 c1 0)
def ct0 : Cut := ⟨[0, 1, 5, 6], []⟩
def lv0 : Exit → Cut
  | .exit 0 => ⟨[0, 5], []⟩
  | _ => ⟨[], []⟩
theorem step0 (Q0) (W2 W1 W0) {ρ : Type} (K : Exit → St → Option ρ) (W : List AV → List Ob → Option ρ) (v1 v2 v3 v4) : exC Try.prog (G Q0) (L W2 W1 W0) [] 1 c0 (mkS 64 [0, 1, 5, 6] [vl v1, vl v2, .c (.h 0), vi v3] [ro v4] []) (bodyK Try.prog 64 0 [] ct0 W lv0 K) =
    B0 (fun y1 y2 y3 => Q0 [vi y1, vi y2, vi y3]) v1 v2 v3 v4 (fun u1 u2 u3 u4 => W [vl u1, vl u2, .c (.h 0), vi u3] [ro u4]) (fun z1 z2 => K (.exit 0) (mkS 64 [0, 5] [vl z1, .c (.h 0)] [ro z2] [])) := by kernel_rfl
def enc0 (t : Vec (Vec Int) × Vec Int × Int × Vec Bool) : List AV × List Ob := ([vl t.1, vl t.2.1, .c (.h 0), vi t.2.2.1], [ro t.2.2.2])
theorem enc0I : ∀ a b, enc0 a = enc0 b → a = b := by
  intro a b h
  obtain ⟨a0, a1, a2, a3⟩ := a
  obtain ⟨b0, b1, b2, b3⟩ := b
  simp [enc0, encRw_iff] at h
  simp_all
noncomputable def V0 : (ρ : Type) → List AV → List Ob → ((Vec (Vec Int)) → (Vec Bool) → Option ρ) → Option ρ := fun ρ avs obs k0 => ofC enc0 (fun t => F0 fuelN t.1 t.2.1 t.2.2.1 t.2.2.2 k0) (avs, obs)
theorem V0_enc (ρ : Type) : (fun w1 w2 w3 w4 k0 => V0 ρ [vl w1, vl w2, .c (.h 0), vi w3] [ro w4] k0) = F0 fuelN := by
  funext w1 w2 w3 w4 k0
  exact ofC_enc enc0I _ (w1, w2, w3, w4)
def ct1 : Cut := ⟨[0, 5, 7], []⟩
def lv1 : Exit → Cut
  | .exit 2 => ⟨[5], []⟩
  | _ => ⟨[], []⟩
theorem step1 (Q0) (W2 W1 W0) {ρ : Type} (K : Exit → St → Option ρ) (W : List AV → List Ob → Option ρ) (v1 v2 v3) : exC Try.prog (G Q0) (L W2 W1 W0) [] 2 c1 (mkS 64 [0, 5, 7] [vl v1, .c (.h 0), vi v2] [ro v3] []) (bodyK Try.prog 64 0 [] ct1 W lv1 K) =
    B1 (fun w1 w2 w3 w4 k4 => W2 ρ [vl w1, .c (.h 0), vi w2, vi w3] [ro w4] k4) v1 v2 v3 (fun u1 u2 u3 => W [vl u1, .c (.h 0), vi u2] [ro u3]) (fun z1 => K (.exit 2) (mkS 64 [5] [.c (.h 0)] [ro z1] [])) := by kernel_rfl
def enc1 (t : Vec (Vec Int) × Int × Vec Bool) : List AV × List Ob := ([vl t.1, .c (.h 0), vi t.2.1], [ro t.2.2])
theorem enc1I : ∀ a b, enc1 a = enc1 b → a = b := by
  intro a b h
  obtain ⟨a0, a1, a2⟩ := a
  obtain ⟨b0, b1, b2⟩ := b
  simp [enc1, encRw_iff] at h
  simp_all
noncomputable def V1 : (ρ : Type) → List AV → List Ob → ((Vec Bool) → Option ρ) → Option ρ := fun ρ avs obs k2 => ofC enc1 (fun t => F1 fuelN t.1 t.2.1 t.2.2 k2) (avs, obs)
theorem V1_enc (ρ : Type) : (fun w1 w2 w3 k2 => V1 ρ [vl w1, .c (.h 0), vi w2] [ro w3] k2) = F1 fuelN := by
  funext w1 w2 w3 k2
  exact ofC_enc enc1I _ (w1, w2, w3)
def ct2 : Cut := ⟨[0, 5, 7, 8], []⟩
def lv2 : Exit → Cut
  | .exit 4 => ⟨[0, 5, 7], []⟩
  | _ => ⟨[], []⟩
theorem step2 (Q0) (W2 W1 W0) {ρ : Type} (K : Exit → St → Option ρ) (W : List AV → List Ob → Option ρ) (v1 v2 v3 v4) : exC Try.prog (G Q0) (L W2 W1 W0) [] 3 c2 (mkS 64 [0, 5, 7, 8] [vl v1, .c (.h 0), vi v2, vi v3] [ro v4] []) (bodyK Try.prog 64 0 [] ct2 W lv2 K) =
    B2 v1 v2 v3 v4 (fun u1 u2 u3 u4 => W [vl u1, .c (.h 0), vi u2, vi u3] [ro u4]) (fun z1 z2 z3 => K (.exit 4) (mkS 64 [0, 5, 7] [vl z1, .c (.h 0), vi z2] [ro z3] [])) := by kernel_rfl
def enc2 (t : Vec (Vec Int) × Int × Int × Vec Bool) : List AV × List Ob := ([vl t.1, .c (.h 0), vi t.2.1, vi t.2.2.1], [ro t.2.2.2])
theorem enc2I : ∀ a b, enc2 a = enc2 b → a = b := by
  intro a b h
  obtain ⟨a0, a1, a2, a3⟩ := a
  obtain ⟨b0, b1, b2, b3⟩ := b
  simp [enc2, encRw_iff] at h
  simp_all
noncomputable def V2 : (ρ : Type) → List AV → List Ob → ((Vec (Vec Int)) → Int → (Vec Bool) → Option ρ) → Option ρ := fun ρ avs obs k4 => ofC enc2 (fun t => F2 fuelN t.1 t.2.1 t.2.2.1 t.2.2.2 k4) (avs, obs)
theorem V2_enc (ρ : Type) : (fun w1 w2 w3 w4 k4 => V2 ρ [vl w1, .c (.h 0), vi w2, vi w3] [ro w4] k4) = F2 fuelN := by
  funext w1 w2 w3 w4 k4
  exact ofC_enc enc2I _ (w1, w2, w3, w4)
theorem main (Q0) (W2 W1 W0) {ρ : Type} (K : AV → List Ob → Option ρ) (a1 a2) : exC Try.prog (G Q0) (L W2 W1 W0) [] 0 (bodyOf Try.f67) (entry 64 [vl a1, vl a2] [] []) (finO Try.prog Try.f67.results.toList 0 [] [] K) =
    B (fun w1 w2 w3 w4 k0 => W0 ρ [vl w1, vl w2, .c (.h 0), vi w3] [ro w4] k0) (fun w1 w2 w3 k2 => W1 ρ [vl w1, .c (.h 0), vi w2] [ro w3] k2) a1 a2 (fun x1 => K (.c (.h 0)) [ro x1]) := by kernel_rfl
theorem Gok : (G spec_l01In.Q).ok Try.prog := ⟨(by
    intro ρ f args K r h
    rcases sel_cases h with ⟨hb, h⟩ | ⟨-, h⟩
    · obtain rfl := beq_nat hb
      exact qEntry_ok spec_l01In.ac h
    cases h),
  (by
    intro ρ f args K
    simp only [G]
    cases Nat.beq f 26 with
    | true => exact qEntry_nat args K
    | false =>
    simp only [sel]
    rfl),
  (fun ρ f st caps args dst K r h => (by cases h))⟩
theorem hm : Try.prog.follows .mixedOrders = true := by kernel_rfl
theorem e2 : atomsL [] 3 c2 = [] := by kernel_rfl
theorem ok2 (ρ : Type) (st : St) (K : Exit → St → Option ρ) (r : ρ) (h : (L V2 V1 V0) ρ 2 st K = some r) : AW Try.prog (.loop c2) st fun e st' => K e st' = some r := by
  refine loop_ok (ct := ct2) (lv := lv2) (n := 64) (m := 0) (ks := []) (j := 2) (jn := []) (L := (L V2 V1 V0)) Gok hm (by rw [e2]; exact Lor.ok_nil _ _) enc2I (fun k t => F2 k t.1 t.2.1 t.2.2.1 t.2.2.2 (fun z1 z2 z3 => K (.exit 4) (mkS 64 [0, 5, 7] [vl z1, .c (.h 0), vi z2] [ro z3] []))) (fun t => rfl) (fun k t => ?_) (fun _ => fuelN) h
  refine (step2 spec_l01In.Q V2 V1 V0 K _ t.1 t.2.1 t.2.2.1 t.2.2.2).trans ?_
  refine congrArg (fun W => B2 t.1 t.2.1 t.2.2.1 t.2.2.2 W (fun z1 z2 z3 => K (.exit 4) (mkS 64 [0, 5, 7] [vl z1, .c (.h 0), vi z2] [ro z3] []))) ?_
  funext u1 u2 u3 u4
  exact ofC_enc enc2I _ (u1, u2, u3, u4)
theorem e1 : atomsL [] 2 c1 = [(2, 2, .loop c2)] := by kernel_rfl
theorem ok1 (ρ : Type) (st : St) (K : Exit → St → Option ρ) (r : ρ) (h : (L V2 V1 V0) ρ 1 st K = some r) : AW Try.prog (.loop c1) st fun e st' => K e st' = some r := by
  refine loop_ok (ct := ct1) (lv := lv1) (n := 64) (m := 0) (ks := []) (j := 1) (jn := []) (L := (L V2 V1 V0)) Gok hm (by rw [e1]; exact Lor.ok_cons ok2 (Lor.ok_nil _ _)) enc1I (fun k t => F1 k t.1 t.2.1 t.2.2 (fun z1 => K (.exit 2) (mkS 64 [5] [.c (.h 0)] [ro z1] []))) (fun t => rfl) (fun k t => ?_) (fun _ => fuelN) h
  refine (step1 spec_l01In.Q V2 V1 V0 K _ t.1 t.2.1 t.2.2).trans ?_
  rw [V2_enc]
  refine congrArg (fun W => B1 (F2 fuelN) t.1 t.2.1 t.2.2 W (fun z1 => K (.exit 2) (mkS 64 [5] [.c (.h 0)] [ro z1] []))) ?_
  funext u1 u2 u3
  exact ofC_enc enc1I _ (u1, u2, u3)
theorem e0 : atomsL [] 1 c0 = [] := by kernel_rfl
theorem ok0 (ρ : Type) (st : St) (K : Exit → St → Option ρ) (r : ρ) (h : (L V2 V1 V0) ρ 0 st K = some r) : AW Try.prog (.loop c0) st fun e st' => K e st' = some r := by
  refine loop_ok (ct := ct0) (lv := lv0) (n := 64) (m := 0) (ks := []) (j := 0) (jn := []) (L := (L V2 V1 V0)) Gok hm (by rw [e0]; exact Lor.ok_nil _ _) enc0I (fun k t => F0 k t.1 t.2.1 t.2.2.1 t.2.2.2 (fun z1 z2 => K (.exit 0) (mkS 64 [0, 5] [vl z1, .c (.h 0)] [ro z2] []))) (fun t => rfl) (fun k t => ?_) (fun _ => fuelN) h
  refine (step0 spec_l01In.Q V2 V1 V0 K _ t.1 t.2.1 t.2.2.1 t.2.2.2).trans ?_
  rw [spec_l01In.wrap]
  refine congrArg (fun W => B0 spec_l01In.F t.1 t.2.1 t.2.2.1 t.2.2.2 W (fun z1 z2 => K (.exit 0) (mkS 64 [0, 5] [vl z1, .c (.h 0)] [ro z2] []))) ?_
  funext u1 u2 u3 u4
  exact ofC_enc enc0I _ (u1, u2, u3, u4)
theorem e : atomsL [] 0 (bodyOf Try.f67) = [(0, 0, .loop c0), (1, 1, .loop c1)] := by kernel_rfl
theorem acc (t : Vec (Vec Int) × Vec Int) (x : Vec Bool) (h : F t.1 t.2 = some x) : ACc Try.prog 67 (encA t) [] true [] fun rv obs => (rv, obs) = encR x := by
  refine fun_okc (L := (L V2 V1 V0)) (jn := []) (cmds := []) (ks := []) (hin := []) (fn := Try.f67) (body := (bodyOf Try.f67)) Gok hm Try.func67 (by kernel_rfl) (by kernel_rfl) (by rw [e]; exact Lor.ok_cons ok0 (Lor.ok_cons ok1 (Lor.ok_nil _ _))) ?_ h
  refine (main spec_l01In.Q V2 V1 V0 _ t.1 t.2).trans ?_
  rw [V0_enc, V1_enc]
  refine congrArg (fun K => B (F0 fuelN) (F1 fuelN) t.1 t.2 K) ?_
  funext x1
  exact ofC_enc encRI some (x1)
theorem ac0 (t : Vec (Vec Int) × Vec Int) (x : Vec Bool) (h : F t.1 t.2 = some x) : AC Try.prog 67 (encA t) [] true [] fun rv obs => (rv, obs) = encR x := ACc.ac (body := bodyOf Try.f67) Try.func67 (by kernel_rfl) (by kernel_rfl) (acc t x h)
theorem ac (args : List AV) (x : Vec Bool) (h : Q args = some x) : AC Try.prog 67 args [] false [] fun rv obs => (rv, obs) = encR x := by
  obtain ⟨t, rfl, h2⟩ := ofC_some h
  refine (ac0 t x h2).flat fun rv obs e => ?_
  obtain rfl : rv = (encR x).1 := congrArg Prod.fst e
  obtain rfl : obs = (encR x).2 := congrArg Prod.snd e
  refine ⟨by simp [encR, AV.Flat, K.Flat, C.Flat], ?_⟩
  intro o ho
  simp only [encR, List.mem_cons, List.not_mem_nil, or_false] at ho
  subst ho
  exact flat_rw rfl _
end spec_l05Set
/-! loop.example/g00073/spec.LineOk -/
namespace spec_LineOk
noncomputable def B0 {ρ : Type} (v1 : ByteArray) (v2 : Int) (W : ByteArray → Int → Option ρ) (K0 : ByteArray → Option ρ) (Kr : Bool → Option ρ) : Option ρ :=
  sel (decide (v2 < (v1.size : Int))) (chk (decide (0 ≤ v2 ∧ v2 < (v1.size : Int))) (sel (decide ((byteAt v1 v2.toNat) = (10 : Int))) (Kr false) (W v1 (wr (v2 + (1 : Int)))))) (K0 v1)
noncomputable def F0 {ρ : Type} : Nat → ByteArray → Int → (ByteArray → Option ρ) → (Bool → Option ρ) → Option ρ
  | 0, _, _, _, _ => none
  | k + 1, v1, v2, K0, Kr => B0 v1 v2 (fun v1' v2' => F0 k v1' v2' K0 Kr) K0 Kr
noncomputable def B {ρ : Type} (L0 : ByteArray → Int → (ByteArray → Option ρ) → (Bool → Option ρ) → Option ρ) (a1 : ByteArray) (K : Bool → Option ρ) : Option ρ :=
  L0 a1 (0 : Int) (fun e01 => K (decide ((e01.size : Int) ≤ (60 : Int)))) (fun x01 => K x01)
noncomputable def F (a1 : ByteArray) : Option Bool := B (F0 fuelN) a1 (fun x1 => some (x1))
def encA (t : ByteArray) : List AV := [vs t]
def encR (x : Bool) : AV × List Ob := (vb x, [])
theorem encAI : ∀ a b, encA a = encA b → a = b := by
  intro a b h
  simp [encA, encRw_iff] at h
  simp_all
theorem encRI : ∀ a b, encR a = encR b → a = b := by
  intro a b h
  simp [encR, encRw_iff] at h
  simp_all
noncomputable def Q (args : List AV) : Option Bool := ofC encA (fun t => F t) args
theorem wrap : (fun (y1 : ByteArray) => Q [vs y1]) = F := by
  funext y1
  exact ofC_enc encAI _ (y1)
noncomputable def G : Orc := ⟨fun f => 9, fun ρ f args K => Option.none, noE, false⟩
noncomputable def L (W0 : (ρ : Type) → List AV → List Ob → (ByteArray → Option ρ) → (Bool → Option ρ) → Option ρ) : Lor := fun ρ j st K => sel (Nat.beq j 0) (cutO Try.prog 17 [0, 3] 0 [] [] st fun avs obs => W0 ρ avs obs (fun z1 => K (.exit 0) (mkS 17 [0] [vs z1] [] [])) (fun z1 => K .ret (mkS 17 [2] [vb z1] [] []))) (Option.none)
noncomputable def c0 : Code := loopC (atomN [] 0 (bodyOf Try.f68) 0)
def ct0 : Cut := ⟨[0, 3], []⟩
def lv0 : Exit → Cut
  | .exit 0 => ⟨[0], []⟩
  | .ret => ⟨[2], []⟩
  | _ => ⟨[], []⟩
theorem step0 (W0) {ρ : Type} (K : Exit → St → Option ρ) (W : List AV → List Ob → Option ρ) (v1 v2) : exC Try.prog (G) (L W0) [] 1 c0 (mkS 17 [0, 3] [vs v1, vi v2] [] []) (bodyK Try.prog 17 0 [] ct0 W lv0 K) =
    B0 v1 v2 (fun u1 u2 => W [vs u1, vi u2] []) (fun z1 => K (.exit 0) (mkS 17 [0] [vs z1] [] [])) (fun z1 => K .ret (mkS 17 [2] [vb z1] [] [])) := by kernel_rfl
def enc0 (t : ByteArray × Int) : List AV × List Ob := ([vs t.1, vi t.2], [])
theorem enc0I : ∀ a b, enc0 a = enc0 b → a = b := by
  intro a b h
  obtain ⟨a0, a1⟩ := a
  obtain ⟨b0, b1⟩ := b
  simp [enc0, encRw_iff] at h
  simp_all
noncomputable def V0 : (ρ : Type) → List AV → List Ob → (ByteArray → Option ρ) → (Bool → Option ρ) → Option ρ := fun ρ avs obs k0 kr => ofC enc0 (fun t => F0 fuelN t.1 t.2 k0 kr) (avs, obs)
theorem V0_enc (ρ : Type) : (fun w1 w2 k0 kr => V0 ρ [vs w1, vi w2] [] k0 kr) = F0 fuelN := by
  funext w1 w2 k0 kr
  exact ofC_enc enc0I _ (w1, w2)
theorem main (W0) {ρ : Type} (K : AV → List Ob → Option ρ) (a1) : exC Try.prog (G) (L W0) [] 0 (bodyOf Try.f68) (entry 17 [vs a1] [] []) (finO Try.prog Try.f68.results.toList 0 [] [] K) =
    B (fun w1 w2 k0 kr => W0 ρ [vs w1, vi w2] [] k0 kr) a1 (fun x1 => K (vb x1) []) := by kernel_rfl
theorem Gok : (G).ok Try.prog := ⟨(fun ρ f args K r h => (by cases h)),
  (fun ρ f args K => rfl),
  (fun ρ f st caps args dst K r h => (by cases h))⟩
theorem hm : Try.prog.follows .mixedOrders = true := by kernel_rfl
theorem e0 : atomsL [] 1 c0 = [] := by kernel_rfl
theorem ok0 (ρ : Type) (st : St) (K : Exit → St → Option ρ) (r : ρ) (h : (L V0) ρ 0 st K = some r) : AW Try.prog (.loop c0) st fun e st' => K e st' = some r := by
  refine loop_ok (ct := ct0) (lv := lv0) (n := 17) (m := 0) (ks := []) (j := 0) (jn := []) (L := (L V0)) Gok hm (by rw [e0]; exact Lor.ok_nil _ _) enc0I (fun k t => F0 k t.1 t.2 (fun z1 => K (.exit 0) (mkS 17 [0] [vs z1] [] [])) (fun z1 => K .ret (mkS 17 [2] [vb z1] [] []))) (fun t => rfl) (fun k t => ?_) (fun _ => fuelN) h
  refine (step0 V0 K _ t.1 t.2).trans ?_
  refine congrArg (fun W => B0 t.1 t.2 W (fun z1 => K (.exit 0) (mkS 17 [0] [vs z1] [] [])) (fun z1 => K .ret (mkS 17 [2] [vb z1] [] []))) ?_
  funext u1 u2
  exact ofC_enc enc0I _ (u1, u2)
theorem e : atomsL [] 0 (bodyOf Try.f68) = [(0, 0, .loop c0)] := by kernel_rfl
theorem acc (t : ByteArray) (x : Bool) (h : F t = some x) : ACc Try.prog 68 (encA t) [] true [] fun rv obs => (rv, obs) = encR x := by
  refine fun_okc (L := (L V0)) (jn := []) (cmds := []) (ks := []) (hin := []) (fn := Try.f68) (body := (bodyOf Try.f68)) Gok hm Try.func68 (by kernel_rfl) (by kernel_rfl) (by rw [e]; exact Lor.ok_cons ok0 (Lor.ok_nil _ _)) ?_ h
  refine (main V0 _ t).trans ?_
  rw [V0_enc]
  refine congrArg (fun K => B (F0 fuelN) t K) ?_
  funext x1
  exact ofC_enc encRI some (x1)
theorem ac0 (t : ByteArray) (x : Bool) (h : F t = some x) : AC Try.prog 68 (encA t) [] true [] fun rv obs => (rv, obs) = encR x := ACc.ac (body := bodyOf Try.f68) Try.func68 (by kernel_rfl) (by kernel_rfl) (acc t x h)
theorem ac (args : List AV) (x : Bool) (h : Q args = some x) : AC Try.prog 68 args [] false [] fun rv obs => (rv, obs) = encR x := by
  obtain ⟨t, rfl, h2⟩ := ofC_some h
  refine (ac0 t x h2).flat fun rv obs e => ?_
  obtain rfl : rv = (encR x).1 := congrArg Prod.fst e
  obtain rfl : obs = (encR x).2 := congrArg Prod.snd e
  refine ⟨by simp [encR, AV.Flat, K.Flat, C.Flat], ?_⟩
  simp [encR]
end spec_LineOk
/-! loop.example/g00073/spec.l06Live -/
namespace spec_l06Live
noncomputable def B0 {ρ : Type} (C0 : Int → Int → Int → Option Bool) (v1 : Vec Bool) (v2 : Int) (v3 : ByteArray) (v4 : Int) (v5 : Int) (v6 : Vec Int) (W : (Vec Bool) → Int → ByteArray → Int → Int → (Vec Int) → Option ρ) (K0 : Unit → Option ρ) (Kr : Bool → Option ρ) : Option ρ :=
  sel (decide (v2 < (v6.n : Int))) (chk (decide (0 ≤ v2 ∧ v2 < (v6.n : Int))) ((C0 (v6.g v2.toNat) (0 : Int) (wr ((v1.n : Int) - (1 : Int)))).bind fun r2 => sel (r2) (chk (decide (0 ≤ v2 ∧ v2 < (v6.n : Int))) (chk (decide (0 ≤ (v6.g v2.toNat) ∧ (v6.g v2.toNat) < (v1.n : Int))) (sel ((v1.g (v6.g v2.toNat).toNat)) (Kr false) (W v1 (wr (v2 + (1 : Int))) v3 v4 v5 v6)))) (W v1 (wr (v2 + (1 : Int))) v3 v4 v5 v6))) (K0 ())
noncomputable def F0 {ρ : Type} : Nat → (Vec Bool) → Int → ByteArray → Int → Int → (Vec Int) → (Unit → Option ρ) → (Bool → Option ρ) → Option ρ
  | 0, _, _, _, _, _, _, _, _ => none
  | k + 1, v1, v2, v3, v4, v5, v6, K0, Kr => B0 spec_l01In.F v1 v2 v3 v4 v5 v6 (fun v1' v2' v3' v4' v5' v6' => F0 k v1' v2' v3' v4' v5' v6' K0 Kr) K0 Kr
noncomputable def B {ρ : Type} (C0 : Int → Int → Int → Option Bool) (L0 : (Vec Bool) → Int → ByteArray → Int → Int → (Vec Int) → (Unit → Option ρ) → (Bool → Option ρ) → Option ρ) (a1 : ByteArray) (a2 : Int) (a3 : Int) (a4 : Vec Int) (a5 : Vec Bool) (K : Bool → Option ρ) : Option ρ :=
  (C0 a2 (0 : Int) (wr ((a5.n : Int) - (1 : Int)))).bind fun r1 => sel ((!r1)) (K false) (chk (decide (0 ≤ a2 ∧ a2 < (a5.n : Int))) (sel ((!(a5.g a2.toNat))) (K false) (L0 a5 (0 : Int) a1 a2 a3 a4 (fun _ => K true) (fun x01 => K x01))))
noncomputable def F (a1 : ByteArray) (a2 : Int) (a3 : Int) (a4 : Vec Int) (a5 : Vec Bool) : Option Bool := B spec_l01In.F (F0 fuelN) a1 a2 a3 a4 a5 (fun x1 => some (x1))
def encA (t : ByteArray × Int × Int × Vec Int × Vec Bool) : List AV := [.a [cs t.1, ci t.2.1, ci t.2.2.1, cl t.2.2.2.1], vl t.2.2.2.2]
def encR (x : Bool) : AV × List Ob := (vb x, [])
theorem encAI : ∀ a b, encA a = encA b → a = b := by
  intro a b h
  obtain ⟨a0, a1, a2, a3, a4⟩ := a
  obtain ⟨b0, b1, b2, b3, b4⟩ := b
  simp [encA, encRw_iff] at h
  simp_all
theorem encRI : ∀ a b, encR a = encR b → a = b := by
  intro a b h
  simp [encR, encRw_iff] at h
  simp_all
noncomputable def Q (args : List AV) : Option Bool := ofC encA (fun t => F t.1 t.2.1 t.2.2.1 t.2.2.2.1 t.2.2.2.2) args
theorem wrap : (fun (y1 : ByteArray) (y2 : Int) (y3 : Int) (y4 : Vec Int) (y5 : Vec Bool) => Q [.a [cs y1, ci y2, ci y3, cl y4], vl y5]) = F := by
  funext y1 y2 y3 y4 y5
  exact ofC_enc encAI _ (y1, y2, y3, y4, y5)
noncomputable def G (Q0 : List AV → Option Bool) : Orc := ⟨fun f => sel (Nat.beq f 26) 0 (9), fun ρ f args K => sel (Nat.beq f 26) (qEntry spec_l01In.encR Q0 args K) (Option.none), noE, false⟩
noncomputable def L (W0 : (ρ : Type) → List AV → List Ob → (Unit → Option ρ) → (Bool → Option ρ) → Option ρ) : Lor := fun ρ j st K => sel (Nat.beq j 0) (cutO Try.prog 47 [1, 2, 5] 0 [] [] st fun avs obs => W0 ρ avs obs (fun _ => K (.exit 0) (mkS 47 [] [] [] [])) (fun z1 => K .ret (mkS 47 [4] [vb z1] [] []))) (Option.none)
noncomputable def c0 : Code := loopC (atomN [] 0 (bodyOf Try.f69) 0)
def ct0 : Cut := ⟨[1, 2, 5], []⟩
def lv0 : Exit → Cut
  | .exit 0 => ⟨[], []⟩
  | .ret => ⟨[4], []⟩
  | _ => ⟨[], []⟩
theorem step0 (Q0) (W0) {ρ : Type} (K : Exit → St → Option ρ) (W : List AV → List Ob → Option ρ) (v1 v2 v3 v4 v5 v6) : exC Try.prog (G Q0) (L W0) [] 1 c0 (mkS 47 [1, 2, 5] [vl v1, .c (.p 0 0), vi v2] [.box [cs v3, ci v4, ci v5, cl v6]] []) (bodyK Try.prog 47 0 [] ct0 W lv0 K) =
    B0 (fun y1 y2 y3 => Q0 [vi y1, vi y2, vi y3]) v1 v2 v3 v4 v5 v6 (fun u1 u2 u3 u4 u5 u6 => W [vl u1, .c (.p 0 0), vi u2] [.box [cs u3, ci u4, ci u5, cl u6]]) (fun _ => K (.exit 0) (mkS 47 [] [] [] [])) (fun z1 => K .ret (mkS 47 [4] [vb z1] [] [])) := by kernel_rfl
def enc0 (t : Vec Bool × Int × ByteArray × Int × Int × Vec Int) : List AV × List Ob := ([vl t.1, .c (.p 0 0), vi t.2.1], [.box [cs t.2.2.1, ci t.2.2.2.1, ci t.2.2.2.2.1, cl t.2.2.2.2.2]])
theorem enc0I : ∀ a b, enc0 a = enc0 b → a = b := by
  intro a b h
  obtain ⟨a0, a1, a2, a3, a4, a5⟩ := a
  obtain ⟨b0, b1, b2, b3, b4, b5⟩ := b
  simp [enc0, encRw_iff] at h
  simp_all
noncomputable def V0 : (ρ : Type) → List AV → List Ob → (Unit → Option ρ) → (Bool → Option ρ) → Option ρ := fun ρ avs obs k0 kr => ofC enc0 (fun t => F0 fuelN t.1 t.2.1 t.2.2.1 t.2.2.2.1 t.2.2.2.2.1 t.2.2.2.2.2 k0 kr) (avs, obs)
theorem V0_enc (ρ : Type) : (fun w1 w2 w3 w4 w5 w6 k0 kr => V0 ρ [vl w1, .c (.p 0 0), vi w2] [.box [cs w3, ci w4, ci w5, cl w6]] k0 kr) = F0 fuelN := by
  funext w1 w2 w3 w4 w5 w6 k0 kr
  exact ofC_enc enc0I _ (w1, w2, w3, w4, w5, w6)
theorem main (Q0) (W0) {ρ : Type} (K : AV → List Ob → Option ρ) (a1 a2 a3 a4 a5) : exC Try.prog (G Q0) (L W0) [] 0 (bodyOf Try.f69) (entry 47 [.a [cs a1, ci a2, ci a3, cl a4], vl a5] [] []) (finO Try.prog Try.f69.results.toList 0 [] [] K) =
    B (fun y1 y2 y3 => Q0 [vi y1, vi y2, vi y3]) (fun w1 w2 w3 w4 w5 w6 k0 kr => W0 ρ [vl w1, .c (.p 0 0), vi w2] [.box [cs w3, ci w4, ci w5, cl w6]] k0 kr) a1 a2 a3 a4 a5 (fun x1 => K (vb x1) []) := by kernel_rfl
theorem Gok : (G spec_l01In.Q).ok Try.prog := ⟨(by
    intro ρ f args K r h
    rcases sel_cases h with ⟨hb, h⟩ | ⟨-, h⟩
    · obtain rfl := beq_nat hb
      exact qEntry_ok spec_l01In.ac h
    cases h),
  (by
    intro ρ f args K
    simp only [G]
    cases Nat.beq f 26 with
    | true => exact qEntry_nat args K
    | false =>
    simp only [sel]
    rfl),
  (fun ρ f st caps args dst K r h => (by cases h))⟩
theorem hm : Try.prog.follows .mixedOrders = true := by kernel_rfl
theorem e0 : atomsL [] 1 c0 = [] := by kernel_rfl
theorem ok0 (ρ : Type) (st : St) (K : Exit → St → Option ρ) (r : ρ) (h : (L V0) ρ 0 st K = some r) : AW Try.prog (.loop c0) st fun e st' => K e st' = some r := by
  refine loop_ok (ct := ct0) (lv := lv0) (n := 47) (m := 0) (ks := []) (j := 0) (jn := []) (L := (L V0)) Gok hm (by rw [e0]; exact Lor.ok_nil _ _) enc0I (fun k t => F0 k t.1 t.2.1 t.2.2.1 t.2.2.2.1 t.2.2.2.2.1 t.2.2.2.2.2 (fun _ => K (.exit 0) (mkS 47 [] [] [] [])) (fun z1 => K .ret (mkS 47 [4] [vb z1] [] []))) (fun t => rfl) (fun k t => ?_) (fun _ => fuelN) h
  refine (step0 spec_l01In.Q V0 K _ t.1 t.2.1 t.2.2.1 t.2.2.2.1 t.2.2.2.2.1 t.2.2.2.2.2).trans ?_
  rw [spec_l01In.wrap]
  refine congrArg (fun W => B0 spec_l01In.F t.1 t.2.1 t.2.2.1 t.2.2.2.1 t.2.2.2.2.1 t.2.2.2.2.2 W (fun _ => K (.exit 0) (mkS 47 [] [] [] [])) (fun z1 => K .ret (mkS 47 [4] [vb z1] [] []))) ?_
  funext u1 u2 u3 u4 u5 u6
  exact ofC_enc enc0I _ (u1, u2, u3, u4, u5, u6)
theorem e : atomsL [] 0 (bodyOf Try.f69) = [(0, 0, .loop c0)] := by kernel_rfl
theorem acc (t : ByteArray × Int × Int × Vec Int × Vec Bool) (x : Bool) (h : F t.1 t.2.1 t.2.2.1 t.2.2.2.1 t.2.2.2.2 = some x) : ACc Try.prog 69 (encA t) [] true [] fun rv obs => (rv, obs) = encR x := by
  refine fun_okc (L := (L V0)) (jn := []) (cmds := []) (ks := []) (hin := []) (fn := Try.f69) (body := (bodyOf Try.f69)) Gok hm Try.func69 (by kernel_rfl) (by kernel_rfl) (by rw [e]; exact Lor.ok_cons ok0 (Lor.ok_nil _ _)) ?_ h
  refine (main spec_l01In.Q V0 _ t.1 t.2.1 t.2.2.1 t.2.2.2.1 t.2.2.2.2).trans ?_
  rw [spec_l01In.wrap, V0_enc]
  refine congrArg (fun K => B spec_l01In.F (F0 fuelN) t.1 t.2.1 t.2.2.1 t.2.2.2.1 t.2.2.2.2 K) ?_
  funext x1
  exact ofC_enc encRI some (x1)
theorem ac0 (t : ByteArray × Int × Int × Vec Int × Vec Bool) (x : Bool) (h : F t.1 t.2.1 t.2.2.1 t.2.2.2.1 t.2.2.2.2 = some x) : AC Try.prog 69 (encA t) [] true [] fun rv obs => (rv, obs) = encR x := ACc.ac (body := bodyOf Try.f69) Try.func69 (by kernel_rfl) (by kernel_rfl) (acc t x h)
theorem ac (args : List AV) (x : Bool) (h : Q args = some x) : AC Try.prog 69 args [] false [] fun rv obs => (rv, obs) = encR x := by
  obtain ⟨t, rfl, h2⟩ := ofC_some h
  refine (ac0 t x h2).flat fun rv obs e => ?_
  obtain rfl : rv = (encR x).1 := congrArg Prod.fst e
  obtain rfl : obs = (encR x).2 := congrArg Prod.snd e
  refine ⟨by simp [encR, AV.Flat, K.Flat, C.Flat], ?_⟩
  simp [encR]
end spec_l06Live
/-! loop.example/g00073/spec.l06Closure -/
namespace spec_l06Closure
noncomputable def B {ρ : Type} (C0 : (Vec (Vec Int)) → (Vec Int) → Option (Vec Bool)) (a1 : Vec (Vec Int)) (a2 : Vec (ByteArray × Int × Int × (Vec Int))) (a3 : Int) (K : (Vec Bool) → Option ρ) : Option ρ :=
  (C0 a1 (Vec.lit [a3] : Vec Int)).bind fun r1 => K r1
noncomputable def F (a1 : Vec (Vec Int)) (a2 : Vec (ByteArray × Int × Int × (Vec Int))) (a3 : Int) : Option (Vec Bool) := B spec_l05Set.F a1 a2 a3 (fun x1 => some (x1))
def encA (t : Vec (Vec Int) × (Vec (ByteArray × Int × Int × (Vec Int))) × Int) : List AV := [.a [cl t.1, cl t.2.1], vi t.2.2]
def encR (x : Vec Bool) : AV × List Ob := (.c (.h 0), [ro x])
theorem encAI : ∀ a b, encA a = encA b → a = b := by
  intro a b h
  obtain ⟨a0, a1, a2⟩ := a
  obtain ⟨b0, b1, b2⟩ := b
  simp [encA, encRw_iff] at h
  simp_all
theorem encRI : ∀ a b, encR a = encR b → a = b := by
  intro a b h
  simp [encR, encRw_iff] at h
  simp_all
noncomputable def Q (args : List AV) : Option (Vec Bool) := ofC encA (fun t => F t.1 t.2.1 t.2.2) args
theorem wrap : (fun (y1 : Vec (Vec Int)) (y2 : Vec (ByteArray × Int × Int × (Vec Int))) (y3 : Int) => Q [.a [cl y1, cl y2], vi y3]) = F := by
  funext y1 y2 y3
  exact ofC_enc encAI _ (y1, y2, y3)
noncomputable def G (Q0 : List AV → Option (Vec Bool)) : Orc := ⟨fun f => sel (Nat.beq f 67) 0 (9), fun ρ f args K => sel (Nat.beq f 67) (qEntry spec_l05Set.encR Q0 args K) (Option.none), noE, false⟩
noncomputable def L : Lor := fun ρ j st K => Option.none
theorem main (Q0) {ρ : Type} (K : AV → List Ob → Option ρ) (a1 a2 a3) : exC Try.prog (G Q0) (L) [] 0 (bodyOf Try.f71) (entry 10 [.a [cl a1, cl a2], vi a3] [] []) (finO Try.prog Try.f71.results.toList 0 [] [] K) =
    B (fun y1 y2 => Q0 [vl y1, vl y2]) a1 a2 a3 (fun x1 => K (.c (.h 0)) [ro x1]) := by kernel_rfl
theorem Gok : (G spec_l05Set.Q).ok Try.prog := ⟨(by
    intro ρ f args K r h
    rcases sel_cases h with ⟨hb, h⟩ | ⟨-, h⟩
    · obtain rfl := beq_nat hb
      exact qEntry_ok spec_l05Set.ac h
    cases h),
  (by
    intro ρ f args K
    simp only [G]
    cases Nat.beq f 67 with
    | true => exact qEntry_nat args K
    | false =>
    simp only [sel]
    rfl),
  (fun ρ f st caps args dst K r h => (by cases h))⟩
theorem hm : Try.prog.follows .mixedOrders = true := by kernel_rfl
theorem e : atomsL [] 0 (bodyOf Try.f71) = [] := by kernel_rfl
theorem acc (t : Vec (Vec Int) × (Vec (ByteArray × Int × Int × (Vec Int))) × Int) (x : Vec Bool) (h : F t.1 t.2.1 t.2.2 = some x) : ACc Try.prog 71 (encA t) [] true [] fun rv obs => (rv, obs) = encR x := by
  refine fun_okc (L := (L)) (jn := []) (cmds := []) (ks := []) (hin := []) (fn := Try.f71) (body := (bodyOf Try.f71)) Gok hm Try.func71 (by kernel_rfl) (by kernel_rfl) (by rw [e]; exact Lor.ok_nil _ _) ?_ h
  refine (main spec_l05Set.Q _ t.1 t.2.1 t.2.2).trans ?_
  rw [spec_l05Set.wrap]
  refine congrArg (fun K => B spec_l05Set.F t.1 t.2.1 t.2.2 K) ?_
  funext x1
  exact ofC_enc encRI some (x1)
theorem ac0 (t : Vec (Vec Int) × (Vec (ByteArray × Int × Int × (Vec Int))) × Int) (x : Vec Bool) (h : F t.1 t.2.1 t.2.2 = some x) : AC Try.prog 71 (encA t) [] true [] fun rv obs => (rv, obs) = encR x := ACc.ac (body := bodyOf Try.f71) Try.func71 (by kernel_rfl) (by kernel_rfl) (acc t x h)
theorem ac (args : List AV) (x : Vec Bool) (h : Q args = some x) : AC Try.prog 71 args [] false [] fun rv obs => (rv, obs) = encR x := by
  obtain ⟨t, rfl, h2⟩ := ofC_some h
  refine (ac0 t x h2).flat fun rv obs e => ?_
  obtain rfl : rv = (encR x).1 := congrArg Prod.fst e
  obtain rfl : obs = (encR x).2 := congrArg Prod.snd e
  refine ⟨by simp [encR, AV.Flat, K.Flat, C.Flat], ?_⟩
  intro o ho
  simp only [encR, List.mem_cons, List.not_mem_nil, or_false] at ho
  subst ho
  exact flat_rw rfl _
end spec_l06Closure
/-! loop.example/g00073/spec.l06Places -/
namespace spec_l06Places
noncomputable def B0 {ρ : Type} (C0 : ByteArray → Int → Int → (Vec Int) → (Vec Bool) → Option Bool) (v1 : Vec Bool) (v2 : Int) (v3 : Vec (Vec Int)) (v4 : Vec (ByteArray × Int × Int × (Vec Int))) (v5 : Vec Int) (W : (Vec Bool) → Int → (Vec (Vec Int)) → (Vec (ByteArray × Int × Int × (Vec Int))) → (Vec Int) → Option ρ) (K0 : (Vec Int) → Option ρ) : Option ρ :=
  sel (decide (v2 < (v4.n : Int))) (chk (decide (0 ≤ v2 ∧ v2 < (v4.n : Int))) ((C0 ((v4.g v2.toNat).1) ((v4.g v2.toNat).2.1) ((v4.g v2.toNat).2.2.1) ((v4.g v2.toNat).2.2.2) v1).bind fun r1 => sel (r1) (chk (decide ((v5.n + (Vec.lit [v2] : Vec Int).n) * 9 ≤ maxN)) (W v1 (wr (v2 + (1 : Int))) v3 v4 (Vec.app v5 (Vec.lit [v2] : Vec Int)))) (W v1 (wr (v2 + (1 : Int))) v3 v4 v5))) (K0 v5)
noncomputable def F0 {ρ : Type} : Nat → (Vec Bool) → Int → (Vec (Vec Int)) → (Vec (ByteArray × Int × Int × (Vec Int))) → (Vec Int) → ((Vec Int) → Option ρ) → Option ρ
  | 0, _, _, _, _, _, _ => none
  | k + 1, v1, v2, v3, v4, v5, K0 => B0 spec_l06Live.F v1 v2 v3 v4 v5 (fun v1' v2' v3' v4' v5' => F0 k v1' v2' v3' v4' v5' K0) K0
noncomputable def B {ρ : Type} (L0 : (Vec Bool) → Int → (Vec (Vec Int)) → (Vec (ByteArray × Int × Int × (Vec Int))) → (Vec Int) → ((Vec Int) → Option ρ) → Option ρ) (a1 : Vec (Vec Int)) (a2 : Vec (ByteArray × Int × Int × (Vec Int))) (a3 : Vec Bool) (K : (Vec Int) → Option ρ) : Option ρ :=
  L0 a3 (0 : Int) a1 a2 (Vec.nil : Vec Int) (fun e01 => K e01)
noncomputable def F (a1 : Vec (Vec Int)) (a2 : Vec (ByteArray × Int × Int × (Vec Int))) (a3 : Vec Bool) : Option (Vec Int) := B (F0 fuelN) a1 a2 a3 (fun x1 => some (x1))
def encA (t : Vec (Vec Int) × (Vec (ByteArray × Int × Int × (Vec Int))) × Vec Bool) : List AV := [.a [cl t.1, cl t.2.1], vl t.2.2]
def encR (x : Vec Int) : AV × List Ob := (.c (.h 0), [ro x])
theorem encAI : ∀ a b, encA a = encA b → a = b := by
  intro a b h
  obtain ⟨a0, a1, a2⟩ := a
  obtain ⟨b0, b1, b2⟩ := b
  simp [encA, encRw_iff] at h
  simp_all
theorem encRI : ∀ a b, encR a = encR b → a = b := by
  intro a b h
  simp [encR, encRw_iff] at h
  simp_all
noncomputable def Q (args : List AV) : Option (Vec Int) := ofC encA (fun t => F t.1 t.2.1 t.2.2) args
theorem wrap : (fun (y1 : Vec (Vec Int)) (y2 : Vec (ByteArray × Int × Int × (Vec Int))) (y3 : Vec Bool) => Q [.a [cl y1, cl y2], vl y3]) = F := by
  funext y1 y2 y3
  exact ofC_enc encAI _ (y1, y2, y3)
noncomputable def G (Q0 : List AV → Option Bool) : Orc := ⟨fun f => sel (Nat.beq f 69) 0 (9), fun ρ f args K => sel (Nat.beq f 69) (qEntry spec_l06Live.encR Q0 args K) (Option.none), noE, false⟩
noncomputable def L (W0 : (ρ : Type) → List AV → List Ob → ((Vec Int) → Option ρ) → Option ρ) : Lor := fun ρ j st K => sel (Nat.beq j 0) (cutO Try.prog 27 [1, 2, 5, 6] 0 [] [.ad (.s 5) 23] st fun avs obs => W0 ρ avs obs (fun z1 => K (.exit 0) (mkS 27 [5] [.c (.h 0)] [ro z1] []))) (Option.none)
noncomputable def c0 : Code := loopC (atomN [] 0 (bodyOf Try.f70) 0)
def ct0 : Cut := ⟨[1, 2, 5, 6], [.ad (.s 5) 23]⟩
def lv0 : Exit → Cut
  | .exit 0 => ⟨[5], []⟩
  | _ => ⟨[], []⟩
theorem step0 (Q0) (W0) {ρ : Type} (K : Exit → St → Option ρ) (W : List AV → List Ob → Option ρ) (v1 v2 v3 v4 v5) : exC Try.prog (G Q0) (L W0) [] 1 c0 (mkS 27 [1, 2, 5, 6] [vl v1, .c (.p 0 0), .c (.h 1), vi v2] [.box [cl v3, cl v4], ro v5] []) (bodyK Try.prog 27 0 [] ct0 W lv0 K) =
    B0 (fun y1 y2 y3 y4 y5 => Q0 [.a [cs y1, ci y2, ci y3, cl y4], vl y5]) v1 v2 v3 v4 v5 (fun u1 u2 u3 u4 u5 => W [vl u1, .c (.p 0 0), .c (.h 1), vi u2] [.box [cl u3, cl u4], ro u5]) (fun z1 => K (.exit 0) (mkS 27 [5] [.c (.h 0)] [ro z1] [])) := by kernel_rfl
def enc0 (t : Vec Bool × Int × Vec (Vec Int) × (Vec (ByteArray × Int × Int × (Vec Int))) × Vec Int) : List AV × List Ob := ([vl t.1, .c (.p 0 0), .c (.h 1), vi t.2.1], [.box [cl t.2.2.1, cl t.2.2.2.1], ro t.2.2.2.2])
theorem enc0I : ∀ a b, enc0 a = enc0 b → a = b := by
  intro a b h
  obtain ⟨a0, a1, a2, a3, a4⟩ := a
  obtain ⟨b0, b1, b2, b3, b4⟩ := b
  simp [enc0, encRw_iff] at h
  simp_all
noncomputable def V0 : (ρ : Type) → List AV → List Ob → ((Vec Int) → Option ρ) → Option ρ := fun ρ avs obs k0 => ofC enc0 (fun t => F0 fuelN t.1 t.2.1 t.2.2.1 t.2.2.2.1 t.2.2.2.2 k0) (avs, obs)
theorem V0_enc (ρ : Type) : (fun w1 w2 w3 w4 w5 k0 => V0 ρ [vl w1, .c (.p 0 0), .c (.h 1), vi w2] [.box [cl w3, cl w4], ro w5] k0) = F0 fuelN := by
  funext w1 w2 w3 w4 w5 k0
  exact ofC_enc enc0I _ (w1, w2, w3, w4, w5)
theorem main (Q0) (W0) {ρ : Type} (K : AV → List Ob → Option ρ) (a1 a2 a3) : exC Try.prog (G Q0) (L W0) [] 0 (bodyOf Try.f70) (entry 27 [.a [cl a1, cl a2], vl a3] [] []) (finO Try.prog Try.f70.results.toList 0 [] [] K) =
    B (fun w1 w2 w3 w4 w5 k0 => W0 ρ [vl w1, .c (.p 0 0), .c (.h 1), vi w2] [.box [cl w3, cl w4], ro w5] k0) a1 a2 a3 (fun x1 => K (.c (.h 0)) [ro x1]) := by kernel_rfl
theorem Gok : (G spec_l06Live.Q).ok Try.prog := ⟨(by
    intro ρ f args K r h
    rcases sel_cases h with ⟨hb, h⟩ | ⟨-, h⟩
    · obtain rfl := beq_nat hb
      exact qEntry_ok spec_l06Live.ac h
    cases h),
  (by
    intro ρ f args K
    simp only [G]
    cases Nat.beq f 69 with
    | true => exact qEntry_nat args K
    | false =>
    simp only [sel]
    rfl),
  (fun ρ f st caps args dst K r h => (by cases h))⟩
theorem hm : Try.prog.follows .mixedOrders = true := by kernel_rfl
theorem e0 : atomsL [] 1 c0 = [] := by kernel_rfl
theorem ok0 (ρ : Type) (st : St) (K : Exit → St → Option ρ) (r : ρ) (h : (L V0) ρ 0 st K = some r) : AW Try.prog (.loop c0) st fun e st' => K e st' = some r := by
  refine loop_ok (ct := ct0) (lv := lv0) (n := 27) (m := 0) (ks := []) (j := 0) (jn := []) (L := (L V0)) Gok hm (by rw [e0]; exact Lor.ok_nil _ _) enc0I (fun k t => F0 k t.1 t.2.1 t.2.2.1 t.2.2.2.1 t.2.2.2.2 (fun z1 => K (.exit 0) (mkS 27 [5] [.c (.h 0)] [ro z1] []))) (fun t => rfl) (fun k t => ?_) (fun _ => fuelN) h
  refine (step0 spec_l06Live.Q V0 K _ t.1 t.2.1 t.2.2.1 t.2.2.2.1 t.2.2.2.2).trans ?_
  rw [spec_l06Live.wrap]
  refine congrArg (fun W => B0 spec_l06Live.F t.1 t.2.1 t.2.2.1 t.2.2.2.1 t.2.2.2.2 W (fun z1 => K (.exit 0) (mkS 27 [5] [.c (.h 0)] [ro z1] []))) ?_
  funext u1 u2 u3 u4 u5
  exact ofC_enc enc0I _ (u1, u2, u3, u4, u5)
theorem e : atomsL [] 0 (bodyOf Try.f70) = [(0, 0, .loop c0)] := by kernel_rfl
theorem acc (t : Vec (Vec Int) × (Vec (ByteArray × Int × Int × (Vec Int))) × Vec Bool) (x : Vec Int) (h : F t.1 t.2.1 t.2.2 = some x) : ACc Try.prog 70 (encA t) [] true [] fun rv obs => (rv, obs) = encR x := by
  refine fun_okc (L := (L V0)) (jn := []) (cmds := []) (ks := []) (hin := []) (fn := Try.f70) (body := (bodyOf Try.f70)) Gok hm Try.func70 (by kernel_rfl) (by kernel_rfl) (by rw [e]; exact Lor.ok_cons ok0 (Lor.ok_nil _ _)) ?_ h
  refine (main spec_l06Live.Q V0 _ t.1 t.2.1 t.2.2).trans ?_
  rw [V0_enc]
  refine congrArg (fun K => B (F0 fuelN) t.1 t.2.1 t.2.2 K) ?_
  funext x1
  exact ofC_enc encRI some (x1)
theorem ac0 (t : Vec (Vec Int) × (Vec (ByteArray × Int × Int × (Vec Int))) × Vec Bool) (x : Vec Int) (h : F t.1 t.2.1 t.2.2 = some x) : AC Try.prog 70 (encA t) [] true [] fun rv obs => (rv, obs) = encR x := ACc.ac (body := bodyOf Try.f70) Try.func70 (by kernel_rfl) (by kernel_rfl) (acc t x h)
theorem ac (args : List AV) (x : Vec Int) (h : Q args = some x) : AC Try.prog 70 args [] false [] fun rv obs => (rv, obs) = encR x := by
  obtain ⟨t, rfl, h2⟩ := ofC_some h
  refine (ac0 t x h2).flat fun rv obs e => ?_
  obtain rfl : rv = (encR x).1 := congrArg Prod.fst e
  obtain rfl : obs = (encR x).2 := congrArg Prod.snd e
  refine ⟨by simp [encR, AV.Flat, K.Flat, C.Flat], ?_⟩
  intro o ho
  simp only [encR, List.mem_cons, List.not_mem_nil, or_false] at ho
  subst ho
  exact flat_rw rfl _
end spec_l06Places
/-! loop.example/g00073/spec.WeaveOk -/
namespace spec_WeaveOk
noncomputable def B3 {ρ : Type} (C6 : (Vec (Vec Int)) → (Vec (ByteArray × Int × Int × (Vec Int))) → Int → Option (Vec Bool)) (C7 : (Vec (Vec Int)) → (Vec (ByteArray × Int × Int × (Vec Int))) → (Vec Bool) → Option (Vec Int)) (v1 : Int) (v2 : Int) (v3 : Vec (Vec Int)) (v4 : Vec (ByteArray × Int × Int × (Vec Int))) (v5 : Vec Int) (W : Int → Int → (Vec (Vec Int)) → (Vec (ByteArray × Int × Int × (Vec Int))) → (Vec Int) → Option ρ) (K6 : Unit → Option ρ) (Kr : Bool → Option ρ) : Option ρ :=
  sel (decide (v2 < v1)) (chk (decide (0 ≤ v2 ∧ v2 < (v5.n : Int))) (chk (decide (v2.toNat < v5.n)) (sel (decide ((80 : Int) < (v5.g v2.toNat))) (Kr false) ((C6 v3 v4 v2).bind fun r7 => (C7 v3 v4 r7).bind fun r8 => sel (decide ((80 : Int) < (r8.n : Int))) (Kr false) (W v1 (wr (v2 + (1 : Int))) v3 v4 v5))))) (K6 ())
noncomputable def F3 {ρ : Type} : Nat → Int → Int → (Vec (Vec Int)) → (Vec (ByteArray × Int × Int × (Vec Int))) → (Vec Int) → (Unit → Option ρ) → (Bool → Option ρ) → Option ρ
  | 0, _, _, _, _, _, _, _ => none
  | k + 1, v1, v2, v3, v4, v5, K6, Kr => B3 spec_l06Closure.F spec_l06Places.F v1 v2 v3 v4 v5 (fun v1' v2' v3' v4' v5' => F3 k v1' v2' v3' v4' v5' K6 Kr) K6 Kr
noncomputable def B2 {ρ : Type} (C5 : ByteArray → Int → Int → (Vec Int) → (Vec Bool) → Option Bool) (v1 : Int) (v2 : Int) (v3 : Int) (v4 : Vec (Vec Int)) (v5 : Vec (ByteArray × Int × Int × (Vec Int))) (v6 : Vec Int) (v7 : Vec (Vec Bool)) (v8 : ByteArray) (v9 : Int) (v10 : Int) (v11 : Vec Int) (W : Int → Int → Int → (Vec (Vec Int)) → (Vec (ByteArray × Int × Int × (Vec Int))) → (Vec Int) → (Vec (Vec Bool)) → ByteArray → Int → Int → (Vec Int) → Option ρ) (K4 : Int → Int → (Vec (Vec Int)) → (Vec (ByteArray × Int × Int × (Vec Int))) → (Vec Int) → (Vec (Vec Bool)) → Option ρ) (Kr : Bool → Option ρ) : Option ρ :=
  sel (decide (v3 < (v11.n : Int))) (chk (decide (0 ≤ v3 ∧ v3 < (v11.n : Int))) (chk (decide (0 ≤ (v11.g v3.toNat) ∧ (v11.g v3.toNat) < (v7.n : Int))) (chk (decide ((v11.g v3.toNat).toNat < v7.n)) ((C5 v8 v9 v10 v11 (v7.g ((v11.g v3.toNat).toNat))).bind fun r6 => sel ((!r6)) (Kr false) (W v1 v2 (wr (v3 + (1 : Int))) v4 v5 v6 v7 v8 v9 v10 v11))))) (K4 v1 v2 v4 v5 v6 v7)
noncomputable def F2 {ρ : Type} : Nat → Int → Int → Int → (Vec (Vec Int)) → (Vec (ByteArray × Int × Int × (Vec Int))) → (Vec Int) → (Vec (Vec Bool)) → ByteArray → Int → Int → (Vec Int) → (Int → Int → (Vec (Vec Int)) → (Vec (ByteArray × Int × Int × (Vec Int))) → (Vec Int) → (Vec (Vec Bool)) → Option ρ) → (Bool → Option ρ) → Option ρ
  | 0, _, _, _, _, _, _, _, _, _, _, _, _, _ => none
  | k + 1, v1, v2, v3, v4, v5, v6, v7, v8, v9, v10, v11, K4, Kr => B2 spec_l06Live.F v1 v2 v3 v4 v5 v6 v7 v8 v9 v10 v11 (fun v1' v2' v3' v4' v5' v6' v7' v8' v9' v10' v11' => F2 k v1' v2' v3' v4' v5' v6' v7' v8' v9' v10' v11' K4 Kr) K4 Kr
noncomputable def B1 {ρ : Type} (C2 : ByteArray → Option Bool) (C3 : Int → Int → Int → Option Bool) (C4 : (Vec Int) → Int → Option Bool) (L2 : Int → Int → Int → (Vec (Vec Int)) → (Vec (ByteArray × Int × Int × (Vec Int))) → (Vec Int) → (Vec (Vec Bool)) → ByteArray → Int → Int → (Vec Int) → (Int → Int → (Vec (Vec Int)) → (Vec (ByteArray × Int × Int × (Vec Int))) → (Vec Int) → (Vec (Vec Bool)) → Option ρ) → (Bool → Option ρ) → Option ρ) (v1 : Int) (v2 : Int) (v3 : Vec (Vec Int)) (v4 : Vec (ByteArray × Int × Int × (Vec Int))) (v5 : Vec Int) (v6 : Vec (Vec Bool)) (W : Int → Int → (Vec (Vec Int)) → (Vec (ByteArray × Int × Int × (Vec Int))) → (Vec Int) → (Vec (Vec Bool)) → Option ρ) (K2 : Int → (Vec (Vec Int)) → (Vec (ByteArray × Int × Int × (Vec Int))) → (Vec Int) → Option ρ) (Kr : Bool → Option ρ) : Option ρ :=
  sel (decide (v2 < (v4.n : Int))) (chk (decide (0 ≤ v2 ∧ v2 < (v4.n : Int))) ((C2 ((v4.g v2.toNat).1)).bind fun r3 => sel ((!r3)) (Kr false) ((C3 ((v4.g v2.toNat).2.1) (0 : Int) (wr (v1 - (1 : Int)))).bind fun r4 => sel ((!r4)) (Kr false) (chk (decide (0 ≤ (v4.g v2.toNat).2.1 ∧ (v4.g v2.toNat).2.1 < (v5.n : Int))) (chk (decide (((v4.g v2.toNat).2.1).toNat < v5.n)) (sel ((!decide ((v4.g v2.toNat).2.2.1 = (v5.g (((v4.g v2.toNat).2.1).toNat))))) (Kr false) ((C4 ((v4.g v2.toNat).2.2.2) v1).bind fun r5 => sel ((!r5)) (Kr false) (chk (decide (0 ≤ (v4.g v2.toNat).2.1 ∧ (v4.g v2.toNat).2.1 < (v5.n : Int))) (chk (decide (((v4.g v2.toNat).2.1).toNat < v5.n)) (chk (decide (0 ≤ (v4.g v2.toNat).2.1 ∧ (v4.g v2.toNat).2.1 < (v5.n : Int))) (chk (decide (((v4.g v2.toNat).2.1).toNat < v5.n)) (L2 v1 v2 (0 : Int) v3 v4 (Vec.set v5 (((v4.g v2.toNat).2.1).toNat) (wr ((v5.g (((v4.g v2.toNat).2.1).toNat)) + (1 : Int)))) v6 ((v4.g v2.toNat).1) ((v4.g v2.toNat).2.1) ((v4.g v2.toNat).2.2.1) ((v4.g v2.toNat).2.2.2) (fun e21 e22 e23 e24 e25 e26 => W e21 (wr (e22 + (1 : Int))) e23 e24 e25 e26) (fun x21 => Kr x21))))))))))))) (K2 v1 v3 v4 v5)
noncomputable def F1 {ρ : Type} : Nat → Int → Int → (Vec (Vec Int)) → (Vec (ByteArray × Int × Int × (Vec Int))) → (Vec Int) → (Vec (Vec Bool)) → (Int → (Vec (Vec Int)) → (Vec (ByteArray × Int × Int × (Vec Int))) → (Vec Int) → Option ρ) → (Bool → Option ρ) → Option ρ
  | 0, _, _, _, _, _, _, _, _ => none
  | k + 1, v1, v2, v3, v4, v5, v6, K2, Kr => B1 spec_LineOk.F spec_l01In.F spec_l05Rise.F (F2 fuelN) v1 v2 v3 v4 v5 v6 (fun v1' v2' v3' v4' v5' v6' => F1 k v1' v2' v3' v4' v5' v6' K2 Kr) K2 Kr
noncomputable def B0 {ρ : Type} (C1 : (Vec (Vec Int)) → (Vec Int) → Option (Vec Bool)) (v1 : Int) (v2 : Int) (v3 : Vec (Vec Int)) (v4 : Vec (ByteArray × Int × Int × (Vec Int))) (v5 : Vec Int) (v6 : Vec (Vec Bool)) (W : Int → Int → (Vec (Vec Int)) → (Vec (ByteArray × Int × Int × (Vec Int))) → (Vec Int) → (Vec (Vec Bool)) → Option ρ) (K0 : Int → (Vec (Vec Int)) → (Vec (ByteArray × Int × Int × (Vec Int))) → (Vec Int) → (Vec (Vec Bool)) → Option ρ) : Option ρ :=
  sel (decide (v2 < v1)) (chk (decide (0 ≤ v2 ∧ v2 < (v3.n : Int))) ((C1 v3 (v3.g v2.toNat)).bind fun r2 => chk (decide ((v6.n + (Vec.lit [r2] : Vec (Vec Bool)).n) * 25 ≤ maxN)) (W v1 (wr (v2 + (1 : Int))) v3 v4 v5 (Vec.app v6 (Vec.lit [r2] : Vec (Vec Bool)))))) (K0 v1 v3 v4 v5 v6)
noncomputable def F0 {ρ : Type} : Nat → Int → Int → (Vec (Vec Int)) → (Vec (ByteArray × Int × Int × (Vec Int))) → (Vec Int) → (Vec (Vec Bool)) → (Int → (Vec (Vec Int)) → (Vec (ByteArray × Int × Int × (Vec Int))) → (Vec Int) → (Vec (Vec Bool)) → Option ρ) → Option ρ
  | 0, _, _, _, _, _, _, _ => none
  | k + 1, v1, v2, v3, v4, v5, v6, K0 => B0 spec_l05Set.F v1 v2 v3 v4 v5 v6 (fun v1' v2' v3' v4' v5' v6' => F0 k v1' v2' v3' v4' v5' v6' K0) K0
noncomputable def B {ρ : Type} (C0 : (Vec (Vec Int)) → Option Bool) (L0 : Int → Int → (Vec (Vec Int)) → (Vec (ByteArray × Int × Int × (Vec Int))) → (Vec Int) → (Vec (Vec Bool)) → (Int → (Vec (Vec Int)) → (Vec (ByteArray × Int × Int × (Vec Int))) → (Vec Int) → (Vec (Vec Bool)) → Option ρ) → Option ρ) (L1 : Int → Int → (Vec (Vec Int)) → (Vec (ByteArray × Int × Int × (Vec Int))) → (Vec Int) → (Vec (Vec Bool)) → (Int → (Vec (Vec Int)) → (Vec (ByteArray × Int × Int × (Vec Int))) → (Vec Int) → Option ρ) → (Bool → Option ρ) → Option ρ) (L3 : Int → Int → (Vec (Vec Int)) → (Vec (ByteArray × Int × Int × (Vec Int))) → (Vec Int) → (Unit → Option ρ) → (Bool → Option ρ) → Option ρ) (a1 : Vec (Vec Int)) (a2 : Vec (ByteArray × Int × Int × (Vec Int))) (K : Bool → Option ρ) : Option ρ :=
  (C0 a1).bind fun r1 => sel ((!r1)) (K false) (sel (decide ((300 : Int) < (a2.n : Int))) (K false) (chk (decide ((a1.n : Int) = (a1.n : Int) ∧ 0 ≤ (a1.n : Int))) (chk (mkOk (a1.n : Int) 8) (L0 (a1.n : Int) (0 : Int) a1 a2 (Vec.rep ((a1.n : Int).toNat) (0 : Int) : Vec Int) (Vec.nil : Vec (Vec Bool)) (fun e01 e02 e03 e04 e05 => L1 e01 (0 : Int) e02 e03 e04 e05 (fun e11 e12 e13 e14 => L3 e11 (0 : Int) e12 e13 e14 (fun _ => K true) (fun x31 => K x31)) (fun x11 => K x11))))))
noncomputable def F (a1 : Vec (Vec Int)) (a2 : Vec (ByteArray × Int × Int × (Vec Int))) : Option Bool := B spec_GraphOk.F (F0 fuelN) (F1 fuelN) (F3 fuelN) a1 a2 (fun x1 => some (x1))
def encA (t : Vec (Vec Int) × (Vec (ByteArray × Int × Int × (Vec Int)))) : List AV := [.a [cl t.1, cl t.2]]
def encR (x : Bool) : AV × List Ob := (vb x, [])
theorem encAI : ∀ a b, encA a = encA b → a = b := by
  intro a b h
  obtain ⟨a0, a1⟩ := a
  obtain ⟨b0, b1⟩ := b
  simp [encA, encRw_iff] at h
  simp_all
theorem encRI : ∀ a b, encR a = encR b → a = b := by
  intro a b h
  simp [encR, encRw_iff] at h
  simp_all
noncomputable def Q (args : List AV) : Option Bool := ofC encA (fun t => F t.1 t.2) args
theorem wrap : (fun (y1 : Vec (Vec Int)) (y2 : Vec (ByteArray × Int × Int × (Vec Int))) => Q [.a [cl y1, cl y2]]) = F := by
  funext y1 y2
  exact ofC_enc encAI _ (y1, y2)
noncomputable def G (Q0 : List AV → Option Bool) (Q1 : List AV → Option (Vec Bool)) (Q2 : List AV → Option Bool) (Q3 : List AV → Option Bool) (Q4 : List AV → Option Bool) (Q5 : List AV → Option Bool) (Q6 : List AV → Option (Vec Bool)) (Q7 : List AV → Option (Vec Int)) : Orc := ⟨fun f => sel (Nat.beq f 24) 0 (sel (Nat.beq f 67) 0 (sel (Nat.beq f 68) 0 (sel (Nat.beq f 26) 0 (sel (Nat.beq f 59) 0 (sel (Nat.beq f 69) 0 (sel (Nat.beq f 71) 0 (sel (Nat.beq f 70) 0 (9)))))))), fun ρ f args K => sel (Nat.beq f 24) (qEntry spec_GraphOk.encR Q0 args K) (sel (Nat.beq f 67) (qEntry spec_l05Set.encR Q1 args K) (sel (Nat.beq f 68) (qEntry spec_LineOk.encR Q2 args K) (sel (Nat.beq f 26) (qEntry spec_l01In.encR Q3 args K) (sel (Nat.beq f 59) (qEntry spec_l05Rise.encR Q4 args K) (sel (Nat.beq f 69) (qEntry spec_l06Live.encR Q5 args K) (sel (Nat.beq f 71) (qEntry spec_l06Closure.encR Q6 args K) (sel (Nat.beq f 70) (qEntry spec_l06Places.encR Q7 args K) (Option.none)))))))), noE, false⟩
noncomputable def L (W3 : (ρ : Type) → List AV → List Ob → (Unit → Option ρ) → (Bool → Option ρ) → Option ρ) (W2 : (ρ : Type) → List AV → List Ob → (Int → Int → (Vec (Vec Int)) → (Vec (ByteArray × Int × Int × (Vec Int))) → (Vec Int) → (Vec (Vec Bool)) → Option ρ) → (Bool → Option ρ) → Option ρ) (W1 : (ρ : Type) → List AV → List Ob → (Int → (Vec (Vec Int)) → (Vec (ByteArray × Int × Int × (Vec Int))) → (Vec Int) → Option ρ) → (Bool → Option ρ) → Option ρ) (W0 : (ρ : Type) → List AV → List Ob → (Int → (Vec (Vec Int)) → (Vec (ByteArray × Int × Int × (Vec Int))) → (Vec Int) → (Vec (Vec Bool)) → Option ρ) → Option ρ) : Lor := fun ρ j st K => sel (Nat.beq j 0) (cutO Try.prog 131 [1, 3, 4, 5, 6] 0 [] [.ad (.s 5) 106] st fun avs obs => W0 ρ avs obs (fun z1 z2 z3 z4 z5 => K (.exit 0) (mkS 131 [1, 3, 4, 5] [.c (.p 0 0), vi z1, .c (.h 1), .c (.h 2)] [.box [cl z2, cl z3], ro z4, ro z5] []))) (sel (Nat.beq j 1) (cutO Try.prog 131 [1, 3, 4, 5, 7] 0 [] [] st fun avs obs => W1 ρ avs obs (fun z1 z2 z3 z4 => K (.exit 2) (mkS 131 [1, 3, 4] [.c (.p 0 0), vi z1, .c (.h 1)] [.box [cl z2, cl z3], ro z4] [])) (fun z1 => K .ret (mkS 131 [2] [vb z1] [] []))) (sel (Nat.beq j 2) (cutO Try.prog 131 [1, 3, 4, 5, 7, 8, 9] 0 [] [] st fun avs obs => W2 ρ avs obs (fun z1 z2 z3 z4 z5 z6 => K (.exit 4) (mkS 131 [1, 3, 4, 5, 7] [.c (.p 0 0), vi z1, .c (.h 1), .c (.h 2), vi z2] [.box [cl z3, cl z4], ro z5, ro z6] [])) (fun z1 => K .ret (mkS 131 [2] [vb z1] [] []))) (sel (Nat.beq j 3) (cutO Try.prog 131 [1, 3, 4, 10] 0 [] [] st fun avs obs => W3 ρ avs obs (fun _ => K (.exit 6) (mkS 131 [] [] [] [])) (fun z1 => K .ret (mkS 131 [2] [vb z1] [] []))) (Option.none))))
noncomputable def c0 : Code := loopC (atomN [] 0 (bodyOf Try.f37) 0)
noncomputable def c1 : Code := loopC (atomN [] 0 (bodyOf Try.f37) 1)
noncomputable def c2 : Code := loopC (atomN [] 2 c1 0)
noncomputable def c3 : Code := loopC (atomN [] 0 (bodyOf Try.f37) 2)
def ct0 : Cut := ⟨[1, 3, 4, 5, 6], [.ad (.s 5) 106]⟩
def lv0 : Exit → Cut
  | .exit 0 => ⟨[1, 3, 4, 5], []⟩
  | _ => ⟨[], []⟩
theorem step0 (Q0 Q1 Q2 Q3 Q4 Q5 Q6 Q7) (W3 W2 W1 W0) {ρ : Type} (K : Exit → St → Option ρ) (W : List AV → List Ob → Option ρ) (v1 v2 v3 v4 v5 v6) : exC Try.prog (G Q0 Q1 Q2 Q3 Q4 Q5 Q6 Q7) (L W3 W2 W1 W0) [] 1 c0 (mkS 131 [1, 3, 4, 5, 6] [.c (.p 0 0), vi v1, .c (.h 1), .c (.h 2), vi v2] [.box [cl v3, cl v4], ro v5, ro v6] []) (bodyK Try.prog 131 0 [] ct0 W lv0 K) =
    B0 (fun y1 y2 => Q1 [vl y1, vl y2]) v1 v2 v3 v4 v5 v6 (fun u1 u2 u3 u4 u5 u6 => W [.c (.p 0 0), vi u1, .c (.h 1), .c (.h 2), vi u2] [.box [cl u3, cl u4], ro u5, ro u6]) (fun z1 z2 z3 z4 z5 => K (.exit 0) (mkS 131 [1, 3, 4, 5] [.c (.p 0 0), vi z1, .c (.h 1), .c (.h 2)] [.box [cl z2, cl z3], ro z4, ro z5] [])) := by kernel_rfl
def enc0 (t : Int × Int × Vec (Vec Int) × (Vec (ByteArray × Int × Int × (Vec Int))) × Vec Int × Vec (Vec Bool)) : List AV × List Ob := ([.c (.p 0 0), vi t.1, .c (.h 1), .c (.h 2), vi t.2.1], [.box [cl t.2.2.1, cl t.2.2.2.1], ro t.2.2.2.2.1, ro t.2.2.2.2.2])
theorem enc0I : ∀ a b, enc0 a = enc0 b → a = b := by
  intro a b h
  obtain ⟨a0, a1, a2, a3, a4, a5⟩ := a
  obtain ⟨b0, b1, b2, b3, b4, b5⟩ := b
  simp [enc0, encRw_iff] at h
  simp_all
noncomputable def V0 : (ρ : Type) → List AV → List Ob → (Int → (Vec (Vec Int)) → (Vec (ByteArray × Int × Int × (Vec Int))) → (Vec Int) → (Vec (Vec Bool)) → Option ρ) → Option ρ := fun ρ avs obs k0 => ofC enc0 (fun t => F0 fuelN t.1 t.2.1 t.2.2.1 t.2.2.2.1 t.2.2.2.2.1 t.2.2.2.2.2 k0) (avs, obs)
theorem V0_enc (ρ : Type) : (fun w1 w2 w3 w4 w5 w6 k0 => V0 ρ [.c (.p 0 0), vi w1, .c (.h 1), .c (.h 2), vi w2] [.box [cl w3, cl w4], ro w5, ro w6] k0) = F0 fuelN := by
  funext w1 w2 w3 w4 w5 w6 k0
  exact ofC_enc enc0I _ (w1, w2, w3, w4, w5, w6)
def ct1 : Cut := ⟨[1, 3, 4, 5, 7], []⟩
def lv1 : Exit → Cut
  | .exit 2 => ⟨[1, 3, 4], []⟩
  | .ret => ⟨[2], []⟩
  | _ => ⟨[], []⟩
theorem step1 (Q0 Q1 Q2 Q3 Q4 Q5 Q6 Q7) (W3 W2 W1 W0) {ρ : Type} (K : Exit → St → Option ρ) (W : List AV → List Ob → Option ρ) (v1 v2 v3 v4 v5 v6) : exC Try.prog (G Q0 Q1 Q2 Q3 Q4 Q5 Q6 Q7) (L W3 W2 W1 W0) [] 2 c1 (mkS 131 [1, 3, 4, 5, 7] [.c (.p 0 0), vi v1, .c (.h 1), .c (.h 2), vi v2] [.box [cl v3, cl v4], ro v5, ro v6] []) (bodyK Try.prog 131 0 [] ct1 W lv1 K) =
    B1 (fun y1 => Q2 [vs y1]) (fun y1 y2 y3 => Q3 [vi y1, vi y2, vi y3]) (fun y1 y2 => Q4 [vl y1, vi y2]) (fun w1 w2 w3 w4 w5 w6 w7 w8 w9 w10 w11 k4 kr => W2 ρ [.c (.p 0 0), vi w1, .c (.h 1), .c (.h 2), vi w2, .c (.p 3 0), vi w3] [.box [cl w4, cl w5], ro w6, ro w7, .box [cs w8, ci w9, ci w10, cl w11]] k4 kr) v1 v2 v3 v4 v5 v6 (fun u1 u2 u3 u4 u5 u6 => W [.c (.p 0 0), vi u1, .c (.h 1), .c (.h 2), vi u2] [.box [cl u3, cl u4], ro u5, ro u6]) (fun z1 z2 z3 z4 => K (.exit 2) (mkS 131 [1, 3, 4] [.c (.p 0 0), vi z1, .c (.h 1)] [.box [cl z2, cl z3], ro z4] [])) (fun z1 => K .ret (mkS 131 [2] [vb z1] [] [])) := by kernel_rfl
def enc1 (t : Int × Int × Vec (Vec Int) × (Vec (ByteArray × Int × Int × (Vec Int))) × Vec Int × Vec (Vec Bool)) : List AV × List Ob := ([.c (.p 0 0), vi t.1, .c (.h 1), .c (.h 2), vi t.2.1], [.box [cl t.2.2.1, cl t.2.2.2.1], ro t.2.2.2.2.1, ro t.2.2.2.2.2])
theorem enc1I : ∀ a b, enc1 a = enc1 b → a = b := by
  intro a b h
  obtain ⟨a0, a1, a2, a3, a4, a5⟩ := a
  obtain ⟨b0, b1, b2, b3, b4, b5⟩ := b
  simp [enc1, encRw_iff] at h
  simp_all
noncomputable def V1 : (ρ : Type) → List AV → List Ob → (Int → (Vec (Vec Int)) → (Vec (ByteArray × Int × Int × (Vec Int))) → (Vec Int) → Option ρ) → (Bool → Option ρ) → Option ρ := fun ρ avs obs k2 kr => ofC enc1 (fun t => F1 fuelN t.1 t.2.1 t.2.2.1 t.2.2.2.1 t.2.2.2.2.1 t.2.2.2.2.2 k2 kr) (avs, obs)
theorem V1_enc (ρ : Type) : (fun w1 w2 w3 w4 w5 w6 k2 kr => V1 ρ [.c (.p 0 0), vi w1, .c (.h 1), .c (.h 2), vi w2] [.box [cl w3, cl w4], ro w5, ro w6] k2 kr) = F1 fuelN := by
  funext w1 w2 w3 w4 w5 w6 k2 kr
  exact ofC_enc enc1I _ (w1, w2, w3, w4, w5, w6)
def ct2 : Cut := ⟨[1, 3, 4, 5, 7, 8, 9], []⟩
def lv2 : Exit → Cut
  | .exit 4 => ⟨[1, 3, 4, 5, 7], []⟩
  | .ret => ⟨[2], []⟩
  | _ => ⟨[], []⟩
theorem step2 (Q0 Q1 Q2 Q3 Q4 Q5 Q6 Q7) (W3 W2 W1 W0) {ρ : Type} (K : Exit → St → Option ρ) (W : List AV → List Ob → Option ρ) (v1 v2 v3 v4 v5 v6 v7 v8 v9 v10 v11) : exC Try.prog (G Q0 Q1 Q2 Q3 Q4 Q5 Q6 Q7) (L W3 W2 W1 W0) [] 3 c2 (mkS 131 [1, 3, 4, 5, 7, 8, 9] [.c (.p 0 0), vi v1, .c (.h 1), .c (.h 2), vi v2, .c (.p 3 0), vi v3] [.box [cl v4, cl v5], ro v6, ro v7, .box [cs v8, ci v9, ci v10, cl v11]] []) (bodyK Try.prog 131 0 [] ct2 W lv2 K) =
    B2 (fun y1 y2 y3 y4 y5 => Q5 [.a [cs y1, ci y2, ci y3, cl y4], vl y5]) v1 v2 v3 v4 v5 v6 v7 v8 v9 v10 v11 (fun u1 u2 u3 u4 u5 u6 u7 u8 u9 u10 u11 => W [.c (.p 0 0), vi u1, .c (.h 1), .c (.h 2), vi u2, .c (.p 3 0), vi u3] [.box [cl u4, cl u5], ro u6, ro u7, .box [cs u8, ci u9, ci u10, cl u11]]) (fun z1 z2 z3 z4 z5 z6 => K (.exit 4) (mkS 131 [1, 3, 4, 5, 7] [.c (.p 0 0), vi z1, .c (.h 1), .c (.h 2), vi z2] [.box [cl z3, cl z4], ro z5, ro z6] [])) (fun z1 => K .ret (mkS 131 [2] [vb z1] [] [])) := by kernel_rfl
def enc2 (t : Int × Int × Int × Vec (Vec Int) × (Vec (ByteArray × Int × Int × (Vec Int))) × Vec Int × Vec (Vec Bool) × ByteArray × Int × Int × Vec Int) : List AV × List Ob := ([.c (.p 0 0), vi t.1, .c (.h 1), .c (.h 2), vi t.2.1, .c (.p 3 0), vi t.2.2.1], [.box [cl t.2.2.2.1, cl t.2.2.2.2.1], ro t.2.2.2.2.2.1, ro t.2.2.2.2.2.2.1, .box [cs t.2.2.2.2.2.2.2.1, ci t.2.2.2.2.2.2.2.2.1, ci t.2.2.2.2.2.2.2.2.2.1, cl t.2.2.2.2.2.2.2.2.2.2]])
theorem enc2I : ∀ a b, enc2 a = enc2 b → a = b := by
  intro a b h
  obtain ⟨a0, a1, a2, a3, a4, a5, a6, a7, a8, a9, a10⟩ := a
  obtain ⟨b0, b1, b2, b3, b4, b5, b6, b7, b8, b9, b10⟩ := b
  simp [enc2, encRw_iff] at h
  simp_all
noncomputable def V2 : (ρ : Type) → List AV → List Ob → (Int → Int → (Vec (Vec Int)) → (Vec (ByteArray × Int × Int × (Vec Int))) → (Vec Int) → (Vec (Vec Bool)) → Option ρ) → (Bool → Option ρ) → Option ρ := fun ρ avs obs k4 kr => ofC enc2 (fun t => F2 fuelN t.1 t.2.1 t.2.2.1 t.2.2.2.1 t.2.2.2.2.1 t.2.2.2.2.2.1 t.2.2.2.2.2.2.1 t.2.2.2.2.2.2.2.1 t.2.2.2.2.2.2.2.2.1 t.2.2.2.2.2.2.2.2.2.1 t.2.2.2.2.2.2.2.2.2.2 k4 kr) (avs, obs)
theorem V2_enc (ρ : Type) : (fun w1 w2 w3 w4 w5 w6 w7 w8 w9 w10 w11 k4 kr => V2 ρ [.c (.p 0 0), vi w1, .c (.h 1), .c (.h 2), vi w2, .c (.p 3 0), vi w3] [.box [cl w4, cl w5], ro w6, ro w7, .box [cs w8, ci w9, ci w10, cl w11]] k4 kr) = F2 fuelN := by
  funext w1 w2 w3 w4 w5 w6 w7 w8 w9 w10 w11 k4 kr
  exact ofC_enc enc2I _ (w1, w2, w3, w4, w5, w6, w7, w8, w9, w10, w11)
def ct3 : Cut := ⟨[1, 3, 4, 10], []⟩
def lv3 : Exit → Cut
  | .exit 6 => ⟨[], []⟩
  | .ret => ⟨[2], []⟩
  | _ => ⟨[], []⟩
theorem step3 (Q0 Q1 Q2 Q3 Q4 Q5 Q6 Q7) (W3 W2 W1 W0) {ρ : Type} (K : Exit → St → Option ρ) (W : List AV → List Ob → Option ρ) (v1 v2 v3 v4 v5) : exC Try.prog (G Q0 Q1 Q2 Q3 Q4 Q5 Q6 Q7) (L W3 W2 W1 W0) [] 4 c3 (mkS 131 [1, 3, 4, 10] [.c (.p 0 0), vi v1, .c (.h 1), vi v2] [.box [cl v3, cl v4], ro v5] []) (bodyK Try.prog 131 0 [] ct3 W lv3 K) =
    B3 (fun y1 y2 y3 => Q6 [.a [cl y1, cl y2], vi y3]) (fun y1 y2 y3 => Q7 [.a [cl y1, cl y2], vl y3]) v1 v2 v3 v4 v5 (fun u1 u2 u3 u4 u5 => W [.c (.p 0 0), vi u1, .c (.h 1), vi u2] [.box [cl u3, cl u4], ro u5]) (fun _ => K (.exit 6) (mkS 131 [] [] [] [])) (fun z1 => K .ret (mkS 131 [2] [vb z1] [] [])) := by kernel_rfl
def enc3 (t : Int × Int × Vec (Vec Int) × (Vec (ByteArray × Int × Int × (Vec Int))) × Vec Int) : List AV × List Ob := ([.c (.p 0 0), vi t.1, .c (.h 1), vi t.2.1], [.box [cl t.2.2.1, cl t.2.2.2.1], ro t.2.2.2.2])
theorem enc3I : ∀ a b, enc3 a = enc3 b → a = b := by
  intro a b h
  obtain ⟨a0, a1, a2, a3, a4⟩ := a
  obtain ⟨b0, b1, b2, b3, b4⟩ := b
  simp [enc3, encRw_iff] at h
  simp_all
noncomputable def V3 : (ρ : Type) → List AV → List Ob → (Unit → Option ρ) → (Bool → Option ρ) → Option ρ := fun ρ avs obs k6 kr => ofC enc3 (fun t => F3 fuelN t.1 t.2.1 t.2.2.1 t.2.2.2.1 t.2.2.2.2 k6 kr) (avs, obs)
theorem V3_enc (ρ : Type) : (fun w1 w2 w3 w4 w5 k6 kr => V3 ρ [.c (.p 0 0), vi w1, .c (.h 1), vi w2] [.box [cl w3, cl w4], ro w5] k6 kr) = F3 fuelN := by
  funext w1 w2 w3 w4 w5 k6 kr
  exact ofC_enc enc3I _ (w1, w2, w3, w4, w5)
theorem main (Q0 Q1 Q2 Q3 Q4 Q5 Q6 Q7) (W3 W2 W1 W0) {ρ : Type} (K : AV → List Ob → Option ρ) (a1 a2) : exC Try.prog (G Q0 Q1 Q2 Q3 Q4 Q5 Q6 Q7) (L W3 W2 W1 W0) [] 0 (bodyOf Try.f37) (entry 131 [.a [cl a1, cl a2]] [] []) (finO Try.prog Try.f37.results.toList 0 [] [] K) =
    B (fun y1 => Q0 [vl y1]) (fun w1 w2 w3 w4 w5 w6 k0 => W0 ρ [.c (.p 0 0), vi w1, .c (.h 1), .c (.h 2), vi w2] [.box [cl w3, cl w4], ro w5, ro w6] k0) (fun w1 w2 w3 w4 w5 w6 k2 kr => W1 ρ [.c (.p 0 0), vi w1, .c (.h 1), .c (.h 2), vi w2] [.box [cl w3, cl w4], ro w5, ro w6] k2 kr) (fun w1 w2 w3 w4 w5 k6 kr => W3 ρ [.c (.p 0 0), vi w1, .c (.h 1), vi w2] [.box [cl w3, cl w4], ro w5] k6 kr) a1 a2 (fun x1 => K (vb x1) []) := by kernel_rfl
theorem Gok : (G spec_GraphOk.Q spec_l05Set.Q spec_LineOk.Q spec_l01In.Q spec_l05Rise.Q spec_l06Live.Q spec_l06Closure.Q spec_l06Places.Q).ok Try.prog := ⟨(by
    intro ρ f args K r h
    rcases sel_cases h with ⟨hb, h⟩ | ⟨-, h⟩
    · obtain rfl := beq_nat hb
      exact qEntry_ok spec_GraphOk.ac h
    rcases sel_cases h with ⟨hb, h⟩ | ⟨-, h⟩
    · obtain rfl := beq_nat hb
      exact qEntry_ok spec_l05Set.ac h
    rcases sel_cases h with ⟨hb, h⟩ | ⟨-, h⟩
    · obtain rfl := beq_nat hb
      exact qEntry_ok spec_LineOk.ac h
    rcases sel_cases h with ⟨hb, h⟩ | ⟨-, h⟩
    · obtain rfl := beq_nat hb
      exact qEntry_ok spec_l01In.ac h
    rcases sel_cases h with ⟨hb, h⟩ | ⟨-, h⟩
    · obtain rfl := beq_nat hb
      exact qEntry_ok spec_l05Rise.ac h
    rcases sel_cases h with ⟨hb, h⟩ | ⟨-, h⟩
    · obtain rfl := beq_nat hb
      exact qEntry_ok spec_l06Live.ac h
    rcases sel_cases h with ⟨hb, h⟩ | ⟨-, h⟩
    · obtain rfl := beq_nat hb
      exact qEntry_ok spec_l06Closure.ac h
    rcases sel_cases h with ⟨hb, h⟩ | ⟨-, h⟩
    · obtain rfl := beq_nat hb
      exact qEntry_ok spec_l06Places.ac h
    cases h),
  (by
    intro ρ f args K
    simp only [G]
    cases Nat.beq f 24 with
    | true => exact qEntry_nat args K
    | false =>
    simp only [sel]
    cases Nat.beq f 67 with
    | true => exact qEntry_nat args K
    | false =>
    simp only [sel]
    cases Nat.beq f 68 with
    | true => exact qEntry_nat args K
    | false =>
    simp only [sel]
    cases Nat.beq f 26 with
    | true => exact qEntry_nat args K
    | false =>
    simp only [sel]
    cases Nat.beq f 59 with
    | true => exact qEntry_nat args K
    | false =>
    simp only [sel]
    cases Nat.beq f 69 with
    | true => exact qEntry_nat args K
    | false =>
    simp only [sel]
    cases Nat.beq f 71 with
    | true => exact qEntry_nat args K
    | false =>
    simp only [sel]
    cases Nat.beq f 70 with
    | true => exact qEntry_nat args K
    | false =>
    simp only [sel]
    rfl),
  (fun ρ f st caps args dst K r h => (by cases h))⟩
theorem hm : Try.prog.follows .mixedOrders = true := by kernel_rfl
theorem e3 : atomsL [] 4 c3 = [] := by kernel_rfl
theorem ok3 (ρ : Type) (st : St) (K : Exit → St → Option ρ) (r : ρ) (h : (L V3 V2 V1 V0) ρ 3 st K = some r) : AW Try.prog (.loop c3) st fun e st' => K e st' = some r := by
  refine loop_ok (ct := ct3) (lv := lv3) (n := 131) (m := 0) (ks := []) (j := 3) (jn := []) (L := (L V3 V2 V1 V0)) Gok hm (by rw [e3]; exact Lor.ok_nil _ _) enc3I (fun k t => F3 k t.1 t.2.1 t.2.2.1 t.2.2.2.1 t.2.2.2.2 (fun _ => K (.exit 6) (mkS 131 [] [] [] [])) (fun z1 => K .ret (mkS 131 [2] [vb z1] [] []))) (fun t => rfl) (fun k t => ?_) (fun _ => fuelN) h
  refine (step3 spec_GraphOk.Q spec_l05Set.Q spec_LineOk.Q spec_l01In.Q spec_l05Rise.Q spec_l06Live.Q spec_l06Closure.Q spec_l06Places.Q V3 V2 V1 V0 K _ t.1 t.2.1 t.2.2.1 t.2.2.2.1 t.2.2.2.2).trans ?_
  rw [spec_l06Closure.wrap, spec_l06Places.wrap]
  refine congrArg (fun W => B3 spec_l06Closure.F spec_l06Places.F t.1 t.2.1 t.2.2.1 t.2.2.2.1 t.2.2.2.2 W (fun _ => K (.exit 6) (mkS 131 [] [] [] [])) (fun z1 => K .ret (mkS 131 [2] [vb z1] [] []))) ?_
  funext u1 u2 u3 u4 u5
  exact ofC_enc enc3I _ (u1, u2, u3, u4, u5)
theorem e2 : atomsL [] 3 c2 = [] := by kernel_rfl
theorem ok2 (ρ : Type) (st : St) (K : Exit → St → Option ρ) (r : ρ) (h : (L V3 V2 V1 V0) ρ 2 st K = some r) : AW Try.prog (.loop c2) st fun e st' => K e st' = some r := by
  refine loop_ok (ct := ct2) (lv := lv2) (n := 131) (m := 0) (ks := []) (j := 2) (jn := []) (L := (L V3 V2 V1 V0)) Gok hm (by rw [e2]; exact Lor.ok_nil _ _) enc2I (fun k t => F2 k t.1 t.2.1 t.2.2.1 t.2.2.2.1 t.2.2.2.2.1 t.2.2.2.2.2.1 t.2.2.2.2.2.2.1 t.2.2.2.2.2.2.2.1 t.2.2.2.2.2.2.2.2.1 t.2.2.2.2.2.2.2.2.2.1 t.2.2.2.2.2.2.2.2.2.2 (fun z1 z2 z3 z4 z5 z6 => K (.exit 4) (mkS 131 [1, 3, 4, 5, 7] [.c (.p 0 0), vi z1, .c (.h 1), .c (.h 2), vi z2] [.box [cl z3, cl z4], ro z5, ro z6] [])) (fun z1 => K .ret (mkS 131 [2] [vb z1] [] []))) (fun t => rfl) (fun k t => ?_) (fun _ => fuelN) h
  refine (step2 spec_GraphOk.Q spec_l05Set.Q spec_LineOk.Q spec_l01In.Q spec_l05Rise.Q spec_l06Live.Q spec_l06Closure.Q spec_l06Places.Q V3 V2 V1 V0 K _ t.1 t.2.1 t.2.2.1 t.2.2.2.1 t.2.2.2.2.1 t.2.2.2.2.2.1 t.2.2.2.2.2.2.1 t.2.2.2.2.2.2.2.1 t.2.2.2.2.2.2.2.2.1 t.2.2.2.2.2.2.2.2.2.1 t.2.2.2.2.2.2.2.2.2.2).trans ?_
  rw [spec_l06Live.wrap]
  refine congrArg (fun W => B2 spec_l06Live.F t.1 t.2.1 t.2.2.1 t.2.2.2.1 t.2.2.2.2.1 t.2.2.2.2.2.1 t.2.2.2.2.2.2.1 t.2.2.2.2.2.2.2.1 t.2.2.2.2.2.2.2.2.1 t.2.2.2.2.2.2.2.2.2.1 t.2.2.2.2.2.2.2.2.2.2 W (fun z1 z2 z3 z4 z5 z6 => K (.exit 4) (mkS 131 [1, 3, 4, 5, 7] [.c (.p 0 0), vi z1, .c (.h 1), .c (.h 2), vi z2] [.box [cl z3, cl z4], ro z5, ro z6] [])) (fun z1 => K .ret (mkS 131 [2] [vb z1] [] []))) ?_
  funext u1 u2 u3 u4 u5 u6 u7 u8 u9 u10 u11
  exact ofC_enc enc2I _ (u1, u2, u3, u4, u5, u6, u7, u8, u9, u10, u11)
theorem e1 : atomsL [] 2 c1 = [(2, 2, .loop c2)] := by kernel_rfl
theorem ok1 (ρ : Type) (st : St) (K : Exit → St → Option ρ) (r : ρ) (h : (L V3 V2 V1 V0) ρ 1 st K = some r) : AW Try.prog (.loop c1) st fun e st' => K e st' = some r := by
  refine loop_ok (ct := ct1) (lv := lv1) (n := 131) (m := 0) (ks := []) (j := 1) (jn := []) (L := (L V3 V2 V1 V0)) Gok hm (by rw [e1]; exact Lor.ok_cons ok2 (Lor.ok_nil _ _)) enc1I (fun k t => F1 k t.1 t.2.1 t.2.2.1 t.2.2.2.1 t.2.2.2.2.1 t.2.2.2.2.2 (fun z1 z2 z3 z4 => K (.exit 2) (mkS 131 [1, 3, 4] [.c (.p 0 0), vi z1, .c (.h 1)] [.box [cl z2, cl z3], ro z4] [])) (fun z1 => K .ret (mkS 131 [2] [vb z1] [] []))) (fun t => rfl) (fun k t => ?_) (fun _ => fuelN) h
  refine (step1 spec_GraphOk.Q spec_l05Set.Q spec_LineOk.Q spec_l01In.Q spec_l05Rise.Q spec_l06Live.Q spec_l06Closure.Q spec_l06Places.Q V3 V2 V1 V0 K _ t.1 t.2.1 t.2.2.1 t.2.2.2.1 t.2.2.2.2.1 t.2.2.2.2.2).trans ?_
  rw [spec_LineOk.wrap, spec_l01In.wrap, spec_l05Rise.wrap, V2_enc]
  refine congrArg (fun W => B1 spec_LineOk.F spec_l01In.F spec_l05Rise.F (F2 fuelN) t.1 t.2.1 t.2.2.1 t.2.2.2.1 t.2.2.2.2.1 t.2.2.2.2.2 W (fun z1 z2 z3 z4 => K (.exit 2) (mkS 131 [1, 3, 4] [.c (.p 0 0), vi z1, .c (.h 1)] [.box [cl z2, cl z3], ro z4] [])) (fun z1 => K .ret (mkS 131 [2] [vb z1] [] []))) ?_
  funext u1 u2 u3 u4 u5 u6
  exact ofC_enc enc1I _ (u1, u2, u3, u4, u5, u6)
theorem e0 : atomsL [] 1 c0 = [] := by kernel_rfl
theorem ok0 (ρ : Type) (st : St) (K : Exit → St → Option ρ) (r : ρ) (h : (L V3 V2 V1 V0) ρ 0 st K = some r) : AW Try.prog (.loop c0) st fun e st' => K e st' = some r := by
  refine loop_ok (ct := ct0) (lv := lv0) (n := 131) (m := 0) (ks := []) (j := 0) (jn := []) (L := (L V3 V2 V1 V0)) Gok hm (by rw [e0]; exact Lor.ok_nil _ _) enc0I (fun k t => F0 k t.1 t.2.1 t.2.2.1 t.2.2.2.1 t.2.2.2.2.1 t.2.2.2.2.2 (fun z1 z2 z3 z4 z5 => K (.exit 0) (mkS 131 [1, 3, 4, 5] [.c (.p 0 0), vi z1, .c (.h 1), .c (.h 2)] [.box [cl z2, cl z3], ro z4, ro z5] []))) (fun t => rfl) (fun k t => ?_) (fun _ => fuelN) h
  refine (step0 spec_GraphOk.Q spec_l05Set.Q spec_LineOk.Q spec_l01In.Q spec_l05Rise.Q spec_l06Live.Q spec_l06Closure.Q spec_l06Places.Q V3 V2 V1 V0 K _ t.1 t.2.1 t.2.2.1 t.2.2.2.1 t.2.2.2.2.1 t.2.2.2.2.2).trans ?_
  rw [spec_l05Set.wrap]
  refine congrArg (fun W => B0 spec_l05Set.F t.1 t.2.1 t.2.2.1 t.2.2.2.1 t.2.2.2.2.1 t.2.2.2.2.2 W (fun z1 z2 z3 z4 z5 => K (.exit 0) (mkS 131 [1, 3, 4, 5] [.c (.p 0 0), vi z1, .c (.h 1), .c (.h 2)] [.box [cl z2, cl z3], ro z4, ro z5] []))) ?_
  funext u1 u2 u3 u4 u5 u6
  exact ofC_enc enc0I _ (u1, u2, u3, u4, u5, u6)
theorem e : atomsL [] 0 (bodyOf Try.f37) = [(0, 0, .loop c0), (1, 1, .loop c1), (3, 3, .loop c3)] := by kernel_rfl
theorem acc (t : Vec (Vec Int) × (Vec (ByteArray × Int × Int × (Vec Int)))) (x : Bool) (h : F t.1 t.2 = some x) : ACc Try.prog 37 (encA t) [] true [] fun rv obs => (rv, obs) = encR x := by
  refine fun_okc (L := (L V3 V2 V1 V0)) (jn := []) (cmds := []) (ks := []) (hin := []) (fn := Try.f37) (body := (bodyOf Try.f37)) Gok hm Try.func37 (by kernel_rfl) (by kernel_rfl) (by rw [e]; exact Lor.ok_cons ok0 (Lor.ok_cons ok1 (Lor.ok_cons ok3 (Lor.ok_nil _ _)))) ?_ h
  refine (main spec_GraphOk.Q spec_l05Set.Q spec_LineOk.Q spec_l01In.Q spec_l05Rise.Q spec_l06Live.Q spec_l06Closure.Q spec_l06Places.Q V3 V2 V1 V0 _ t.1 t.2).trans ?_
  rw [spec_GraphOk.wrap, V0_enc, V1_enc, V3_enc]
  refine congrArg (fun K => B spec_GraphOk.F (F0 fuelN) (F1 fuelN) (F3 fuelN) t.1 t.2 K) ?_
  funext x1
  exact ofC_enc encRI some (x1)
theorem ac0 (t : Vec (Vec Int) × (Vec (ByteArray × Int × Int × (Vec Int)))) (x : Bool) (h : F t.1 t.2 = some x) : AC Try.prog 37 (encA t) [] true [] fun rv obs => (rv, obs) = encR x := ACc.ac (body := bodyOf Try.f37) Try.func37 (by kernel_rfl) (by kernel_rfl) (acc t x h)
theorem ac (args : List AV) (x : Bool) (h : Q args = some x) : AC Try.prog 37 args [] false [] fun rv obs => (rv, obs) = encR x := by
  obtain ⟨t, rfl, h2⟩ := ofC_some h
  refine (ac0 t x h2).flat fun rv obs e => ?_
  obtain rfl : rv = (encR x).1 := congrArg Prod.fst e
  obtain rfl : obs = (encR x).2 := congrArg Prod.snd e
  refine ⟨by simp [encR, AV.Flat, K.Flat, C.Flat], ?_⟩
  simp [encR]
end spec_WeaveOk
/-! loop.example/g00073/impl.GraphOk -/
namespace impl_GraphOk
noncomputable def B0 {ρ : Type} (C0 : (Vec Int) → Int → Option Bool) (v1 : Vec (Vec Int)) (v2 : Vec (Vec Int)) (v3 : Int) (v4 : Int) (W : (Vec (Vec Int)) → (Vec (Vec Int)) → Int → Int → Option ρ) (K0 : (Vec (Vec Int)) → Option ρ) (Kr : Bool → Option ρ) : Option ρ :=
  sel (decide (v4 < v3)) (chk (decide (0 ≤ v4 ∧ v4 < (v2.n : Int))) (sel (decide ((4 : Int) < ((v2.g v4.toNat).n : Int))) (Kr false) ((C0 (v2.g v4.toNat) v4).bind fun r1 => sel ((!r1)) (Kr false) (W v1 v2 v3 (wr (v4 + (1 : Int))))))) (K0 v1)
noncomputable def F0 {ρ : Type} : Nat → (Vec (Vec Int)) → (Vec (Vec Int)) → Int → Int → ((Vec (Vec Int)) → Option ρ) → (Bool → Option ρ) → Option ρ
  | 0, _, _, _, _, _, _ => none
  | k + 1, v1, v2, v3, v4, K0, Kr => B0 impl_ascends.F v1 v2 v3 v4 (fun v1' v2' v3' v4' => F0 k v1' v2' v3' v4' K0 Kr) K0 Kr
noncomputable def B {ρ : Type} (L0 : (Vec (Vec Int)) → (Vec (Vec Int)) → Int → Int → ((Vec (Vec Int)) → Option ρ) → (Bool → Option ρ) → Option ρ) (a1 : Vec (Vec Int)) (K : Bool → Option ρ) : Option ρ :=
  L0 a1 a1 (a1.n : Int) (0 : Int) (fun e01 => K (decide ((e01.n : Int) ≤ (40 : Int)))) (fun x01 => K x01)
noncomputable def F (a1 : Vec (Vec Int)) : Option Bool := B (F0 fuelN) a1 (fun x1 => some (x1))
def encA (t : Vec (Vec Int)) : List AV := [vl t]
def encR (x : Bool) : AV × List Ob := (vb x, [])
theorem encAI : ∀ a b, encA a = encA b → a = b := by
  intro a b h
  simp [encA, encRw_iff] at h
  simp_all
theorem encRI : ∀ a b, encR a = encR b → a = b := by
  intro a b h
  simp [encR, encRw_iff] at h
  simp_all
noncomputable def Q (args : List AV) : Option Bool := ofC encA (fun t => F t) args
theorem wrap : (fun (y1 : Vec (Vec Int)) => Q [vl y1]) = F := by
  funext y1
  exact ofC_enc encAI _ (y1)
noncomputable def G (Q0 : List AV → Option Bool) : Orc := ⟨fun f => sel (Nat.beq f 62) 0 (9), fun ρ f args K => sel (Nat.beq f 62) (qEntry impl_ascends.encR Q0 args K) (Option.none), noE, false⟩
noncomputable def L (W0 : (ρ : Type) → List AV → List Ob → ((Vec (Vec Int)) → Option ρ) → (Bool → Option ρ) → Option ρ) : Lor := fun ρ j st K => sel (Nat.beq j 0) (cutO Try.prog 25 [0, 5, 6, 7] 0 [] [] st fun avs obs => W0 ρ avs obs (fun z1 => K (.exit 0) (mkS 25 [0] [vl z1] [] [])) (fun z1 => K .ret (mkS 25 [2] [vb z1] [] []))) (Option.none)
noncomputable def c0 : Code := loopC (atomN [] 0 (bodyOf Try.f30) 0)
def ct0 : Cut := ⟨[0, 5, 6, 7], []⟩
def lv0 : Exit → Cut
  | .exit 0 => ⟨[0], []⟩
  | .ret => ⟨[2], []⟩
  | _ => ⟨[], []⟩
theorem step0 (Q0) (W0) {ρ : Type} (K : Exit → St → Option ρ) (W : List AV → List Ob → Option ρ) (v1 v2 v3 v4) : exC Try.prog (G Q0) (L W0) [] 1 c0 (mkS 25 [0, 5, 6, 7] [vl v1, vl v2, vi v3, vi v4] [] []) (bodyK Try.prog 25 0 [] ct0 W lv0 K) =
    B0 (fun y1 y2 => Q0 [vl y1, vi y2]) v1 v2 v3 v4 (fun u1 u2 u3 u4 => W [vl u1, vl u2, vi u3, vi u4] []) (fun z1 => K (.exit 0) (mkS 25 [0] [vl z1] [] [])) (fun z1 => K .ret (mkS 25 [2] [vb z1] [] [])) := by kernel_rfl
def enc0 (t : Vec (Vec Int) × Vec (Vec Int) × Int × Int) : List AV × List Ob := ([vl t.1, vl t.2.1, vi t.2.2.1, vi t.2.2.2], [])
theorem enc0I : ∀ a b, enc0 a = enc0 b → a = b := by
  intro a b h
  obtain ⟨a0, a1, a2, a3⟩ := a
  obtain ⟨b0, b1, b2, b3⟩ := b
  simp [enc0, encRw_iff] at h
  simp_all
noncomputable def V0 : (ρ : Type) → List AV → List Ob → ((Vec (Vec Int)) → Option ρ) → (Bool → Option ρ) → Option ρ := fun ρ avs obs k0 kr => ofC enc0 (fun t => F0 fuelN t.1 t.2.1 t.2.2.1 t.2.2.2 k0 kr) (avs, obs)
theorem V0_enc (ρ : Type) : (fun w1 w2 w3 w4 k0 kr => V0 ρ [vl w1, vl w2, vi w3, vi w4] [] k0 kr) = F0 fuelN := by
  funext w1 w2 w3 w4 k0 kr
  exact ofC_enc enc0I _ (w1, w2, w3, w4)
theorem main (Q0) (W0) {ρ : Type} (K : AV → List Ob → Option ρ) (a1) : exC Try.prog (G Q0) (L W0) [] 0 (bodyOf Try.f30) (entry 25 [vl a1] [] []) (finO Try.prog Try.f30.results.toList 0 [] [] K) =
    B (fun w1 w2 w3 w4 k0 kr => W0 ρ [vl w1, vl w2, vi w3, vi w4] [] k0 kr) a1 (fun x1 => K (vb x1) []) := by kernel_rfl
theorem Gok : (G impl_ascends.Q).ok Try.prog := ⟨(by
    intro ρ f args K r h
    rcases sel_cases h with ⟨hb, h⟩ | ⟨-, h⟩
    · obtain rfl := beq_nat hb
      exact qEntry_ok impl_ascends.ac h
    cases h),
  (by
    intro ρ f args K
    simp only [G]
    cases Nat.beq f 62 with
    | true => exact qEntry_nat args K
    | false =>
    simp only [sel]
    rfl),
  (fun ρ f st caps args dst K r h => (by cases h))⟩
theorem hm : Try.prog.follows .mixedOrders = true := by kernel_rfl
theorem e0 : atomsL [] 1 c0 = [] := by kernel_rfl
theorem ok0 (ρ : Type) (st : St) (K : Exit → St → Option ρ) (r : ρ) (h : (L V0) ρ 0 st K = some r) : AW Try.prog (.loop c0) st fun e st' => K e st' = some r := by
  refine loop_ok (ct := ct0) (lv := lv0) (n := 25) (m := 0) (ks := []) (j := 0) (jn := []) (L := (L V0)) Gok hm (by rw [e0]; exact Lor.ok_nil _ _) enc0I (fun k t => F0 k t.1 t.2.1 t.2.2.1 t.2.2.2 (fun z1 => K (.exit 0) (mkS 25 [0] [vl z1] [] [])) (fun z1 => K .ret (mkS 25 [2] [vb z1] [] []))) (fun t => rfl) (fun k t => ?_) (fun _ => fuelN) h
  refine (step0 impl_ascends.Q V0 K _ t.1 t.2.1 t.2.2.1 t.2.2.2).trans ?_
  rw [impl_ascends.wrap]
  refine congrArg (fun W => B0 impl_ascends.F t.1 t.2.1 t.2.2.1 t.2.2.2 W (fun z1 => K (.exit 0) (mkS 25 [0] [vl z1] [] [])) (fun z1 => K .ret (mkS 25 [2] [vb z1] [] []))) ?_
  funext u1 u2 u3 u4
  exact ofC_enc enc0I _ (u1, u2, u3, u4)
theorem e : atomsL [] 0 (bodyOf Try.f30) = [(0, 0, .loop c0)] := by kernel_rfl
theorem acc (t : Vec (Vec Int)) (x : Bool) (h : F t = some x) : ACc Try.prog 30 (encA t) [] true [] fun rv obs => (rv, obs) = encR x := by
  refine fun_okc (L := (L V0)) (jn := []) (cmds := []) (ks := []) (hin := []) (fn := Try.f30) (body := (bodyOf Try.f30)) Gok hm Try.func30 (by kernel_rfl) (by kernel_rfl) (by rw [e]; exact Lor.ok_cons ok0 (Lor.ok_nil _ _)) ?_ h
  refine (main impl_ascends.Q V0 _ t).trans ?_
  rw [V0_enc]
  refine congrArg (fun K => B (F0 fuelN) t K) ?_
  funext x1
  exact ofC_enc encRI some (x1)
theorem ac0 (t : Vec (Vec Int)) (x : Bool) (h : F t = some x) : AC Try.prog 30 (encA t) [] true [] fun rv obs => (rv, obs) = encR x := ACc.ac (body := bodyOf Try.f30) Try.func30 (by kernel_rfl) (by kernel_rfl) (acc t x h)
theorem ac (args : List AV) (x : Bool) (h : Q args = some x) : AC Try.prog 30 args [] false [] fun rv obs => (rv, obs) = encR x := by
  obtain ⟨t, rfl, h2⟩ := ofC_some h
  refine (ac0 t x h2).flat fun rv obs e => ?_
  obtain rfl : rv = (encR x).1 := congrArg Prod.fst e
  obtain rfl : obs = (encR x).2 := congrArg Prod.snd e
  refine ⟨by simp [encR, AV.Flat, K.Flat, C.Flat], ?_⟩
  simp [encR]
end impl_GraphOk
/-! loop.example/g00073/impl.unionOf -/
namespace impl_unionOf
noncomputable def B0 {ρ : Type} (v1 : Vec (IK .u64)) (v2 : Int) (v3 : Vec Int) (v4 : Int) (v5 : Int) (W : (Vec (IK .u64)) → Int → (Vec Int) → Int → Int → Option ρ) (K0 : Int → Option ρ) : Option ρ :=
  sel (decide (v5 < v4)) (chk (decide (0 ≤ v5 ∧ v5 < (v3.n : Int))) (chk (decide (0 ≤ (v3.g v5.toNat) ∧ (v3.g v5.toNat) < (v1.n : Int))) (W v1 (bOr .u64 v2 ((v1.g (v3.g v5.toNat).toNat).v)) v3 v4 (wr (v5 + (1 : Int)))))) (K0 v2)
noncomputable def F0 {ρ : Type} : Nat → (Vec (IK .u64)) → Int → (Vec Int) → Int → Int → (Int → Option ρ) → Option ρ
  | 0, _, _, _, _, _, _ => none
  | k + 1, v1, v2, v3, v4, v5, K0 => B0 v1 v2 v3 v4 v5 (fun v1' v2' v3' v4' v5' => F0 k v1' v2' v3' v4' v5' K0) K0
noncomputable def B {ρ : Type} (L0 : (Vec (IK .u64)) → Int → (Vec Int) → Int → Int → (Int → Option ρ) → Option ρ) (a1 : Vec (IK .u64)) (a2 : Vec Int) (K : Int → Option ρ) : Option ρ :=
  L0 a1 (0 : Int) a2 (a2.n : Int) (0 : Int) (fun e01 => K e01)
noncomputable def F (a1 : Vec (IK .u64)) (a2 : Vec Int) : Option Int := B (F0 fuelN) a1 a2 (fun x1 => some (x1))
def encA (t : Vec (IK .u64) × Vec Int) : List AV := [vl t.1, vl t.2]
def encR (x : Int) : AV × List Ob := (vk .u64 x, [])
theorem encAI : ∀ a b, encA a = encA b → a = b := by
  intro a b h
  obtain ⟨a0, a1⟩ := a
  obtain ⟨b0, b1⟩ := b
  simp [encA, encRw_iff] at h
  simp_all
theorem encRI : ∀ a b, encR a = encR b → a = b := by
  intro a b h
  simp [encR, encRw_iff] at h
  simp_all
noncomputable def Q (args : List AV) : Option Int := ofC encA (fun t => F t.1 t.2) args
theorem wrap : (fun (y1 : Vec (IK .u64)) (y2 : Vec Int) => Q [vl y1, vl y2]) = F := by
  funext y1 y2
  exact ofC_enc encAI _ (y1, y2)
noncomputable def G : Orc := ⟨fun f => 9, fun ρ f args K => Option.none, noE, false⟩
noncomputable def L (W0 : (ρ : Type) → List AV → List Ob → (Int → Option ρ) → Option ρ) : Lor := fun ρ j st K => sel (Nat.beq j 0) (cutO Try.prog 22 [0, 5, 8, 9, 10] 0 [] [] st fun avs obs => W0 ρ avs obs (fun z1 => K (.exit 0) (mkS 22 [5] [vk .u64 z1] [] []))) (Option.none)
noncomputable def c0 : Code := loopC (atomN [] 0 (bodyOf Try.f108) 0)
def ct0 : Cut := ⟨[0, 5, 8, 9, 10], []⟩
def lv0 : Exit → Cut
  | .exit 0 => ⟨[5], []⟩
  | _ => ⟨[], []⟩
theorem step0 (W0) {ρ : Type} (K : Exit → St → Option ρ) (W : List AV → List Ob → Option ρ) (v1 v2 v3 v4 v5) : exC Try.prog (G) (L W0) [] 1 c0 (mkS 22 [0, 5, 8, 9, 10] [vl v1, vk .u64 v2, vl v3, vi v4, vi v5] [] []) (bodyK Try.prog 22 0 [] ct0 W lv0 K) =
    B0 v1 v2 v3 v4 v5 (fun u1 u2 u3 u4 u5 => W [vl u1, vk .u64 u2, vl u3, vi u4, vi u5] []) (fun z1 => K (.exit 0) (mkS 22 [5] [vk .u64 z1] [] [])) := by kernel_rfl
def enc0 (t : Vec (IK .u64) × Int × Vec Int × Int × Int) : List AV × List Ob := ([vl t.1, vk .u64 t.2.1, vl t.2.2.1, vi t.2.2.2.1, vi t.2.2.2.2], [])
theorem enc0I : ∀ a b, enc0 a = enc0 b → a = b := by
  intro a b h
  obtain ⟨a0, a1, a2, a3, a4⟩ := a
  obtain ⟨b0, b1, b2, b3, b4⟩ := b
  simp [enc0, encRw_iff] at h
  simp_all
noncomputable def V0 : (ρ : Type) → List AV → List Ob → (Int → Option ρ) → Option ρ := fun ρ avs obs k0 => ofC enc0 (fun t => F0 fuelN t.1 t.2.1 t.2.2.1 t.2.2.2.1 t.2.2.2.2 k0) (avs, obs)
theorem V0_enc (ρ : Type) : (fun w1 w2 w3 w4 w5 k0 => V0 ρ [vl w1, vk .u64 w2, vl w3, vi w4, vi w5] [] k0) = F0 fuelN := by
  funext w1 w2 w3 w4 w5 k0
  exact ofC_enc enc0I _ (w1, w2, w3, w4, w5)
theorem main (W0) {ρ : Type} (K : AV → List Ob → Option ρ) (a1 a2) : exC Try.prog (G) (L W0) [] 0 (bodyOf Try.f108) (entry 22 [vl a1, vl a2] [] []) (finO Try.prog Try.f108.results.toList 0 [] [] K) =
    B (fun w1 w2 w3 w4 w5 k0 => W0 ρ [vl w1, vk .u64 w2, vl w3, vi w4, vi w5] [] k0) a1 a2 (fun x1 => K (vk .u64 x1) []) := by kernel_rfl
theorem Gok : (G).ok Try.prog := ⟨(fun ρ f args K r h => (by cases h)),
  (fun ρ f args K => rfl),
  (fun ρ f st caps args dst K r h => (by cases h))⟩
theorem hm : Try.prog.follows .mixedOrders = true := by kernel_rfl
theorem e0 : atomsL [] 1 c0 = [] := by kernel_rfl
theorem ok0 (ρ : Type) (st : St) (K : Exit → St → Option ρ) (r : ρ) (h : (L V0) ρ 0 st K = some r) : AW Try.prog (.loop c0) st fun e st' => K e st' = some r := by
  refine loop_ok (ct := ct0) (lv := lv0) (n := 22) (m := 0) (ks := []) (j := 0) (jn := []) (L := (L V0)) Gok hm (by rw [e0]; exact Lor.ok_nil _ _) enc0I (fun k t => F0 k t.1 t.2.1 t.2.2.1 t.2.2.2.1 t.2.2.2.2 (fun z1 => K (.exit 0) (mkS 22 [5] [vk .u64 z1] [] []))) (fun t => rfl) (fun k t => ?_) (fun _ => fuelN) h
  refine (step0 V0 K _ t.1 t.2.1 t.2.2.1 t.2.2.2.1 t.2.2.2.2).trans ?_
  refine congrArg (fun W => B0 t.1 t.2.1 t.2.2.1 t.2.2.2.1 t.2.2.2.2 W (fun z1 => K (.exit 0) (mkS 22 [5] [vk .u64 z1] [] []))) ?_
  funext u1 u2 u3 u4 u5
  exact ofC_enc enc0I _ (u1, u2, u3, u4, u5)
theorem e : atomsL [] 0 (bodyOf Try.f108) = [(0, 0, .loop c0)] := by kernel_rfl
theorem acc (t : Vec (IK .u64) × Vec Int) (x : Int) (h : F t.1 t.2 = some x) : ACc Try.prog 108 (encA t) [] true [] fun rv obs => (rv, obs) = encR x := by
  refine fun_okc (L := (L V0)) (jn := []) (cmds := []) (ks := []) (hin := []) (fn := Try.f108) (body := (bodyOf Try.f108)) Gok hm Try.func108 (by kernel_rfl) (by kernel_rfl) (by rw [e]; exact Lor.ok_cons ok0 (Lor.ok_nil _ _)) ?_ h
  refine (main V0 _ t.1 t.2).trans ?_
  rw [V0_enc]
  refine congrArg (fun K => B (F0 fuelN) t.1 t.2 K) ?_
  funext x1
  exact ofC_enc encRI some (x1)
theorem ac0 (t : Vec (IK .u64) × Vec Int) (x : Int) (h : F t.1 t.2 = some x) : AC Try.prog 108 (encA t) [] true [] fun rv obs => (rv, obs) = encR x := ACc.ac (body := bodyOf Try.f108) Try.func108 (by kernel_rfl) (by kernel_rfl) (acc t x h)
theorem ac (args : List AV) (x : Int) (h : Q args = some x) : AC Try.prog 108 args [] false [] fun rv obs => (rv, obs) = encR x := by
  obtain ⟨t, rfl, h2⟩ := ofC_some h
  refine (ac0 t x h2).flat fun rv obs e => ?_
  obtain rfl : rv = (encR x).1 := congrArg Prod.fst e
  obtain rfl : obs = (encR x).2 := congrArg Prod.snd e
  refine ⟨by simp [encR, AV.Flat, K.Flat, C.Flat], ?_⟩
  simp [encR]
end impl_unionOf
/-! loop.example/g00073/impl.closures -/
namespace impl_closures
noncomputable def B0 {ρ : Type} (C0 : (Vec (IK .u64)) → (Vec Int) → Option Int) (v1 : Vec (Vec Int)) (v2 : Int) (v3 : Int) (v4 : Vec (IK .u64)) (W : (Vec (Vec Int)) → Int → Int → (Vec (IK .u64)) → Option ρ) (K0 : (Vec (IK .u64)) → Option ρ) : Option ρ :=
  sel (decide (v3 < v2)) (chk (decide (0 ≤ v3 ∧ v3 < (v1.n : Int))) ((C0 v4 (v1.g v3.toNat)).bind fun r1 => chk (decide (0 ≤ (IntKind.wrap .u64 v3))) (chk (decide (0 ≤ v3 ∧ v3 < (v4.n : Int))) (chk (decide (v3.toNat < v4.n)) (W v1 v2 (wr (v3 + (1 : Int))) (Vec.set v4 v3.toNat ⟨(bOr .u64 r1 (bShl .u64 (1 : Int) (IntKind.wrap .u64 v3)))⟩)))))) (K0 v4)
noncomputable def F0 {ρ : Type} : Nat → (Vec (Vec Int)) → Int → Int → (Vec (IK .u64)) → ((Vec (IK .u64)) → Option ρ) → Option ρ
  | 0, _, _, _, _, _ => none
  | k + 1, v1, v2, v3, v4, K0 => B0 impl_unionOf.F v1 v2 v3 v4 (fun v1' v2' v3' v4' => F0 k v1' v2' v3' v4' K0) K0
noncomputable def B {ρ : Type} (L0 : (Vec (Vec Int)) → Int → Int → (Vec (IK .u64)) → ((Vec (IK .u64)) → Option ρ) → Option ρ) (a1 : Vec (Vec Int)) (K : (Vec (IK .u64)) → Option ρ) : Option ρ :=
  chk (decide ((a1.n : Int) = (a1.n : Int) ∧ 0 ≤ (a1.n : Int))) (chk (mkOk (a1.n : Int) 8) (L0 a1 (a1.n : Int) (0 : Int) (Vec.rep ((a1.n : Int).toNat) ⟨0⟩ : Vec (IK .u64)) (fun e01 => K e01)))
noncomputable def F (a1 : Vec (Vec Int)) : Option (Vec (IK .u64)) := B (F0 fuelN) a1 (fun x1 => some (x1))
def encA (t : Vec (Vec Int)) : List AV := [vl t]
def encR (x : Vec (IK .u64)) : AV × List Ob := (.c (.h 0), [ro x])
theorem encAI : ∀ a b, encA a = encA b → a = b := by
  intro a b h
  simp [encA, encRw_iff] at h
  simp_all
theorem encRI : ∀ a b, encR a = encR b → a = b := by
  intro a b h
  simp [encR, encRw_iff] at h
  simp_all
noncomputable def Q (args : List AV) : Option (Vec (IK .u64)) := ofC encA (fun t => F t) args
theorem wrap : (fun (y1 : Vec (Vec Int)) => Q [vl y1]) = F := by
  funext y1
  exact ofC_enc encAI _ (y1)
noncomputable def G (Q0 : List AV → Option Int) : Orc := ⟨fun f => sel (Nat.beq f 108) 0 (9), fun ρ f args K => sel (Nat.beq f 108) (qEntry impl_unionOf.encR Q0 args K) (Option.none), noE, false⟩
noncomputable def L (W0 : (ρ : Type) → List AV → List Ob → ((Vec (IK .u64)) → Option ρ) → Option ρ) : Lor := fun ρ j st K => sel (Nat.beq j 0) (cutO Try.prog 28 [3, 9, 10, 11] 0 [] [] st fun avs obs => W0 ρ avs obs (fun z1 => K (.exit 0) (mkS 28 [3] [.c (.h 0)] [ro z1] []))) (Option.none)
noncomputable def c0 : Code := loopC (atomN [] 0 (bodyOf Try.f74) 0)
def ct0 : Cut := ⟨[3, 9, 10, 11], []⟩
def lv0 : Exit → Cut
  | .exit 0 => ⟨[3], []⟩
  | _ => ⟨[], []⟩
theorem step0 (Q0) (W0) {ρ : Type} (K : Exit → St → Option ρ) (W : List AV → List Ob → Option ρ) (v1 v2 v3 v4) : exC Try.prog (G Q0) (L W0) [] 1 c0 (mkS 28 [3, 9, 10, 11] [.c (.h 0), vl v1, vi v2, vi v3] [ro v4] []) (bodyK Try.prog 28 0 [] ct0 W lv0 K) =
    B0 (fun y1 y2 => Q0 [vl y1, vl y2]) v1 v2 v3 v4 (fun u1 u2 u3 u4 => W [.c (.h 0), vl u1, vi u2, vi u3] [ro u4]) (fun z1 => K (.exit 0) (mkS 28 [3] [.c (.h 0)] [ro z1] [])) := by kernel_rfl
def enc0 (t : Vec (Vec Int) × Int × Int × Vec (IK .u64)) : List AV × List Ob := ([.c (.h 0), vl t.1, vi t.2.1, vi t.2.2.1], [ro t.2.2.2])
theorem enc0I : ∀ a b, enc0 a = enc0 b → a = b := by
  intro a b h
  obtain ⟨a0, a1, a2, a3⟩ := a
  obtain ⟨b0, b1, b2, b3⟩ := b
  simp [enc0, encRw_iff] at h
  simp_all
noncomputable def V0 : (ρ : Type) → List AV → List Ob → ((Vec (IK .u64)) → Option ρ) → Option ρ := fun ρ avs obs k0 => ofC enc0 (fun t => F0 fuelN t.1 t.2.1 t.2.2.1 t.2.2.2 k0) (avs, obs)
theorem V0_enc (ρ : Type) : (fun w1 w2 w3 w4 k0 => V0 ρ [.c (.h 0), vl w1, vi w2, vi w3] [ro w4] k0) = F0 fuelN := by
  funext w1 w2 w3 w4 k0
  exact ofC_enc enc0I _ (w1, w2, w3, w4)
theorem main (Q0) (W0) {ρ : Type} (K : AV → List Ob → Option ρ) (a1) : exC Try.prog (G Q0) (L W0) [] 0 (bodyOf Try.f74) (entry 28 [vl a1] [] []) (finO Try.prog Try.f74.results.toList 0 [] [] K) =
    B (fun w1 w2 w3 w4 k0 => W0 ρ [.c (.h 0), vl w1, vi w2, vi w3] [ro w4] k0) a1 (fun x1 => K (.c (.h 0)) [ro x1]) := by kernel_rfl
theorem Gok : (G impl_unionOf.Q).ok Try.prog := ⟨(by
    intro ρ f args K r h
    rcases sel_cases h with ⟨hb, h⟩ | ⟨-, h⟩
    · obtain rfl := beq_nat hb
      exact qEntry_ok impl_unionOf.ac h
    cases h),
  (by
    intro ρ f args K
    simp only [G]
    cases Nat.beq f 108 with
    | true => exact qEntry_nat args K
    | false =>
    simp only [sel]
    rfl),
  (fun ρ f st caps args dst K r h => (by cases h))⟩
theorem hm : Try.prog.follows .mixedOrders = true := by kernel_rfl
theorem e0 : atomsL [] 1 c0 = [] := by kernel_rfl
theorem ok0 (ρ : Type) (st : St) (K : Exit → St → Option ρ) (r : ρ) (h : (L V0) ρ 0 st K = some r) : AW Try.prog (.loop c0) st fun e st' => K e st' = some r := by
  refine loop_ok (ct := ct0) (lv := lv0) (n := 28) (m := 0) (ks := []) (j := 0) (jn := []) (L := (L V0)) Gok hm (by rw [e0]; exact Lor.ok_nil _ _) enc0I (fun k t => F0 k t.1 t.2.1 t.2.2.1 t.2.2.2 (fun z1 => K (.exit 0) (mkS 28 [3] [.c (.h 0)] [ro z1] []))) (fun t => rfl) (fun k t => ?_) (fun _ => fuelN) h
  refine (step0 impl_unionOf.Q V0 K _ t.1 t.2.1 t.2.2.1 t.2.2.2).trans ?_
  rw [impl_unionOf.wrap]
  refine congrArg (fun W => B0 impl_unionOf.F t.1 t.2.1 t.2.2.1 t.2.2.2 W (fun z1 => K (.exit 0) (mkS 28 [3] [.c (.h 0)] [ro z1] []))) ?_
  funext u1 u2 u3 u4
  exact ofC_enc enc0I _ (u1, u2, u3, u4)
theorem e : atomsL [] 0 (bodyOf Try.f74) = [(0, 0, .loop c0)] := by kernel_rfl
theorem acc (t : Vec (Vec Int)) (x : Vec (IK .u64)) (h : F t = some x) : ACc Try.prog 74 (encA t) [] true [] fun rv obs => (rv, obs) = encR x := by
  refine fun_okc (L := (L V0)) (jn := []) (cmds := []) (ks := []) (hin := []) (fn := Try.f74) (body := (bodyOf Try.f74)) Gok hm Try.func74 (by kernel_rfl) (by kernel_rfl) (by rw [e]; exact Lor.ok_cons ok0 (Lor.ok_nil _ _)) ?_ h
  refine (main impl_unionOf.Q V0 _ t).trans ?_
  rw [V0_enc]
  refine congrArg (fun K => B (F0 fuelN) t K) ?_
  funext x1
  exact ofC_enc encRI some (x1)
theorem ac0 (t : Vec (Vec Int)) (x : Vec (IK .u64)) (h : F t = some x) : AC Try.prog 74 (encA t) [] true [] fun rv obs => (rv, obs) = encR x := ACc.ac (body := bodyOf Try.f74) Try.func74 (by kernel_rfl) (by kernel_rfl) (acc t x h)
theorem ac (args : List AV) (x : Vec (IK .u64)) (h : Q args = some x) : AC Try.prog 74 args [] false [] fun rv obs => (rv, obs) = encR x := by
  obtain ⟨t, rfl, h2⟩ := ofC_some h
  refine (ac0 t x h2).flat fun rv obs e => ?_
  obtain rfl : rv = (encR x).1 := congrArg Prod.fst e
  obtain rfl : obs = (encR x).2 := congrArg Prod.snd e
  refine ⟨by simp [encR, AV.Flat, K.Flat, C.Flat], ?_⟩
  intro o ho
  simp only [encR, List.mem_cons, List.not_mem_nil, or_false] at ho
  subst ho
  exact flat_rw rfl _
end impl_closures
/-! loop.example/g00073/impl.LineOk -/
namespace impl_LineOk
noncomputable def B {ρ : Type} (C0 : ByteArray → ByteArray → Option Bool) (a1 : ByteArray) (K : Bool → Option ρ) : Option ρ :=
  sel (decide ((a1.size : Int) ≤ (60 : Int))) ((C0 a1 (ByteArray.mk #[10])).bind fun r1 => K (!r1)) (K false)
noncomputable def F (a1 : ByteArray) : Option Bool := B strings_Contains.F a1 (fun x1 => some (x1))
def encA (t : ByteArray) : List AV := [vs t]
def encR (x : Bool) : AV × List Ob := (vb x, [])
theorem encAI : ∀ a b, encA a = encA b → a = b := by
  intro a b h
  simp [encA, encRw_iff] at h
  simp_all
theorem encRI : ∀ a b, encR a = encR b → a = b := by
  intro a b h
  simp [encR, encRw_iff] at h
  simp_all
noncomputable def Q (args : List AV) : Option Bool := ofC encA (fun t => F t) args
theorem wrap : (fun (y1 : ByteArray) => Q [vs y1]) = F := by
  funext y1
  exact ofC_enc encAI _ (y1)
noncomputable def G (Q0 : List AV → Option Bool) : Orc := ⟨fun f => sel (Nat.beq f 99) 0 (9), fun ρ f args K => sel (Nat.beq f 99) (qEntry strings_Contains.encR Q0 args K) (Option.none), noE, false⟩
noncomputable def L : Lor := fun ρ j st K => Option.none
theorem main (Q0) {ρ : Type} (K : AV → List Ob → Option ρ) (a1) : exC Try.prog (G Q0) (L) [] 0 (bodyOf Try.f105) (entry 11 [vs a1] [] []) (finO Try.prog Try.f105.results.toList 0 [] [] K) =
    B (fun y1 y2 => Q0 [vs y1, vs y2]) a1 (fun x1 => K (vb x1) []) := by kernel_rfl
theorem Gok : (G strings_Contains.Q).ok Try.prog := ⟨(by
    intro ρ f args K r h
    rcases sel_cases h with ⟨hb, h⟩ | ⟨-, h⟩
    · obtain rfl := beq_nat hb
      exact qEntry_ok strings_Contains.ac h
    cases h),
  (by
    intro ρ f args K
    simp only [G]
    cases Nat.beq f 99 with
    | true => exact qEntry_nat args K
    | false =>
    simp only [sel]
    rfl),
  (fun ρ f st caps args dst K r h => (by cases h))⟩
theorem hm : Try.prog.follows .mixedOrders = true := by kernel_rfl
theorem e : atomsL [] 0 (bodyOf Try.f105) = [] := by kernel_rfl
theorem acc (t : ByteArray) (x : Bool) (h : F t = some x) : ACc Try.prog 105 (encA t) [] true [] fun rv obs => (rv, obs) = encR x := by
  refine fun_okc (L := (L)) (jn := []) (cmds := []) (ks := []) (hin := []) (fn := Try.f105) (body := (bodyOf Try.f105)) Gok hm Try.func105 (by kernel_rfl) (by kernel_rfl) (by rw [e]; exact Lor.ok_nil _ _) ?_ h
  refine (main strings_Contains.Q _ t).trans ?_
  rw [strings_Contains.wrap]
  refine congrArg (fun K => B strings_Contains.F t K) ?_
  funext x1
  exact ofC_enc encRI some (x1)
theorem ac0 (t : ByteArray) (x : Bool) (h : F t = some x) : AC Try.prog 105 (encA t) [] true [] fun rv obs => (rv, obs) = encR x := ACc.ac (body := bodyOf Try.f105) Try.func105 (by kernel_rfl) (by kernel_rfl) (acc t x h)
theorem ac (args : List AV) (x : Bool) (h : Q args = some x) : AC Try.prog 105 args [] false [] fun rv obs => (rv, obs) = encR x := by
  obtain ⟨t, rfl, h2⟩ := ofC_some h
  refine (ac0 t x h2).flat fun rv obs e => ?_
  obtain rfl : rv = (encR x).1 := congrArg Prod.fst e
  obtain rfl : obs = (encR x).2 := congrArg Prod.snd e
  refine ⟨by simp [encR, AV.Flat, K.Flat, C.Flat], ?_⟩
  simp [encR]
end impl_LineOk
/-! loop.example/g00073/impl.isPlace -/
namespace impl_isPlace
noncomputable def B {ρ : Type} (C0 : Int → Int → Int → Option Bool) (a1 : Int) (a2 : Int) (K : Bool → Option ρ) : Option ρ :=
  (C0 a1 (0 : Int) (wr (a2 - (1 : Int)))).bind fun r1 => K r1
noncomputable def F (a1 : Int) (a2 : Int) : Option Bool := B impl_inRange.F a1 a2 (fun x1 => some (x1))
def encA (t : Int × Int) : List AV := [vi t.1, vi t.2]
def encR (x : Bool) : AV × List Ob := (vb x, [])
theorem encAI : ∀ a b, encA a = encA b → a = b := by
  intro a b h
  obtain ⟨a0, a1⟩ := a
  obtain ⟨b0, b1⟩ := b
  simp [encA, encRw_iff] at h
  simp_all
theorem encRI : ∀ a b, encR a = encR b → a = b := by
  intro a b h
  simp [encR, encRw_iff] at h
  simp_all
noncomputable def Q (args : List AV) : Option Bool := ofC encA (fun t => F t.1 t.2) args
theorem wrap : (fun (y1 : Int) (y2 : Int) => Q [vi y1, vi y2]) = F := by
  funext y1 y2
  exact ofC_enc encAI _ (y1, y2)
noncomputable def G (Q0 : List AV → Option Bool) : Orc := ⟨fun f => sel (Nat.beq f 32) 0 (9), fun ρ f args K => sel (Nat.beq f 32) (qEntry impl_inRange.encR Q0 args K) (Option.none), noE, false⟩
noncomputable def L : Lor := fun ρ j st K => Option.none
theorem main (Q0) {ρ : Type} (K : AV → List Ob → Option ρ) (a1 a2) : exC Try.prog (G Q0) (L) [] 0 (bodyOf Try.f106) (entry 9 [vi a1, vi a2] [] []) (finO Try.prog Try.f106.results.toList 0 [] [] K) =
    B (fun y1 y2 y3 => Q0 [vi y1, vi y2, vi y3]) a1 a2 (fun x1 => K (vb x1) []) := by kernel_rfl
theorem Gok : (G impl_inRange.Q).ok Try.prog := ⟨(by
    intro ρ f args K r h
    rcases sel_cases h with ⟨hb, h⟩ | ⟨-, h⟩
    · obtain rfl := beq_nat hb
      exact qEntry_ok impl_inRange.ac h
    cases h),
  (by
    intro ρ f args K
    simp only [G]
    cases Nat.beq f 32 with
    | true => exact qEntry_nat args K
    | false =>
    simp only [sel]
    rfl),
  (fun ρ f st caps args dst K r h => (by cases h))⟩
theorem hm : Try.prog.follows .mixedOrders = true := by kernel_rfl
theorem e : atomsL [] 0 (bodyOf Try.f106) = [] := by kernel_rfl
theorem acc (t : Int × Int) (x : Bool) (h : F t.1 t.2 = some x) : ACc Try.prog 106 (encA t) [] true [] fun rv obs => (rv, obs) = encR x := by
  refine fun_okc (L := (L)) (jn := []) (cmds := []) (ks := []) (hin := []) (fn := Try.f106) (body := (bodyOf Try.f106)) Gok hm Try.func106 (by kernel_rfl) (by kernel_rfl) (by rw [e]; exact Lor.ok_nil _ _) ?_ h
  refine (main impl_inRange.Q _ t.1 t.2).trans ?_
  rw [impl_inRange.wrap]
  refine congrArg (fun K => B impl_inRange.F t.1 t.2 K) ?_
  funext x1
  exact ofC_enc encRI some (x1)
theorem ac0 (t : Int × Int) (x : Bool) (h : F t.1 t.2 = some x) : AC Try.prog 106 (encA t) [] true [] fun rv obs => (rv, obs) = encR x := ACc.ac (body := bodyOf Try.f106) Try.func106 (by kernel_rfl) (by kernel_rfl) (acc t x h)
theorem ac (args : List AV) (x : Bool) (h : Q args = some x) : AC Try.prog 106 args [] false [] fun rv obs => (rv, obs) = encR x := by
  obtain ⟨t, rfl, h2⟩ := ofC_some h
  refine (ac0 t x h2).flat fun rv obs e => ?_
  obtain rfl : rv = (encR x).1 := congrArg Prod.fst e
  obtain rfl : obs = (encR x).2 := congrArg Prod.snd e
  refine ⟨by simp [encR, AV.Flat, K.Flat, C.Flat], ?_⟩
  simp [encR]
end impl_isPlace
/-! (loop.example/g00073/impl.set).has -/
namespace impl_set_has
noncomputable def B {ρ : Type} (C0 : Int → Int → Int → Option Bool) (a1 : Int) (a2 : Int) (K : Bool → Option ρ) : Option ρ :=
  (C0 a2 (0 : Int) (63 : Int)).bind fun r1 => sel (r1) (chk (decide (0 ≤ (IntKind.wrap .u64 a2))) (K (decide ((bAnd .u64 (bShr .u64 a1 (IntKind.wrap .u64 a2)) (1 : Int)) = (1 : Int))))) (K false)
noncomputable def F (a1 : Int) (a2 : Int) : Option Bool := B impl_inRange.F a1 a2 (fun x1 => some (x1))
def encA (t : Int × Int) : List AV := [vk .u64 t.1, vi t.2]
def encR (x : Bool) : AV × List Ob := (vb x, [])
theorem encAI : ∀ a b, encA a = encA b → a = b := by
  intro a b h
  obtain ⟨a0, a1⟩ := a
  obtain ⟨b0, b1⟩ := b
  simp [encA, encRw_iff] at h
  simp_all
theorem encRI : ∀ a b, encR a = encR b → a = b := by
  intro a b h
  simp [encR, encRw_iff] at h
  simp_all
noncomputable def Q (args : List AV) : Option Bool := ofC encA (fun t => F t.1 t.2) args
theorem wrap : (fun (y1 : Int) (y2 : Int) => Q [vk .u64 y1, vi y2]) = F := by
  funext y1 y2
  exact ofC_enc encAI _ (y1, y2)
noncomputable def G (Q0 : List AV → Option Bool) : Orc := ⟨fun f => sel (Nat.beq f 32) 0 (9), fun ρ f args K => sel (Nat.beq f 32) (qEntry impl_inRange.encR Q0 args K) (Option.none), noE, false⟩
noncomputable def L : Lor := fun ρ j st K => Option.none
theorem main (Q0) {ρ : Type} (K : AV → List Ob → Option ρ) (a1 a2) : exC Try.prog (G Q0) (L) [] 0 (bodyOf Try.f132) (entry 15 [vk .u64 a1, vi a2] [] []) (finO Try.prog Try.f132.results.toList 0 [] [] K) =
    B (fun y1 y2 y3 => Q0 [vi y1, vi y2, vi y3]) a1 a2 (fun x1 => K (vb x1) []) := by kernel_rfl
theorem Gok : (G impl_inRange.Q).ok Try.prog := ⟨(by
    intro ρ f args K r h
    rcases sel_cases h with ⟨hb, h⟩ | ⟨-, h⟩
    · obtain rfl := beq_nat hb
      exact qEntry_ok impl_inRange.ac h
    cases h),
  (by
    intro ρ f args K
    simp only [G]
    cases Nat.beq f 32 with
    | true => exact qEntry_nat args K
    | false =>
    simp only [sel]
    rfl),
  (fun ρ f st caps args dst K r h => (by cases h))⟩
theorem hm : Try.prog.follows .mixedOrders = true := by kernel_rfl
theorem e : atomsL [] 0 (bodyOf Try.f132) = [] := by kernel_rfl
theorem acc (t : Int × Int) (x : Bool) (h : F t.1 t.2 = some x) : ACc Try.prog 132 (encA t) [] true [] fun rv obs => (rv, obs) = encR x := by
  refine fun_okc (L := (L)) (jn := []) (cmds := []) (ks := []) (hin := []) (fn := Try.f132) (body := (bodyOf Try.f132)) Gok hm Try.func132 (by kernel_rfl) (by kernel_rfl) (by rw [e]; exact Lor.ok_nil _ _) ?_ h
  refine (main impl_inRange.Q _ t.1 t.2).trans ?_
  rw [impl_inRange.wrap]
  refine congrArg (fun K => B impl_inRange.F t.1 t.2 K) ?_
  funext x1
  exact ofC_enc encRI some (x1)
theorem ac0 (t : Int × Int) (x : Bool) (h : F t.1 t.2 = some x) : AC Try.prog 132 (encA t) [] true [] fun rv obs => (rv, obs) = encR x := ACc.ac (body := bodyOf Try.f132) Try.func132 (by kernel_rfl) (by kernel_rfl) (acc t x h)
theorem ac (args : List AV) (x : Bool) (h : Q args = some x) : AC Try.prog 132 args [] false [] fun rv obs => (rv, obs) = encR x := by
  obtain ⟨t, rfl, h2⟩ := ofC_some h
  refine (ac0 t x h2).flat fun rv obs e => ?_
  obtain rfl : rv = (encR x).1 := congrArg Prod.fst e
  obtain rfl : obs = (encR x).2 := congrArg Prod.snd e
  refine ⟨by simp [encR, AV.Flat, K.Flat, C.Flat], ?_⟩
  simp [encR]
end impl_set_has
/-! loop.example/g00073/impl.setOf -/
namespace impl_setOf
noncomputable def B0 {ρ : Type} (C0 : Int → Int → Int → Option Bool) (v1 : Int) (v2 : Vec Int) (v3 : Int) (v4 : Int) (W : Int → (Vec Int) → Int → Int → Option ρ) (K0 : Int → Option ρ) : Option ρ :=
  sel (decide (v4 < v3)) (chk (decide (0 ≤ v4 ∧ v4 < (v2.n : Int))) ((C0 (v2.g v4.toNat) (0 : Int) (63 : Int)).bind fun r1 => sel (r1) (chk (decide (0 ≤ (IntKind.wrap .u64 (v2.g v4.toNat)))) (W (bOr .u64 v1 (bShl .u64 (1 : Int) (IntKind.wrap .u64 (v2.g v4.toNat)))) v2 v3 (wr (v4 + (1 : Int))))) (W v1 v2 v3 (wr (v4 + (1 : Int)))))) (K0 v1)
noncomputable def F0 {ρ : Type} : Nat → Int → (Vec Int) → Int → Int → (Int → Option ρ) → Option ρ
  | 0, _, _, _, _, _ => none
  | k + 1, v1, v2, v3, v4, K0 => B0 impl_inRange.F v1 v2 v3 v4 (fun v1' v2' v3' v4' => F0 k v1' v2' v3' v4' K0) K0
noncomputable def B {ρ : Type} (L0 : Int → (Vec Int) → Int → Int → (Int → Option ρ) → Option ρ) (a1 : Vec Int) (K : Int → Option ρ) : Option ρ :=
  L0 (0 : Int) a1 (a1.n : Int) (0 : Int) (fun e01 => K e01)
noncomputable def F (a1 : Vec Int) : Option Int := B (F0 fuelN) a1 (fun x1 => some (x1))
def encA (t : Vec Int) : List AV := [vl t]
def encR (x : Int) : AV × List Ob := (vk .u64 x, [])
theorem encAI : ∀ a b, encA a = encA b → a = b := by
  intro a b h
  simp [encA, encRw_iff] at h
  simp_all
theorem encRI : ∀ a b, encR a = encR b → a = b := by
  intro a b h
  simp [encR, encRw_iff] at h
  simp_all
noncomputable def Q (args : List AV) : Option Int := ofC encA (fun t => F t) args
theorem wrap : (fun (y1 : Vec Int) => Q [vl y1]) = F := by
  funext y1
  exact ofC_enc encAI _ (y1)
noncomputable def G (Q0 : List AV → Option Bool) : Orc := ⟨fun f => sel (Nat.beq f 32) 0 (9), fun ρ f args K => sel (Nat.beq f 32) (qEntry impl_inRange.encR Q0 args K) (Option.none), noE, false⟩
noncomputable def L (W0 : (ρ : Type) → List AV → List Ob → (Int → Option ρ) → Option ρ) : Lor := fun ρ j st K => sel (Nat.beq j 0) (cutO Try.prog 21 [3, 6, 7, 8] 0 [] [] st fun avs obs => W0 ρ avs obs (fun z1 => K (.exit 0) (mkS 21 [3] [vk .u64 z1] [] []))) (Option.none)
noncomputable def c0 : Code := loopC (atomN [] 0 (bodyOf Try.f133) 0)
def ct0 : Cut := ⟨[3, 6, 7, 8], []⟩
def lv0 : Exit → Cut
  | .exit 0 => ⟨[3], []⟩
  | _ => ⟨[], []⟩
theorem step0 (Q0) (W0) {ρ : Type} (K : Exit → St → Option ρ) (W : List AV → List Ob → Option ρ) (v1 v2 v3 v4) : exC Try.prog (G Q0) (L W0) [] 1 c0 (mkS 21 [3, 6, 7, 8] [vk .u64 v1, vl v2, vi v3, vi v4] [] []) (bodyK Try.prog 21 0 [] ct0 W lv0 K) =
    B0 (fun y1 y2 y3 => Q0 [vi y1, vi y2, vi y3]) v1 v2 v3 v4 (fun u1 u2 u3 u4 => W [vk .u64 u1, vl u2, vi u3, vi u4] []) (fun z1 => K (.exit 0) (mkS 21 [3] [vk .u64 z1] [] [])) := by kernel_rfl
def enc0 (t : Int × Vec Int × Int × Int) : List AV × List Ob := ([vk .u64 t.1, vl t.2.1, vi t.2.2.1, vi t.2.2.2], [])
theorem enc0I : ∀ a b, enc0 a = enc0 b → a = b := by
  intro a b h
  obtain ⟨a0, a1, a2, a3⟩ := a
  obtain ⟨b0, b1, b2, b3⟩ := b
  simp [enc0, encRw_iff] at h
  simp_all
noncomputable def V0 : (ρ : Type) → List AV → List Ob → (Int → Option ρ) → Option ρ := fun ρ avs obs k0 => ofC enc0 (fun t => F0 fuelN t.1 t.2.1 t.2.2.1 t.2.2.2 k0) (avs, obs)
theorem V0_enc (ρ : Type) : (fun w1 w2 w3 w4 k0 => V0 ρ [vk .u64 w1, vl w2, vi w3, vi w4] [] k0) = F0 fuelN := by
  funext w1 w2 w3 w4 k0
  exact ofC_enc enc0I _ (w1, w2, w3, w4)
theorem main (Q0) (W0) {ρ : Type} (K : AV → List Ob → Option ρ) (a1) : exC Try.prog (G Q0) (L W0) [] 0 (bodyOf Try.f133) (entry 21 [vl a1] [] []) (finO Try.prog Try.f133.results.toList 0 [] [] K) =
    B (fun w1 w2 w3 w4 k0 => W0 ρ [vk .u64 w1, vl w2, vi w3, vi w4] [] k0) a1 (fun x1 => K (vk .u64 x1) []) := by kernel_rfl
theorem Gok : (G impl_inRange.Q).ok Try.prog := ⟨(by
    intro ρ f args K r h
    rcases sel_cases h with ⟨hb, h⟩ | ⟨-, h⟩
    · obtain rfl := beq_nat hb
      exact qEntry_ok impl_inRange.ac h
    cases h),
  (by
    intro ρ f args K
    simp only [G]
    cases Nat.beq f 32 with
    | true => exact qEntry_nat args K
    | false =>
    simp only [sel]
    rfl),
  (fun ρ f st caps args dst K r h => (by cases h))⟩
theorem hm : Try.prog.follows .mixedOrders = true := by kernel_rfl
theorem e0 : atomsL [] 1 c0 = [] := by kernel_rfl
theorem ok0 (ρ : Type) (st : St) (K : Exit → St → Option ρ) (r : ρ) (h : (L V0) ρ 0 st K = some r) : AW Try.prog (.loop c0) st fun e st' => K e st' = some r := by
  refine loop_ok (ct := ct0) (lv := lv0) (n := 21) (m := 0) (ks := []) (j := 0) (jn := []) (L := (L V0)) Gok hm (by rw [e0]; exact Lor.ok_nil _ _) enc0I (fun k t => F0 k t.1 t.2.1 t.2.2.1 t.2.2.2 (fun z1 => K (.exit 0) (mkS 21 [3] [vk .u64 z1] [] []))) (fun t => rfl) (fun k t => ?_) (fun _ => fuelN) h
  refine (step0 impl_inRange.Q V0 K _ t.1 t.2.1 t.2.2.1 t.2.2.2).trans ?_
  rw [impl_inRange.wrap]
  refine congrArg (fun W => B0 impl_inRange.F t.1 t.2.1 t.2.2.1 t.2.2.2 W (fun z1 => K (.exit 0) (mkS 21 [3] [vk .u64 z1] [] []))) ?_
  funext u1 u2 u3 u4
  exact ofC_enc enc0I _ (u1, u2, u3, u4)
theorem e : atomsL [] 0 (bodyOf Try.f133) = [(0, 0, .loop c0)] := by kernel_rfl
theorem acc (t : Vec Int) (x : Int) (h : F t = some x) : ACc Try.prog 133 (encA t) [] true [] fun rv obs => (rv, obs) = encR x := by
  refine fun_okc (L := (L V0)) (jn := []) (cmds := []) (ks := []) (hin := []) (fn := Try.f133) (body := (bodyOf Try.f133)) Gok hm Try.func133 (by kernel_rfl) (by kernel_rfl) (by rw [e]; exact Lor.ok_cons ok0 (Lor.ok_nil _ _)) ?_ h
  refine (main impl_inRange.Q V0 _ t).trans ?_
  rw [V0_enc]
  refine congrArg (fun K => B (F0 fuelN) t K) ?_
  funext x1
  exact ofC_enc encRI some (x1)
theorem ac0 (t : Vec Int) (x : Int) (h : F t = some x) : AC Try.prog 133 (encA t) [] true [] fun rv obs => (rv, obs) = encR x := ACc.ac (body := bodyOf Try.f133) Try.func133 (by kernel_rfl) (by kernel_rfl) (acc t x h)
theorem ac (args : List AV) (x : Int) (h : Q args = some x) : AC Try.prog 133 args [] false [] fun rv obs => (rv, obs) = encR x := by
  obtain ⟨t, rfl, h2⟩ := ofC_some h
  refine (ac0 t x h2).flat fun rv obs e => ?_
  obtain rfl : rv = (encR x).1 := congrArg Prod.fst e
  obtain rfl : obs = (encR x).2 := congrArg Prod.snd e
  refine ⟨by simp [encR, AV.Flat, K.Flat, C.Flat], ?_⟩
  simp [encR]
end impl_setOf
/-! (loop.example/g00073/impl.Body).isLive -/
namespace impl_Body_isLive
noncomputable def B {ρ : Type} (C0 : Int → Int → Option Bool) (C1 : (Vec Int) → Option Int) (a1 : ByteArray) (a2 : Int) (a3 : Int) (a4 : Vec Int) (a5 : Int) (K : Bool → Option ρ) : Option ρ :=
  (C0 a5 a2).bind fun r1 => sel (r1) ((C1 a4).bind fun r2 => K (decide ((bAnd .u64 r2 a5) = (0 : Int)))) (K false)
noncomputable def F (a1 : ByteArray) (a2 : Int) (a3 : Int) (a4 : Vec Int) (a5 : Int) : Option Bool := B impl_set_has.F impl_setOf.F a1 a2 a3 a4 a5 (fun x1 => some (x1))
def encA (t : ByteArray × Int × Int × Vec Int × Int) : List AV := [.a [cs t.1, ci t.2.1, ci t.2.2.1, cl t.2.2.2.1], vk .u64 t.2.2.2.2]
def encR (x : Bool) : AV × List Ob := (vb x, [])
theorem encAI : ∀ a b, encA a = encA b → a = b := by
  intro a b h
  obtain ⟨a0, a1, a2, a3, a4⟩ := a
  obtain ⟨b0, b1, b2, b3, b4⟩ := b
  simp [encA, encRw_iff] at h
  simp_all
theorem encRI : ∀ a b, encR a = encR b → a = b := by
  intro a b h
  simp [encR, encRw_iff] at h
  simp_all
noncomputable def Q (args : List AV) : Option Bool := ofC encA (fun t => F t.1 t.2.1 t.2.2.1 t.2.2.2.1 t.2.2.2.2) args
theorem wrap : (fun (y1 : ByteArray) (y2 : Int) (y3 : Int) (y4 : Vec Int) (y5 : Int) => Q [.a [cs y1, ci y2, ci y3, cl y4], vk .u64 y5]) = F := by
  funext y1 y2 y3 y4 y5
  exact ofC_enc encAI _ (y1, y2, y3, y4, y5)
noncomputable def G (Q0 : List AV → Option Bool) (Q1 : List AV → Option Int) : Orc := ⟨fun f => sel (Nat.beq f 132) 0 (sel (Nat.beq f 133) 0 (9)), fun ρ f args K => sel (Nat.beq f 132) (qEntry impl_set_has.encR Q0 args K) (sel (Nat.beq f 133) (qEntry impl_setOf.encR Q1 args K) (Option.none)), noE, false⟩
noncomputable def L : Lor := fun ρ j st K => Option.none
theorem main (Q0 Q1) {ρ : Type} (K : AV → List Ob → Option ρ) (a1 a2 a3 a4 a5) : exC Try.prog (G Q0 Q1) (L) [] 0 (bodyOf Try.f107) (entry 17 [.a [cs a1, ci a2, ci a3, cl a4], vk .u64 a5] [] []) (finO Try.prog Try.f107.results.toList 0 [] [] K) =
    B (fun y1 y2 => Q0 [vk .u64 y1, vi y2]) (fun y1 => Q1 [vl y1]) a1 a2 a3 a4 a5 (fun x1 => K (vb x1) []) := by kernel_rfl
theorem Gok : (G impl_set_has.Q impl_setOf.Q).ok Try.prog := ⟨(by
    intro ρ f args K r h
    rcases sel_cases h with ⟨hb, h⟩ | ⟨-, h⟩
    · obtain rfl := beq_nat hb
      exact qEntry_ok impl_set_has.ac h
    rcases sel_cases h with ⟨hb, h⟩ | ⟨-, h⟩
    · obtain rfl := beq_nat hb
      exact qEntry_ok impl_setOf.ac h
    cases h),
  (by
    intro ρ f args K
    simp only [G]
    cases Nat.beq f 132 with
    | true => exact qEntry_nat args K
    | false =>
    simp only [sel]
    cases Nat.beq f 133 with
    | true => exact qEntry_nat args K
    | false =>
    simp only [sel]
    rfl),
  (fun ρ f st caps args dst K r h => (by cases h))⟩
theorem hm : Try.prog.follows .mixedOrders = true := by kernel_rfl
theorem e : atomsL [] 0 (bodyOf Try.f107) = [] := by kernel_rfl
theorem acc (t : ByteArray × Int × Int × Vec Int × Int) (x : Bool) (h : F t.1 t.2.1 t.2.2.1 t.2.2.2.1 t.2.2.2.2 = some x) : ACc Try.prog 107 (encA t) [] true [] fun rv obs => (rv, obs) = encR x := by
  refine fun_okc (L := (L)) (jn := []) (cmds := []) (ks := []) (hin := []) (fn := Try.f107) (body := (bodyOf Try.f107)) Gok hm Try.func107 (by kernel_rfl) (by kernel_rfl) (by rw [e]; exact Lor.ok_nil _ _) ?_ h
  refine (main impl_set_has.Q impl_setOf.Q _ t.1 t.2.1 t.2.2.1 t.2.2.2.1 t.2.2.2.2).trans ?_
  rw [impl_set_has.wrap, impl_setOf.wrap]
  refine congrArg (fun K => B impl_set_has.F impl_setOf.F t.1 t.2.1 t.2.2.1 t.2.2.2.1 t.2.2.2.2 K) ?_
  funext x1
  exact ofC_enc encRI some (x1)
theorem ac0 (t : ByteArray × Int × Int × Vec Int × Int) (x : Bool) (h : F t.1 t.2.1 t.2.2.1 t.2.2.2.1 t.2.2.2.2 = some x) : AC Try.prog 107 (encA t) [] true [] fun rv obs => (rv, obs) = encR x := ACc.ac (body := bodyOf Try.f107) Try.func107 (by kernel_rfl) (by kernel_rfl) (acc t x h)
theorem ac (args : List AV) (x : Bool) (h : Q args = some x) : AC Try.prog 107 args [] false [] fun rv obs => (rv, obs) = encR x := by
  obtain ⟨t, rfl, h2⟩ := ofC_some h
  refine (ac0 t x h2).flat fun rv obs e => ?_
  obtain rfl : rv = (encR x).1 := congrArg Prod.fst e
  obtain rfl : obs = (encR x).2 := congrArg Prod.snd e
  refine ⟨by simp [encR, AV.Flat, K.Flat, C.Flat], ?_⟩
  simp [encR]
end impl_Body_isLive
/-! (*loop.example/g00073/impl.Weave).liveIn -/
namespace impl_Weave_liveIn
noncomputable def B0 {ρ : Type} (C0 : ByteArray → Int → Int → (Vec Int) → Int → Option Bool) (v1 : Int) (v2 : Vec (ByteArray × Int × Int × (Vec Int))) (v3 : Int) (v4 : Int) (v5 : Vec Int) (W : Int → (Vec (ByteArray × Int × Int × (Vec Int))) → Int → Int → (Vec Int) → Option ρ) (K0 : (Vec Int) → Option ρ) : Option ρ :=
  sel (decide (v4 < v3)) (chk (decide (0 ≤ v4 ∧ v4 < (v2.n : Int))) ((C0 ((v2.g v4.toNat).1) ((v2.g v4.toNat).2.1) ((v2.g v4.toNat).2.2.1) ((v2.g v4.toNat).2.2.2) v1).bind fun r1 => sel (r1) (chk (decide ((v5.n + (Vec.lit [v4] : Vec Int).n) * 9 ≤ maxN)) (W v1 v2 v3 (wr (v4 + (1 : Int))) (Vec.app v5 (Vec.lit [v4] : Vec Int)))) (W v1 v2 v3 (wr (v4 + (1 : Int))) v5))) (K0 v5)
noncomputable def F0 {ρ : Type} : Nat → Int → (Vec (ByteArray × Int × Int × (Vec Int))) → Int → Int → (Vec Int) → ((Vec Int) → Option ρ) → Option ρ
  | 0, _, _, _, _, _, _ => none
  | k + 1, v1, v2, v3, v4, v5, K0 => B0 impl_Body_isLive.F v1 v2 v3 v4 v5 (fun v1' v2' v3' v4' v5' => F0 k v1' v2' v3' v4' v5' K0) K0
noncomputable def B {ρ : Type} (L0 : Int → (Vec (ByteArray × Int × Int × (Vec Int))) → Int → Int → (Vec Int) → ((Vec Int) → Option ρ) → Option ρ) (a1 : Vec (Vec Int)) (a2 : Vec (ByteArray × Int × Int × (Vec Int))) (a3 : Int) (K : (Vec Int) → Option ρ) : Option ρ :=
  L0 a3 a2 (a2.n : Int) (0 : Int) (Vec.nil : Vec Int) (fun e01 => K e01)
noncomputable def F (a1 : Vec (Vec Int)) (a2 : Vec (ByteArray × Int × Int × (Vec Int))) (a3 : Int) : Option (Vec Int) := B (F0 fuelN) a1 a2 a3 (fun x1 => some (x1))
def encA (t : Vec (Vec Int) × (Vec (ByteArray × Int × Int × (Vec Int))) × Int) : List AV := [.ra [nl t.1, nl t.2.1], vk .u64 t.2.2]
def encR (x : Vec Int) : AV × List Ob := (.c (.h 0), [ro x])
theorem encAI : ∀ a b, encA a = encA b → a = b := by
  intro a b h
  obtain ⟨a0, a1, a2⟩ := a
  obtain ⟨b0, b1, b2⟩ := b
  simp [encA, encRw_iff] at h
  simp_all
theorem encRI : ∀ a b, encR a = encR b → a = b := by
  intro a b h
  simp [encR, encRw_iff] at h
  simp_all
noncomputable def Q (args : List AV) : Option (Vec Int) := ofC encA (fun t => F t.1 t.2.1 t.2.2) args
theorem wrap : (fun (y1 : Vec (Vec Int)) (y2 : Vec (ByteArray × Int × Int × (Vec Int))) (y3 : Int) => Q [.ra [nl y1, nl y2], vk .u64 y3]) = F := by
  funext y1 y2 y3
  exact ofC_enc encAI _ (y1, y2, y3)
noncomputable def G (Q0 : List AV → Option Bool) : Orc := ⟨fun f => sel (Nat.beq f 107) 0 (9), fun ρ f args K => sel (Nat.beq f 107) (qEntry impl_Body_isLive.encR Q0 args K) (Option.none), noE, false⟩
noncomputable def L (W0 : (ρ : Type) → List AV → List Ob → ((Vec Int) → Option ρ) → Option ρ) : Lor := fun ρ j st K => sel (Nat.beq j 0) (cutO Try.prog 27 [1, 5, 11, 12, 13] 0 [] [.ad (.s 5) 23] st fun avs obs => W0 ρ avs obs (fun z1 => K (.exit 0) (mkS 27 [5] [.c (.h 0)] [ro z1] []))) (Option.none)
noncomputable def c0 : Code := loopC (atomN [] 0 (bodyOf Try.f109) 0)
def ct0 : Cut := ⟨[1, 5, 11, 12, 13], [.ad (.s 5) 23]⟩
def lv0 : Exit → Cut
  | .exit 0 => ⟨[5], []⟩
  | _ => ⟨[], []⟩
theorem step0 (Q0) (W0) {ρ : Type} (K : Exit → St → Option ρ) (W : List AV → List Ob → Option ρ) (v1 v2 v3 v4 v5) : exC Try.prog (G Q0) (L W0) [] 1 c0 (mkS 27 [1, 5, 11, 12, 13] [vk .u64 v1, .c (.h 0), vl v2, vi v3, vi v4] [ro v5] []) (bodyK Try.prog 27 0 [] ct0 W lv0 K) =
    B0 (fun y1 y2 y3 y4 y5 => Q0 [.a [cs y1, ci y2, ci y3, cl y4], vk .u64 y5]) v1 v2 v3 v4 v5 (fun u1 u2 u3 u4 u5 => W [vk .u64 u1, .c (.h 0), vl u2, vi u3, vi u4] [ro u5]) (fun z1 => K (.exit 0) (mkS 27 [5] [.c (.h 0)] [ro z1] [])) := by kernel_rfl
def enc0 (t : Int × (Vec (ByteArray × Int × Int × (Vec Int))) × Int × Int × Vec Int) : List AV × List Ob := ([vk .u64 t.1, .c (.h 0), vl t.2.1, vi t.2.2.1, vi t.2.2.2.1], [ro t.2.2.2.2])
theorem enc0I : ∀ a b, enc0 a = enc0 b → a = b := by
  intro a b h
  obtain ⟨a0, a1, a2, a3, a4⟩ := a
  obtain ⟨b0, b1, b2, b3, b4⟩ := b
  simp [enc0, encRw_iff] at h
  simp_all
noncomputable def V0 : (ρ : Type) → List AV → List Ob → ((Vec Int) → Option ρ) → Option ρ := fun ρ avs obs k0 => ofC enc0 (fun t => F0 fuelN t.1 t.2.1 t.2.2.1 t.2.2.2.1 t.2.2.2.2 k0) (avs, obs)
theorem V0_enc (ρ : Type) : (fun w1 w2 w3 w4 w5 k0 => V0 ρ [vk .u64 w1, .c (.h 0), vl w2, vi w3, vi w4] [ro w5] k0) = F0 fuelN := by
  funext w1 w2 w3 w4 w5 k0
  exact ofC_enc enc0I _ (w1, w2, w3, w4, w5)
theorem main (Q0) (W0) {ρ : Type} (K : AV → List Ob → Option ρ) (a1 a2 a3) : exC Try.prog (G Q0) (L W0) [] 0 (bodyOf Try.f109) (entry 27 [.ra [nl a1, nl a2], vk .u64 a3] [] []) (finO Try.prog Try.f109.results.toList 0 [] [] K) =
    B (fun w1 w2 w3 w4 w5 k0 => W0 ρ [vk .u64 w1, .c (.h 0), vl w2, vi w3, vi w4] [ro w5] k0) a1 a2 a3 (fun x1 => K (.c (.h 0)) [ro x1]) := by kernel_rfl
theorem Gok : (G impl_Body_isLive.Q).ok Try.prog := ⟨(by
    intro ρ f args K r h
    rcases sel_cases h with ⟨hb, h⟩ | ⟨-, h⟩
    · obtain rfl := beq_nat hb
      exact qEntry_ok impl_Body_isLive.ac h
    cases h),
  (by
    intro ρ f args K
    simp only [G]
    cases Nat.beq f 107 with
    | true => exact qEntry_nat args K
    | false =>
    simp only [sel]
    rfl),
  (fun ρ f st caps args dst K r h => (by cases h))⟩
theorem hm : Try.prog.follows .mixedOrders = true := by kernel_rfl
theorem e0 : atomsL [] 1 c0 = [] := by kernel_rfl
theorem ok0 (ρ : Type) (st : St) (K : Exit → St → Option ρ) (r : ρ) (h : (L V0) ρ 0 st K = some r) : AW Try.prog (.loop c0) st fun e st' => K e st' = some r := by
  refine loop_ok (ct := ct0) (lv := lv0) (n := 27) (m := 0) (ks := []) (j := 0) (jn := []) (L := (L V0)) Gok hm (by rw [e0]; exact Lor.ok_nil _ _) enc0I (fun k t => F0 k t.1 t.2.1 t.2.2.1 t.2.2.2.1 t.2.2.2.2 (fun z1 => K (.exit 0) (mkS 27 [5] [.c (.h 0)] [ro z1] []))) (fun t => rfl) (fun k t => ?_) (fun _ => fuelN) h
  refine (step0 impl_Body_isLive.Q V0 K _ t.1 t.2.1 t.2.2.1 t.2.2.2.1 t.2.2.2.2).trans ?_
  rw [impl_Body_isLive.wrap]
  refine congrArg (fun W => B0 impl_Body_isLive.F t.1 t.2.1 t.2.2.1 t.2.2.2.1 t.2.2.2.2 W (fun z1 => K (.exit 0) (mkS 27 [5] [.c (.h 0)] [ro z1] []))) ?_
  funext u1 u2 u3 u4 u5
  exact ofC_enc enc0I _ (u1, u2, u3, u4, u5)
theorem e : atomsL [] 0 (bodyOf Try.f109) = [(0, 0, .loop c0)] := by kernel_rfl
theorem acc (t : Vec (Vec Int) × (Vec (ByteArray × Int × Int × (Vec Int))) × Int) (x : Vec Int) (h : F t.1 t.2.1 t.2.2 = some x) : ACc Try.prog 109 (encA t) [] true [] fun rv obs => (rv, obs) = encR x := by
  refine fun_okc (L := (L V0)) (jn := []) (cmds := []) (ks := []) (hin := []) (fn := Try.f109) (body := (bodyOf Try.f109)) Gok hm Try.func109 (by kernel_rfl) (by kernel_rfl) (by rw [e]; exact Lor.ok_cons ok0 (Lor.ok_nil _ _)) ?_ h
  refine (main impl_Body_isLive.Q V0 _ t.1 t.2.1 t.2.2).trans ?_
  rw [V0_enc]
  refine congrArg (fun K => B (F0 fuelN) t.1 t.2.1 t.2.2 K) ?_
  funext x1
  exact ofC_enc encRI some (x1)
theorem ac0 (t : Vec (Vec Int) × (Vec (ByteArray × Int × Int × (Vec Int))) × Int) (x : Vec Int) (h : F t.1 t.2.1 t.2.2 = some x) : AC Try.prog 109 (encA t) [] true [] fun rv obs => (rv, obs) = encR x := ACc.ac (body := bodyOf Try.f109) Try.func109 (by kernel_rfl) (by kernel_rfl) (acc t x h)
theorem ac (args : List AV) (x : Vec Int) (h : Q args = some x) : AC Try.prog 109 args [] false [] fun rv obs => (rv, obs) = encR x := by
  obtain ⟨t, rfl, h2⟩ := ofC_some h
  refine (ac0 t x h2).flat fun rv obs e => ?_
  obtain rfl : rv = (encR x).1 := congrArg Prod.fst e
  obtain rfl : obs = (encR x).2 := congrArg Prod.snd e
  refine ⟨by simp [encR, AV.Flat, K.Flat, C.Flat], ?_⟩
  intro o ho
  simp only [encR, List.mem_cons, List.not_mem_nil, or_false] at ho
  subst ho
  exact flat_rw rfl _
end impl_Weave_liveIn
/-! loop.example/g00073/impl.bodiesOk -/
namespace impl_bodiesOk
noncomputable def B2 {ρ : Type} (C5 : (Vec (Vec Int)) → (Vec (ByteArray × Int × Int × (Vec Int))) → Int → Option (Vec Int)) (v1 : Vec (IK .u64)) (v2 : Int) (v3 : Int) (v4 : Vec (Vec Int)) (v5 : Vec (ByteArray × Int × Int × (Vec Int))) (v6 : Vec Int) (W : (Vec (IK .u64)) → Int → Int → (Vec (Vec Int)) → (Vec (ByteArray × Int × Int × (Vec Int))) → (Vec Int) → Option ρ) (K4 : Unit → Option ρ) (Kr : Bool → Option ρ) : Option ρ :=
  sel (decide (v3 < v2)) (chk (decide (0 ≤ v3 ∧ v3 < (v1.n : Int))) (chk (decide (0 ≤ v3 ∧ v3 < (v6.n : Int))) (chk (decide (v3.toNat < v6.n)) (sel (decide ((80 : Int) < (v6.g v3.toNat))) (Kr false) ((C5 v4 v5 ((v1.g v3.toNat).v)).bind fun r6 => sel (decide ((80 : Int) < (r6.n : Int))) (Kr false) (W v1 v2 (wr (v3 + (1 : Int))) v4 v5 v6)))))) (K4 ())
noncomputable def F2 {ρ : Type} : Nat → (Vec (IK .u64)) → Int → Int → (Vec (Vec Int)) → (Vec (ByteArray × Int × Int × (Vec Int))) → (Vec Int) → (Unit → Option ρ) → (Bool → Option ρ) → Option ρ
  | 0, _, _, _, _, _, _, _, _ => none
  | k + 1, v1, v2, v3, v4, v5, v6, K4, Kr => B2 impl_Weave_liveIn.F v1 v2 v3 v4 v5 v6 (fun v1' v2' v3' v4' v5' v6' => F2 k v1' v2' v3' v4' v5' v6' K4 Kr) K4 Kr
noncomputable def B1 {ρ : Type} (C3 : (Vec (IK .u64)) → (Vec Int) → Option Int) (C4 : ByteArray → Int → Int → (Vec Int) → Int → Option Bool) (v1 : Vec (IK .u64)) (v2 : Vec (ByteArray × Int × Int × (Vec Int))) (v3 : Int) (v4 : Int) (v5 : Vec Int) (v6 : Int) (v7 : Int) (v8 : Vec (Vec Int)) (v9 : Vec (ByteArray × Int × Int × (Vec Int))) (v10 : Vec Int) (v11 : ByteArray) (v12 : Int) (v13 : Int) (v14 : Vec Int) (W : (Vec (IK .u64)) → (Vec (ByteArray × Int × Int × (Vec Int))) → Int → Int → (Vec Int) → Int → Int → (Vec (Vec Int)) → (Vec (ByteArray × Int × Int × (Vec Int))) → (Vec Int) → ByteArray → Int → Int → (Vec Int) → Option ρ) (K2 : (Vec (IK .u64)) → (Vec (ByteArray × Int × Int × (Vec Int))) → Int → Int → (Vec (Vec Int)) → (Vec (ByteArray × Int × Int × (Vec Int))) → (Vec Int) → Option ρ) (Kr : Bool → Option ρ) : Option ρ :=
  sel (decide (v7 < v6)) (chk (decide (0 ≤ v7 ∧ v7 < (v5.n : Int))) (chk (decide (0 ≤ (v5.g v7.toNat) ∧ (v5.g v7.toNat) < (v8.n : Int))) ((C3 v1 (v8.g (v5.g v7.toNat).toNat)).bind fun r4 => (C4 v11 v12 v13 v14 r4).bind fun r5 => sel ((!r5)) (Kr false) (W v1 v2 v3 v4 v5 v6 (wr (v7 + (1 : Int))) v8 v9 v10 v11 v12 v13 v14)))) (K2 v1 v2 v3 v4 v8 v9 v10)
noncomputable def F1 {ρ : Type} : Nat → (Vec (IK .u64)) → (Vec (ByteArray × Int × Int × (Vec Int))) → Int → Int → (Vec Int) → Int → Int → (Vec (Vec Int)) → (Vec (ByteArray × Int × Int × (Vec Int))) → (Vec Int) → ByteArray → Int → Int → (Vec Int) → ((Vec (IK .u64)) → (Vec (ByteArray × Int × Int × (Vec Int))) → Int → Int → (Vec (Vec Int)) → (Vec (ByteArray × Int × Int × (Vec Int))) → (Vec Int) → Option ρ) → (Bool → Option ρ) → Option ρ
  | 0, _, _, _, _, _, _, _, _, _, _, _, _, _, _, _, _ => none
  | k + 1, v1, v2, v3, v4, v5, v6, v7, v8, v9, v10, v11, v12, v13, v14, K2, Kr => B1 impl_unionOf.F impl_Body_isLive.F v1 v2 v3 v4 v5 v6 v7 v8 v9 v10 v11 v12 v13 v14 (fun v1' v2' v3' v4' v5' v6' v7' v8' v9' v10' v11' v12' v13' v14' => F1 k v1' v2' v3' v4' v5' v6' v7' v8' v9' v10' v11' v12' v13' v14' K2 Kr) K2 Kr
noncomputable def B0 {ρ : Type} (C0 : ByteArray → Option Bool) (C1 : Int → Int → Option Bool) (C2 : (Vec Int) → Int → Option Bool) (L1 : (Vec (IK .u64)) → (Vec (ByteArray × Int × Int × (Vec Int))) → Int → Int → (Vec Int) → Int → Int → (Vec (Vec Int)) → (Vec (ByteArray × Int × Int × (Vec Int))) → (Vec Int) → ByteArray → Int → Int → (Vec Int) → ((Vec (IK .u64)) → (Vec (ByteArray × Int × Int × (Vec Int))) → Int → Int → (Vec (Vec Int)) → (Vec (ByteArray × Int × Int × (Vec Int))) → (Vec Int) → Option ρ) → (Bool → Option ρ) → Option ρ) (v1 : Vec (IK .u64)) (v2 : Vec (ByteArray × Int × Int × (Vec Int))) (v3 : Int) (v4 : Int) (v5 : Vec (Vec Int)) (v6 : Vec (ByteArray × Int × Int × (Vec Int))) (v7 : Vec Int) (W : (Vec (IK .u64)) → (Vec (ByteArray × Int × Int × (Vec Int))) → Int → Int → (Vec (Vec Int)) → (Vec (ByteArray × Int × Int × (Vec Int))) → (Vec Int) → Option ρ) (K0 : (Vec (IK .u64)) → (Vec (Vec Int)) → (Vec (ByteArray × Int × Int × (Vec Int))) → (Vec Int) → Option ρ) (Kr : Bool → Option ρ) : Option ρ :=
  sel (decide (v4 < v3)) (chk (decide (0 ≤ v4 ∧ v4 < (v2.n : Int))) ((C0 ((v2.g v4.toNat).1)).bind fun r1 => sel ((!r1)) (Kr false) ((C1 ((v2.g v4.toNat).2.1) (v1.n : Int)).bind fun r2 => sel ((!r2)) (Kr false) (chk (decide (0 ≤ (v2.g v4.toNat).2.1 ∧ (v2.g v4.toNat).2.1 < (v7.n : Int))) (chk (decide (((v2.g v4.toNat).2.1).toNat < v7.n)) (sel ((!decide ((v2.g v4.toNat).2.2.1 = (v7.g (((v2.g v4.toNat).2.1).toNat))))) (Kr false) ((C2 ((v2.g v4.toNat).2.2.2) (v1.n : Int)).bind fun r3 => sel ((!r3)) (Kr false) (chk (decide (0 ≤ (v2.g v4.toNat).2.1 ∧ (v2.g v4.toNat).2.1 < (v7.n : Int))) (chk (decide (((v2.g v4.toNat).2.1).toNat < v7.n)) (chk (decide (0 ≤ (v2.g v4.toNat).2.1 ∧ (v2.g v4.toNat).2.1 < (v7.n : Int))) (chk (decide (((v2.g v4.toNat).2.1).toNat < v7.n)) (L1 v1 v2 v3 v4 ((v2.g v4.toNat).2.2.2) (((v2.g v4.toNat).2.2.2).n : Int) (0 : Int) v5 v6 (Vec.set v7 (((v2.g v4.toNat).2.1).toNat) (wr ((v7.g (((v2.g v4.toNat).2.1).toNat)) + (1 : Int)))) ((v2.g v4.toNat).1) ((v2.g v4.toNat).2.1) ((v2.g v4.toNat).2.2.1) ((v2.g v4.toNat).2.2.2) (fun e11 e12 e13 e14 e15 e16 e17 => W e11 e12 e13 (wr (e14 + (1 : Int))) e15 e16 e17) (fun x11 => Kr x11))))))))))))) (K0 v1 v5 v6 v7)
noncomputable def F0 {ρ : Type} : Nat → (Vec (IK .u64)) → (Vec (ByteArray × Int × Int × (Vec Int))) → Int → Int → (Vec (Vec Int)) → (Vec (ByteArray × Int × Int × (Vec Int))) → (Vec Int) → ((Vec (IK .u64)) → (Vec (Vec Int)) → (Vec (ByteArray × Int × Int × (Vec Int))) → (Vec Int) → Option ρ) → (Bool → Option ρ) → Option ρ
  | 0, _, _, _, _, _, _, _, _, _ => none
  | k + 1, v1, v2, v3, v4, v5, v6, v7, K0, Kr => B0 impl_LineOk.F impl_isPlace.F impl_ascends.F (F1 fuelN) v1 v2 v3 v4 v5 v6 v7 (fun v1' v2' v3' v4' v5' v6' v7' => F0 k v1' v2' v3' v4' v5' v6' v7' K0 Kr) K0 Kr
noncomputable def B {ρ : Type} (L0 : (Vec (IK .u64)) → (Vec (ByteArray × Int × Int × (Vec Int))) → Int → Int → (Vec (Vec Int)) → (Vec (ByteArray × Int × Int × (Vec Int))) → (Vec Int) → ((Vec (IK .u64)) → (Vec (Vec Int)) → (Vec (ByteArray × Int × Int × (Vec Int))) → (Vec Int) → Option ρ) → (Bool → Option ρ) → Option ρ) (L2 : (Vec (IK .u64)) → Int → Int → (Vec (Vec Int)) → (Vec (ByteArray × Int × Int × (Vec Int))) → (Vec Int) → (Unit → Option ρ) → (Bool → Option ρ) → Option ρ) (a1 : Vec (Vec Int)) (a2 : Vec (ByteArray × Int × Int × (Vec Int))) (a3 : Vec (IK .u64)) (K : Bool → Option ρ) : Option ρ :=
  chk (decide ((a3.n : Int) = (a3.n : Int) ∧ 0 ≤ (a3.n : Int))) (chk (mkOk (a3.n : Int) 8) (L0 a3 a2 (a2.n : Int) (0 : Int) a1 a2 (Vec.rep ((a3.n : Int).toNat) (0 : Int) : Vec Int) (fun e01 e02 e03 e04 => L2 e01 (e01.n : Int) (0 : Int) e02 e03 e04 (fun _ => K true) (fun x21 => K x21)) (fun x01 => K x01)))
noncomputable def F (a1 : Vec (Vec Int)) (a2 : Vec (ByteArray × Int × Int × (Vec Int))) (a3 : Vec (IK .u64)) : Option Bool := B (F0 fuelN) (F2 fuelN) a1 a2 a3 (fun x1 => some (x1))
def encA (t : Vec (Vec Int) × (Vec (ByteArray × Int × Int × (Vec Int))) × Vec (IK .u64)) : List AV := [.a [cl t.1, cl t.2.1], vl t.2.2]
def encR (x : Bool) : AV × List Ob := (vb x, [])
theorem encAI : ∀ a b, encA a = encA b → a = b := by
  intro a b h
  obtain ⟨a0, a1, a2⟩ := a
  obtain ⟨b0, b1, b2⟩ := b
  simp [encA, encRw_iff] at h
  simp_all
theorem encRI : ∀ a b, encR a = encR b → a = b := by
  intro a b h
  simp [encR, encRw_iff] at h
  simp_all
noncomputable def Q (args : List AV) : Option Bool := ofC encA (fun t => F t.1 t.2.1 t.2.2) args
theorem wrap : (fun (y1 : Vec (Vec Int)) (y2 : Vec (ByteArray × Int × Int × (Vec Int))) (y3 : Vec (IK .u64)) => Q [.a [cl y1, cl y2], vl y3]) = F := by
  funext y1 y2 y3
  exact ofC_enc encAI _ (y1, y2, y3)
noncomputable def G (Q0 : List AV → Option Bool) (Q1 : List AV → Option Bool) (Q2 : List AV → Option Bool) (Q3 : List AV → Option Int) (Q4 : List AV → Option Bool) (Q5 : List AV → Option (Vec Int)) : Orc := ⟨fun f => sel (Nat.beq f 105) 0 (sel (Nat.beq f 106) 0 (sel (Nat.beq f 62) 0 (sel (Nat.beq f 108) 0 (sel (Nat.beq f 107) 0 (sel (Nat.beq f 109) 0 (9)))))), fun ρ f args K => sel (Nat.beq f 105) (qEntry impl_LineOk.encR Q0 args K) (sel (Nat.beq f 106) (qEntry impl_isPlace.encR Q1 args K) (sel (Nat.beq f 62) (qEntry impl_ascends.encR Q2 args K) (sel (Nat.beq f 108) (qEntry impl_unionOf.encR Q3 args K) (sel (Nat.beq f 107) (qEntry impl_Body_isLive.encR Q4 args K) (sel (Nat.beq f 109) (qEntry impl_Weave_liveIn.encR Q5 args K) (Option.none)))))), noE, false⟩
noncomputable def L (W2 : (ρ : Type) → List AV → List Ob → (Unit → Option ρ) → (Bool → Option ρ) → Option ρ) (W1 : (ρ : Type) → List AV → List Ob → ((Vec (IK .u64)) → (Vec (ByteArray × Int × Int × (Vec Int))) → Int → Int → (Vec (Vec Int)) → (Vec (ByteArray × Int × Int × (Vec Int))) → (Vec Int) → Option ρ) → (Bool → Option ρ) → Option ρ) (W0 : (ρ : Type) → List AV → List Ob → ((Vec (IK .u64)) → (Vec (Vec Int)) → (Vec (ByteArray × Int × Int × (Vec Int))) → (Vec Int) → Option ρ) → (Bool → Option ρ) → Option ρ) : Lor := fun ρ j st K => sel (Nat.beq j 0) (cutO Try.prog 97 [1, 2, 5, 16, 17, 18] 0 [] [] st fun avs obs => W0 ρ avs obs (fun z1 z2 z3 z4 => K (.exit 0) (mkS 97 [1, 2, 5] [vl z1, .c (.p 0 0), .c (.h 1)] [.box [cl z2, cl z3], ro z4] [])) (fun z1 => K .ret (mkS 97 [4] [vb z1] [] []))) (sel (Nat.beq j 1) (cutO Try.prog 97 [1, 2, 5, 7, 16, 17, 18, 60, 61, 62] 0 [] [] st fun avs obs => W1 ρ avs obs (fun z1 z2 z3 z4 z5 z6 z7 => K (.exit 2) (mkS 97 [1, 2, 5, 16, 17, 18] [vl z1, .c (.p 0 0), .c (.h 1), vl z2, vi z3, vi z4] [.box [cl z5, cl z6], ro z7] [])) (fun z1 => K .ret (mkS 97 [4] [vb z1] [] []))) (sel (Nat.beq j 2) (cutO Try.prog 97 [2, 5, 78, 79, 80] 0 [] [] st fun avs obs => W2 ρ avs obs (fun _ => K (.exit 4) (mkS 97 [] [] [] [])) (fun z1 => K .ret (mkS 97 [4] [vb z1] [] []))) (Option.none)))
noncomputable def c0 : Code := loopC (atomN [] 0 (bodyOf Try.f73) 0)
noncomputable def c1 : Code := loopC (atomN [] 1 c0 0)
noncomputable def c2 : Code := loopC (atomN [] 0 (bodyOf Try.f73) 1)
def ct0 : Cut := ⟨[1, 2, 5, 16, 17, 18], []⟩
def lv0 : Exit → Cut
  | .exit 0 => ⟨[1, 2, 5], []⟩
  | .ret => ⟨[4], []⟩
  | _ => ⟨[], []⟩
theorem step0 (Q0 Q1 Q2 Q3 Q4 Q5) (W2 W1 W0) {ρ : Type} (K : Exit → St → Option ρ) (W : List AV → List Ob → Option ρ) (v1 v2 v3 v4 v5 v6 v7) : exC Try.prog (G Q0 Q1 Q2 Q3 Q4 Q5) (L W2 W1 W0) [] 1 c0 (mkS 97 [1, 2, 5, 16, 17, 18] [vl v1, .c (.p 0 0), .c (.h 1), vl v2, vi v3, vi v4] [.box [cl v5, cl v6], ro v7] []) (bodyK Try.prog 97 0 [] ct0 W lv0 K) =
    B0 (fun y1 => Q0 [vs y1]) (fun y1 y2 => Q1 [vi y1, vi y2]) (fun y1 y2 => Q2 [vl y1, vi y2]) (fun w1 w2 w3 w4 w5 w6 w7 w8 w9 w10 w11 w12 w13 w14 k2 kr => W1 ρ [vl w1, .c (.p 0 0), .c (.h 1), .c (.p 2 0), vl w2, vi w3, vi w4, vl w5, vi w6, vi w7] [.box [cl w8, cl w9], ro w10, .box [cs w11, ci w12, ci w13, cl w14]] k2 kr) v1 v2 v3 v4 v5 v6 v7 (fun u1 u2 u3 u4 u5 u6 u7 => W [vl u1, .c (.p 0 0), .c (.h 1), vl u2, vi u3, vi u4] [.box [cl u5, cl u6], ro u7]) (fun z1 z2 z3 z4 => K (.exit 0) (mkS 97 [1, 2, 5] [vl z1, .c (.p 0 0), .c (.h 1)] [.box [cl z2, cl z3], ro z4] [])) (fun z1 => K .ret (mkS 97 [4] [vb z1] [] [])) := by kernel_rfl
def enc0 (t : Vec (IK .u64) × (Vec (ByteArray × Int × Int × (Vec Int))) × Int × Int × Vec (Vec Int) × (Vec (ByteArray × Int × Int × (Vec Int))) × Vec Int) : List AV × List Ob := ([vl t.1, .c (.p 0 0), .c (.h 1), vl t.2.1, vi t.2.2.1, vi t.2.2.2.1], [.box [cl t.2.2.2.2.1, cl t.2.2.2.2.2.1], ro t.2.2.2.2.2.2])
theorem enc0I : ∀ a b, enc0 a = enc0 b → a = b := by
  intro a b h
  obtain ⟨a0, a1, a2, a3, a4, a5, a6⟩ := a
  obtain ⟨b0, b1, b2, b3, b4, b5, b6⟩ := b
  simp [enc0, encRw_iff] at h
  simp_all
noncomputable def V0 : (ρ : Type) → List AV → List Ob → ((Vec (IK .u64)) → (Vec (Vec Int)) → (Vec (ByteArray × Int × Int × (Vec Int))) → (Vec Int) → Option ρ) → (Bool → Option ρ) → Option ρ := fun ρ avs obs k0 kr => ofC enc0 (fun t => F0 fuelN t.1 t.2.1 t.2.2.1 t.2.2.2.1 t.2.2.2.2.1 t.2.2.2.2.2.1 t.2.2.2.2.2.2 k0 kr) (avs, obs)
theorem V0_enc (ρ : Type) : (fun w1 w2 w3 w4 w5 w6 w7 k0 kr => V0 ρ [vl w1, .c (.p 0 0), .c (.h 1), vl w2, vi w3, vi w4] [.box [cl w5, cl w6], ro w7] k0 kr) = F0 fuelN := by
  funext w1 w2 w3 w4 w5 w6 w7 k0 kr
  exact ofC_enc enc0I _ (w1, w2, w3, w4, w5, w6, w7)
def ct1 : Cut := ⟨[1, 2, 5, 7, 16, 17, 18, 60, 61, 62], []⟩
def lv1 : Exit → Cut
  | .exit 2 => ⟨[1, 2, 5, 16, 17, 18], []⟩
  | .ret => ⟨[4], []⟩
  | _ => ⟨[], []⟩
theorem step1 (Q0 Q1 Q2 Q3 Q4 Q5) (W2 W1 W0) {ρ : Type} (K : Exit → St → Option ρ) (W : List AV → List Ob → Option ρ) (v1 v2 v3 v4 v5 v6 v7 v8 v9 v10 v11 v12 v13 v14) : exC Try.prog (G Q0 Q1 Q2 Q3 Q4 Q5) (L W2 W1 W0) [] 2 c1 (mkS 97 [1, 2, 5, 7, 16, 17, 18, 60, 61, 62] [vl v1, .c (.p 0 0), .c (.h 1), .c (.p 2 0), vl v2, vi v3, vi v4, vl v5, vi v6, vi v7] [.box [cl v8, cl v9], ro v10, .box [cs v11, ci v12, ci v13, cl v14]] []) (bodyK Try.prog 97 0 [] ct1 W lv1 K) =
    B1 (fun y1 y2 => Q3 [vl y1, vl y2]) (fun y1 y2 y3 y4 y5 => Q4 [.a [cs y1, ci y2, ci y3, cl y4], vk .u64 y5]) v1 v2 v3 v4 v5 v6 v7 v8 v9 v10 v11 v12 v13 v14 (fun u1 u2 u3 u4 u5 u6 u7 u8 u9 u10 u11 u12 u13 u14 => W [vl u1, .c (.p 0 0), .c (.h 1), .c (.p 2 0), vl u2, vi u3, vi u4, vl u5, vi u6, vi u7] [.box [cl u8, cl u9], ro u10, .box [cs u11, ci u12, ci u13, cl u14]]) (fun z1 z2 z3 z4 z5 z6 z7 => K (.exit 2) (mkS 97 [1, 2, 5, 16, 17, 18] [vl z1, .c (.p 0 0), .c (.h 1), vl z2, vi z3, vi z4] [.box [cl z5, cl z6], ro z7] [])) (fun z1 => K .ret (mkS 97 [4] [vb z1] [] [])) := by kernel_rfl
def enc1 (t : Vec (IK .u64) × (Vec (ByteArray × Int × Int × (Vec Int))) × Int × Int × Vec Int × Int × Int × Vec (Vec Int) × (Vec (ByteArray × Int × Int × (Vec Int))) × Vec Int × ByteArray × Int × Int × Vec Int) : List AV × List Ob := ([vl t.1, .c (.p 0 0), .c (.h 1), .c (.p 2 0), vl t.2.1, vi t.2.2.1, vi t.2.2.2.1, vl t.2.2.2.2.1, vi t.2.2.2.2.2.1, vi t.2.2.2.2.2.2.1], [.box [cl t.2.2.2.2.2.2.2.1, cl t.2.2.2.2.2.2.2.2.1], ro t.2.2.2.2.2.2.2.2.2.1, .box [cs t.2.2.2.2.2.2.2.2.2.2.1, ci t.2.2.2.2.2.2.2.2.2.2.2.1, ci t.2.2.2.2.2.2.2.2.2.2.2.2.1, cl t.2.2.2.2.2.2.2.2.2.2.2.2.2]])
theorem enc1I : ∀ a b, enc1 a = enc1 b → a = b := by
  intro a b h
  obtain ⟨a0, a1, a2, a3, a4, a5, a6, a7, a8, a9, a10, a11, a12, a13⟩ := a
  obtain ⟨b0, b1, b2, b3, b4, b5, b6, b7, b8, b9, b10, b11, b12, b13⟩ := b
  simp [enc1, encRw_iff] at h
  simp_all
noncomputable def V1 : (ρ : Type) → List AV → List Ob → ((Vec (IK .u64)) → (Vec (ByteArray × Int × Int × (Vec Int))) → Int → Int → (Vec (Vec Int)) → (Vec (ByteArray × Int × Int × (Vec Int))) → (Vec Int) → Option ρ) → (Bool → Option ρ) → Option ρ := fun ρ avs obs k2 kr => ofC enc1 (fun t => F1 fuelN t.1 t.2.1 t.2.2.1 t.2.2.2.1 t.2.2.2.2.1 t.2.2.2.2.2.1 t.2.2.2.2.2.2.1 t.2.2.2.2.2.2.2.1 t.2.2.2.2.2.2.2.2.1 t.2.2.2.2.2.2.2.2.2.1 t.2.2.2.2.2.2.2.2.2.2.1 t.2.2.2.2.2.2.2.2.2.2.2.1 t.2.2.2.2.2.2.2.2.2.2.2.2.1 t.2.2.2.2.2.2.2.2.2.2.2.2.2 k2 kr) (avs, obs)
theorem V1_enc (ρ : Type) : (fun w1 w2 w3 w4 w5 w6 w7 w8 w9 w10 w11 w12 w13 w14 k2 kr => V1 ρ [vl w1, .c (.p 0 0), .c (.h 1), .c (.p 2 0), vl w2, vi w3, vi w4, vl w5, vi w6, vi w7] [.box [cl w8, cl w9], ro w10, .box [cs w11, ci w12, ci w13, cl w14]] k2 kr) = F1 fuelN := by
  funext w1 w2 w3 w4 w5 w6 w7 w8 w9 w10 w11 w12 w13 w14 k2 kr
  exact ofC_enc enc1I _ (w1, w2, w3, w4, w5, w6, w7, w8, w9, w10, w11, w12, w13, w14)
def ct2 : Cut := ⟨[2, 5, 78, 79, 80], []⟩
def lv2 : Exit → Cut
  | .exit 4 => ⟨[], []⟩
  | .ret => ⟨[4], []⟩
  | _ => ⟨[], []⟩
theorem step2 (Q0 Q1 Q2 Q3 Q4 Q5) (W2 W1 W0) {ρ : Type} (K : Exit → St → Option ρ) (W : List AV → List Ob → Option ρ) (v1 v2 v3 v4 v5 v6) : exC Try.prog (G Q0 Q1 Q2 Q3 Q4 Q5) (L W2 W1 W0) [] 3 c2 (mkS 97 [2, 5, 78, 79, 80] [.c (.p 0 0), .c (.h 1), vl v1, vi v2, vi v3] [.box [cl v4, cl v5], ro v6] []) (bodyK Try.prog 97 0 [] ct2 W lv2 K) =
    B2 (fun y1 y2 y3 => Q5 [.ra [nl y1, nl y2], vk .u64 y3]) v1 v2 v3 v4 v5 v6 (fun u1 u2 u3 u4 u5 u6 => W [.c (.p 0 0), .c (.h 1), vl u1, vi u2, vi u3] [.box [cl u4, cl u5], ro u6]) (fun _ => K (.exit 4) (mkS 97 [] [] [] [])) (fun z1 => K .ret (mkS 97 [4] [vb z1] [] [])) := by kernel_rfl
def enc2 (t : Vec (IK .u64) × Int × Int × Vec (Vec Int) × (Vec (ByteArray × Int × Int × (Vec Int))) × Vec Int) : List AV × List Ob := ([.c (.p 0 0), .c (.h 1), vl t.1, vi t.2.1, vi t.2.2.1], [.box [cl t.2.2.2.1, cl t.2.2.2.2.1], ro t.2.2.2.2.2])
theorem enc2I : ∀ a b, enc2 a = enc2 b → a = b := by
  intro a b h
  obtain ⟨a0, a1, a2, a3, a4, a5⟩ := a
  obtain ⟨b0, b1, b2, b3, b4, b5⟩ := b
  simp [enc2, encRw_iff] at h
  simp_all
noncomputable def V2 : (ρ : Type) → List AV → List Ob → (Unit → Option ρ) → (Bool → Option ρ) → Option ρ := fun ρ avs obs k4 kr => ofC enc2 (fun t => F2 fuelN t.1 t.2.1 t.2.2.1 t.2.2.2.1 t.2.2.2.2.1 t.2.2.2.2.2 k4 kr) (avs, obs)
theorem V2_enc (ρ : Type) : (fun w1 w2 w3 w4 w5 w6 k4 kr => V2 ρ [.c (.p 0 0), .c (.h 1), vl w1, vi w2, vi w3] [.box [cl w4, cl w5], ro w6] k4 kr) = F2 fuelN := by
  funext w1 w2 w3 w4 w5 w6 k4 kr
  exact ofC_enc enc2I _ (w1, w2, w3, w4, w5, w6)
theorem main (Q0 Q1 Q2 Q3 Q4 Q5) (W2 W1 W0) {ρ : Type} (K : AV → List Ob → Option ρ) (a1 a2 a3) : exC Try.prog (G Q0 Q1 Q2 Q3 Q4 Q5) (L W2 W1 W0) [] 0 (bodyOf Try.f73) (entry 97 [.a [cl a1, cl a2], vl a3] [] []) (finO Try.prog Try.f73.results.toList 0 [] [] K) =
    B (fun w1 w2 w3 w4 w5 w6 w7 k0 kr => W0 ρ [vl w1, .c (.p 0 0), .c (.h 1), vl w2, vi w3, vi w4] [.box [cl w5, cl w6], ro w7] k0 kr) (fun w1 w2 w3 w4 w5 w6 k4 kr => W2 ρ [.c (.p 0 0), .c (.h 1), vl w1, vi w2, vi w3] [.box [cl w4, cl w5], ro w6] k4 kr) a1 a2 a3 (fun x1 => K (vb x1) []) := by kernel_rfl
theorem Gok : (G impl_LineOk.Q impl_isPlace.Q impl_ascends.Q impl_unionOf.Q impl_Body_isLive.Q impl_Weave_liveIn.Q).ok Try.prog := ⟨(by
    intro ρ f args K r h
    rcases sel_cases h with ⟨hb, h⟩ | ⟨-, h⟩
    · obtain rfl := beq_nat hb
      exact qEntry_ok impl_LineOk.ac h
    rcases sel_cases h with ⟨hb, h⟩ | ⟨-, h⟩
    · obtain rfl := beq_nat hb
      exact qEntry_ok impl_isPlace.ac h
    rcases sel_cases h with ⟨hb, h⟩ | ⟨-, h⟩
    · obtain rfl := beq_nat hb
      exact qEntry_ok impl_ascends.ac h
    rcases sel_cases h with ⟨hb, h⟩ | ⟨-, h⟩
    · obtain rfl := beq_nat hb
      exact qEntry_ok impl_unionOf.ac h
    rcases sel_cases h with ⟨hb, h⟩ | ⟨-, h⟩
    · obtain rfl := beq_nat hb
      exact qEntry_ok impl_Body_isLive.ac h
    rcases sel_cases h with ⟨hb, h⟩ | ⟨-, h⟩
    · obtain rfl := beq_nat hb
      exact qEntry_ok impl_Weave_liveIn.ac h
    cases h),
  (by
    intro ρ f args K
    simp only [G]
    cases Nat.beq f 105 with
    | true => exact qEntry_nat args K
    | false =>
    simp only [sel]
    cases Nat.beq f 106 with
    | true => exact qEntry_nat args K
    | false =>
    simp only [sel]
    cases Nat.beq f 62 with
    | true => exact qEntry_nat args K
    | false =>
    simp only [sel]
    cases Nat.beq f 108 with
    | true => exact qEntry_nat args K
    | false =>
    simp only [sel]
    cases Nat.beq f 107 with
    | true => exact qEntry_nat args K
    | false =>
    simp only [sel]
    cases Nat.beq f 109 with
    | true => exact qEntry_nat args K
    | false =>
    simp only [sel]
    rfl),
  (fun ρ f st caps args dst K r h => (by cases h))⟩
theorem hm : Try.prog.follows .mixedOrders = true := by kernel_rfl
theorem e2 : atomsL [] 3 c2 = [] := by kernel_rfl
theorem ok2 (ρ : Type) (st : St) (K : Exit → St → Option ρ) (r : ρ) (h : (L V2 V1 V0) ρ 2 st K = some r) : AW Try.prog (.loop c2) st fun e st' => K e st' = some r := by
  refine loop_ok (ct := ct2) (lv := lv2) (n := 97) (m := 0) (ks := []) (j := 2) (jn := []) (L := (L V2 V1 V0)) Gok hm (by rw [e2]; exact Lor.ok_nil _ _) enc2I (fun k t => F2 k t.1 t.2.1 t.2.2.1 t.2.2.2.1 t.2.2.2.2.1 t.2.2.2.2.2 (fun _ => K (.exit 4) (mkS 97 [] [] [] [])) (fun z1 => K .ret (mkS 97 [4] [vb z1] [] []))) (fun t => rfl) (fun k t => ?_) (fun _ => fuelN) h
  refine (step2 impl_LineOk.Q impl_isPlace.Q impl_ascends.Q impl_unionOf.Q impl_Body_isLive.Q impl_Weave_liveIn.Q V2 V1 V0 K _ t.1 t.2.1 t.2.2.1 t.2.2.2.1 t.2.2.2.2.1 t.2.2.2.2.2).trans ?_
  rw [impl_Weave_liveIn.wrap]
  refine congrArg (fun W => B2 impl_Weave_liveIn.F t.1 t.2.1 t.2.2.1 t.2.2.2.1 t.2.2.2.2.1 t.2.2.2.2.2 W (fun _ => K (.exit 4) (mkS 97 [] [] [] [])) (fun z1 => K .ret (mkS 97 [4] [vb z1] [] []))) ?_
  funext u1 u2 u3 u4 u5 u6
  exact ofC_enc enc2I _ (u1, u2, u3, u4, u5, u6)
theorem e1 : atomsL [] 2 c1 = [] := by kernel_rfl
theorem ok1 (ρ : Type) (st : St) (K : Exit → St → Option ρ) (r : ρ) (h : (L V2 V1 V0) ρ 1 st K = some r) : AW Try.prog (.loop c1) st fun e st' => K e st' = some r := by
  refine loop_ok (ct := ct1) (lv := lv1) (n := 97) (m := 0) (ks := []) (j := 1) (jn := []) (L := (L V2 V1 V0)) Gok hm (by rw [e1]; exact Lor.ok_nil _ _) enc1I (fun k t => F1 k t.1 t.2.1 t.2.2.1 t.2.2.2.1 t.2.2.2.2.1 t.2.2.2.2.2.1 t.2.2.2.2.2.2.1 t.2.2.2.2.2.2.2.1 t.2.2.2.2.2.2.2.2.1 t.2.2.2.2.2.2.2.2.2.1 t.2.2.2.2.2.2.2.2.2.2.1 t.2.2.2.2.2.2.2.2.2.2.2.1 t.2.2.2.2.2.2.2.2.2.2.2.2.1 t.2.2.2.2.2.2.2.2.2.2.2.2.2 (fun z1 z2 z3 z4 z5 z6 z7 => K (.exit 2) (mkS 97 [1, 2, 5, 16, 17, 18] [vl z1, .c (.p 0 0), .c (.h 1), vl z2, vi z3, vi z4] [.box [cl z5, cl z6], ro z7] [])) (fun z1 => K .ret (mkS 97 [4] [vb z1] [] []))) (fun t => rfl) (fun k t => ?_) (fun _ => fuelN) h
  refine (step1 impl_LineOk.Q impl_isPlace.Q impl_ascends.Q impl_unionOf.Q impl_Body_isLive.Q impl_Weave_liveIn.Q V2 V1 V0 K _ t.1 t.2.1 t.2.2.1 t.2.2.2.1 t.2.2.2.2.1 t.2.2.2.2.2.1 t.2.2.2.2.2.2.1 t.2.2.2.2.2.2.2.1 t.2.2.2.2.2.2.2.2.1 t.2.2.2.2.2.2.2.2.2.1 t.2.2.2.2.2.2.2.2.2.2.1 t.2.2.2.2.2.2.2.2.2.2.2.1 t.2.2.2.2.2.2.2.2.2.2.2.2.1 t.2.2.2.2.2.2.2.2.2.2.2.2.2).trans ?_
  rw [impl_unionOf.wrap, impl_Body_isLive.wrap]
  refine congrArg (fun W => B1 impl_unionOf.F impl_Body_isLive.F t.1 t.2.1 t.2.2.1 t.2.2.2.1 t.2.2.2.2.1 t.2.2.2.2.2.1 t.2.2.2.2.2.2.1 t.2.2.2.2.2.2.2.1 t.2.2.2.2.2.2.2.2.1 t.2.2.2.2.2.2.2.2.2.1 t.2.2.2.2.2.2.2.2.2.2.1 t.2.2.2.2.2.2.2.2.2.2.2.1 t.2.2.2.2.2.2.2.2.2.2.2.2.1 t.2.2.2.2.2.2.2.2.2.2.2.2.2 W (fun z1 z2 z3 z4 z5 z6 z7 => K (.exit 2) (mkS 97 [1, 2, 5, 16, 17, 18] [vl z1, .c (.p 0 0), .c (.h 1), vl z2, vi z3, vi z4] [.box [cl z5, cl z6], ro z7] [])) (fun z1 => K .ret (mkS 97 [4] [vb z1] [] []))) ?_
  funext u1 u2 u3 u4 u5 u6 u7 u8 u9 u10 u11 u12 u13 u14
  exact ofC_enc enc1I _ (u1, u2, u3, u4, u5, u6, u7, u8, u9, u10, u11, u12, u13, u14)
theorem e0 : atomsL [] 1 c0 = [(1, 1, .loop c1)] := by kernel_rfl
theorem ok0 (ρ : Type) (st : St) (K : Exit → St → Option ρ) (r : ρ) (h : (L V2 V1 V0) ρ 0 st K = some r) : AW Try.prog (.loop c0) st fun e st' => K e st' = some r := by
  refine loop_ok (ct := ct0) (lv := lv0) (n := 97) (m := 0) (ks := []) (j := 0) (jn := []) (L := (L V2 V1 V0)) Gok hm (by rw [e0]; exact Lor.ok_cons ok1 (Lor.ok_nil _ _)) enc0I (fun k t => F0 k t.1 t.2.1 t.2.2.1 t.2.2.2.1 t.2.2.2.2.1 t.2.2.2.2.2.1 t.2.2.2.2.2.2 (fun z1 z2 z3 z4 => K (.exit 0) (mkS 97 [1, 2, 5] [vl z1, .c (.p 0 0), .c (.h 1)] [.box [cl z2, cl z3], ro z4] [])) (fun z1 => K .ret (mkS 97 [4] [vb z1] [] []))) (fun t => rfl) (fun k t => ?_) (fun _ => fuelN) h
  refine (step0 impl_LineOk.Q impl_isPlace.Q impl_ascends.Q impl_unionOf.Q impl_Body_isLive.Q impl_Weave_liveIn.Q V2 V1 V0 K _ t.1 t.2.1 t.2.2.1 t.2.2.2.1 t.2.2.2.2.1 t.2.2.2.2.2.1 t.2.2.2.2.2.2).trans ?_
  rw [impl_LineOk.wrap, impl_isPlace.wrap, impl_ascends.wrap, V1_enc]
  refine congrArg (fun W => B0 impl_LineOk.F impl_isPlace.F impl_ascends.F (F1 fuelN) t.1 t.2.1 t.2.2.1 t.2.2.2.1 t.2.2.2.2.1 t.2.2.2.2.2.1 t.2.2.2.2.2.2 W (fun z1 z2 z3 z4 => K (.exit 0) (mkS 97 [1, 2, 5] [vl z1, .c (.p 0 0), .c (.h 1)] [.box [cl z2, cl z3], ro z4] [])) (fun z1 => K .ret (mkS 97 [4] [vb z1] [] []))) ?_
  funext u1 u2 u3 u4 u5 u6 u7
  exact ofC_enc enc0I _ (u1, u2, u3, u4, u5, u6, u7)
theorem e : atomsL [] 0 (bodyOf Try.f73) = [(0, 0, .loop c0), (2, 2, .loop c2)] := by kernel_rfl
theorem acc (t : Vec (Vec Int) × (Vec (ByteArray × Int × Int × (Vec Int))) × Vec (IK .u64)) (x : Bool) (h : F t.1 t.2.1 t.2.2 = some x) : ACc Try.prog 73 (encA t) [] true [] fun rv obs => (rv, obs) = encR x := by
  refine fun_okc (L := (L V2 V1 V0)) (jn := []) (cmds := []) (ks := []) (hin := []) (fn := Try.f73) (body := (bodyOf Try.f73)) Gok hm Try.func73 (by kernel_rfl) (by kernel_rfl) (by rw [e]; exact Lor.ok_cons ok0 (Lor.ok_cons ok2 (Lor.ok_nil _ _))) ?_ h
  refine (main impl_LineOk.Q impl_isPlace.Q impl_ascends.Q impl_unionOf.Q impl_Body_isLive.Q impl_Weave_liveIn.Q V2 V1 V0 _ t.1 t.2.1 t.2.2).trans ?_
  rw [V0_enc, V2_enc]
  refine congrArg (fun K => B (F0 fuelN) (F2 fuelN) t.1 t.2.1 t.2.2 K) ?_
  funext x1
  exact ofC_enc encRI some (x1)
theorem ac0 (t : Vec (Vec Int) × (Vec (ByteArray × Int × Int × (Vec Int))) × Vec (IK .u64)) (x : Bool) (h : F t.1 t.2.1 t.2.2 = some x) : AC Try.prog 73 (encA t) [] true [] fun rv obs => (rv, obs) = encR x := ACc.ac (body := bodyOf Try.f73) Try.func73 (by kernel_rfl) (by kernel_rfl) (acc t x h)
theorem ac (args : List AV) (x : Bool) (h : Q args = some x) : AC Try.prog 73 args [] false [] fun rv obs => (rv, obs) = encR x := by
  obtain ⟨t, rfl, h2⟩ := ofC_some h
  refine (ac0 t x h2).flat fun rv obs e => ?_
  obtain rfl : rv = (encR x).1 := congrArg Prod.fst e
  obtain rfl : obs = (encR x).2 := congrArg Prod.snd e
  refine ⟨by simp [encR, AV.Flat, K.Flat, C.Flat], ?_⟩
  simp [encR]
end impl_bodiesOk
/-! loop.example/g00073/impl.WeaveOk -/
namespace impl_WeaveOk
noncomputable def B {ρ : Type} (C0 : (Vec (Vec Int)) → Option Bool) (C1 : (Vec (Vec Int)) → Option (Vec (IK .u64))) (C2 : (Vec (Vec Int)) → (Vec (ByteArray × Int × Int × (Vec Int))) → (Vec (IK .u64)) → Option Bool) (a1 : Vec (Vec Int)) (a2 : Vec (ByteArray × Int × Int × (Vec Int))) (K : Bool → Option ρ) : Option ρ :=
  sel (decide ((a2.n : Int) ≤ (300 : Int))) ((C0 a1).bind fun r1 => sel (r1) ((C1 a1).bind fun r2 => (C2 a1 a2 r2).bind fun r3 => K r3) (K false)) (K false)
noncomputable def F (a1 : Vec (Vec Int)) (a2 : Vec (ByteArray × Int × Int × (Vec Int))) : Option Bool := B impl_GraphOk.F impl_closures.F impl_bodiesOk.F a1 a2 (fun x1 => some (x1))
def encA (t : Vec (Vec Int) × (Vec (ByteArray × Int × Int × (Vec Int)))) : List AV := [.a [cl t.1, cl t.2]]
def encR (x : Bool) : AV × List Ob := (vb x, [])
theorem encAI : ∀ a b, encA a = encA b → a = b := by
  intro a b h
  obtain ⟨a0, a1⟩ := a
  obtain ⟨b0, b1⟩ := b
  simp [encA, encRw_iff] at h
  simp_all
theorem encRI : ∀ a b, encR a = encR b → a = b := by
  intro a b h
  simp [encR, encRw_iff] at h
  simp_all
noncomputable def Q (args : List AV) : Option Bool := ofC encA (fun t => F t.1 t.2) args
theorem wrap : (fun (y1 : Vec (Vec Int)) (y2 : Vec (ByteArray × Int × Int × (Vec Int))) => Q [.a [cl y1, cl y2]]) = F := by
  funext y1 y2
  exact ofC_enc encAI _ (y1, y2)
noncomputable def G (Q0 : List AV → Option Bool) (Q1 : List AV → Option (Vec (IK .u64))) (Q2 : List AV → Option Bool) : Orc := ⟨fun f => sel (Nat.beq f 30) 0 (sel (Nat.beq f 74) 0 (sel (Nat.beq f 73) 0 (9))), fun ρ f args K => sel (Nat.beq f 30) (qEntry impl_GraphOk.encR Q0 args K) (sel (Nat.beq f 74) (qEntry impl_closures.encR Q1 args K) (sel (Nat.beq f 73) (qEntry impl_bodiesOk.encR Q2 args K) (Option.none))), noE, false⟩
noncomputable def L : Lor := fun ρ j st K => Option.none
theorem main (Q0 Q1 Q2) {ρ : Type} (K : AV → List Ob → Option ρ) (a1 a2) : exC Try.prog (G Q0 Q1 Q2) (L) [] 0 (bodyOf Try.f40) (entry 19 [.a [cl a1, cl a2]] [] []) (finO Try.prog Try.f40.results.toList 0 [] [] K) =
    B (fun y1 => Q0 [vl y1]) (fun y1 => Q1 [vl y1]) (fun y1 y2 y3 => Q2 [.a [cl y1, cl y2], vl y3]) a1 a2 (fun x1 => K (vb x1) []) := by kernel_rfl
theorem Gok : (G impl_GraphOk.Q impl_closures.Q impl_bodiesOk.Q).ok Try.prog := ⟨(by
    intro ρ f args K r h
    rcases sel_cases h with ⟨hb, h⟩ | ⟨-, h⟩
    · obtain rfl := beq_nat hb
      exact qEntry_ok impl_GraphOk.ac h
    rcases sel_cases h with ⟨hb, h⟩ | ⟨-, h⟩
    · obtain rfl := beq_nat hb
      exact qEntry_ok impl_closures.ac h
    rcases sel_cases h with ⟨hb, h⟩ | ⟨-, h⟩
    · obtain rfl := beq_nat hb
      exact qEntry_ok impl_bodiesOk.ac h
    cases h),
  (by
    intro ρ f args K
    simp only [G]
    cases Nat.beq f 30 with
    | true => exact qEntry_nat args K
    | false =>
    simp only [sel]
    cases Nat.beq f 74 with
    | true => exact qEntry_nat args K
    | false =>
    simp only [sel]
    cases Nat.beq f 73 with
    | true => exact qEntry_nat args K
    | false =>
    simp only [sel]
    rfl),
  (fun ρ f st caps args dst K r h => (by cases h))⟩
theorem hm : Try.prog.follows .mixedOrders = true := by kernel_rfl
theorem e : atomsL [] 0 (bodyOf Try.f40) = [] := by kernel_rfl
theorem acc (t : Vec (Vec Int) × (Vec (ByteArray × Int × Int × (Vec Int)))) (x : Bool) (h : F t.1 t.2 = some x) : ACc Try.prog 40 (encA t) [] true [] fun rv obs => (rv, obs) = encR x := by
  refine fun_okc (L := (L)) (jn := []) (cmds := []) (ks := []) (hin := []) (fn := Try.f40) (body := (bodyOf Try.f40)) Gok hm Try.func40 (by kernel_rfl) (by kernel_rfl) (by rw [e]; exact Lor.ok_nil _ _) ?_ h
  refine (main impl_GraphOk.Q impl_closures.Q impl_bodiesOk.Q _ t.1 t.2).trans ?_
  rw [impl_GraphOk.wrap, impl_closures.wrap, impl_bodiesOk.wrap]
  refine congrArg (fun K => B impl_GraphOk.F impl_closures.F impl_bodiesOk.F t.1 t.2 K) ?_
  funext x1
  exact ofC_enc encRI some (x1)
theorem ac0 (t : Vec (Vec Int) × (Vec (ByteArray × Int × Int × (Vec Int)))) (x : Bool) (h : F t.1 t.2 = some x) : AC Try.prog 40 (encA t) [] true [] fun rv obs => (rv, obs) = encR x := ACc.ac (body := bodyOf Try.f40) Try.func40 (by kernel_rfl) (by kernel_rfl) (acc t x h)
theorem ac (args : List AV) (x : Bool) (h : Q args = some x) : AC Try.prog 40 args [] false [] fun rv obs => (rv, obs) = encR x := by
  obtain ⟨t, rfl, h2⟩ := ofC_some h
  refine (ac0 t x h2).flat fun rv obs e => ?_
  obtain rfl : rv = (encR x).1 := congrArg Prod.fst e
  obtain rfl : obs = (encR x).2 := congrArg Prod.snd e
  refine ⟨by simp [encR, AV.Flat, K.Flat, C.Flat], ?_⟩
  simp [encR]
end impl_WeaveOk
end Go.Al
