import Derived.Test.YtnkmpehikhmbjaaAlE
import Derived.Test.YtnkmpehikhmbjaaSC
import Derived.Test.YtnkmpehikhmbjaaGWl
import Derived.Test.YtnkmpehikhmbjaaGMkW
import Derived.Test.YtnkmpehikhmbjaaGRegions
set_option linter.unusedVariables false
set_option linter.unusedSimpArgs false
set_option linter.constructorNameAsVariable false
set_option linter.unusedSectionVars false
set_option maxRecDepth 100000
namespace Go.Al
open Go.Proofs

/-! loop.example/g00073/laws.eqStringS -/
namespace laws_eqStringS
noncomputable def B0 {ρ : Type} (v1 : Vec ByteArray) (v2 : Vec ByteArray) (v3 : Int) (W : (Vec ByteArray) → (Vec ByteArray) → Int → Option ρ) (K0 : Unit → Option ρ) (Kr : Bool → Option ρ) : Option ρ :=
  sel (decide (v3 < (v1.n : Int))) (chk (decide (0 ≤ v3 ∧ v3 < (v1.n : Int))) (chk (decide (0 ≤ v3 ∧ v3 < (v2.n : Int))) (sel ((!decide ((v1.g v3.toNat) = (v2.g v3.toNat)))) (Kr false) (W v1 v2 (wr (v3 + (1 : Int))))))) (K0 ())
noncomputable def F0 {ρ : Type} : Nat → (Vec ByteArray) → (Vec ByteArray) → Int → (Unit → Option ρ) → (Bool → Option ρ) → Option ρ
  | 0, _, _, _, _, _ => none
  | k + 1, v1, v2, v3, K0, Kr => B0 v1 v2 v3 (fun v1' v2' v3' => F0 k v1' v2' v3' K0 Kr) K0 Kr
noncomputable def B {ρ : Type} (L0 : (Vec ByteArray) → (Vec ByteArray) → Int → (Unit → Option ρ) → (Bool → Option ρ) → Option ρ) (a1 : Vec ByteArray) (a2 : Vec ByteArray) (K : Bool → Option ρ) : Option ρ :=
  sel ((!decide ((a1.n : Int) = (a2.n : Int)))) (K false) (L0 a1 a2 (0 : Int) (fun _ => K true) (fun x01 => K x01))
noncomputable def F (a1 : Vec ByteArray) (a2 : Vec ByteArray) : Option Bool := B (F0 fuelN) a1 a2 (fun x1 => some (x1))
def encA (t : Vec ByteArray × Vec ByteArray) : List AV := [vl t.1, vl t.2]
def encR (x : Bool) : AV × List Ob := (vb x, [])
theorem encAI : ∀ a b, encA a = encA b → a = b := by
  intro a b h
  obtain ⟨a0, a1⟩ := a
  obtain ⟨b0, b1⟩ := b
  simp [encA, encRw_iff] at h
  simp_all
theorem encRI : ∀ a b, encR a = encR b → a = b := by
  intro a b h
  simp [encR, encRw_iff] at h
  simp_all
noncomputable def Q (args : List AV) : Option Bool := ofC encA (fun t => F t.1 t.2) args
theorem wrap : (fun (y1 : Vec ByteArray) (y2 : Vec ByteArray) => Q [vl y1, vl y2]) = F := by
  funext y1 y2
  exact ofC_enc encAI _ (y1, y2)
noncomputable def G : Orc := ⟨fun f => 9, fun ρ f args K => Option.none, noE, false⟩
noncomputable def L (W0 : (ρ : Type) → List AV → List Ob → (Unit → Option ρ) → (Bool → Option ρ) → Option ρ) : Lor := fun ρ j st K => sel (Nat.beq j 0) (cutO Try.prog 26 [0, 1, 5] 0 [] [] st fun avs obs => W0 ρ avs obs (fun _ => K (.exit 0) (mkS 26 [] [] [] [])) (fun z1 => K .ret (mkS 26 [4] [vb z1] [] []))) (Option.none)
noncomputable def c0 : Code := loopC (atomN [] 0 (bodyOf Try.f30) 0)
def ct0 : Cut := ⟨[0, 1, 5], []⟩
def lv0 : Exit → Cut
  | .exit 0 => ⟨[], []⟩
  | .ret => ⟨[4], []⟩
  | _ => ⟨[], []⟩
theorem step0 (W0) {ρ : Type} (K : Exit → St → Option ρ) (W : List AV → List Ob → Option ρ) (v1 v2 v3) : exC Try.prog (G) (L W0) [] 1 c0 (mkS 26 [0, 1, 5] [vl v1, vl v2, vi v3] [] []) (bodyK Try.prog 26 0 [] ct0 W lv0 K) =
    B0 v1 v2 v3 (fun u1 u2 u3 => W [vl u1, vl u2, vi u3] []) (fun _ => K (.exit 0) (mkS 26 [] [] [] [])) (fun z1 => K .ret (mkS 26 [4] [vb z1] [] [])) := by kernel_rfl
def enc0 (t : Vec ByteArray × Vec ByteArray × Int) : List AV × List Ob := ([vl t.1, vl t.2.1, vi t.2.2], [])
theorem enc0I : ∀ a b, enc0 a = enc0 b → a = b := by
  intro a b h
  obtain ⟨a0, a1, a2⟩ := a
  obtain ⟨b0, b1, b2⟩ := b
  simp [enc0, encRw_iff] at h
  simp_all
noncomputable def V0 : (ρ : Type) → List AV → List Ob → (Unit → Option ρ) → (Bool → Option ρ) → Option ρ := fun ρ avs obs k0 kr => ofC enc0 (fun t => F0 fuelN t.1 t.2.1 t.2.2 k0 kr) (avs, obs)
theorem V0_enc (ρ : Type) : (fun w1 w2 w3 k0 kr => V0 ρ [vl w1, vl w2, vi w3] [] k0 kr) = F0 fuelN := by
  funext w1 w2 w3 k0 kr
  exact ofC_enc enc0I _ (w1, w2, w3)
theorem main (W0) {ρ : Type} (K : AV → List Ob → Option ρ) (a1 a2) : exC Try.prog (G) (L W0) [] 0 (bodyOf Try.f30) (entry 26 [vl a1, vl a2] [] []) (finO Try.prog Try.f30.results.toList 0 [] [] K) =
    B (fun w1 w2 w3 k0 kr => W0 ρ [vl w1, vl w2, vi w3] [] k0 kr) a1 a2 (fun x1 => K (vb x1) []) := by kernel_rfl
theorem Gok : (G).ok Try.prog := ⟨(fun ρ f args K r h => (by cases h)),
  (fun ρ f args K => rfl),
  (fun ρ f st caps args dst K r h => (by cases h))⟩
theorem hm : Try.prog.follows .mixedOrders = true := by kernel_rfl
theorem e0 : atomsL [] 1 c0 = [] := by kernel_rfl
theorem ok0 (ρ : Type) (st : St) (K : Exit → St → Option ρ) (r : ρ) (h : (L V0) ρ 0 st K = some r) : AW Try.prog (.loop c0) st fun e st' => K e st' = some r := by
  refine loop_ok (ct := ct0) (lv := lv0) (n := 26) (m := 0) (ks := []) (j := 0) (jn := []) (L := (L V0)) Gok hm (by rw [e0]; exact Lor.ok_nil _ _) enc0I (fun k t => F0 k t.1 t.2.1 t.2.2 (fun _ => K (.exit 0) (mkS 26 [] [] [] [])) (fun z1 => K .ret (mkS 26 [4] [vb z1] [] []))) (fun t => rfl) (fun k t => ?_) (fun _ => fuelN) h
  refine (step0 V0 K _ t.1 t.2.1 t.2.2).trans ?_
  refine congrArg (fun W => B0 t.1 t.2.1 t.2.2 W (fun _ => K (.exit 0) (mkS 26 [] [] [] [])) (fun z1 => K .ret (mkS 26 [4] [vb z1] [] []))) ?_
  funext u1 u2 u3
  exact ofC_enc enc0I _ (u1, u2, u3)
theorem e : atomsL [] 0 (bodyOf Try.f30) = [(0, 0, .loop c0)] := by kernel_rfl
theorem acc (t : Vec ByteArray × Vec ByteArray) (x : Bool) (h : F t.1 t.2 = some x) : ACc Try.prog 30 (encA t) [] true [] fun rv obs => (rv, obs) = encR x := by
  refine fun_okc (L := (L V0)) (jn := []) (cmds := []) (ks := []) (hin := []) (fn := Try.f30) (body := (bodyOf Try.f30)) Gok hm Try.func30 (by kernel_rfl) (by kernel_rfl) (by rw [e]; exact Lor.ok_cons ok0 (Lor.ok_nil _ _)) ?_ h
  refine (main V0 _ t.1 t.2).trans ?_
  rw [V0_enc]
  refine congrArg (fun K => B (F0 fuelN) t.1 t.2 K) ?_
  funext x1
  exact ofC_enc encRI some (x1)
theorem ac0 (t : Vec ByteArray × Vec ByteArray) (x : Bool) (h : F t.1 t.2 = some x) : AC Try.prog 30 (encA t) [] true [] fun rv obs => (rv, obs) = encR x := ACc.ac (body := bodyOf Try.f30) Try.func30 (by kernel_rfl) (by kernel_rfl) (acc t x h)
theorem ac (args : List AV) (x : Bool) (h : Q args = some x) : AC Try.prog 30 args [] false [] fun rv obs => (rv, obs) = encR x := by
  obtain ⟨t, rfl, h2⟩ := ofC_some h
  refine (ac0 t x h2).flat fun rv obs e => ?_
  obtain rfl : rv = (encR x).1 := congrArg Prod.fst e
  obtain rfl : obs = (encR x).2 := congrArg Prod.snd e
  refine ⟨by simp [encR, AV.Flat, K.Flat, C.Flat], ?_⟩
  simp [encR]
end laws_eqStringS
/-! loop.example/g00073/laws.eqRegion -/
namespace laws_eqRegion
noncomputable def B {ρ : Type} (C0 : (Vec ByteArray) → (Vec ByteArray) → Option Bool) (a1 : Bool) (a2 : Vec ByteArray) (a3 : Vec ByteArray) (a4 : Vec ByteArray) (a5 : Bool) (a6 : Vec ByteArray) (a7 : Vec ByteArray) (a8 : Vec ByteArray) (K : Bool → Option ρ) : Option ρ :=
  sel ((!(a1 == a5))) (K false) ((C0 a2 a6).bind fun r1 => sel ((!r1)) (K false) ((C0 a3 a7).bind fun r2 => sel ((!r2)) (K false) ((C0 a4 a8).bind fun r3 => sel ((!r3)) (K false) (K true))))
noncomputable def F (a1 : Bool) (a2 : Vec ByteArray) (a3 : Vec ByteArray) (a4 : Vec ByteArray) (a5 : Bool) (a6 : Vec ByteArray) (a7 : Vec ByteArray) (a8 : Vec ByteArray) : Option Bool := B laws_eqStringS.F a1 a2 a3 a4 a5 a6 a7 a8 (fun x1 => some (x1))
def encA (t : Bool × Vec ByteArray × Vec ByteArray × Vec ByteArray × Bool × Vec ByteArray × Vec ByteArray × Vec ByteArray) : List AV := [.a [cb t.1, cl t.2.1, cl t.2.2.1, cl t.2.2.2.1], .a [cb t.2.2.2.2.1, cl t.2.2.2.2.2.1, cl t.2.2.2.2.2.2.1, cl t.2.2.2.2.2.2.2]]
def encR (x : Bool) : AV × List Ob := (vb x, [])
theorem encAI : ∀ a b, encA a = encA b → a = b := by
  intro a b h
  obtain ⟨a0, a1, a2, a3, a4, a5, a6, a7⟩ := a
  obtain ⟨b0, b1, b2, b3, b4, b5, b6, b7⟩ := b
  simp [encA, encRw_iff] at h
  simp_all
theorem encRI : ∀ a b, encR a = encR b → a = b := by
  intro a b h
  simp [encR, encRw_iff] at h
  simp_all
noncomputable def Q (args : List AV) : Option Bool := ofC encA (fun t => F t.1 t.2.1 t.2.2.1 t.2.2.2.1 t.2.2.2.2.1 t.2.2.2.2.2.1 t.2.2.2.2.2.2.1 t.2.2.2.2.2.2.2) args
theorem wrap : (fun (y1 : Bool) (y2 : Vec ByteArray) (y3 : Vec ByteArray) (y4 : Vec ByteArray) (y5 : Bool) (y6 : Vec ByteArray) (y7 : Vec ByteArray) (y8 : Vec ByteArray) => Q [.a [cb y1, cl y2, cl y3, cl y4], .a [cb y5, cl y6, cl y7, cl y8]]) = F := by
  funext y1 y2 y3 y4 y5 y6 y7 y8
  exact ofC_enc encAI _ (y1, y2, y3, y4, y5, y6, y7, y8)
noncomputable def G (Q0 : List AV → Option Bool) : Orc := ⟨fun f => sel (Nat.beq f 30) 0 (9), fun ρ f args K => sel (Nat.beq f 30) (qEntry laws_eqStringS.encR Q0 args K) (Option.none), noE, false⟩
noncomputable def L : Lor := fun ρ j st K => Option.none
theorem main (Q0) {ρ : Type} (K : AV → List Ob → Option ρ) (a1 a2 a3 a4 a5 a6 a7 a8) : exC Try.prog (G Q0) (L) [] 0 (bodyOf Try.f61) (entry 28 [.a [cb a1, cl a2, cl a3, cl a4], .a [cb a5, cl a6, cl a7, cl a8]] [] []) (finO Try.prog Try.f61.results.toList 0 [] [] K) =
    B (fun y1 y2 => Q0 [vl y1, vl y2]) a1 a2 a3 a4 a5 a6 a7 a8 (fun x1 => K (vb x1) []) := by kernel_rfl
theorem Gok : (G laws_eqStringS.Q).ok Try.prog := ⟨(by
    intro ρ f args K r h
    rcases sel_cases h with ⟨hb, h⟩ | ⟨-, h⟩
    · obtain rfl := beq_nat hb
      exact qEntry_ok laws_eqStringS.ac h
    cases h),
  (by
    intro ρ f args K
    simp only [G]
    cases Nat.beq f 30 with
    | true => exact qEntry_nat args K
    | false =>
    simp only [sel]
    rfl),
  (fun ρ f st caps args dst K r h => (by cases h))⟩
theorem hm : Try.prog.follows .mixedOrders = true := by kernel_rfl
theorem e : atomsL [] 0 (bodyOf Try.f61) = [] := by kernel_rfl
theorem acc (t : Bool × Vec ByteArray × Vec ByteArray × Vec ByteArray × Bool × Vec ByteArray × Vec ByteArray × Vec ByteArray) (x : Bool) (h : F t.1 t.2.1 t.2.2.1 t.2.2.2.1 t.2.2.2.2.1 t.2.2.2.2.2.1 t.2.2.2.2.2.2.1 t.2.2.2.2.2.2.2 = some x) : ACc Try.prog 61 (encA t) [] true [] fun rv obs => (rv, obs) = encR x := by
  refine fun_okc (L := (L)) (jn := []) (cmds := []) (ks := []) (hin := []) (fn := Try.f61) (body := (bodyOf Try.f61)) Gok hm Try.func61 (by kernel_rfl) (by kernel_rfl) (by rw [e]; exact Lor.ok_nil _ _) ?_ h
  refine (main laws_eqStringS.Q _ t.1 t.2.1 t.2.2.1 t.2.2.2.1 t.2.2.2.2.1 t.2.2.2.2.2.1 t.2.2.2.2.2.2.1 t.2.2.2.2.2.2.2).trans ?_
  rw [laws_eqStringS.wrap]
  refine congrArg (fun K => B laws_eqStringS.F t.1 t.2.1 t.2.2.1 t.2.2.2.1 t.2.2.2.2.1 t.2.2.2.2.2.1 t.2.2.2.2.2.2.1 t.2.2.2.2.2.2.2 K) ?_
  funext x1
  exact ofC_enc encRI some (x1)
theorem ac0 (t : Bool × Vec ByteArray × Vec ByteArray × Vec ByteArray × Bool × Vec ByteArray × Vec ByteArray × Vec ByteArray) (x : Bool) (h : F t.1 t.2.1 t.2.2.1 t.2.2.2.1 t.2.2.2.2.1 t.2.2.2.2.2.1 t.2.2.2.2.2.2.1 t.2.2.2.2.2.2.2 = some x) : AC Try.prog 61 (encA t) [] true [] fun rv obs => (rv, obs) = encR x := ACc.ac (body := bodyOf Try.f61) Try.func61 (by kernel_rfl) (by kernel_rfl) (acc t x h)
theorem ac (args : List AV) (x : Bool) (h : Q args = some x) : AC Try.prog 61 args [] false [] fun rv obs => (rv, obs) = encR x := by
  obtain ⟨t, rfl, h2⟩ := ofC_some h
  refine (ac0 t x h2).flat fun rv obs e => ?_
  obtain rfl : rv = (encR x).1 := congrArg Prod.fst e
  obtain rfl : obs = (encR x).2 := congrArg Prod.snd e
  refine ⟨by simp [encR, AV.Flat, K.Flat, C.Flat], ?_⟩
  simp [encR]
end laws_eqRegion
/-! loop.example/g00073/laws.eqRegionS -/
namespace laws_eqRegionS
noncomputable def B0 {ρ : Type} (C0 : Bool → (Vec ByteArray) → (Vec ByteArray) → (Vec ByteArray) → Bool → (Vec ByteArray) → (Vec ByteArray) → (Vec ByteArray) → Option Bool) (v1 : Vec (Bool × (Vec ByteArray) × (Vec ByteArray) × (Vec ByteArray))) (v2 : Vec (Bool × (Vec ByteArray) × (Vec ByteArray) × (Vec ByteArray))) (v3 : Int) (W : (Vec (Bool × (Vec ByteArray) × (Vec ByteArray) × (Vec ByteArray))) → (Vec (Bool × (Vec ByteArray) × (Vec ByteArray) × (Vec ByteArray))) → Int → Option ρ) (K0 : Unit → Option ρ) (Kr : Bool → Option ρ) : Option ρ :=
  sel (decide (v3 < (v1.n : Int))) (chk (decide (0 ≤ v3 ∧ v3 < (v1.n : Int))) (chk (decide (0 ≤ v3 ∧ v3 < (v2.n : Int))) ((C0 ((v1.g v3.toNat).1) ((v1.g v3.toNat).2.1) ((v1.g v3.toNat).2.2.1) ((v1.g v3.toNat).2.2.2) ((v2.g v3.toNat).1) ((v2.g v3.toNat).2.1) ((v2.g v3.toNat).2.2.1) ((v2.g v3.toNat).2.2.2)).bind fun r1 => sel ((!r1)) (Kr false) (W v1 v2 (wr (v3 + (1 : Int))))))) (K0 ())
noncomputable def F0 {ρ : Type} : Nat → (Vec (Bool × (Vec ByteArray) × (Vec ByteArray) × (Vec ByteArray))) → (Vec (Bool × (Vec ByteArray) × (Vec ByteArray) × (Vec ByteArray))) → Int → (Unit → Option ρ) → (Bool → Option ρ) → Option ρ
  | 0, _, _, _, _, _ => none
  | k + 1, v1, v2, v3, K0, Kr => B0 laws_eqRegion.F v1 v2 v3 (fun v1' v2' v3' => F0 k v1' v2' v3' K0 Kr) K0 Kr
noncomputable def B {ρ : Type} (L0 : (Vec (Bool × (Vec ByteArray) × (Vec ByteArray) × (Vec ByteArray))) → (Vec (Bool × (Vec ByteArray) × (Vec ByteArray) × (Vec ByteArray))) → Int → (Unit → Option ρ) → (Bool → Option ρ) → Option ρ) (a1 : Vec (Bool × (Vec ByteArray) × (Vec ByteArray) × (Vec ByteArray))) (a2 : Vec (Bool × (Vec ByteArray) × (Vec ByteArray) × (Vec ByteArray))) (K : Bool → Option ρ) : Option ρ :=
  sel ((!decide ((a1.n : Int) = (a2.n : Int)))) (K false) (L0 a1 a2 (0 : Int) (fun _ => K true) (fun x01 => K x01))
noncomputable def F (a1 : Vec (Bool × (Vec ByteArray) × (Vec ByteArray) × (Vec ByteArray))) (a2 : Vec (Bool × (Vec ByteArray) × (Vec ByteArray) × (Vec ByteArray))) : Option Bool := B (F0 fuelN) a1 a2 (fun x1 => some (x1))
def encA (t : (Vec (Bool × (Vec ByteArray) × (Vec ByteArray) × (Vec ByteArray))) × (Vec (Bool × (Vec ByteArray) × (Vec ByteArray) × (Vec ByteArray)))) : List AV := [vl t.1, vl t.2]
def encR (x : Bool) : AV × List Ob := (vb x, [])
theorem encAI : ∀ a b, encA a = encA b → a = b := by
  intro a b h
  obtain ⟨a0, a1⟩ := a
  obtain ⟨b0, b1⟩ := b
  simp [encA, encRw_iff] at h
  simp_all
theorem encRI : ∀ a b, encR a = encR b → a = b := by
  intro a b h
  simp [encR, encRw_iff] at h
  simp_all
noncomputable def Q (args : List AV) : Option Bool := ofC encA (fun t => F t.1 t.2) args
theorem wrap : (fun (y1 : Vec (Bool × (Vec ByteArray) × (Vec ByteArray) × (Vec ByteArray))) (y2 : Vec (Bool × (Vec ByteArray) × (Vec ByteArray) × (Vec ByteArray))) => Q [vl y1, vl y2]) = F := by
  funext y1 y2
  exact ofC_enc encAI _ (y1, y2)
noncomputable def G (Q0 : List AV → Option Bool) : Orc := ⟨fun f => sel (Nat.beq f 61) 0 (9), fun ρ f args K => sel (Nat.beq f 61) (qEntry laws_eqRegion.encR Q0 args K) (Option.none), noE, false⟩
noncomputable def L (W0 : (ρ : Type) → List AV → List Ob → (Unit → Option ρ) → (Bool → Option ρ) → Option ρ) : Lor := fun ρ j st K => sel (Nat.beq j 0) (cutO Try.prog 27 [0, 1, 5] 0 [] [] st fun avs obs => W0 ρ avs obs (fun _ => K (.exit 0) (mkS 27 [] [] [] [])) (fun z1 => K .ret (mkS 27 [4] [vb z1] [] []))) (Option.none)
noncomputable def c0 : Code := loopC (atomN [] 0 (bodyOf Try.f23) 0)
def ct0 : Cut := ⟨[0, 1, 5], []⟩
def lv0 : Exit → Cut
  | .exit 0 => ⟨[], []⟩
  | .ret => ⟨[4], []⟩
  | _ => ⟨[], []⟩
theorem step0 (Q0) (W0) {ρ : Type} (K : Exit → St → Option ρ) (W : List AV → List Ob → Option ρ) (v1 v2 v3) : exC Try.prog (G Q0) (L W0) [] 1 c0 (mkS 27 [0, 1, 5] [vl v1, vl v2, vi v3] [] []) (bodyK Try.prog 27 0 [] ct0 W lv0 K) =
    B0 (fun y1 y2 y3 y4 y5 y6 y7 y8 => Q0 [.a [cb y1, cl y2, cl y3, cl y4], .a [cb y5, cl y6, cl y7, cl y8]]) v1 v2 v3 (fun u1 u2 u3 => W [vl u1, vl u2, vi u3] []) (fun _ => K (.exit 0) (mkS 27 [] [] [] [])) (fun z1 => K .ret (mkS 27 [4] [vb z1] [] [])) := by kernel_rfl
def enc0 (t : (Vec (Bool × (Vec ByteArray) × (Vec ByteArray) × (Vec ByteArray))) × (Vec (Bool × (Vec ByteArray) × (Vec ByteArray) × (Vec ByteArray))) × Int) : List AV × List Ob := ([vl t.1, vl t.2.1, vi t.2.2], [])
theorem enc0I : ∀ a b, enc0 a = enc0 b → a = b := by
  intro a b h
  obtain ⟨a0, a1, a2⟩ := a
  obtain ⟨b0, b1, b2⟩ := b
  simp [enc0, encRw_iff] at h
  simp_all
noncomputable def V0 : (ρ : Type) → List AV → List Ob → (Unit → Option ρ) → (Bool → Option ρ) → Option ρ := fun ρ avs obs k0 kr => ofC enc0 (fun t => F0 fuelN t.1 t.2.1 t.2.2 k0 kr) (avs, obs)
theorem V0_enc (ρ : Type) : (fun w1 w2 w3 k0 kr => V0 ρ [vl w1, vl w2, vi w3] [] k0 kr) = F0 fuelN := by
  funext w1 w2 w3 k0 kr
  exact ofC_enc enc0I _ (w1, w2, w3)
theorem main (Q0) (W0) {ρ : Type} (K : AV → List Ob → Option ρ) (a1 a2) : exC Try.prog (G Q0) (L W0) [] 0 (bodyOf Try.f23) (entry 27 [vl a1, vl a2] [] []) (finO Try.prog Try.f23.results.toList 0 [] [] K) =
    B (fun w1 w2 w3 k0 kr => W0 ρ [vl w1, vl w2, vi w3] [] k0 kr) a1 a2 (fun x1 => K (vb x1) []) := by kernel_rfl
theorem Gok : (G laws_eqRegion.Q).ok Try.prog := ⟨(by
    intro ρ f args K r h
    rcases sel_cases h with ⟨hb, h⟩ | ⟨-, h⟩
    · obtain rfl := beq_nat hb
      exact qEntry_ok laws_eqRegion.ac h
    cases h),
  (by
    intro ρ f args K
    simp only [G]
    cases Nat.beq f 61 with
    | true => exact qEntry_nat args K
    | false =>
    simp only [sel]
    rfl),
  (fun ρ f st caps args dst K r h => (by cases h))⟩
theorem hm : Try.prog.follows .mixedOrders = true := by kernel_rfl
theorem e0 : atomsL [] 1 c0 = [] := by kernel_rfl
theorem ok0 (ρ : Type) (st : St) (K : Exit → St → Option ρ) (r : ρ) (h : (L V0) ρ 0 st K = some r) : AW Try.prog (.loop c0) st fun e st' => K e st' = some r := by
  refine loop_ok (ct := ct0) (lv := lv0) (n := 27) (m := 0) (ks := []) (j := 0) (jn := []) (L := (L V0)) Gok hm (by rw [e0]; exact Lor.ok_nil _ _) enc0I (fun k t => F0 k t.1 t.2.1 t.2.2 (fun _ => K (.exit 0) (mkS 27 [] [] [] [])) (fun z1 => K .ret (mkS 27 [4] [vb z1] [] []))) (fun t => rfl) (fun k t => ?_) (fun _ => fuelN) h
  refine (step0 laws_eqRegion.Q V0 K _ t.1 t.2.1 t.2.2).trans ?_
  rw [laws_eqRegion.wrap]
  refine congrArg (fun W => B0 laws_eqRegion.F t.1 t.2.1 t.2.2 W (fun _ => K (.exit 0) (mkS 27 [] [] [] [])) (fun z1 => K .ret (mkS 27 [4] [vb z1] [] []))) ?_
  funext u1 u2 u3
  exact ofC_enc enc0I _ (u1, u2, u3)
theorem e : atomsL [] 0 (bodyOf Try.f23) = [(0, 0, .loop c0)] := by kernel_rfl
theorem acc (t : (Vec (Bool × (Vec ByteArray) × (Vec ByteArray) × (Vec ByteArray))) × (Vec (Bool × (Vec ByteArray) × (Vec ByteArray) × (Vec ByteArray)))) (x : Bool) (h : F t.1 t.2 = some x) : ACc Try.prog 23 (encA t) [] true [] fun rv obs => (rv, obs) = encR x := by
  refine fun_okc (L := (L V0)) (jn := []) (cmds := []) (ks := []) (hin := []) (fn := Try.f23) (body := (bodyOf Try.f23)) Gok hm Try.func23 (by kernel_rfl) (by kernel_rfl) (by rw [e]; exact Lor.ok_cons ok0 (Lor.ok_nil _ _)) ?_ h
  refine (main laws_eqRegion.Q V0 _ t.1 t.2).trans ?_
  rw [V0_enc]
  refine congrArg (fun K => B (F0 fuelN) t.1 t.2 K) ?_
  funext x1
  exact ofC_enc encRI some (x1)
theorem ac0 (t : (Vec (Bool × (Vec ByteArray) × (Vec ByteArray) × (Vec ByteArray))) × (Vec (Bool × (Vec ByteArray) × (Vec ByteArray) × (Vec ByteArray)))) (x : Bool) (h : F t.1 t.2 = some x) : AC Try.prog 23 (encA t) [] true [] fun rv obs => (rv, obs) = encR x := ACc.ac (body := bodyOf Try.f23) Try.func23 (by kernel_rfl) (by kernel_rfl) (acc t x h)
theorem ac (args : List AV) (x : Bool) (h : Q args = some x) : AC Try.prog 23 args [] false [] fun rv obs => (rv, obs) = encR x := by
  obtain ⟨t, rfl, h2⟩ := ofC_some h
  refine (ac0 t x h2).flat fun rv obs e => ?_
  obtain rfl : rv = (encR x).1 := congrArg Prod.fst e
  obtain rfl : obs = (encR x).2 := congrArg Prod.snd e
  refine ⟨by simp [encR, AV.Flat, K.Flat, C.Flat], ?_⟩
  simp [encR]
end laws_eqRegionS
/-! loop.example/g00073/laws.markStringS -/
namespace laws_markStringS_s1401
noncomputable def B0 {ρ : Type} (C0 : Int → Option ByteArray) (v1 : Int) (v2 : Int) (v3 : Vec ByteArray) (W : Int → Int → (Vec ByteArray) → Option ρ) (K0 : Int → (Vec ByteArray) → Option ρ) : Option ρ :=
  sel (decide (v2 < (v3.n : Int))) ((C0 v1).bind fun r1 => chk (decide (0 ≤ v2 ∧ v2 < (v3.n : Int))) (chk (decide (v2.toNat < v3.n)) (W (wr (v1 + (1 : Int))) (wr (v2 + (1 : Int))) (Vec.set v3 v2.toNat r1)))) (K0 v1 v3)
noncomputable def F0 {ρ : Type} : Nat → Int → Int → (Vec ByteArray) → (Int → (Vec ByteArray) → Option ρ) → Option ρ
  | 0, _, _, _, _ => none
  | k + 1, v1, v2, v3, K0 => B0 laws_markText.F v1 v2 v3 (fun v1' v2' v3' => F0 k v1' v2' v3' K0) K0
noncomputable def B {ρ : Type} (L0 : Int → Int → (Vec ByteArray) → (Int → (Vec ByteArray) → Option ρ) → Option ρ) (a1 : Int) (a2 : Vec ByteArray) (K : Int → (Vec ByteArray) → Option ρ) : Option ρ :=
  L0 a1 (0 : Int) a2 (fun e01 e02 => K e01 e02)
noncomputable def F (a1 : Int) (a2 : Vec ByteArray) : Option (Int × Vec ByteArray) := B (F0 fuelN) a1 a2 (fun x1 x2 => some (x1, x2))
def encA (t : Int × Vec ByteArray) : List AV × List Ob := ([.c (.h 0), vi t.1], [ro t.2])
def encR (x : Int × Vec ByteArray) : AV × List Ob := (vi x.1, [ro x.2])
theorem encAI : ∀ a b, encA a = encA b → a = b := by
  intro a b h
  obtain ⟨a0, a1⟩ := a
  obtain ⟨b0, b1⟩ := b
  simp [encA, encRw_iff] at h
  simp_all
theorem encRI : ∀ a b, encR a = encR b → a = b := by
  intro a b h
  obtain ⟨a0, a1⟩ := a
  obtain ⟨b0, b1⟩ := b
  simp [encR, encRw_iff] at h
  simp_all
noncomputable def Q (args : List AV) (hin : List Ob) : Option (Int × Vec ByteArray) := ofC encA (fun t => F t.1 t.2) (args, hin)
theorem wrap : (fun (y1 : Int) (y2 : Vec ByteArray) => Q [.c (.h 0), vi y1] [ro y2]) = F := by
  funext y1 y2
  exact ofC_enc encAI _ (y1, y2)
noncomputable def G (Q0 : List AV → Option ByteArray) : Orc := ⟨fun f => sel (Nat.beq f 51) 0 (9), fun ρ f args K => sel (Nat.beq f 51) (qEntry laws_markText.encR Q0 args K) (Option.none), noE, false⟩
noncomputable def L (W0 : (ρ : Type) → List AV → List Ob → (Int → (Vec ByteArray) → Option ρ) → Option ρ) : Lor := fun ρ j st K => sel (Nat.beq j 0) (cutO Try.prog 20 [0, 1, 5] 1 [true] [] st fun avs obs => W0 ρ avs obs (fun z1 z2 => K (.exit 0) (mkS 20 [1] [vi z1] [ro z2] [true]))) (Option.none)
noncomputable def c0 : Code := loopC (atomN [] 0 (bodyOf Try.f31) 0)
def ct0 : Cut := ⟨[0, 1, 5], []⟩
def lv0 : Exit → Cut
  | .exit 0 => ⟨[1], []⟩
  | _ => ⟨[], []⟩
theorem step0 (Q0) (W0) {ρ : Type} (K : Exit → St → Option ρ) (W : List AV → List Ob → Option ρ) (v1 v2 v3) : exC Try.prog (G Q0) (L W0) [] 1 c0 (mkS 20 [0, 1, 5] [.c (.h 0), vi v1, vi v2] [ro v3] [true]) (bodyK Try.prog 20 1 [true] ct0 W lv0 K) =
    B0 (fun y1 => Q0 [vi y1]) v1 v2 v3 (fun u1 u2 u3 => W [.c (.h 0), vi u1, vi u2] [ro u3]) (fun z1 z2 => K (.exit 0) (mkS 20 [1] [vi z1] [ro z2] [true])) := by kernel_rfl
def enc0 (t : Int × Int × Vec ByteArray) : List AV × List Ob := ([.c (.h 0), vi t.1, vi t.2.1], [ro t.2.2])
theorem enc0I : ∀ a b, enc0 a = enc0 b → a = b := by
  intro a b h
  obtain ⟨a0, a1, a2⟩ := a
  obtain ⟨b0, b1, b2⟩ := b
  simp [enc0, encRw_iff] at h
  simp_all
noncomputable def V0 : (ρ : Type) → List AV → List Ob → (Int → (Vec ByteArray) → Option ρ) → Option ρ := fun ρ avs obs k0 => ofC enc0 (fun t => F0 fuelN t.1 t.2.1 t.2.2 k0) (avs, obs)
theorem V0_enc (ρ : Type) : (fun w1 w2 w3 k0 => V0 ρ [.c (.h 0), vi w1, vi w2] [ro w3] k0) = F0 fuelN := by
  funext w1 w2 w3 k0
  exact ofC_enc enc0I _ (w1, w2, w3)
theorem main (Q0) (W0) {ρ : Type} (K : AV → List Ob → Option ρ) (a1 a2) : exC Try.prog (G Q0) (L W0) [] 0 (bodyOf Try.f31) (entry 20 [.c (.h 0), vi a1] [ro a2] [true]) (finO Try.prog Try.f31.results.toList 1 [true] [] K) =
    B (fun w1 w2 w3 k0 => W0 ρ [.c (.h 0), vi w1, vi w2] [ro w3] k0) a1 a2 (fun x1 x2 => K (vi x1) [ro x2]) := by kernel_rfl
theorem Gok : (G laws_markText.Q).ok Try.prog := ⟨(by
    intro ρ f args K r h
    rcases sel_cases h with ⟨hb, h⟩ | ⟨-, h⟩
    · obtain rfl := beq_nat hb
      exact qEntry_ok laws_markText.ac h
    cases h),
  (by
    intro ρ f args K
    simp only [G]
    cases Nat.beq f 51 with
    | true => exact qEntry_nat args K
    | false =>
    simp only [sel]
    rfl),
  (fun ρ f st caps args dst K r h => (by cases h))⟩
theorem hm : Try.prog.follows .mixedOrders = true := by kernel_rfl
theorem e0 : atomsL [] 1 c0 = [] := by kernel_rfl
theorem ok0 (ρ : Type) (st : St) (K : Exit → St → Option ρ) (r : ρ) (h : (L V0) ρ 0 st K = some r) : AW Try.prog (.loop c0) st fun e st' => K e st' = some r := by
  refine loop_ok (ct := ct0) (lv := lv0) (n := 20) (m := 1) (ks := [true]) (j := 0) (jn := []) (L := (L V0)) Gok hm (by rw [e0]; exact Lor.ok_nil _ _) enc0I (fun k t => F0 k t.1 t.2.1 t.2.2 (fun z1 z2 => K (.exit 0) (mkS 20 [1] [vi z1] [ro z2] [true]))) (fun t => rfl) (fun k t => ?_) (fun _ => fuelN) h
  refine (step0 laws_markText.Q V0 K _ t.1 t.2.1 t.2.2).trans ?_
  rw [laws_markText.wrap]
  refine congrArg (fun W => B0 laws_markText.F t.1 t.2.1 t.2.2 W (fun z1 z2 => K (.exit 0) (mkS 20 [1] [vi z1] [ro z2] [true]))) ?_
  funext u1 u2 u3
  exact ofC_enc enc0I _ (u1, u2, u3)
theorem e : atomsL [] 0 (bodyOf Try.f31) = [(0, 0, .loop c0)] := by kernel_rfl
theorem acc (t : Int × Vec ByteArray) (x : Int × Vec ByteArray) (h : F t.1 t.2 = some x) : ACc Try.prog 31 (encA t).1 (encA t).2 true [true] fun rv obs => (rv, obs) = encR x := by
  refine fun_okc (L := (L V0)) (jn := []) (cmds := []) (ks := [true]) (hin := (encA t).2) (fn := Try.f31) (body := (bodyOf Try.f31)) Gok hm Try.func31 (by kernel_rfl) (by kernel_rfl) (by rw [e]; exact Lor.ok_cons ok0 (Lor.ok_nil _ _)) ?_ h
  refine (main laws_markText.Q V0 _ t.1 t.2).trans ?_
  rw [V0_enc]
  refine congrArg (fun K => B (F0 fuelN) t.1 t.2 K) ?_
  funext x1 x2
  exact ofC_enc encRI some (x1, x2)
theorem ac0 (t : Int × Vec ByteArray) (x : Int × Vec ByteArray) (h : F t.1 t.2 = some x) : AC Try.prog 31 (encA t).1 (encA t).2 true [true] fun rv obs => (rv, obs) = encR x := ACc.ac (body := bodyOf Try.f31) Try.func31 (by kernel_rfl) (by kernel_rfl) (acc t x h)
theorem ac (args : List AV) (hin : List Ob) (x : Int × Vec ByteArray) (h : Q args hin = some x) : AC Try.prog 31 args hin false [true] fun rv obs => (rv, obs) = encR x := by
  obtain ⟨t, he, h2⟩ := ofC_some h
  obtain rfl : args = (encA t).1 := (congrArg Prod.fst he).symm
  obtain rfl : hin = (encA t).2 := (congrArg Prod.snd he).symm
  refine (ac0 t x h2).flat fun rv obs e => ?_
  obtain rfl : rv = (encR x).1 := congrArg Prod.fst e
  obtain rfl : obs = (encR x).2 := congrArg Prod.snd e
  refine ⟨by simp [encR, AV.Flat, K.Flat, C.Flat], ?_⟩
  intro o ho
  simp only [encR, List.mem_cons, List.not_mem_nil, or_false] at ho
  subst ho
  exact flat_rw rfl _
end laws_markStringS_s1401
/-! loop.example/g00073/laws.markRegionS -/
namespace laws_markRegionS_s11cf
noncomputable def B0 {ρ : Type} (C0 : Int → (Vec ByteArray) → Option (Int × Vec ByteArray)) (v1 : Int) (v2 : Int) (v3 : Vec (Bool × (Vec ByteArray) × (Vec ByteArray) × (Vec ByteArray))) (W : Int → Int → (Vec (Bool × (Vec ByteArray) × (Vec ByteArray) × (Vec ByteArray))) → Option ρ) (K0 : Int → (Vec (Bool × (Vec ByteArray) × (Vec ByteArray) × (Vec ByteArray))) → Option ρ) : Option ρ :=
  let d1 := (Vec.set v3 v2.toNat (decide ((Int.tmod v1 (3 : Int)) = (0 : Int)), (v3.g v2.toNat).2.1, (v3.g v2.toNat).2.2.1, (v3.g v2.toNat).2.2.2))
  sel (decide (v2 < (v3.n : Int))) (chk (decide (0 ≤ v2 ∧ v2 < (v3.n : Int))) (chk (decide (v2.toNat < v3.n)) (chk (decide (0 ≤ v2 ∧ v2 < (d1.n : Int))) (chk (decide (v2.toNat < d1.n)) ((C0 (wr (v1 + (1 : Int))) ((d1.g v2.toNat).2.1)).bind fun r1 => chk (decide (0 ≤ v2 ∧ v2 < ((Vec.set d1 v2.toNat ((d1.g v2.toNat).1, r1.2, (d1.g v2.toNat).2.2.1, (d1.g v2.toNat).2.2.2)).n : Int))) (chk (decide (v2.toNat < (Vec.set d1 v2.toNat ((d1.g v2.toNat).1, r1.2, (d1.g v2.toNat).2.2.1, (d1.g v2.toNat).2.2.2)).n)) ((C0 r1.1 (((Vec.set d1 v2.toNat ((d1.g v2.toNat).1, r1.2, (d1.g v2.toNat).2.2.1, (d1.g v2.toNat).2.2.2)).g v2.toNat).2.2.1)).bind fun r2 => chk (decide (0 ≤ v2 ∧ v2 < ((Vec.set (Vec.set d1 v2.toNat ((d1.g v2.toNat).1, r1.2, (d1.g v2.toNat).2.2.1, (d1.g v2.toNat).2.2.2)) v2.toNat (((Vec.set d1 v2.toNat ((d1.g v2.toNat).1, r1.2, (d1.g v2.toNat).2.2.1, (d1.g v2.toNat).2.2.2)).g v2.toNat).1, ((Vec.set d1 v2.toNat ((d1.g v2.toNat).1, r1.2, (d1.g v2.toNat).2.2.1, (d1.g v2.toNat).2.2.2)).g v2.toNat).2.1, r2.2, ((Vec.set d1 v2.toNat ((d1.g v2.toNat).1, r1.2, (d1.g v2.toNat).2.2.1, (d1.g v2.toNat).2.2.2)).g v2.toNat).2.2.2)).n : Int))) (chk (decide (v2.toNat < (Vec.set (Vec.set d1 v2.toNat ((d1.g v2.toNat).1, r1.2, (d1.g v2.toNat).2.2.1, (d1.g v2.toNat).2.2.2)) v2.toNat (((Vec.set d1 v2.toNat ((d1.g v2.toNat).1, r1.2, (d1.g v2.toNat).2.2.1, (d1.g v2.toNat).2.2.2)).g v2.toNat).1, ((Vec.set d1 v2.toNat ((d1.g v2.toNat).1, r1.2, (d1.g v2.toNat).2.2.1, (d1.g v2.toNat).2.2.2)).g v2.toNat).2.1, r2.2, ((Vec.set d1 v2.toNat ((d1.g v2.toNat).1, r1.2, (d1.g v2.toNat).2.2.1, (d1.g v2.toNat).2.2.2)).g v2.toNat).2.2.2)).n)) ((C0 r2.1 (((Vec.set (Vec.set d1 v2.toNat ((d1.g v2.toNat).1, r1.2, (d1.g v2.toNat).2.2.1, (d1.g v2.toNat).2.2.2)) v2.toNat (((Vec.set d1 v2.toNat ((d1.g v2.toNat).1, r1.2, (d1.g v2.toNat).2.2.1, (d1.g v2.toNat).2.2.2)).g v2.toNat).1, ((Vec.set d1 v2.toNat ((d1.g v2.toNat).1, r1.2, (d1.g v2.toNat).2.2.1, (d1.g v2.toNat).2.2.2)).g v2.toNat).2.1, r2.2, ((Vec.set d1 v2.toNat ((d1.g v2.toNat).1, r1.2, (d1.g v2.toNat).2.2.1, (d1.g v2.toNat).2.2.2)).g v2.toNat).2.2.2)).g v2.toNat).2.2.2)).bind fun r3 => W r3.1 (wr (v2 + (1 : Int))) (Vec.set (Vec.set (Vec.set d1 v2.toNat ((d1.g v2.toNat).1, r1.2, (d1.g v2.toNat).2.2.1, (d1.g v2.toNat).2.2.2)) v2.toNat (((Vec.set d1 v2.toNat ((d1.g v2.toNat).1, r1.2, (d1.g v2.toNat).2.2.1, (d1.g v2.toNat).2.2.2)).g v2.toNat).1, ((Vec.set d1 v2.toNat ((d1.g v2.toNat).1, r1.2, (d1.g v2.toNat).2.2.1, (d1.g v2.toNat).2.2.2)).g v2.toNat).2.1, r2.2, ((Vec.set d1 v2.toNat ((d1.g v2.toNat).1, r1.2, (d1.g v2.toNat).2.2.1, (d1.g v2.toNat).2.2.2)).g v2.toNat).2.2.2)) v2.toNat (((Vec.set (Vec.set d1 v2.toNat ((d1.g v2.toNat).1, r1.2, (d1.g v2.toNat).2.2.1, (d1.g v2.toNat).2.2.2)) v2.toNat (((Vec.set d1 v2.toNat ((d1.g v2.toNat).1, r1.2, (d1.g v2.toNat).2.2.1, (d1.g v2.toNat).2.2.2)).g v2.toNat).1, ((Vec.set d1 v2.toNat ((d1.g v2.toNat).1, r1.2, (d1.g v2.toNat).2.2.1, (d1.g v2.toNat).2.2.2)).g v2.toNat).2.1, r2.2, ((Vec.set d1 v2.toNat ((d1.g v2.toNat).1, r1.2, (d1.g v2.toNat).2.2.1, (d1.g v2.toNat).2.2.2)).g v2.toNat).2.2.2)).g v2.toNat).1, ((Vec.set (Vec.set d1 v2.toNat ((d1.g v2.toNat).1, r1.2, (d1.g v2.toNat).2.2.1, (d1.g v2.toNat).2.2.2)) v2.toNat (((Vec.set d1 v2.toNat ((d1.g v2.toNat).1, r1.2, (d1.g v2.toNat).2.2.1, (d1.g v2.toNat).2.2.2)).g v2.toNat).1, ((Vec.set d1 v2.toNat ((d1.g v2.toNat).1, r1.2, (d1.g v2.toNat).2.2.1, (d1.g v2.toNat).2.2.2)).g v2.toNat).2.1, r2.2, ((Vec.set d1 v2.toNat ((d1.g v2.toNat).1, r1.2, (d1.g v2.toNat).2.2.1, (d1.g v2.toNat).2.2.2)).g v2.toNat).2.2.2)).g v2.toNat).2.1, ((Vec.set (Vec.set d1 v2.toNat ((d1.g v2.toNat).1, r1.2, (d1.g v2.toNat).2.2.1, (d1.g v2.toNat).2.2.2)) v2.toNat (((Vec.set d1 v2.toNat ((d1.g v2.toNat).1, r1.2, (d1.g v2.toNat).2.2.1, (d1.g v2.toNat).2.2.2)).g v2.toNat).1, ((Vec.set d1 v2.toNat ((d1.g v2.toNat).1, r1.2, (d1.g v2.toNat).2.2.1, (d1.g v2.toNat).2.2.2)).g v2.toNat).2.1, r2.2, ((Vec.set d1 v2.toNat ((d1.g v2.toNat).1, r1.2, (d1.g v2.toNat).2.2.1, (d1.g v2.toNat).2.2.2)).g v2.toNat).2.2.2)).g v2.toNat).2.2.1, r3.2))))))))))) (K0 v1 v3)
noncomputable def F0 {ρ : Type} : Nat → Int → Int → (Vec (Bool × (Vec ByteArray) × (Vec ByteArray) × (Vec ByteArray))) → (Int → (Vec (Bool × (Vec ByteArray) × (Vec ByteArray) × (Vec ByteArray))) → Option ρ) → Option ρ
  | 0, _, _, _, _ => none
  | k + 1, v1, v2, v3, K0 => B0 laws_markStringS_s1401.F v1 v2 v3 (fun v1' v2' v3' => F0 k v1' v2' v3' K0) K0
noncomputable def B {ρ : Type} (L0 : Int → Int → (Vec (Bool × (Vec ByteArray) × (Vec ByteArray) × (Vec ByteArray))) → (Int → (Vec (Bool × (Vec ByteArray) × (Vec ByteArray) × (Vec ByteArray))) → Option ρ) → Option ρ) (a1 : Int) (a2 : Vec (Bool × (Vec ByteArray) × (Vec ByteArray) × (Vec ByteArray))) (K : Int → (Vec (Bool × (Vec ByteArray) × (Vec ByteArray) × (Vec ByteArray))) → Option ρ) : Option ρ :=
  L0 a1 (0 : Int) a2 (fun e01 e02 => K e01 e02)
noncomputable def F (a1 : Int) (a2 : Vec (Bool × (Vec ByteArray) × (Vec ByteArray) × (Vec ByteArray))) : Option (Int × (Vec (Bool × (Vec ByteArray) × (Vec ByteArray) × (Vec ByteArray)))) := B (F0 fuelN) a1 a2 (fun x1 x2 => some (x1, x2))
def encA (t : Int × (Vec (Bool × (Vec ByteArray) × (Vec ByteArray) × (Vec ByteArray)))) : List AV × List Ob := ([.c (.h 0), vi t.1], [ro t.2])
def encR (x : Int × (Vec (Bool × (Vec ByteArray) × (Vec ByteArray) × (Vec ByteArray)))) : AV × List Ob := (vi x.1, [ro x.2])
theorem encAI : ∀ a b, encA a = encA b → a = b := by
  intro a b h
  obtain ⟨a0, a1⟩ := a
  obtain ⟨b0, b1⟩ := b
  simp [encA, encRw_iff] at h
  simp_all
theorem encRI : ∀ a b, encR a = encR b → a = b := by
  intro a b h
  obtain ⟨a0, a1⟩ := a
  obtain ⟨b0, b1⟩ := b
  simp [encR, encRw_iff] at h
  simp_all
noncomputable def Q (args : List AV) (hin : List Ob) : Option (Int × (Vec (Bool × (Vec ByteArray) × (Vec ByteArray) × (Vec ByteArray)))) := ofC encA (fun t => F t.1 t.2) (args, hin)
theorem wrap : (fun (y1 : Int) (y2 : Vec (Bool × (Vec ByteArray) × (Vec ByteArray) × (Vec ByteArray))) => Q [.c (.h 0), vi y1] [ro y2]) = F := by
  funext y1 y2
  exact ofC_enc encAI _ (y1, y2)
noncomputable def G (Q0 : List AV → List Ob → Option (Int × Vec ByteArray)) : Orc := ⟨fun f => 9, fun ρ f args K => Option.none, fun ρ f st args dst K => sel (Nat.beq f 31) (callE Try.prog 31 [true, false] false [true] laws_markStringS_s1401.encR Q0 st args dst K) (Option.none), true⟩
noncomputable def L (W0 : (ρ : Type) → List AV → List Ob → (Int → (Vec (Bool × (Vec ByteArray) × (Vec ByteArray) × (Vec ByteArray))) → Option ρ) → Option ρ) : Lor := fun ρ j st K => sel (Nat.beq j 0) (cutO Try.prog 43 [0, 1, 5] 1 [true] [] st fun avs obs => W0 ρ avs obs (fun z1 z2 => K (.exit 0) (mkS 43 [1] [vi z1] [ro z2] [true]))) (Option.none)
noncomputable def c0 : Code := loopC (atomN [] 0 (bodyOf Try.f26) 0)
def ct0 : Cut := ⟨[0, 1, 5], []⟩
def lv0 : Exit → Cut
  | .exit 0 => ⟨[1], []⟩
  | _ => ⟨[], []⟩
theorem step0 (Q0) (W0) {ρ : Type} (K : Exit → St → Option ρ) (W : List AV → List Ob → Option ρ) (v1 v2 v3) : exC Try.prog (G Q0) (L W0) [] 1 c0 (mkS 43 [0, 1, 5] [.c (.h 0), vi v1, vi v2] [ro v3] [true]) (bodyK Try.prog 43 1 [true] ct0 W lv0 K) =
    B0 (fun y1 y2 => Q0 [.c (.h 0), vi y1] [ro y2]) v1 v2 v3 (fun u1 u2 u3 => W [.c (.h 0), vi u1, vi u2] [ro u3]) (fun z1 z2 => K (.exit 0) (mkS 43 [1] [vi z1] [ro z2] [true])) := by kernel_rfl
def enc0 (t : Int × Int × (Vec (Bool × (Vec ByteArray) × (Vec ByteArray) × (Vec ByteArray)))) : List AV × List Ob := ([.c (.h 0), vi t.1, vi t.2.1], [ro t.2.2])
theorem enc0I : ∀ a b, enc0 a = enc0 b → a = b := by
  intro a b h
  obtain ⟨a0, a1, a2⟩ := a
  obtain ⟨b0, b1, b2⟩ := b
  simp [enc0, encRw_iff] at h
  simp_all
noncomputable def V0 : (ρ : Type) → List AV → List Ob → (Int → (Vec (Bool × (Vec ByteArray) × (Vec ByteArray) × (Vec ByteArray))) → Option ρ) → Option ρ := fun ρ avs obs k0 => ofC enc0 (fun t => F0 fuelN t.1 t.2.1 t.2.2 k0) (avs, obs)
theorem V0_enc (ρ : Type) : (fun w1 w2 w3 k0 => V0 ρ [.c (.h 0), vi w1, vi w2] [ro w3] k0) = F0 fuelN := by
  funext w1 w2 w3 k0
  exact ofC_enc enc0I _ (w1, w2, w3)
theorem main (Q0) (W0) {ρ : Type} (K : AV → List Ob → Option ρ) (a1 a2) : exC Try.prog (G Q0) (L W0) [] 0 (bodyOf Try.f26) (entry 43 [.c (.h 0), vi a1] [ro a2] [true]) (finO Try.prog Try.f26.results.toList 1 [true] [] K) =
    B (fun w1 w2 w3 k0 => W0 ρ [.c (.h 0), vi w1, vi w2] [ro w3] k0) a1 a2 (fun x1 x2 => K (vi x1) [ro x2]) := by kernel_rfl
theorem Gok : (G laws_markStringS_s1401.Q).ok Try.prog := ⟨(fun ρ f args K r h => (by cases h)),
  (fun ρ f args K => rfl),
  (by
    intro ρ f st caps args dst K r h
    rcases sel_cases h with ⟨hb, h⟩ | ⟨-, h⟩
    · obtain rfl := beq_nat hb
      exact callE_ok (fun h => by cases h) laws_markStringS_s1401.ac h
    cases h)⟩
theorem hm : Try.prog.follows .mixedOrders = true := by kernel_rfl
theorem e0 : atomsL [] 1 c0 = [] := by kernel_rfl
theorem ok0 (ρ : Type) (st : St) (K : Exit → St → Option ρ) (r : ρ) (h : (L V0) ρ 0 st K = some r) : AW Try.prog (.loop c0) st fun e st' => K e st' = some r := by
  refine loop_ok (ct := ct0) (lv := lv0) (n := 43) (m := 1) (ks := [true]) (j := 0) (jn := []) (L := (L V0)) Gok hm (by rw [e0]; exact Lor.ok_nil _ _) enc0I (fun k t => F0 k t.1 t.2.1 t.2.2 (fun z1 z2 => K (.exit 0) (mkS 43 [1] [vi z1] [ro z2] [true]))) (fun t => rfl) (fun k t => ?_) (fun _ => fuelN) h
  refine (step0 laws_markStringS_s1401.Q V0 K _ t.1 t.2.1 t.2.2).trans ?_
  rw [laws_markStringS_s1401.wrap]
  refine congrArg (fun W => B0 laws_markStringS_s1401.F t.1 t.2.1 t.2.2 W (fun z1 z2 => K (.exit 0) (mkS 43 [1] [vi z1] [ro z2] [true]))) ?_
  funext u1 u2 u3
  exact ofC_enc enc0I _ (u1, u2, u3)
theorem e : atomsL [] 0 (bodyOf Try.f26) = [(0, 0, .loop c0)] := by kernel_rfl
theorem acc (t : Int × (Vec (Bool × (Vec ByteArray) × (Vec ByteArray) × (Vec ByteArray)))) (x : Int × (Vec (Bool × (Vec ByteArray) × (Vec ByteArray) × (Vec ByteArray)))) (h : F t.1 t.2 = some x) : ACc Try.prog 26 (encA t).1 (encA t).2 true [true] fun rv obs => (rv, obs) = encR x := by
  refine fun_okc (L := (L V0)) (jn := []) (cmds := []) (ks := [true]) (hin := (encA t).2) (fn := Try.f26) (body := (bodyOf Try.f26)) Gok hm Try.func26 (by kernel_rfl) (by kernel_rfl) (by rw [e]; exact Lor.ok_cons ok0 (Lor.ok_nil _ _)) ?_ h
  refine (main laws_markStringS_s1401.Q V0 _ t.1 t.2).trans ?_
  rw [V0_enc]
  refine congrArg (fun K => B (F0 fuelN) t.1 t.2 K) ?_
  funext x1 x2
  exact ofC_enc encRI some (x1, x2)
theorem ac0 (t : Int × (Vec (Bool × (Vec ByteArray) × (Vec ByteArray) × (Vec ByteArray)))) (x : Int × (Vec (Bool × (Vec ByteArray) × (Vec ByteArray) × (Vec ByteArray)))) (h : F t.1 t.2 = some x) : AC Try.prog 26 (encA t).1 (encA t).2 true [true] fun rv obs => (rv, obs) = encR x := ACc.ac (body := bodyOf Try.f26) Try.func26 (by kernel_rfl) (by kernel_rfl) (acc t x h)
theorem ac (args : List AV) (hin : List Ob) (x : Int × (Vec (Bool × (Vec ByteArray) × (Vec ByteArray) × (Vec ByteArray)))) (h : Q args hin = some x) : AC Try.prog 26 args hin false [true] fun rv obs => (rv, obs) = encR x := by
  obtain ⟨t, he, h2⟩ := ofC_some h
  obtain rfl : args = (encA t).1 := (congrArg Prod.fst he).symm
  obtain rfl : hin = (encA t).2 := (congrArg Prod.snd he).symm
  refine (ac0 t x h2).flat fun rv obs e => ?_
  obtain rfl : rv = (encR x).1 := congrArg Prod.fst e
  obtain rfl : obs = (encR x).2 := congrArg Prod.snd e
  refine ⟨by simp [encR, AV.Flat, K.Flat, C.Flat], ?_⟩
  intro o ho
  simp only [encR, List.mem_cons, List.not_mem_nil, or_false] at ho
  subst ho
  exact flat_rw rfl _
end laws_markRegionS_s11cf
/-! loop.example/g00073/laws.heldStringS -/
namespace laws_heldStringS
noncomputable def B0 {ρ : Type} (C0 : Int → Option ByteArray) (v1 : Vec ByteArray) (v2 : Int) (v3 : Int) (W : (Vec ByteArray) → Int → Int → Option ρ) (K0 : Int → Option ρ) (Kr : Int → Option ρ) : Option ρ :=
  sel (decide (v3 < (v1.n : Int))) (chk (decide (0 ≤ v3 ∧ v3 < (v1.n : Int))) ((C0 v2).bind fun r1 => sel ((!decide ((v1.g v3.toNat) = r1))) (Kr (-1 : Int)) (W v1 (wr (v2 + (1 : Int))) (wr (v3 + (1 : Int)))))) (K0 v2)
noncomputable def F0 {ρ : Type} : Nat → (Vec ByteArray) → Int → Int → (Int → Option ρ) → (Int → Option ρ) → Option ρ
  | 0, _, _, _, _, _ => none
  | k + 1, v1, v2, v3, K0, Kr => B0 laws_markText.F v1 v2 v3 (fun v1' v2' v3' => F0 k v1' v2' v3' K0 Kr) K0 Kr
noncomputable def B {ρ : Type} (L0 : (Vec ByteArray) → Int → Int → (Int → Option ρ) → (Int → Option ρ) → Option ρ) (a1 : Vec ByteArray) (a2 : Int) (K : Int → Option ρ) : Option ρ :=
  L0 a1 a2 (0 : Int) (fun e01 => K e01) (fun x01 => K x01)
noncomputable def F (a1 : Vec ByteArray) (a2 : Int) : Option Int := B (F0 fuelN) a1 a2 (fun x1 => some (x1))
def encA (t : Vec ByteArray × Int) : List AV := [vl t.1, vi t.2]
def encR (x : Int) : AV × List Ob := (vi x, [])
theorem encAI : ∀ a b, encA a = encA b → a = b := by
  intro a b h
  obtain ⟨a0, a1⟩ := a
  obtain ⟨b0, b1⟩ := b
  simp [encA, encRw_iff] at h
  simp_all
theorem encRI : ∀ a b, encR a = encR b → a = b := by
  intro a b h
  simp [encR, encRw_iff] at h
  simp_all
noncomputable def Q (args : List AV) : Option Int := ofC encA (fun t => F t.1 t.2) args
theorem wrap : (fun (y1 : Vec ByteArray) (y2 : Int) => Q [vl y1, vi y2]) = F := by
  funext y1 y2
  exact ofC_enc encAI _ (y1, y2)
noncomputable def G (Q0 : List AV → Option ByteArray) : Orc := ⟨fun f => sel (Nat.beq f 51) 0 (9), fun ρ f args K => sel (Nat.beq f 51) (qEntry laws_markText.encR Q0 args K) (Option.none), noE, false⟩
noncomputable def L (W0 : (ρ : Type) → List AV → List Ob → (Int → Option ρ) → (Int → Option ρ) → Option ρ) : Lor := fun ρ j st K => sel (Nat.beq j 0) (cutO Try.prog 22 [0, 1, 5] 0 [] [] st fun avs obs => W0 ρ avs obs (fun z1 => K (.exit 0) (mkS 22 [1] [vi z1] [] [])) (fun z1 => K .ret (mkS 22 [4] [vi z1] [] []))) (Option.none)
noncomputable def c0 : Code := loopC (atomN [] 0 (bodyOf Try.f32) 0)
def ct0 : Cut := ⟨[0, 1, 5], []⟩
def lv0 : Exit → Cut
  | .exit 0 => ⟨[1], []⟩
  | .ret => ⟨[4], []⟩
  | _ => ⟨[], []⟩
theorem step0 (Q0) (W0) {ρ : Type} (K : Exit → St → Option ρ) (W : List AV → List Ob → Option ρ) (v1 v2 v3) : exC Try.prog (G Q0) (L W0) [] 1 c0 (mkS 22 [0, 1, 5] [vl v1, vi v2, vi v3] [] []) (bodyK Try.prog 22 0 [] ct0 W lv0 K) =
    B0 (fun y1 => Q0 [vi y1]) v1 v2 v3 (fun u1 u2 u3 => W [vl u1, vi u2, vi u3] []) (fun z1 => K (.exit 0) (mkS 22 [1] [vi z1] [] [])) (fun z1 => K .ret (mkS 22 [4] [vi z1] [] [])) := by kernel_rfl
def enc0 (t : Vec ByteArray × Int × Int) : List AV × List Ob := ([vl t.1, vi t.2.1, vi t.2.2], [])
theorem enc0I : ∀ a b, enc0 a = enc0 b → a = b := by
  intro a b h
  obtain ⟨a0, a1, a2⟩ := a
  obtain ⟨b0, b1, b2⟩ := b
  simp [enc0, encRw_iff] at h
  simp_all
noncomputable def V0 : (ρ : Type) → List AV → List Ob → (Int → Option ρ) → (Int → Option ρ) → Option ρ := fun ρ avs obs k0 kr => ofC enc0 (fun t => F0 fuelN t.1 t.2.1 t.2.2 k0 kr) (avs, obs)
theorem V0_enc (ρ : Type) : (fun w1 w2 w3 k0 kr => V0 ρ [vl w1, vi w2, vi w3] [] k0 kr) = F0 fuelN := by
  funext w1 w2 w3 k0 kr
  exact ofC_enc enc0I _ (w1, w2, w3)
theorem main (Q0) (W0) {ρ : Type} (K : AV → List Ob → Option ρ) (a1 a2) : exC Try.prog (G Q0) (L W0) [] 0 (bodyOf Try.f32) (entry 22 [vl a1, vi a2] [] []) (finO Try.prog Try.f32.results.toList 0 [] [] K) =
    B (fun w1 w2 w3 k0 kr => W0 ρ [vl w1, vi w2, vi w3] [] k0 kr) a1 a2 (fun x1 => K (vi x1) []) := by kernel_rfl
theorem Gok : (G laws_markText.Q).ok Try.prog := ⟨(by
    intro ρ f args K r h
    rcases sel_cases h with ⟨hb, h⟩ | ⟨-, h⟩
    · obtain rfl := beq_nat hb
      exact qEntry_ok laws_markText.ac h
    cases h),
  (by
    intro ρ f args K
    simp only [G]
    cases Nat.beq f 51 with
    | true => exact qEntry_nat args K
    | false =>
    simp only [sel]
    rfl),
  (fun ρ f st caps args dst K r h => (by cases h))⟩
theorem hm : Try.prog.follows .mixedOrders = true := by kernel_rfl
theorem e0 : atomsL [] 1 c0 = [] := by kernel_rfl
theorem ok0 (ρ : Type) (st : St) (K : Exit → St → Option ρ) (r : ρ) (h : (L V0) ρ 0 st K = some r) : AW Try.prog (.loop c0) st fun e st' => K e st' = some r := by
  refine loop_ok (ct := ct0) (lv := lv0) (n := 22) (m := 0) (ks := []) (j := 0) (jn := []) (L := (L V0)) Gok hm (by rw [e0]; exact Lor.ok_nil _ _) enc0I (fun k t => F0 k t.1 t.2.1 t.2.2 (fun z1 => K (.exit 0) (mkS 22 [1] [vi z1] [] [])) (fun z1 => K .ret (mkS 22 [4] [vi z1] [] []))) (fun t => rfl) (fun k t => ?_) (fun _ => fuelN) h
  refine (step0 laws_markText.Q V0 K _ t.1 t.2.1 t.2.2).trans ?_
  rw [laws_markText.wrap]
  refine congrArg (fun W => B0 laws_markText.F t.1 t.2.1 t.2.2 W (fun z1 => K (.exit 0) (mkS 22 [1] [vi z1] [] [])) (fun z1 => K .ret (mkS 22 [4] [vi z1] [] []))) ?_
  funext u1 u2 u3
  exact ofC_enc enc0I _ (u1, u2, u3)
theorem e : atomsL [] 0 (bodyOf Try.f32) = [(0, 0, .loop c0)] := by kernel_rfl
theorem acc (t : Vec ByteArray × Int) (x : Int) (h : F t.1 t.2 = some x) : ACc Try.prog 32 (encA t) [] true [] fun rv obs => (rv, obs) = encR x := by
  refine fun_okc (L := (L V0)) (jn := []) (cmds := []) (ks := []) (hin := []) (fn := Try.f32) (body := (bodyOf Try.f32)) Gok hm Try.func32 (by kernel_rfl) (by kernel_rfl) (by rw [e]; exact Lor.ok_cons ok0 (Lor.ok_nil _ _)) ?_ h
  refine (main laws_markText.Q V0 _ t.1 t.2).trans ?_
  rw [V0_enc]
  refine congrArg (fun K => B (F0 fuelN) t.1 t.2 K) ?_
  funext x1
  exact ofC_enc encRI some (x1)
theorem ac0 (t : Vec ByteArray × Int) (x : Int) (h : F t.1 t.2 = some x) : AC Try.prog 32 (encA t) [] true [] fun rv obs => (rv, obs) = encR x := ACc.ac (body := bodyOf Try.f32) Try.func32 (by kernel_rfl) (by kernel_rfl) (acc t x h)
theorem ac (args : List AV) (x : Int) (h : Q args = some x) : AC Try.prog 32 args [] false [] fun rv obs => (rv, obs) = encR x := by
  obtain ⟨t, rfl, h2⟩ := ofC_some h
  refine (ac0 t x h2).flat fun rv obs e => ?_
  obtain rfl : rv = (encR x).1 := congrArg Prod.fst e
  obtain rfl : obs = (encR x).2 := congrArg Prod.snd e
  refine ⟨by simp [encR, AV.Flat, K.Flat, C.Flat], ?_⟩
  simp [encR]
end laws_heldStringS
/-! loop.example/g00073/laws.heldRegionS -/
namespace laws_heldRegionS
noncomputable def B0 {ρ : Type} (C0 : (Vec ByteArray) → Int → Option Int) (v1 : Vec (Bool × (Vec ByteArray) × (Vec ByteArray) × (Vec ByteArray))) (v2 : Int) (v3 : Int) (W : (Vec (Bool × (Vec ByteArray) × (Vec ByteArray) × (Vec ByteArray))) → Int → Int → Option ρ) (K0 : Int → Option ρ) (Kr : Int → Option ρ) : Option ρ :=
  sel (decide (v3 < (v1.n : Int))) (chk (decide (0 ≤ v3 ∧ v3 < (v1.n : Int))) (sel ((!((v1.g v3.toNat).1 == decide ((Int.tmod v2 (3 : Int)) = (0 : Int))))) (Kr (-1 : Int)) (chk (decide (0 ≤ v3 ∧ v3 < (v1.n : Int))) ((C0 ((v1.g v3.toNat).2.1) (wr (v2 + (1 : Int)))).bind fun r1 => sel (decide (r1 < (0 : Int))) (Kr (-1 : Int)) (chk (decide (0 ≤ v3 ∧ v3 < (v1.n : Int))) ((C0 ((v1.g v3.toNat).2.2.1) r1).bind fun r2 => sel (decide (r2 < (0 : Int))) (Kr (-1 : Int)) (chk (decide (0 ≤ v3 ∧ v3 < (v1.n : Int))) ((C0 ((v1.g v3.toNat).2.2.2) r2).bind fun r3 => sel (decide (r3 < (0 : Int))) (Kr (-1 : Int)) (W v1 r3 (wr (v3 + (1 : Int)))))))))))) (K0 v2)
noncomputable def F0 {ρ : Type} : Nat → (Vec (Bool × (Vec ByteArray) × (Vec ByteArray) × (Vec ByteArray))) → Int → Int → (Int → Option ρ) → (Int → Option ρ) → Option ρ
  | 0, _, _, _, _, _ => none
  | k + 1, v1, v2, v3, K0, Kr => B0 laws_heldStringS.F v1 v2 v3 (fun v1' v2' v3' => F0 k v1' v2' v3' K0 Kr) K0 Kr
noncomputable def B {ρ : Type} (L0 : (Vec (Bool × (Vec ByteArray) × (Vec ByteArray) × (Vec ByteArray))) → Int → Int → (Int → Option ρ) → (Int → Option ρ) → Option ρ) (a1 : Vec (Bool × (Vec ByteArray) × (Vec ByteArray) × (Vec ByteArray))) (a2 : Int) (K : Int → Option ρ) : Option ρ :=
  L0 a1 a2 (0 : Int) (fun e01 => K e01) (fun x01 => K x01)
noncomputable def F (a1 : Vec (Bool × (Vec ByteArray) × (Vec ByteArray) × (Vec ByteArray))) (a2 : Int) : Option Int := B (F0 fuelN) a1 a2 (fun x1 => some (x1))
def encA (t : (Vec (Bool × (Vec ByteArray) × (Vec ByteArray) × (Vec ByteArray))) × Int) : List AV := [vl t.1, vi t.2]
def encR (x : Int) : AV × List Ob := (vi x, [])
theorem encAI : ∀ a b, encA a = encA b → a = b := by
  intro a b h
  obtain ⟨a0, a1⟩ := a
  obtain ⟨b0, b1⟩ := b
  simp [encA, encRw_iff] at h
  simp_all
theorem encRI : ∀ a b, encR a = encR b → a = b := by
  intro a b h
  simp [encR, encRw_iff] at h
  simp_all
noncomputable def Q (args : List AV) : Option Int := ofC encA (fun t => F t.1 t.2) args
theorem wrap : (fun (y1 : Vec (Bool × (Vec ByteArray) × (Vec ByteArray) × (Vec ByteArray))) (y2 : Int) => Q [vl y1, vi y2]) = F := by
  funext y1 y2
  exact ofC_enc encAI _ (y1, y2)
noncomputable def G (Q0 : List AV → Option Int) : Orc := ⟨fun f => sel (Nat.beq f 32) 0 (9), fun ρ f args K => sel (Nat.beq f 32) (qEntry laws_heldStringS.encR Q0 args K) (Option.none), noE, false⟩
noncomputable def L (W0 : (ρ : Type) → List AV → List Ob → (Int → Option ρ) → (Int → Option ρ) → Option ρ) : Lor := fun ρ j st K => sel (Nat.beq j 0) (cutO Try.prog 51 [0, 1, 5] 0 [] [] st fun avs obs => W0 ρ avs obs (fun z1 => K (.exit 0) (mkS 51 [1] [vi z1] [] [])) (fun z1 => K .ret (mkS 51 [4] [vi z1] [] []))) (Option.none)
noncomputable def c0 : Code := loopC (atomN [] 0 (bodyOf Try.f27) 0)
def ct0 : Cut := ⟨[0, 1, 5], []⟩
def lv0 : Exit → Cut
  | .exit 0 => ⟨[1], []⟩
  | .ret => ⟨[4], []⟩
  | _ => ⟨[], []⟩
theorem step0 (Q0) (W0) {ρ : Type} (K : Exit → St → Option ρ) (W : List AV → List Ob → Option ρ) (v1 v2 v3) : exC Try.prog (G Q0) (L W0) [] 1 c0 (mkS 51 [0, 1, 5] [vl v1, vi v2, vi v3] [] []) (bodyK Try.prog 51 0 [] ct0 W lv0 K) =
    B0 (fun y1 y2 => Q0 [vl y1, vi y2]) v1 v2 v3 (fun u1 u2 u3 => W [vl u1, vi u2, vi u3] []) (fun z1 => K (.exit 0) (mkS 51 [1] [vi z1] [] [])) (fun z1 => K .ret (mkS 51 [4] [vi z1] [] [])) := by kernel_rfl
def enc0 (t : (Vec (Bool × (Vec ByteArray) × (Vec ByteArray) × (Vec ByteArray))) × Int × Int) : List AV × List Ob := ([vl t.1, vi t.2.1, vi t.2.2], [])
theorem enc0I : ∀ a b, enc0 a = enc0 b → a = b := by
  intro a b h
  obtain ⟨a0, a1, a2⟩ := a
  obtain ⟨b0, b1, b2⟩ := b
  simp [enc0, encRw_iff] at h
  simp_all
noncomputable def V0 : (ρ : Type) → List AV → List Ob → (Int → Option ρ) → (Int → Option ρ) → Option ρ := fun ρ avs obs k0 kr => ofC enc0 (fun t => F0 fuelN t.1 t.2.1 t.2.2 k0 kr) (avs, obs)
theorem V0_enc (ρ : Type) : (fun w1 w2 w3 k0 kr => V0 ρ [vl w1, vi w2, vi w3] [] k0 kr) = F0 fuelN := by
  funext w1 w2 w3 k0 kr
  exact ofC_enc enc0I _ (w1, w2, w3)
theorem main (Q0) (W0) {ρ : Type} (K : AV → List Ob → Option ρ) (a1 a2) : exC Try.prog (G Q0) (L W0) [] 0 (bodyOf Try.f27) (entry 51 [vl a1, vi a2] [] []) (finO Try.prog Try.f27.results.toList 0 [] [] K) =
    B (fun w1 w2 w3 k0 kr => W0 ρ [vl w1, vi w2, vi w3] [] k0 kr) a1 a2 (fun x1 => K (vi x1) []) := by kernel_rfl
theorem Gok : (G laws_heldStringS.Q).ok Try.prog := ⟨(by
    intro ρ f args K r h
    rcases sel_cases h with ⟨hb, h⟩ | ⟨-, h⟩
    · obtain rfl := beq_nat hb
      exact qEntry_ok laws_heldStringS.ac h
    cases h),
  (by
    intro ρ f args K
    simp only [G]
    cases Nat.beq f 32 with
    | true => exact qEntry_nat args K
    | false =>
    simp only [sel]
    rfl),
  (fun ρ f st caps args dst K r h => (by cases h))⟩
theorem hm : Try.prog.follows .mixedOrders = true := by kernel_rfl
theorem e0 : atomsL [] 1 c0 = [] := by kernel_rfl
theorem ok0 (ρ : Type) (st : St) (K : Exit → St → Option ρ) (r : ρ) (h : (L V0) ρ 0 st K = some r) : AW Try.prog (.loop c0) st fun e st' => K e st' = some r := by
  refine loop_ok (ct := ct0) (lv := lv0) (n := 51) (m := 0) (ks := []) (j := 0) (jn := []) (L := (L V0)) Gok hm (by rw [e0]; exact Lor.ok_nil _ _) enc0I (fun k t => F0 k t.1 t.2.1 t.2.2 (fun z1 => K (.exit 0) (mkS 51 [1] [vi z1] [] [])) (fun z1 => K .ret (mkS 51 [4] [vi z1] [] []))) (fun t => rfl) (fun k t => ?_) (fun _ => fuelN) h
  refine (step0 laws_heldStringS.Q V0 K _ t.1 t.2.1 t.2.2).trans ?_
  rw [laws_heldStringS.wrap]
  refine congrArg (fun W => B0 laws_heldStringS.F t.1 t.2.1 t.2.2 W (fun z1 => K (.exit 0) (mkS 51 [1] [vi z1] [] [])) (fun z1 => K .ret (mkS 51 [4] [vi z1] [] []))) ?_
  funext u1 u2 u3
  exact ofC_enc enc0I _ (u1, u2, u3)
theorem e : atomsL [] 0 (bodyOf Try.f27) = [(0, 0, .loop c0)] := by kernel_rfl
theorem acc (t : (Vec (Bool × (Vec ByteArray) × (Vec ByteArray) × (Vec ByteArray))) × Int) (x : Int) (h : F t.1 t.2 = some x) : ACc Try.prog 27 (encA t) [] true [] fun rv obs => (rv, obs) = encR x := by
  refine fun_okc (L := (L V0)) (jn := []) (cmds := []) (ks := []) (hin := []) (fn := Try.f27) (body := (bodyOf Try.f27)) Gok hm Try.func27 (by kernel_rfl) (by kernel_rfl) (by rw [e]; exact Lor.ok_cons ok0 (Lor.ok_nil _ _)) ?_ h
  refine (main laws_heldStringS.Q V0 _ t.1 t.2).trans ?_
  rw [V0_enc]
  refine congrArg (fun K => B (F0 fuelN) t.1 t.2 K) ?_
  funext x1
  exact ofC_enc encRI some (x1)
theorem ac0 (t : (Vec (Bool × (Vec ByteArray) × (Vec ByteArray) × (Vec ByteArray))) × Int) (x : Int) (h : F t.1 t.2 = some x) : AC Try.prog 27 (encA t) [] true [] fun rv obs => (rv, obs) = encR x := ACc.ac (body := bodyOf Try.f27) Try.func27 (by kernel_rfl) (by kernel_rfl) (acc t x h)
theorem ac (args : List AV) (x : Int) (h : Q args = some x) : AC Try.prog 27 args [] false [] fun rv obs => (rv, obs) = encR x := by
  obtain ⟨t, rfl, h2⟩ := ofC_some h
  refine (ac0 t x h2).flat fun rv obs e => ?_
  obtain rfl : rv = (encR x).1 := congrArg Prod.fst e
  obtain rfl : obs = (encR x).2 := congrArg Prod.snd e
  refine ⟨by simp [encR, AV.Flat, K.Flat, C.Flat], ?_⟩
  simp [encR]
end laws_heldRegionS
/-! loop.example/g00073/laws.FnExactRegionsOf -/
namespace laws_FnExactRegionsOf
noncomputable def B {ρ : Type} (C0 : (Vec (Vec Int)) → (Vec (ByteArray × Int × Int × (Vec Int))) → Int → Option Int) (C1 : (Vec (Vec Int)) → (Vec (ByteArray × Int × Int × (Vec Int))) → Option (Vec (Vec Int) × (Vec (ByteArray × Int × Int × (Vec Int))))) (C2 : (Vec (Vec Int)) → (Vec (ByteArray × Int × Int × (Vec Int))) → Int → Int → Option (Int × (Vec (Bool × (Vec ByteArray) × (Vec ByteArray) × (Vec ByteArray))))) (C3 : (Vec (Vec Int)) → (Vec (ByteArray × Int × Int × (Vec Int))) → Int → Int → Option (Int × (Vec (Bool × (Vec ByteArray) × (Vec ByteArray) × (Vec ByteArray))))) (C4 : (Vec (Bool × (Vec ByteArray) × (Vec ByteArray) × (Vec ByteArray))) → (Vec (Bool × (Vec ByteArray) × (Vec ByteArray) × (Vec ByteArray))) → Option Bool) (C5 : (Vec (Vec Int)) → (Vec (ByteArray × Int × Int × (Vec Int))) → (Vec (Vec Int)) → (Vec (ByteArray × Int × Int × (Vec Int))) → Option Bool) (C6 : Int → (Vec (Vec Int)) → (Vec (ByteArray × Int × Int × (Vec Int))) → Option (Int × Vec (Vec Int) × (Vec (ByteArray × Int × Int × (Vec Int))))) (C7 : Int → (Vec (Bool × (Vec ByteArray) × (Vec ByteArray) × (Vec ByteArray))) → Option (Int × (Vec (Bool × (Vec ByteArray) × (Vec ByteArray) × (Vec ByteArray))))) (C8 : (Vec (Bool × (Vec ByteArray) × (Vec ByteArray) × (Vec ByteArray))) → Int → Option Int) (a1 : Vec (Vec Int)) (a2 : Vec (ByteArray × Int × Int × (Vec Int))) (a3 : Int) (a4 : Int) (K : Bool → Option ρ) : Option ρ :=
  (C0 a1 a2 (1048576 : Int)).bind fun r1 => sel (decide (r1 < (0 : Int))) (K true) ((C1 a1 a2).bind fun r2 => (C2 r2.1 r2.2 a3 a4).bind fun r3 => (C1 a1 a2).bind fun r4 => (C3 r4.1 r4.2 a3 a4).bind fun r5 => (C4 r5.2 r3.2).bind fun r6 => sel ((!r6)) (K false) (sel ((!decide (r5.1 = r3.1))) (K false) ((C1 a1 a2).bind fun r7 => (C5 r4.1 r4.2 r7.1 r7.2).bind fun r8 => sel ((!r8)) (K false) ((C6 (1 : Int) r4.1 r4.2).bind fun r9 => sel (decide (r9.1 < (0 : Int))) (K false) ((C4 r5.2 r3.2).bind fun r10 => sel ((!r10)) (K false) (sel ((!decide (r5.1 = r3.1))) (K false) ((C7 (1 : Int) r5.2).bind fun r11 => (C8 r11.2 (1 : Int)).bind fun r12 => sel (decide (r12 < (0 : Int))) (K false) (sel ((!decide (r12 = r11.1))) (K false) ((C1 a1 a2).bind fun r13 => (C3 r13.1 r13.2 a3 a4).bind fun r14 => (C4 r14.2 r3.2).bind fun r15 => sel ((!r15)) (K false) (sel ((!decide (r14.1 = r3.1))) (K false) ((C8 r11.2 (1 : Int)).bind fun r16 => sel (decide (r16 < (0 : Int))) (K false) (sel ((!decide (r16 = r11.1))) (K false) (K true)))))))))))))
noncomputable def F (a1 : Vec (Vec Int)) (a2 : Vec (ByteArray × Int × Int × (Vec Int))) (a3 : Int) (a4 : Int) : Option Bool := B laws_szWeave.F laws_toWeave.F spec_RegionsOf.F impl_RegionsOf.F laws_eqRegionS.F laws_eqWeave.F laws_markWeave_saeda.F laws_markRegionS_s11cf.F laws_heldRegionS.F a1 a2 a3 a4 (fun x1 => some (x1))
def encA (t : Vec (Vec Int) × (Vec (ByteArray × Int × Int × (Vec Int))) × Int × Int) : List AV := [.a [cl t.1, cl t.2.1], vi t.2.2.1, vi t.2.2.2]
def encR (x : Bool) : AV × List Ob := (vb x, [])
theorem encAI : ∀ a b, encA a = encA b → a = b := by
  intro a b h
  obtain ⟨a0, a1, a2, a3⟩ := a
  obtain ⟨b0, b1, b2, b3⟩ := b
  simp [encA, encRw_iff] at h
  simp_all
theorem encRI : ∀ a b, encR a = encR b → a = b := by
  intro a b h
  simp [encR, encRw_iff] at h
  simp_all
noncomputable def Q (args : List AV) : Option Bool := ofC encA (fun t => F t.1 t.2.1 t.2.2.1 t.2.2.2) args
theorem wrap : (fun (y1 : Vec (Vec Int)) (y2 : Vec (ByteArray × Int × Int × (Vec Int))) (y3 : Int) (y4 : Int) => Q [.a [cl y1, cl y2], vi y3, vi y4]) = F := by
  funext y1 y2 y3 y4
  exact ofC_enc encAI _ (y1, y2, y3, y4)
noncomputable def G (Q0 : List AV → Option Int) (Q1 : List AV → Option (Vec (Vec Int) × (Vec (ByteArray × Int × Int × (Vec Int))))) (Q2 : List AV → Option (Int × (Vec (Bool × (Vec ByteArray) × (Vec ByteArray) × (Vec ByteArray))))) (Q3 : List AV → Option (Int × (Vec (Bool × (Vec ByteArray) × (Vec ByteArray) × (Vec ByteArray))))) (Q4 : List AV → Option Bool) (Q5 : List AV → Option Bool) (Q6 : List AV → List Ob → Option (Int × Vec (Vec Int) × (Vec (ByteArray × Int × Int × (Vec Int))))) (Q7 : List AV → List Ob → Option (Int × (Vec (Bool × (Vec ByteArray) × (Vec ByteArray) × (Vec ByteArray))))) (Q8 : List AV → Option Int) : Orc := ⟨fun f => sel (Nat.beq f 19) 0 (sel (Nat.beq f 21) 0 (sel (Nat.beq f 20) 0 (sel (Nat.beq f 22) 0 (sel (Nat.beq f 23) 0 (sel (Nat.beq f 24) 0 (sel (Nat.beq f 27) 0 (9))))))), fun ρ f args K => sel (Nat.beq f 19) (qEntry laws_szWeave.encR Q0 args K) (sel (Nat.beq f 21) (qEntry laws_toWeave.encR Q1 args K) (sel (Nat.beq f 20) (qEntry spec_RegionsOf.encR Q2 args K) (sel (Nat.beq f 22) (qEntry impl_RegionsOf.encR Q3 args K) (sel (Nat.beq f 23) (qEntry laws_eqRegionS.encR Q4 args K) (sel (Nat.beq f 24) (qEntry laws_eqWeave.encR Q5 args K) (sel (Nat.beq f 27) (qEntry laws_heldRegionS.encR Q8 args K) (Option.none))))))), fun ρ f st args dst K => sel (Nat.beq f 25) (callE Try.prog 25 [true, false] false [true, true] laws_markWeave_saeda.encR Q6 st args dst K) (sel (Nat.beq f 26) (callE Try.prog 26 [true, false] false [true] laws_markRegionS_s11cf.encR Q7 st args dst K) (Option.none)), false⟩
noncomputable def L : Lor := fun ρ j st K => Option.none
theorem main (Q0 Q1 Q2 Q3 Q4 Q5 Q6 Q7 Q8) {ρ : Type} (K : AV → List Ob → Option ρ) (a1 a2 a3 a4) : exC Try.prog (G Q0 Q1 Q2 Q3 Q4 Q5 Q6 Q7 Q8) (L) [] 0 (bodyOf Try.f4) (entry 106 [.a [cl a1, cl a2], vi a3, vi a4] [] []) (finO Try.prog Try.f4.results.toList 0 [] [] K) =
    B (fun y1 y2 y3 => Q0 [.a [cl y1, cl y2], vi y3]) (fun y1 y2 => Q1 [.a [cl y1, cl y2]]) (fun y1 y2 y3 y4 => Q2 [.a [cl y1, cl y2], vi y3, vi y4]) (fun y1 y2 y3 y4 => Q3 [.a [cl y1, cl y2], vi y3, vi y4]) (fun y1 y2 => Q4 [vl y1, vl y2]) (fun y1 y2 y3 y4 => Q5 [.a [cl y1, cl y2], .a [cl y3, cl y4]]) (fun y1 y2 y3 => Q6 [.a [.h 0, .h 1], vi y1] [ro y2, ro y3]) (fun y1 y2 => Q7 [.c (.h 0), vi y1] [ro y2]) (fun y1 y2 => Q8 [vl y1, vi y2]) a1 a2 a3 a4 (fun x1 => K (vb x1) []) := by kernel_rfl
theorem Gok : (G laws_szWeave.Q laws_toWeave.Q spec_RegionsOf.Q impl_RegionsOf.Q laws_eqRegionS.Q laws_eqWeave.Q laws_markWeave_saeda.Q laws_markRegionS_s11cf.Q laws_heldRegionS.Q).ok Try.prog := ⟨(by
    intro ρ f args K r h
    rcases sel_cases h with ⟨hb, h⟩ | ⟨-, h⟩
    · obtain rfl := beq_nat hb
      exact qEntry_ok laws_szWeave.ac h
    rcases sel_cases h with ⟨hb, h⟩ | ⟨-, h⟩
    · obtain rfl := beq_nat hb
      exact qEntry_ok laws_toWeave.ac h
    rcases sel_cases h with ⟨hb, h⟩ | ⟨-, h⟩
    · obtain rfl := beq_nat hb
      exact qEntry_ok spec_RegionsOf.ac h
    rcases sel_cases h with ⟨hb, h⟩ | ⟨-, h⟩
    · obtain rfl := beq_nat hb
      exact qEntry_ok impl_RegionsOf.ac h
    rcases sel_cases h with ⟨hb, h⟩ | ⟨-, h⟩
    · obtain rfl := beq_nat hb
      exact qEntry_ok laws_eqRegionS.ac h
    rcases sel_cases h with ⟨hb, h⟩ | ⟨-, h⟩
    · obtain rfl := beq_nat hb
      exact qEntry_ok laws_eqWeave.ac h
    rcases sel_cases h with ⟨hb, h⟩ | ⟨-, h⟩
    · obtain rfl := beq_nat hb
      exact qEntry_ok laws_heldRegionS.ac h
    cases h),
  (by
    intro ρ f args K
    simp only [G]
    cases Nat.beq f 19 with
    | true => exact qEntry_nat args K
    | false =>
    simp only [sel]
    cases Nat.beq f 21 with
    | true => exact qEntry_nat args K
    | false =>
    simp only [sel]
    cases Nat.beq f 20 with
    | true => exact qEntry_nat args K
    | false =>
    simp only [sel]
    cases Nat.beq f 22 with
    | true => exact qEntry_nat args K
    | false =>
    simp only [sel]
    cases Nat.beq f 23 with
    | true => exact qEntry_nat args K
    | false =>
    simp only [sel]
    cases Nat.beq f 24 with
    | true => exact qEntry_nat args K
    | false =>
    simp only [sel]
    cases Nat.beq f 27 with
    | true => exact qEntry_nat args K
    | false =>
    simp only [sel]
    rfl),
  (by
    intro ρ f st caps args dst K r h
    rcases sel_cases h with ⟨hb, h⟩ | ⟨-, h⟩
    · obtain rfl := beq_nat hb
      exact callE_ok (fun h => by cases h) laws_markWeave_saeda.ac h
    rcases sel_cases h with ⟨hb, h⟩ | ⟨-, h⟩
    · obtain rfl := beq_nat hb
      exact callE_ok (fun h => by cases h) laws_markRegionS_s11cf.ac h
    cases h)⟩
theorem hm : Try.prog.follows .mixedOrders = true := by kernel_rfl
theorem e : atomsL [] 0 (bodyOf Try.f4) = [] := by kernel_rfl
theorem acc (t : Vec (Vec Int) × (Vec (ByteArray × Int × Int × (Vec Int))) × Int × Int) (x : Bool) (h : F t.1 t.2.1 t.2.2.1 t.2.2.2 = some x) : ACc Try.prog 4 (encA t) [] true [] fun rv obs => (rv, obs) = encR x := by
  refine fun_okc (L := (L)) (jn := []) (cmds := []) (ks := []) (hin := []) (fn := Try.f4) (body := (bodyOf Try.f4)) Gok hm Try.func4 (by kernel_rfl) (by kernel_rfl) (by rw [e]; exact Lor.ok_nil _ _) ?_ h
  refine (main laws_szWeave.Q laws_toWeave.Q spec_RegionsOf.Q impl_RegionsOf.Q laws_eqRegionS.Q laws_eqWeave.Q laws_markWeave_saeda.Q laws_markRegionS_s11cf.Q laws_heldRegionS.Q _ t.1 t.2.1 t.2.2.1 t.2.2.2).trans ?_
  rw [laws_szWeave.wrap, laws_toWeave.wrap, spec_RegionsOf.wrap, impl_RegionsOf.wrap, laws_eqRegionS.wrap, laws_eqWeave.wrap, laws_markWeave_saeda.wrap, laws_markRegionS_s11cf.wrap, laws_heldRegionS.wrap]
  refine congrArg (fun K => B laws_szWeave.F laws_toWeave.F spec_RegionsOf.F impl_RegionsOf.F laws_eqRegionS.F laws_eqWeave.F laws_markWeave_saeda.F laws_markRegionS_s11cf.F laws_heldRegionS.F t.1 t.2.1 t.2.2.1 t.2.2.2 K) ?_
  funext x1
  exact ofC_enc encRI some (x1)
theorem ac0 (t : Vec (Vec Int) × (Vec (ByteArray × Int × Int × (Vec Int))) × Int × Int) (x : Bool) (h : F t.1 t.2.1 t.2.2.1 t.2.2.2 = some x) : AC Try.prog 4 (encA t) [] true [] fun rv obs => (rv, obs) = encR x := ACc.ac (body := bodyOf Try.f4) Try.func4 (by kernel_rfl) (by kernel_rfl) (acc t x h)
theorem ac (args : List AV) (x : Bool) (h : Q args = some x) : AC Try.prog 4 args [] false [] fun rv obs => (rv, obs) = encR x := by
  obtain ⟨t, rfl, h2⟩ := ofC_some h
  refine (ac0 t x h2).flat fun rv obs e => ?_
  obtain rfl : rv = (encR x).1 := congrArg Prod.fst e
  obtain rfl : obs = (encR x).2 := congrArg Prod.snd e
  refine ⟨by simp [encR, AV.Flat, K.Flat, C.Flat], ?_⟩
  simp [encR]
end laws_FnExactRegionsOf
end Go.Al
