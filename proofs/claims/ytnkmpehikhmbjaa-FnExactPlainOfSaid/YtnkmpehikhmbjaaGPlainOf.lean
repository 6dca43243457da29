import Derived.Test.YtnkmpehikhmbjaaAlE
import Derived.Test.YtnkmpehikhmbjaaSC
import Derived.Test.YtnkmpehikhmbjaaGWl
import Derived.Test.YtnkmpehikhmbjaaGMkW
import Derived.Test.YtnkmpehikhmbjaaGPl
set_option linter.unusedVariables false
set_option linter.unusedSimpArgs false
set_option linter.constructorNameAsVariable false
set_option linter.unusedSectionVars false
set_option maxRecDepth 100000
namespace Go.Al
open Go.Proofs

/-! loop.example/g00073/laws.eqStringS -/
namespace laws_eqStringS
noncomputable def B0 {ρ : Type} (v1 : Vec ByteArray) (v2 : Vec ByteArray) (v3 : Int) (W : (Vec ByteArray) → (Vec ByteArray) → Int → Option ρ) (K0 : Unit → Option ρ) (Kr : Bool → Option ρ) : Option ρ :=
  sel (decide (v3 < (v1.n : Int))) (chk (decide (0 ≤ v3 ∧ v3 < (v1.n : Int))) (chk (decide (0 ≤ v3 ∧ v3 < (v2.n : Int))) (sel ((!decide ((v1.g v3.toNat) = (v2.g v3.toNat)))) (Kr false) (W v1 v2 (wr (v3 + (1 : Int))))))) (K0 ())
noncomputable def F0 {ρ : Type} : Nat → (Vec ByteArray) → (Vec ByteArray) → Int → (Unit → Option ρ) → (Bool → Option ρ) → Option ρ
  | 0, _, _, _, _, _ => none
  | k + 1, v1, v2, v3, K0, Kr => B0 v1 v2 v3 (fun v1' v2' v3' => F0 k v1' v2' v3' K0 Kr) K0 Kr
noncomputable def B {ρ : Type} (L0 : (Vec ByteArray) → (Vec ByteArray) → Int → (Unit → Option ρ) → (Bool → Option ρ) → Option ρ) (a1 : Vec ByteArray) (a2 : Vec ByteArray) (K : Bool → Option ρ) : Option ρ :=
  sel ((!decide ((a1.n : Int) = (a2.n : Int)))) (K false) (L0 a1 a2 (0 : Int) (fun _ => K true) (fun x01 => K x01))
noncomputable def F (a1 : Vec ByteArray) (a2 : Vec ByteArray) : Option Bool := B (F0 fuelN) a1 a2 (fun x1 => some (x1))
def encA (t : Vec ByteArray × Vec ByteArray) : List AV := [vl t.1, vl t.2]
def encR (x : Bool) : AV × List Ob := (vb x, [])
theorem encAI : ∀ a b, encA a = encA b → a = b := by
  intro a b h
  obtain ⟨a0, a1⟩ := a
  obtain ⟨b0, b1⟩ := b
  simp [encA, encRw_iff] at h
  simp_all
theorem encRI : ∀ a b, encR a = encR b → a = b := by
  intro a b h
  simp [encR, encRw_iff] at h
  simp_all
noncomputable def Q (args : List AV) : Option Bool := ofC encA (fun t => F t.1 t.2) args
theorem wrap : (fun (y1 : Vec ByteArray) (y2 : Vec ByteArray) => Q [vl y1, vl y2]) = F := by
  funext y1 y2
  exact ofC_enc encAI _ (y1, y2)
noncomputable def G : Orc := ⟨fun f => 9, fun ρ f args K => Option.none, noE, false⟩
noncomputable def L (W0 : (ρ : Type) → List AV → List Ob → (Unit → Option ρ) → (Bool → Option ρ) → Option ρ) : Lor := fun ρ j st K => sel (Nat.beq j 0) (cutO Try.prog 26 [0, 1, 5] 0 [] [] st fun avs obs => W0 ρ avs obs (fun _ => K (.exit 0) (mkS 26 [] [] [] [])) (fun z1 => K .ret (mkS 26 [4] [vb z1] [] []))) (Option.none)
noncomputable def c0 : Code := loopC (atomN [] 0 (bodyOf Try.f30) 0)
def ct0 : Cut := ⟨[0, 1, 5], []⟩
def lv0 : Exit → Cut
  | .exit 0 => ⟨[], []⟩
  | .ret => ⟨[4], []⟩
  | _ => ⟨[], []⟩
theorem step0 (W0) {ρ : Type} (K : Exit → St → Option ρ) (W : List AV → List Ob → Option ρ) (v1 v2 v3) : exC Try.prog (G) (L W0) [] 1 c0 (mkS 26 [0, 1, 5] [vl v1, vl v2, vi v3] [] []) (bodyK Try.prog 26 0 [] ct0 W lv0 K) =
    B0 v1 v2 v3 (fun u1 u2 u3 => W [vl u1, vl u2, vi u3] []) (fun _ => K (.exit 0) (mkS 26 [] [] [] [])) (fun z1 => K .ret (mkS 26 [4] [vb z1] [] [])) := by kernel_rfl
def enc0 (t : Vec ByteArray × Vec ByteArray × Int) : List AV × List Ob := ([vl t.1, vl t.2.1, vi t.2.2], [])
theorem enc0I : ∀ a b, enc0 a = enc0 b → a = b := by
  intro a b h
  obtain ⟨a0, a1, a2⟩ := a
  obtain ⟨b0, b1, b2⟩ := b
  simp [enc0, encRw_iff] at h
  simp_all
noncomputable def V0 : (ρ : Type) → List AV → List Ob → (Unit → Option ρ) → (Bool → Option ρ) → Option ρ := fun ρ avs obs k0 kr => ofC enc0 (fun t => F0 fuelN t.1 t.2.1 t.2.2 k0 kr) (avs, obs)
theorem V0_enc (ρ : Type) : (fun w1 w2 w3 k0 kr => V0 ρ [vl w1, vl w2, vi w3] [] k0 kr) = F0 fuelN := by
  funext w1 w2 w3 k0 kr
  exact ofC_enc enc0I _ (w1, w2, w3)
theorem main (W0) {ρ : Type} (K : AV → List Ob → Option ρ) (a1 a2) : exC Try.prog (G) (L W0) [] 0 (bodyOf Try.f30) (entry 26 [vl a1, vl a2] [] []) (finO Try.prog Try.f30.results.toList 0 [] [] K) =
    B (fun w1 w2 w3 k0 kr => W0 ρ [vl w1, vl w2, vi w3] [] k0 kr) a1 a2 (fun x1 => K (vb x1) []) := by kernel_rfl
theorem Gok : (G).ok Try.prog := ⟨(fun ρ f args K r h => (by cases h)),
  (fun ρ f args K => rfl),
  (fun ρ f st caps args dst K r h => (by cases h))⟩
theorem hm : Try.prog.follows .mixedOrders = true := by kernel_rfl
theorem e0 : atomsL [] 1 c0 = [] := by kernel_rfl
theorem ok0 (ρ : Type) (st : St) (K : Exit → St → Option ρ) (r : ρ) (h : (L V0) ρ 0 st K = some r) : AW Try.prog (.loop c0) st fun e st' => K e st' = some r := by
  refine loop_ok (ct := ct0) (lv := lv0) (n := 26) (m := 0) (ks := []) (j := 0) (jn := []) (L := (L V0)) Gok hm (by rw [e0]; exact Lor.ok_nil _ _) enc0I (fun k t => F0 k t.1 t.2.1 t.2.2 (fun _ => K (.exit 0) (mkS 26 [] [] [] [])) (fun z1 => K .ret (mkS 26 [4] [vb z1] [] []))) (fun t => rfl) (fun k t => ?_) (fun _ => fuelN) h
  refine (step0 V0 K _ t.1 t.2.1 t.2.2).trans ?_
  refine congrArg (fun W => B0 t.1 t.2.1 t.2.2 W (fun _ => K (.exit 0) (mkS 26 [] [] [] [])) (fun z1 => K .ret (mkS 26 [4] [vb z1] [] []))) ?_
  funext u1 u2 u3
  exact ofC_enc enc0I _ (u1, u2, u3)
theorem e : atomsL [] 0 (bodyOf Try.f30) = [(0, 0, .loop c0)] := by kernel_rfl
theorem acc (t : Vec ByteArray × Vec ByteArray) (x : Bool) (h : F t.1 t.2 = some x) : ACc Try.prog 30 (encA t) [] true [] fun rv obs => (rv, obs) = encR x := by
  refine fun_okc (L := (L V0)) (jn := []) (cmds := []) (ks := []) (hin := []) (fn := Try.f30) (body := (bodyOf Try.f30)) Gok hm Try.func30 (by kernel_rfl) (by kernel_rfl) (by rw [e]; exact Lor.ok_cons ok0 (Lor.ok_nil _ _)) ?_ h
  refine (main V0 _ t.1 t.2).trans ?_
  rw [V0_enc]
  refine congrArg (fun K => B (F0 fuelN) t.1 t.2 K) ?_
  funext x1
  exact ofC_enc encRI some (x1)
theorem ac0 (t : Vec ByteArray × Vec ByteArray) (x : Bool) (h : F t.1 t.2 = some x) : AC Try.prog 30 (encA t) [] true [] fun rv obs => (rv, obs) = encR x := ACc.ac (body := bodyOf Try.f30) Try.func30 (by kernel_rfl) (by kernel_rfl) (acc t x h)
theorem ac (args : List AV) (x : Bool) (h : Q args = some x) : AC Try.prog 30 args [] false [] fun rv obs => (rv, obs) = encR x := by
  obtain ⟨t, rfl, h2⟩ := ofC_some h
  refine (ac0 t x h2).flat fun rv obs e => ?_
  obtain rfl : rv = (encR x).1 := congrArg Prod.fst e
  obtain rfl : obs = (encR x).2 := congrArg Prod.snd e
  refine ⟨by simp [encR, AV.Flat, K.Flat, C.Flat], ?_⟩
  simp [encR]
end laws_eqStringS
/-! loop.example/g00073/laws.eqStringSS -/
namespace laws_eqStringSS
noncomputable def B0 {ρ : Type} (C0 : (Vec ByteArray) → (Vec ByteArray) → Option Bool) (v1 : Vec (Vec ByteArray)) (v2 : Vec (Vec ByteArray)) (v3 : Int) (W : (Vec (Vec ByteArray)) → (Vec (Vec ByteArray)) → Int → Option ρ) (K0 : Unit → Option ρ) (Kr : Bool → Option ρ) : Option ρ :=
  sel (decide (v3 < (v1.n : Int))) (chk (decide (0 ≤ v3 ∧ v3 < (v1.n : Int))) (chk (decide (0 ≤ v3 ∧ v3 < (v2.n : Int))) ((C0 (v1.g v3.toNat) (v2.g v3.toNat)).bind fun r1 => sel ((!r1)) (Kr false) (W v1 v2 (wr (v3 + (1 : Int))))))) (K0 ())
noncomputable def F0 {ρ : Type} : Nat → (Vec (Vec ByteArray)) → (Vec (Vec ByteArray)) → Int → (Unit → Option ρ) → (Bool → Option ρ) → Option ρ
  | 0, _, _, _, _, _ => none
  | k + 1, v1, v2, v3, K0, Kr => B0 laws_eqStringS.F v1 v2 v3 (fun v1' v2' v3' => F0 k v1' v2' v3' K0 Kr) K0 Kr
noncomputable def B {ρ : Type} (L0 : (Vec (Vec ByteArray)) → (Vec (Vec ByteArray)) → Int → (Unit → Option ρ) → (Bool → Option ρ) → Option ρ) (a1 : Vec (Vec ByteArray)) (a2 : Vec (Vec ByteArray)) (K : Bool → Option ρ) : Option ρ :=
  sel ((!decide ((a1.n : Int) = (a2.n : Int)))) (K false) (L0 a1 a2 (0 : Int) (fun _ => K true) (fun x01 => K x01))
noncomputable def F (a1 : Vec (Vec ByteArray)) (a2 : Vec (Vec ByteArray)) : Option Bool := B (F0 fuelN) a1 a2 (fun x1 => some (x1))
def encA (t : Vec (Vec ByteArray) × Vec (Vec ByteArray)) : List AV := [vl t.1, vl t.2]
def encR (x : Bool) : AV × List Ob := (vb x, [])
theorem encAI : ∀ a b, encA a = encA b → a = b := by
  intro a b h
  obtain ⟨a0, a1⟩ := a
  obtain ⟨b0, b1⟩ := b
  simp [encA, encRw_iff] at h
  simp_all
theorem encRI : ∀ a b, encR a = encR b → a = b := by
  intro a b h
  simp [encR, encRw_iff] at h
  simp_all
noncomputable def Q (args : List AV) : Option Bool := ofC encA (fun t => F t.1 t.2) args
theorem wrap : (fun (y1 : Vec (Vec ByteArray)) (y2 : Vec (Vec ByteArray)) => Q [vl y1, vl y2]) = F := by
  funext y1 y2
  exact ofC_enc encAI _ (y1, y2)
noncomputable def G (Q0 : List AV → Option Bool) : Orc := ⟨fun f => sel (Nat.beq f 30) 0 (9), fun ρ f args K => sel (Nat.beq f 30) (qEntry laws_eqStringS.encR Q0 args K) (Option.none), noE, false⟩
noncomputable def L (W0 : (ρ : Type) → List AV → List Ob → (Unit → Option ρ) → (Bool → Option ρ) → Option ρ) : Lor := fun ρ j st K => sel (Nat.beq j 0) (cutO Try.prog 27 [0, 1, 5] 0 [] [] st fun avs obs => W0 ρ avs obs (fun _ => K (.exit 0) (mkS 27 [] [] [] [])) (fun z1 => K .ret (mkS 27 [4] [vb z1] [] []))) (Option.none)
noncomputable def c0 : Code := loopC (atomN [] 0 (bodyOf Try.f80) 0)
def ct0 : Cut := ⟨[0, 1, 5], []⟩
def lv0 : Exit → Cut
  | .exit 0 => ⟨[], []⟩
  | .ret => ⟨[4], []⟩
  | _ => ⟨[], []⟩
theorem step0 (Q0) (W0) {ρ : Type} (K : Exit → St → Option ρ) (W : List AV → List Ob → Option ρ) (v1 v2 v3) : exC Try.prog (G Q0) (L W0) [] 1 c0 (mkS 27 [0, 1, 5] [vl v1, vl v2, vi v3] [] []) (bodyK Try.prog 27 0 [] ct0 W lv0 K) =
    B0 (fun y1 y2 => Q0 [vl y1, vl y2]) v1 v2 v3 (fun u1 u2 u3 => W [vl u1, vl u2, vi u3] []) (fun _ => K (.exit 0) (mkS 27 [] [] [] [])) (fun z1 => K .ret (mkS 27 [4] [vb z1] [] [])) := by kernel_rfl
def enc0 (t : Vec (Vec ByteArray) × Vec (Vec ByteArray) × Int) : List AV × List Ob := ([vl t.1, vl t.2.1, vi t.2.2], [])
theorem enc0I : ∀ a b, enc0 a = enc0 b → a = b := by
  intro a b h
  obtain ⟨a0, a1, a2⟩ := a
  obtain ⟨b0, b1, b2⟩ := b
  simp [enc0, encRw_iff] at h
  simp_all
noncomputable def V0 : (ρ : Type) → List AV → List Ob → (Unit → Option ρ) → (Bool → Option ρ) → Option ρ := fun ρ avs obs k0 kr => ofC enc0 (fun t => F0 fuelN t.1 t.2.1 t.2.2 k0 kr) (avs, obs)
theorem V0_enc (ρ : Type) : (fun w1 w2 w3 k0 kr => V0 ρ [vl w1, vl w2, vi w3] [] k0 kr) = F0 fuelN := by
  funext w1 w2 w3 k0 kr
  exact ofC_enc enc0I _ (w1, w2, w3)
theorem main (Q0) (W0) {ρ : Type} (K : AV → List Ob → Option ρ) (a1 a2) : exC Try.prog (G Q0) (L W0) [] 0 (bodyOf Try.f80) (entry 27 [vl a1, vl a2] [] []) (finO Try.prog Try.f80.results.toList 0 [] [] K) =
    B (fun w1 w2 w3 k0 kr => W0 ρ [vl w1, vl w2, vi w3] [] k0 kr) a1 a2 (fun x1 => K (vb x1) []) := by kernel_rfl
theorem Gok : (G laws_eqStringS.Q).ok Try.prog := ⟨(by
    intro ρ f args K r h
    rcases sel_cases h with ⟨hb, h⟩ | ⟨-, h⟩
    · obtain rfl := beq_nat hb
      exact qEntry_ok laws_eqStringS.ac h
    cases h),
  (by
    intro ρ f args K
    simp only [G]
    cases Nat.beq f 30 with
    | true => exact qEntry_nat args K
    | false =>
    simp only [sel]
    rfl),
  (fun ρ f st caps args dst K r h => (by cases h))⟩
theorem hm : Try.prog.follows .mixedOrders = true := by kernel_rfl
theorem e0 : atomsL [] 1 c0 = [] := by kernel_rfl
theorem ok0 (ρ : Type) (st : St) (K : Exit → St → Option ρ) (r : ρ) (h : (L V0) ρ 0 st K = some r) : AW Try.prog (.loop c0) st fun e st' => K e st' = some r := by
  refine loop_ok (ct := ct0) (lv := lv0) (n := 27) (m := 0) (ks := []) (j := 0) (jn := []) (L := (L V0)) Gok hm (by rw [e0]; exact Lor.ok_nil _ _) enc0I (fun k t => F0 k t.1 t.2.1 t.2.2 (fun _ => K (.exit 0) (mkS 27 [] [] [] [])) (fun z1 => K .ret (mkS 27 [4] [vb z1] [] []))) (fun t => rfl) (fun k t => ?_) (fun _ => fuelN) h
  refine (step0 laws_eqStringS.Q V0 K _ t.1 t.2.1 t.2.2).trans ?_
  rw [laws_eqStringS.wrap]
  refine congrArg (fun W => B0 laws_eqStringS.F t.1 t.2.1 t.2.2 W (fun _ => K (.exit 0) (mkS 27 [] [] [] [])) (fun z1 => K .ret (mkS 27 [4] [vb z1] [] []))) ?_
  funext u1 u2 u3
  exact ofC_enc enc0I _ (u1, u2, u3)
theorem e : atomsL [] 0 (bodyOf Try.f80) = [(0, 0, .loop c0)] := by kernel_rfl
theorem acc (t : Vec (Vec ByteArray) × Vec (Vec ByteArray)) (x : Bool) (h : F t.1 t.2 = some x) : ACc Try.prog 80 (encA t) [] true [] fun rv obs => (rv, obs) = encR x := by
  refine fun_okc (L := (L V0)) (jn := []) (cmds := []) (ks := []) (hin := []) (fn := Try.f80) (body := (bodyOf Try.f80)) Gok hm Try.func80 (by kernel_rfl) (by kernel_rfl) (by rw [e]; exact Lor.ok_cons ok0 (Lor.ok_nil _ _)) ?_ h
  refine (main laws_eqStringS.Q V0 _ t.1 t.2).trans ?_
  rw [V0_enc]
  refine congrArg (fun K => B (F0 fuelN) t.1 t.2 K) ?_
  funext x1
  exact ofC_enc encRI some (x1)
theorem ac0 (t : Vec (Vec ByteArray) × Vec (Vec ByteArray)) (x : Bool) (h : F t.1 t.2 = some x) : AC Try.prog 80 (encA t) [] true [] fun rv obs => (rv, obs) = encR x := ACc.ac (body := bodyOf Try.f80) Try.func80 (by kernel_rfl) (by kernel_rfl) (acc t x h)
theorem ac (args : List AV) (x : Bool) (h : Q args = some x) : AC Try.prog 80 args [] false [] fun rv obs => (rv, obs) = encR x := by
  obtain ⟨t, rfl, h2⟩ := ofC_some h
  refine (ac0 t x h2).flat fun rv obs e => ?_
  obtain rfl : rv = (encR x).1 := congrArg Prod.fst e
  obtain rfl : obs = (encR x).2 := congrArg Prod.snd e
  refine ⟨by simp [encR, AV.Flat, K.Flat, C.Flat], ?_⟩
  simp [encR]
end laws_eqStringSS
/-! loop.example/g00073/laws.eqIdent -/
namespace laws_eqIdent
noncomputable def B {ρ : Type} (a1 : Int) (a2 : Int) (a3 : Int) (a4 : Int) (K : Bool → Option ρ) : Option ρ :=
  sel ((!decide (a1 = a3))) (K false) (sel ((!decide (a2 = a4))) (K false) (K true))
noncomputable def F (a1 : Int) (a2 : Int) (a3 : Int) (a4 : Int) : Option Bool := B a1 a2 a3 a4 (fun x1 => some (x1))
def encA (t : Int × Int × Int × Int) : List AV := [.a [ci t.1, ci t.2.1], .a [ci t.2.2.1, ci t.2.2.2]]
def encR (x : Bool) : AV × List Ob := (vb x, [])
theorem encAI : ∀ a b, encA a = encA b → a = b := by
  intro a b h
  obtain ⟨a0, a1, a2, a3⟩ := a
  obtain ⟨b0, b1, b2, b3⟩ := b
  simp [encA, encRw_iff] at h
  simp_all
theorem encRI : ∀ a b, encR a = encR b → a = b := by
  intro a b h
  simp [encR, encRw_iff] at h
  simp_all
noncomputable def Q (args : List AV) : Option Bool := ofC encA (fun t => F t.1 t.2.1 t.2.2.1 t.2.2.2) args
theorem wrap : (fun (y1 : Int) (y2 : Int) (y3 : Int) (y4 : Int) => Q [.a [ci y1, ci y2], .a [ci y3, ci y4]]) = F := by
  funext y1 y2 y3 y4
  exact ofC_enc encAI _ (y1, y2, y3, y4)
noncomputable def G : Orc := ⟨fun f => 9, fun ρ f args K => Option.none, noE, false⟩
noncomputable def L : Lor := fun ρ j st K => Option.none
theorem main {ρ : Type} (K : AV → List Ob → Option ρ) (a1 a2 a3 a4) : exC Try.prog (G) (L) [] 0 (bodyOf Try.f143) (entry 15 [.a [ci a1, ci a2], .a [ci a3, ci a4]] [] []) (finO Try.prog Try.f143.results.toList 0 [] [] K) =
    B a1 a2 a3 a4 (fun x1 => K (vb x1) []) := by kernel_rfl
theorem Gok : (G).ok Try.prog := ⟨(fun ρ f args K r h => (by cases h)),
  (fun ρ f args K => rfl),
  (fun ρ f st caps args dst K r h => (by cases h))⟩
theorem hm : Try.prog.follows .mixedOrders = true := by kernel_rfl
theorem e : atomsL [] 0 (bodyOf Try.f143) = [] := by kernel_rfl
theorem acc (t : Int × Int × Int × Int) (x : Bool) (h : F t.1 t.2.1 t.2.2.1 t.2.2.2 = some x) : ACc Try.prog 143 (encA t) [] true [] fun rv obs => (rv, obs) = encR x := by
  refine fun_okc (L := (L)) (jn := []) (cmds := []) (ks := []) (hin := []) (fn := Try.f143) (body := (bodyOf Try.f143)) Gok hm Try.func143 (by kernel_rfl) (by kernel_rfl) (by rw [e]; exact Lor.ok_nil _ _) ?_ h
  refine (main _ t.1 t.2.1 t.2.2.1 t.2.2.2).trans ?_
  refine congrArg (fun K => B t.1 t.2.1 t.2.2.1 t.2.2.2 K) ?_
  funext x1
  exact ofC_enc encRI some (x1)
theorem ac0 (t : Int × Int × Int × Int) (x : Bool) (h : F t.1 t.2.1 t.2.2.1 t.2.2.2 = some x) : AC Try.prog 143 (encA t) [] true [] fun rv obs => (rv, obs) = encR x := ACc.ac (body := bodyOf Try.f143) Try.func143 (by kernel_rfl) (by kernel_rfl) (acc t x h)
theorem ac (args : List AV) (x : Bool) (h : Q args = some x) : AC Try.prog 143 args [] false [] fun rv obs => (rv, obs) = encR x := by
  obtain ⟨t, rfl, h2⟩ := ofC_some h
  refine (ac0 t x h2).flat fun rv obs e => ?_
  obtain rfl : rv = (encR x).1 := congrArg Prod.fst e
  obtain rfl : obs = (encR x).2 := congrArg Prod.snd e
  refine ⟨by simp [encR, AV.Flat, K.Flat, C.Flat], ?_⟩
  simp [encR]
end laws_eqIdent
/-! loop.example/g00073/laws.eqIdentS -/
namespace laws_eqIdentS
noncomputable def B0 {ρ : Type} (C0 : Int → Int → Int → Int → Option Bool) (v1 : Vec (Int × Int)) (v2 : Vec (Int × Int)) (v3 : Int) (W : (Vec (Int × Int)) → (Vec (Int × Int)) → Int → Option ρ) (K0 : Unit → Option ρ) (Kr : Bool → Option ρ) : Option ρ :=
  sel (decide (v3 < (v1.n : Int))) (chk (decide (0 ≤ v3 ∧ v3 < (v1.n : Int))) (chk (decide (0 ≤ v3 ∧ v3 < (v2.n : Int))) ((C0 ((v1.g v3.toNat).1) ((v1.g v3.toNat).2) ((v2.g v3.toNat).1) ((v2.g v3.toNat).2)).bind fun r1 => sel ((!r1)) (Kr false) (W v1 v2 (wr (v3 + (1 : Int))))))) (K0 ())
noncomputable def F0 {ρ : Type} : Nat → (Vec (Int × Int)) → (Vec (Int × Int)) → Int → (Unit → Option ρ) → (Bool → Option ρ) → Option ρ
  | 0, _, _, _, _, _ => none
  | k + 1, v1, v2, v3, K0, Kr => B0 laws_eqIdent.F v1 v2 v3 (fun v1' v2' v3' => F0 k v1' v2' v3' K0 Kr) K0 Kr
noncomputable def B {ρ : Type} (L0 : (Vec (Int × Int)) → (Vec (Int × Int)) → Int → (Unit → Option ρ) → (Bool → Option ρ) → Option ρ) (a1 : Vec (Int × Int)) (a2 : Vec (Int × Int)) (K : Bool → Option ρ) : Option ρ :=
  sel ((!decide ((a1.n : Int) = (a2.n : Int)))) (K false) (L0 a1 a2 (0 : Int) (fun _ => K true) (fun x01 => K x01))
noncomputable def F (a1 : Vec (Int × Int)) (a2 : Vec (Int × Int)) : Option Bool := B (F0 fuelN) a1 a2 (fun x1 => some (x1))
def encA (t : (Vec (Int × Int)) × (Vec (Int × Int))) : List AV := [vl t.1, vl t.2]
def encR (x : Bool) : AV × List Ob := (vb x, [])
theorem encAI : ∀ a b, encA a = encA b → a = b := by
  intro a b h
  obtain ⟨a0, a1⟩ := a
  obtain ⟨b0, b1⟩ := b
  simp [encA, encRw_iff] at h
  simp_all
theorem encRI : ∀ a b, encR a = encR b → a = b := by
  intro a b h
  simp [encR, encRw_iff] at h
  simp_all
noncomputable def Q (args : List AV) : Option Bool := ofC encA (fun t => F t.1 t.2) args
theorem wrap : (fun (y1 : Vec (Int × Int)) (y2 : Vec (Int × Int)) => Q [vl y1, vl y2]) = F := by
  funext y1 y2
  exact ofC_enc encAI _ (y1, y2)
noncomputable def G (Q0 : List AV → Option Bool) : Orc := ⟨fun f => sel (Nat.beq f 143) 0 (9), fun ρ f args K => sel (Nat.beq f 143) (qEntry laws_eqIdent.encR Q0 args K) (Option.none), noE, false⟩
noncomputable def L (W0 : (ρ : Type) → List AV → List Ob → (Unit → Option ρ) → (Bool → Option ρ) → Option ρ) : Lor := fun ρ j st K => sel (Nat.beq j 0) (cutO Try.prog 27 [0, 1, 5] 0 [] [] st fun avs obs => W0 ρ avs obs (fun _ => K (.exit 0) (mkS 27 [] [] [] [])) (fun z1 => K .ret (mkS 27 [4] [vb z1] [] []))) (Option.none)
noncomputable def c0 : Code := loopC (atomN [] 0 (bodyOf Try.f121) 0)
def ct0 : Cut := ⟨[0, 1, 5], []⟩
def lv0 : Exit → Cut
  | .exit 0 => ⟨[], []⟩
  | .ret => ⟨[4], []⟩
  | _ => ⟨[], []⟩
theorem step0 (Q0) (W0) {ρ : Type} (K : Exit → St → Option ρ) (W : List AV → List Ob → Option ρ) (v1 v2 v3) : exC Try.prog (G Q0) (L W0) [] 1 c0 (mkS 27 [0, 1, 5] [vl v1, vl v2, vi v3] [] []) (bodyK Try.prog 27 0 [] ct0 W lv0 K) =
    B0 (fun y1 y2 y3 y4 => Q0 [.a [ci y1, ci y2], .a [ci y3, ci y4]]) v1 v2 v3 (fun u1 u2 u3 => W [vl u1, vl u2, vi u3] []) (fun _ => K (.exit 0) (mkS 27 [] [] [] [])) (fun z1 => K .ret (mkS 27 [4] [vb z1] [] [])) := by kernel_rfl
def enc0 (t : (Vec (Int × Int)) × (Vec (Int × Int)) × Int) : List AV × List Ob := ([vl t.1, vl t.2.1, vi t.2.2], [])
theorem enc0I : ∀ a b, enc0 a = enc0 b → a = b := by
  intro a b h
  obtain ⟨a0, a1, a2⟩ := a
  obtain ⟨b0, b1, b2⟩ := b
  simp [enc0, encRw_iff] at h
  simp_all
noncomputable def V0 : (ρ : Type) → List AV → List Ob → (Unit → Option ρ) → (Bool → Option ρ) → Option ρ := fun ρ avs obs k0 kr => ofC enc0 (fun t => F0 fuelN t.1 t.2.1 t.2.2 k0 kr) (avs, obs)
theorem V0_enc (ρ : Type) : (fun w1 w2 w3 k0 kr => V0 ρ [vl w1, vl w2, vi w3] [] k0 kr) = F0 fuelN := by
  funext w1 w2 w3 k0 kr
  exact ofC_enc enc0I _ (w1, w2, w3)
theorem main (Q0) (W0) {ρ : Type} (K : AV → List Ob → Option ρ) (a1 a2) : exC Try.prog (G Q0) (L W0) [] 0 (bodyOf Try.f121) (entry 27 [vl a1, vl a2] [] []) (finO Try.prog Try.f121.results.toList 0 [] [] K) =
    B (fun w1 w2 w3 k0 kr => W0 ρ [vl w1, vl w2, vi w3] [] k0 kr) a1 a2 (fun x1 => K (vb x1) []) := by kernel_rfl
theorem Gok : (G laws_eqIdent.Q).ok Try.prog := ⟨(by
    intro ρ f args K r h
    rcases sel_cases h with ⟨hb, h⟩ | ⟨-, h⟩
    · obtain rfl := beq_nat hb
      exact qEntry_ok laws_eqIdent.ac h
    cases h),
  (by
    intro ρ f args K
    simp only [G]
    cases Nat.beq f 143 with
    | true => exact qEntry_nat args K
    | false =>
    simp only [sel]
    rfl),
  (fun ρ f st caps args dst K r h => (by cases h))⟩
theorem hm : Try.prog.follows .mixedOrders = true := by kernel_rfl
theorem e0 : atomsL [] 1 c0 = [] := by kernel_rfl
theorem ok0 (ρ : Type) (st : St) (K : Exit → St → Option ρ) (r : ρ) (h : (L V0) ρ 0 st K = some r) : AW Try.prog (.loop c0) st fun e st' => K e st' = some r := by
  refine loop_ok (ct := ct0) (lv := lv0) (n := 27) (m := 0) (ks := []) (j := 0) (jn := []) (L := (L V0)) Gok hm (by rw [e0]; exact Lor.ok_nil _ _) enc0I (fun k t => F0 k t.1 t.2.1 t.2.2 (fun _ => K (.exit 0) (mkS 27 [] [] [] [])) (fun z1 => K .ret (mkS 27 [4] [vb z1] [] []))) (fun t => rfl) (fun k t => ?_) (fun _ => fuelN) h
  refine (step0 laws_eqIdent.Q V0 K _ t.1 t.2.1 t.2.2).trans ?_
  rw [laws_eqIdent.wrap]
  refine congrArg (fun W => B0 laws_eqIdent.F t.1 t.2.1 t.2.2 W (fun _ => K (.exit 0) (mkS 27 [] [] [] [])) (fun z1 => K .ret (mkS 27 [4] [vb z1] [] []))) ?_
  funext u1 u2 u3
  exact ofC_enc enc0I _ (u1, u2, u3)
theorem e : atomsL [] 0 (bodyOf Try.f121) = [(0, 0, .loop c0)] := by kernel_rfl
theorem acc (t : (Vec (Int × Int)) × (Vec (Int × Int))) (x : Bool) (h : F t.1 t.2 = some x) : ACc Try.prog 121 (encA t) [] true [] fun rv obs => (rv, obs) = encR x := by
  refine fun_okc (L := (L V0)) (jn := []) (cmds := []) (ks := []) (hin := []) (fn := Try.f121) (body := (bodyOf Try.f121)) Gok hm Try.func121 (by kernel_rfl) (by kernel_rfl) (by rw [e]; exact Lor.ok_cons ok0 (Lor.ok_nil _ _)) ?_ h
  refine (main laws_eqIdent.Q V0 _ t.1 t.2).trans ?_
  rw [V0_enc]
  refine congrArg (fun K => B (F0 fuelN) t.1 t.2 K) ?_
  funext x1
  exact ofC_enc encRI some (x1)
theorem ac0 (t : (Vec (Int × Int)) × (Vec (Int × Int))) (x : Bool) (h : F t.1 t.2 = some x) : AC Try.prog 121 (encA t) [] true [] fun rv obs => (rv, obs) = encR x := ACc.ac (body := bodyOf Try.f121) Try.func121 (by kernel_rfl) (by kernel_rfl) (acc t x h)
theorem ac (args : List AV) (x : Bool) (h : Q args = some x) : AC Try.prog 121 args [] false [] fun rv obs => (rv, obs) = encR x := by
  obtain ⟨t, rfl, h2⟩ := ofC_some h
  refine (ac0 t x h2).flat fun rv obs e => ?_
  obtain rfl : rv = (encR x).1 := congrArg Prod.fst e
  obtain rfl : obs = (encR x).2 := congrArg Prod.snd e
  refine ⟨by simp [encR, AV.Flat, K.Flat, C.Flat], ?_⟩
  simp [encR]
end laws_eqIdentS
/-! loop.example/g00073/laws.eqIdentSS -/
namespace laws_eqIdentSS
noncomputable def B0 {ρ : Type} (C0 : (Vec (Int × Int)) → (Vec (Int × Int)) → Option Bool) (v1 : Vec (Vec (Int × Int))) (v2 : Vec (Vec (Int × Int))) (v3 : Int) (W : (Vec (Vec (Int × Int))) → (Vec (Vec (Int × Int))) → Int → Option ρ) (K0 : Unit → Option ρ) (Kr : Bool → Option ρ) : Option ρ :=
  sel (decide (v3 < (v1.n : Int))) (chk (decide (0 ≤ v3 ∧ v3 < (v1.n : Int))) (chk (decide (0 ≤ v3 ∧ v3 < (v2.n : Int))) ((C0 (v1.g v3.toNat) (v2.g v3.toNat)).bind fun r1 => sel ((!r1)) (Kr false) (W v1 v2 (wr (v3 + (1 : Int))))))) (K0 ())
noncomputable def F0 {ρ : Type} : Nat → (Vec (Vec (Int × Int))) → (Vec (Vec (Int × Int))) → Int → (Unit → Option ρ) → (Bool → Option ρ) → Option ρ
  | 0, _, _, _, _, _ => none
  | k + 1, v1, v2, v3, K0, Kr => B0 laws_eqIdentS.F v1 v2 v3 (fun v1' v2' v3' => F0 k v1' v2' v3' K0 Kr) K0 Kr
noncomputable def B {ρ : Type} (L0 : (Vec (Vec (Int × Int))) → (Vec (Vec (Int × Int))) → Int → (Unit → Option ρ) → (Bool → Option ρ) → Option ρ) (a1 : Vec (Vec (Int × Int))) (a2 : Vec (Vec (Int × Int))) (K : Bool → Option ρ) : Option ρ :=
  sel ((!decide ((a1.n : Int) = (a2.n : Int)))) (K false) (L0 a1 a2 (0 : Int) (fun _ => K true) (fun x01 => K x01))
noncomputable def F (a1 : Vec (Vec (Int × Int))) (a2 : Vec (Vec (Int × Int))) : Option Bool := B (F0 fuelN) a1 a2 (fun x1 => some (x1))
def encA (t : (Vec (Vec (Int × Int))) × (Vec (Vec (Int × Int)))) : List AV := [vl t.1, vl t.2]
def encR (x : Bool) : AV × List Ob := (vb x, [])
theorem encAI : ∀ a b, encA a = encA b → a = b := by
  intro a b h
  obtain ⟨a0, a1⟩ := a
  obtain ⟨b0, b1⟩ := b
  simp [encA, encRw_iff] at h
  simp_all
theorem encRI : ∀ a b, encR a = encR b → a = b := by
  intro a b h
  simp [encR, encRw_iff] at h
  simp_all
noncomputable def Q (args : List AV) : Option Bool := ofC encA (fun t => F t.1 t.2) args
theorem wrap : (fun (y1 : Vec (Vec (Int × Int))) (y2 : Vec (Vec (Int × Int))) => Q [vl y1, vl y2]) = F := by
  funext y1 y2
  exact ofC_enc encAI _ (y1, y2)
noncomputable def G (Q0 : List AV → Option Bool) : Orc := ⟨fun f => sel (Nat.beq f 121) 0 (9), fun ρ f args K => sel (Nat.beq f 121) (qEntry laws_eqIdentS.encR Q0 args K) (Option.none), noE, false⟩
noncomputable def L (W0 : (ρ : Type) → List AV → List Ob → (Unit → Option ρ) → (Bool → Option ρ) → Option ρ) : Lor := fun ρ j st K => sel (Nat.beq j 0) (cutO Try.prog 27 [0, 1, 5] 0 [] [] st fun avs obs => W0 ρ avs obs (fun _ => K (.exit 0) (mkS 27 [] [] [] [])) (fun z1 => K .ret (mkS 27 [4] [vb z1] [] []))) (Option.none)
noncomputable def c0 : Code := loopC (atomN [] 0 (bodyOf Try.f81) 0)
def ct0 : Cut := ⟨[0, 1, 5], []⟩
def lv0 : Exit → Cut
  | .exit 0 => ⟨[], []⟩
  | .ret => ⟨[4], []⟩
  | _ => ⟨[], []⟩
theorem step0 (Q0) (W0) {ρ : Type} (K : Exit → St → Option ρ) (W : List AV → List Ob → Option ρ) (v1 v2 v3) : exC Try.prog (G Q0) (L W0) [] 1 c0 (mkS 27 [0, 1, 5] [vl v1, vl v2, vi v3] [] []) (bodyK Try.prog 27 0 [] ct0 W lv0 K) =
    B0 (fun y1 y2 => Q0 [vl y1, vl y2]) v1 v2 v3 (fun u1 u2 u3 => W [vl u1, vl u2, vi u3] []) (fun _ => K (.exit 0) (mkS 27 [] [] [] [])) (fun z1 => K .ret (mkS 27 [4] [vb z1] [] [])) := by kernel_rfl
def enc0 (t : (Vec (Vec (Int × Int))) × (Vec (Vec (Int × Int))) × Int) : List AV × List Ob := ([vl t.1, vl t.2.1, vi t.2.2], [])
theorem enc0I : ∀ a b, enc0 a = enc0 b → a = b := by
  intro a b h
  obtain ⟨a0, a1, a2⟩ := a
  obtain ⟨b0, b1, b2⟩ := b
  simp [enc0, encRw_iff] at h
  simp_all
noncomputable def V0 : (ρ : Type) → List AV → List Ob → (Unit → Option ρ) → (Bool → Option ρ) → Option ρ := fun ρ avs obs k0 kr => ofC enc0 (fun t => F0 fuelN t.1 t.2.1 t.2.2 k0 kr) (avs, obs)
theorem V0_enc (ρ : Type) : (fun w1 w2 w3 k0 kr => V0 ρ [vl w1, vl w2, vi w3] [] k0 kr) = F0 fuelN := by
  funext w1 w2 w3 k0 kr
  exact ofC_enc enc0I _ (w1, w2, w3)
theorem main (Q0) (W0) {ρ : Type} (K : AV → List Ob → Option ρ) (a1 a2) : exC Try.prog (G Q0) (L W0) [] 0 (bodyOf Try.f81) (entry 27 [vl a1, vl a2] [] []) (finO Try.prog Try.f81.results.toList 0 [] [] K) =
    B (fun w1 w2 w3 k0 kr => W0 ρ [vl w1, vl w2, vi w3] [] k0 kr) a1 a2 (fun x1 => K (vb x1) []) := by kernel_rfl
theorem Gok : (G laws_eqIdentS.Q).ok Try.prog := ⟨(by
    intro ρ f args K r h
    rcases sel_cases h with ⟨hb, h⟩ | ⟨-, h⟩
    · obtain rfl := beq_nat hb
      exact qEntry_ok laws_eqIdentS.ac h
    cases h),
  (by
    intro ρ f args K
    simp only [G]
    cases Nat.beq f 121 with
    | true => exact qEntry_nat args K
    | false =>
    simp only [sel]
    rfl),
  (fun ρ f st caps args dst K r h => (by cases h))⟩
theorem hm : Try.prog.follows .mixedOrders = true := by kernel_rfl
theorem e0 : atomsL [] 1 c0 = [] := by kernel_rfl
theorem ok0 (ρ : Type) (st : St) (K : Exit → St → Option ρ) (r : ρ) (h : (L V0) ρ 0 st K = some r) : AW Try.prog (.loop c0) st fun e st' => K e st' = some r := by
  refine loop_ok (ct := ct0) (lv := lv0) (n := 27) (m := 0) (ks := []) (j := 0) (jn := []) (L := (L V0)) Gok hm (by rw [e0]; exact Lor.ok_nil _ _) enc0I (fun k t => F0 k t.1 t.2.1 t.2.2 (fun _ => K (.exit 0) (mkS 27 [] [] [] [])) (fun z1 => K .ret (mkS 27 [4] [vb z1] [] []))) (fun t => rfl) (fun k t => ?_) (fun _ => fuelN) h
  refine (step0 laws_eqIdentS.Q V0 K _ t.1 t.2.1 t.2.2).trans ?_
  rw [laws_eqIdentS.wrap]
  refine congrArg (fun W => B0 laws_eqIdentS.F t.1 t.2.1 t.2.2 W (fun _ => K (.exit 0) (mkS 27 [] [] [] [])) (fun z1 => K .ret (mkS 27 [4] [vb z1] [] []))) ?_
  funext u1 u2 u3
  exact ofC_enc enc0I _ (u1, u2, u3)
theorem e : atomsL [] 0 (bodyOf Try.f81) = [(0, 0, .loop c0)] := by kernel_rfl
theorem acc (t : (Vec (Vec (Int × Int))) × (Vec (Vec (Int × Int)))) (x : Bool) (h : F t.1 t.2 = some x) : ACc Try.prog 81 (encA t) [] true [] fun rv obs => (rv, obs) = encR x := by
  refine fun_okc (L := (L V0)) (jn := []) (cmds := []) (ks := []) (hin := []) (fn := Try.f81) (body := (bodyOf Try.f81)) Gok hm Try.func81 (by kernel_rfl) (by kernel_rfl) (by rw [e]; exact Lor.ok_cons ok0 (Lor.ok_nil _ _)) ?_ h
  refine (main laws_eqIdentS.Q V0 _ t.1 t.2).trans ?_
  rw [V0_enc]
  refine congrArg (fun K => B (F0 fuelN) t.1 t.2 K) ?_
  funext x1
  exact ofC_enc encRI some (x1)
theorem ac0 (t : (Vec (Vec (Int × Int))) × (Vec (Vec (Int × Int)))) (x : Bool) (h : F t.1 t.2 = some x) : AC Try.prog 81 (encA t) [] true [] fun rv obs => (rv, obs) = encR x := ACc.ac (body := bodyOf Try.f81) Try.func81 (by kernel_rfl) (by kernel_rfl) (acc t x h)
theorem ac (args : List AV) (x : Bool) (h : Q args = some x) : AC Try.prog 81 args [] false [] fun rv obs => (rv, obs) = encR x := by
  obtain ⟨t, rfl, h2⟩ := ofC_some h
  refine (ac0 t x h2).flat fun rv obs e => ?_
  obtain rfl : rv = (encR x).1 := congrArg Prod.fst e
  obtain rfl : obs = (encR x).2 := congrArg Prod.snd e
  refine ⟨by simp [encR, AV.Flat, K.Flat, C.Flat], ?_⟩
  simp [encR]
end laws_eqIdentSS
/-! loop.example/g00073/laws.eqPlain -/
namespace laws_eqPlain
noncomputable def B {ρ : Type} (C0 : (Vec (Vec Int)) → (Vec (Vec Int)) → Option Bool) (C1 : (Vec (Vec ByteArray)) → (Vec (Vec ByteArray)) → Option Bool) (C2 : (Vec (Vec (Int × Int))) → (Vec (Vec (Int × Int))) → Option Bool) (a1 : Vec (Vec Int)) (a2 : Vec (Vec ByteArray)) (a3 : Vec (Vec (Int × Int))) (a4 : Vec (Vec Int)) (a5 : Vec (Vec ByteArray)) (a6 : Vec (Vec (Int × Int))) (K : Bool → Option ρ) : Option ρ :=
  (C0 a1 a4).bind fun r1 => sel ((!r1)) (K false) ((C1 a2 a5).bind fun r2 => sel ((!r2)) (K false) ((C2 a3 a6).bind fun r3 => sel ((!r3)) (K false) (K true)))
noncomputable def F (a1 : Vec (Vec Int)) (a2 : Vec (Vec ByteArray)) (a3 : Vec (Vec (Int × Int))) (a4 : Vec (Vec Int)) (a5 : Vec (Vec ByteArray)) (a6 : Vec (Vec (Int × Int))) : Option Bool := B laws_eqIntSS.F laws_eqStringSS.F laws_eqIdentSS.F a1 a2 a3 a4 a5 a6 (fun x1 => some (x1))
def encA (t : Vec (Vec Int) × Vec (Vec ByteArray) × (Vec (Vec (Int × Int))) × Vec (Vec Int) × Vec (Vec ByteArray) × (Vec (Vec (Int × Int)))) : List AV := [.a [cl t.1, cl t.2.1, cl t.2.2.1], .a [cl t.2.2.2.1, cl t.2.2.2.2.1, cl t.2.2.2.2.2]]
def encR (x : Bool) : AV × List Ob := (vb x, [])
theorem encAI : ∀ a b, encA a = encA b → a = b := by
  intro a b h
  obtain ⟨a0, a1, a2, a3, a4, a5⟩ := a
  obtain ⟨b0, b1, b2, b3, b4, b5⟩ := b
  simp [encA, encRw_iff] at h
  simp_all
theorem encRI : ∀ a b, encR a = encR b → a = b := by
  intro a b h
  simp [encR, encRw_iff] at h
  simp_all
noncomputable def Q (args : List AV) : Option Bool := ofC encA (fun t => F t.1 t.2.1 t.2.2.1 t.2.2.2.1 t.2.2.2.2.1 t.2.2.2.2.2) args
theorem wrap : (fun (y1 : Vec (Vec Int)) (y2 : Vec (Vec ByteArray)) (y3 : Vec (Vec (Int × Int))) (y4 : Vec (Vec Int)) (y5 : Vec (Vec ByteArray)) (y6 : Vec (Vec (Int × Int))) => Q [.a [cl y1, cl y2, cl y3], .a [cl y4, cl y5, cl y6]]) = F := by
  funext y1 y2 y3 y4 y5 y6
  exact ofC_enc encAI _ (y1, y2, y3, y4, y5, y6)
noncomputable def G (Q0 : List AV → Option Bool) (Q1 : List AV → Option Bool) (Q2 : List AV → Option Bool) : Orc := ⟨fun f => sel (Nat.beq f 62) 0 (sel (Nat.beq f 80) 0 (sel (Nat.beq f 81) 0 (9))), fun ρ f args K => sel (Nat.beq f 62) (qEntry laws_eqIntSS.encR Q0 args K) (sel (Nat.beq f 80) (qEntry laws_eqStringSS.encR Q1 args K) (sel (Nat.beq f 81) (qEntry laws_eqIdentSS.encR Q2 args K) (Option.none))), noE, false⟩
noncomputable def L : Lor := fun ρ j st K => Option.none
theorem main (Q0 Q1 Q2) {ρ : Type} (K : AV → List Ob → Option ρ) (a1 a2 a3 a4 a5 a6) : exC Try.prog (G Q0 Q1 Q2) (L) [] 0 (bodyOf Try.f39) (entry 23 [.a [cl a1, cl a2, cl a3], .a [cl a4, cl a5, cl a6]] [] []) (finO Try.prog Try.f39.results.toList 0 [] [] K) =
    B (fun y1 y2 => Q0 [vl y1, vl y2]) (fun y1 y2 => Q1 [vl y1, vl y2]) (fun y1 y2 => Q2 [vl y1, vl y2]) a1 a2 a3 a4 a5 a6 (fun x1 => K (vb x1) []) := by kernel_rfl
theorem Gok : (G laws_eqIntSS.Q laws_eqStringSS.Q laws_eqIdentSS.Q).ok Try.prog := ⟨(by
    intro ρ f args K r h
    rcases sel_cases h with ⟨hb, h⟩ | ⟨-, h⟩
    · obtain rfl := beq_nat hb
      exact qEntry_ok laws_eqIntSS.ac h
    rcases sel_cases h with ⟨hb, h⟩ | ⟨-, h⟩
    · obtain rfl := beq_nat hb
      exact qEntry_ok laws_eqStringSS.ac h
    rcases sel_cases h with ⟨hb, h⟩ | ⟨-, h⟩
    · obtain rfl := beq_nat hb
      exact qEntry_ok laws_eqIdentSS.ac h
    cases h),
  (by
    intro ρ f args K
    simp only [G]
    cases Nat.beq f 62 with
    | true => exact qEntry_nat args K
    | false =>
    simp only [sel]
    cases Nat.beq f 80 with
    | true => exact qEntry_nat args K
    | false =>
    simp only [sel]
    cases Nat.beq f 81 with
    | true => exact qEntry_nat args K
    | false =>
    simp only [sel]
    rfl),
  (fun ρ f st caps args dst K r h => (by cases h))⟩
theorem hm : Try.prog.follows .mixedOrders = true := by kernel_rfl
theorem e : atomsL [] 0 (bodyOf Try.f39) = [] := by kernel_rfl
theorem acc (t : Vec (Vec Int) × Vec (Vec ByteArray) × (Vec (Vec (Int × Int))) × Vec (Vec Int) × Vec (Vec ByteArray) × (Vec (Vec (Int × Int)))) (x : Bool) (h : F t.1 t.2.1 t.2.2.1 t.2.2.2.1 t.2.2.2.2.1 t.2.2.2.2.2 = some x) : ACc Try.prog 39 (encA t) [] true [] fun rv obs => (rv, obs) = encR x := by
  refine fun_okc (L := (L)) (jn := []) (cmds := []) (ks := []) (hin := []) (fn := Try.f39) (body := (bodyOf Try.f39)) Gok hm Try.func39 (by kernel_rfl) (by kernel_rfl) (by rw [e]; exact Lor.ok_nil _ _) ?_ h
  refine (main laws_eqIntSS.Q laws_eqStringSS.Q laws_eqIdentSS.Q _ t.1 t.2.1 t.2.2.1 t.2.2.2.1 t.2.2.2.2.1 t.2.2.2.2.2).trans ?_
  rw [laws_eqIntSS.wrap, laws_eqStringSS.wrap, laws_eqIdentSS.wrap]
  refine congrArg (fun K => B laws_eqIntSS.F laws_eqStringSS.F laws_eqIdentSS.F t.1 t.2.1 t.2.2.1 t.2.2.2.1 t.2.2.2.2.1 t.2.2.2.2.2 K) ?_
  funext x1
  exact ofC_enc encRI some (x1)
theorem ac0 (t : Vec (Vec Int) × Vec (Vec ByteArray) × (Vec (Vec (Int × Int))) × Vec (Vec Int) × Vec (Vec ByteArray) × (Vec (Vec (Int × Int)))) (x : Bool) (h : F t.1 t.2.1 t.2.2.1 t.2.2.2.1 t.2.2.2.2.1 t.2.2.2.2.2 = some x) : AC Try.prog 39 (encA t) [] true [] fun rv obs => (rv, obs) = encR x := ACc.ac (body := bodyOf Try.f39) Try.func39 (by kernel_rfl) (by kernel_rfl) (acc t x h)
theorem ac (args : List AV) (x : Bool) (h : Q args = some x) : AC Try.prog 39 args [] false [] fun rv obs => (rv, obs) = encR x := by
  obtain ⟨t, rfl, h2⟩ := ofC_some h
  refine (ac0 t x h2).flat fun rv obs e => ?_
  obtain rfl : rv = (encR x).1 := congrArg Prod.fst e
  obtain rfl : obs = (encR x).2 := congrArg Prod.snd e
  refine ⟨by simp [encR, AV.Flat, K.Flat, C.Flat], ?_⟩
  simp [encR]
end laws_eqPlain
/-! loop.example/g00073/laws.markStringS -/
namespace laws_markStringS_s1401
noncomputable def B0 {ρ : Type} (C0 : Int → Option ByteArray) (v1 : Int) (v2 : Int) (v3 : Vec ByteArray) (W : Int → Int → (Vec ByteArray) → Option ρ) (K0 : Int → (Vec ByteArray) → Option ρ) : Option ρ :=
  sel (decide (v2 < (v3.n : Int))) ((C0 v1).bind fun r1 => chk (decide (0 ≤ v2 ∧ v2 < (v3.n : Int))) (chk (decide (v2.toNat < v3.n)) (W (wr (v1 + (1 : Int))) (wr (v2 + (1 : Int))) (Vec.set v3 v2.toNat r1)))) (K0 v1 v3)
noncomputable def F0 {ρ : Type} : Nat → Int → Int → (Vec ByteArray) → (Int → (Vec ByteArray) → Option ρ) → Option ρ
  | 0, _, _, _, _ => none
  | k + 1, v1, v2, v3, K0 => B0 laws_markText.F v1 v2 v3 (fun v1' v2' v3' => F0 k v1' v2' v3' K0) K0
noncomputable def B {ρ : Type} (L0 : Int → Int → (Vec ByteArray) → (Int → (Vec ByteArray) → Option ρ) → Option ρ) (a1 : Int) (a2 : Vec ByteArray) (K : Int → (Vec ByteArray) → Option ρ) : Option ρ :=
  L0 a1 (0 : Int) a2 (fun e01 e02 => K e01 e02)
noncomputable def F (a1 : Int) (a2 : Vec ByteArray) : Option (Int × Vec ByteArray) := B (F0 fuelN) a1 a2 (fun x1 x2 => some (x1, x2))
def encA (t : Int × Vec ByteArray) : List AV × List Ob := ([.c (.h 0), vi t.1], [ro t.2])
def encR (x : Int × Vec ByteArray) : AV × List Ob := (vi x.1, [ro x.2])
theorem encAI : ∀ a b, encA a = encA b → a = b := by
  intro a b h
  obtain ⟨a0, a1⟩ := a
  obtain ⟨b0, b1⟩ := b
  simp [encA, encRw_iff] at h
  simp_all
theorem encRI : ∀ a b, encR a = encR b → a = b := by
  intro a b h
  obtain ⟨a0, a1⟩ := a
  obtain ⟨b0, b1⟩ := b
  simp [encR, encRw_iff] at h
  simp_all
noncomputable def Q (args : List AV) (hin : List Ob) : Option (Int × Vec ByteArray) := ofC encA (fun t => F t.1 t.2) (args, hin)
theorem wrap : (fun (y1 : Int) (y2 : Vec ByteArray) => Q [.c (.h 0), vi y1] [ro y2]) = F := by
  funext y1 y2
  exact ofC_enc encAI _ (y1, y2)
noncomputable def G (Q0 : List AV → Option ByteArray) : Orc := ⟨fun f => sel (Nat.beq f 51) 0 (9), fun ρ f args K => sel (Nat.beq f 51) (qEntry laws_markText.encR Q0 args K) (Option.none), noE, false⟩
noncomputable def L (W0 : (ρ : Type) → List AV → List Ob → (Int → (Vec ByteArray) → Option ρ) → Option ρ) : Lor := fun ρ j st K => sel (Nat.beq j 0) (cutO Try.prog 20 [0, 1, 5] 1 [true] [] st fun avs obs => W0 ρ avs obs (fun z1 z2 => K (.exit 0) (mkS 20 [1] [vi z1] [ro z2] [true]))) (Option.none)
noncomputable def c0 : Code := loopC (atomN [] 0 (bodyOf Try.f31) 0)
def ct0 : Cut := ⟨[0, 1, 5], []⟩
def lv0 : Exit → Cut
  | .exit 0 => ⟨[1], []⟩
  | _ => ⟨[], []⟩
theorem step0 (Q0) (W0) {ρ : Type} (K : Exit → St → Option ρ) (W : List AV → List Ob → Option ρ) (v1 v2 v3) : exC Try.prog (G Q0) (L W0) [] 1 c0 (mkS 20 [0, 1, 5] [.c (.h 0), vi v1, vi v2] [ro v3] [true]) (bodyK Try.prog 20 1 [true] ct0 W lv0 K) =
    B0 (fun y1 => Q0 [vi y1]) v1 v2 v3 (fun u1 u2 u3 => W [.c (.h 0), vi u1, vi u2] [ro u3]) (fun z1 z2 => K (.exit 0) (mkS 20 [1] [vi z1] [ro z2] [true])) := by kernel_rfl
def enc0 (t : Int × Int × Vec ByteArray) : List AV × List Ob := ([.c (.h 0), vi t.1, vi t.2.1], [ro t.2.2])
theorem enc0I : ∀ a b, enc0 a = enc0 b → a = b := by
  intro a b h
  obtain ⟨a0, a1, a2⟩ := a
  obtain ⟨b0, b1, b2⟩ := b
  simp [enc0, encRw_iff] at h
  simp_all
noncomputable def V0 : (ρ : Type) → List AV → List Ob → (Int → (Vec ByteArray) → Option ρ) → Option ρ := fun ρ avs obs k0 => ofC enc0 (fun t => F0 fuelN t.1 t.2.1 t.2.2 k0) (avs, obs)
theorem V0_enc (ρ : Type) : (fun w1 w2 w3 k0 => V0 ρ [.c (.h 0), vi w1, vi w2] [ro w3] k0) = F0 fuelN := by
  funext w1 w2 w3 k0
  exact ofC_enc enc0I _ (w1, w2, w3)
theorem main (Q0) (W0) {ρ : Type} (K : AV → List Ob → Option ρ) (a1 a2) : exC Try.prog (G Q0) (L W0) [] 0 (bodyOf Try.f31) (entry 20 [.c (.h 0), vi a1] [ro a2] [true]) (finO Try.prog Try.f31.results.toList 1 [true] [] K) =
    B (fun w1 w2 w3 k0 => W0 ρ [.c (.h 0), vi w1, vi w2] [ro w3] k0) a1 a2 (fun x1 x2 => K (vi x1) [ro x2]) := by kernel_rfl
theorem Gok : (G laws_markText.Q).ok Try.prog := ⟨(by
    intro ρ f args K r h
    rcases sel_cases h with ⟨hb, h⟩ | ⟨-, h⟩
    · obtain rfl := beq_nat hb
      exact qEntry_ok laws_markText.ac h
    cases h),
  (by
    intro ρ f args K
    simp only [G]
    cases Nat.beq f 51 with
    | true => exact qEntry_nat args K
    | false =>
    simp only [sel]
    rfl),
  (fun ρ f st caps args dst K r h => (by cases h))⟩
theorem hm : Try.prog.follows .mixedOrders = true := by kernel_rfl
theorem e0 : atomsL [] 1 c0 = [] := by kernel_rfl
theorem ok0 (ρ : Type) (st : St) (K : Exit → St → Option ρ) (r : ρ) (h : (L V0) ρ 0 st K = some r) : AW Try.prog (.loop c0) st fun e st' => K e st' = some r := by
  refine loop_ok (ct := ct0) (lv := lv0) (n := 20) (m := 1) (ks := [true]) (j := 0) (jn := []) (L := (L V0)) Gok hm (by rw [e0]; exact Lor.ok_nil _ _) enc0I (fun k t => F0 k t.1 t.2.1 t.2.2 (fun z1 z2 => K (.exit 0) (mkS 20 [1] [vi z1] [ro z2] [true]))) (fun t => rfl) (fun k t => ?_) (fun _ => fuelN) h
  refine (step0 laws_markText.Q V0 K _ t.1 t.2.1 t.2.2).trans ?_
  rw [laws_markText.wrap]
  refine congrArg (fun W => B0 laws_markText.F t.1 t.2.1 t.2.2 W (fun z1 z2 => K (.exit 0) (mkS 20 [1] [vi z1] [ro z2] [true]))) ?_
  funext u1 u2 u3
  exact ofC_enc enc0I _ (u1, u2, u3)
theorem e : atomsL [] 0 (bodyOf Try.f31) = [(0, 0, .loop c0)] := by kernel_rfl
theorem acc (t : Int × Vec ByteArray) (x : Int × Vec ByteArray) (h : F t.1 t.2 = some x) : ACc Try.prog 31 (encA t).1 (encA t).2 true [true] fun rv obs => (rv, obs) = encR x := by
  refine fun_okc (L := (L V0)) (jn := []) (cmds := []) (ks := [true]) (hin := (encA t).2) (fn := Try.f31) (body := (bodyOf Try.f31)) Gok hm Try.func31 (by kernel_rfl) (by kernel_rfl) (by rw [e]; exact Lor.ok_cons ok0 (Lor.ok_nil _ _)) ?_ h
  refine (main laws_markText.Q V0 _ t.1 t.2).trans ?_
  rw [V0_enc]
  refine congrArg (fun K => B (F0 fuelN) t.1 t.2 K) ?_
  funext x1 x2
  exact ofC_enc encRI some (x1, x2)
theorem ac0 (t : Int × Vec ByteArray) (x : Int × Vec ByteArray) (h : F t.1 t.2 = some x) : AC Try.prog 31 (encA t).1 (encA t).2 true [true] fun rv obs => (rv, obs) = encR x := ACc.ac (body := bodyOf Try.f31) Try.func31 (by kernel_rfl) (by kernel_rfl) (acc t x h)
theorem ac (args : List AV) (hin : List Ob) (x : Int × Vec ByteArray) (h : Q args hin = some x) : AC Try.prog 31 args hin false [true] fun rv obs => (rv, obs) = encR x := by
  obtain ⟨t, he, h2⟩ := ofC_some h
  obtain rfl : args = (encA t).1 := (congrArg Prod.fst he).symm
  obtain rfl : hin = (encA t).2 := (congrArg Prod.snd he).symm
  refine (ac0 t x h2).flat fun rv obs e => ?_
  obtain rfl : rv = (encR x).1 := congrArg Prod.fst e
  obtain rfl : obs = (encR x).2 := congrArg Prod.snd e
  refine ⟨by simp [encR, AV.Flat, K.Flat, C.Flat], ?_⟩
  intro o ho
  simp only [encR, List.mem_cons, List.not_mem_nil, or_false] at ho
  subst ho
  exact flat_rw rfl _
end laws_markStringS_s1401
/-! loop.example/g00073/laws.markStringSS -/
namespace laws_markStringSS_sc740
noncomputable def B0 {ρ : Type} (C0 : Int → (Vec ByteArray) → Option (Int × Vec ByteArray)) (v1 : Int) (v2 : Int) (v3 : Vec (Vec ByteArray)) (W : Int → Int → (Vec (Vec ByteArray)) → Option ρ) (K0 : Int → (Vec (Vec ByteArray)) → Option ρ) : Option ρ :=
  sel (decide (v2 < (v3.n : Int))) (chk (decide (0 ≤ v2 ∧ v2 < (v3.n : Int))) (chk (decide (v2.toNat < v3.n)) ((C0 v1 (v3.g v2.toNat)).bind fun r1 => W r1.1 (wr (v2 + (1 : Int))) (Vec.set v3 v2.toNat r1.2)))) (K0 v1 v3)
noncomputable def F0 {ρ : Type} : Nat → Int → Int → (Vec (Vec ByteArray)) → (Int → (Vec (Vec ByteArray)) → Option ρ) → Option ρ
  | 0, _, _, _, _ => none
  | k + 1, v1, v2, v3, K0 => B0 laws_markStringS_s1401.F v1 v2 v3 (fun v1' v2' v3' => F0 k v1' v2' v3' K0) K0
noncomputable def B {ρ : Type} (L0 : Int → Int → (Vec (Vec ByteArray)) → (Int → (Vec (Vec ByteArray)) → Option ρ) → Option ρ) (a1 : Int) (a2 : Vec (Vec ByteArray)) (K : Int → (Vec (Vec ByteArray)) → Option ρ) : Option ρ :=
  L0 a1 (0 : Int) a2 (fun e01 e02 => K e01 e02)
noncomputable def F (a1 : Int) (a2 : Vec (Vec ByteArray)) : Option (Int × Vec (Vec ByteArray)) := B (F0 fuelN) a1 a2 (fun x1 x2 => some (x1, x2))
def encA (t : Int × Vec (Vec ByteArray)) : List AV × List Ob := ([.c (.h 0), vi t.1], [ro t.2])
def encR (x : Int × Vec (Vec ByteArray)) : AV × List Ob := (vi x.1, [ro x.2])
theorem encAI : ∀ a b, encA a = encA b → a = b := by
  intro a b h
  obtain ⟨a0, a1⟩ := a
  obtain ⟨b0, b1⟩ := b
  simp [encA, encRw_iff] at h
  simp_all
theorem encRI : ∀ a b, encR a = encR b → a = b := by
  intro a b h
  obtain ⟨a0, a1⟩ := a
  obtain ⟨b0, b1⟩ := b
  simp [encR, encRw_iff] at h
  simp_all
noncomputable def Q (args : List AV) (hin : List Ob) : Option (Int × Vec (Vec ByteArray)) := ofC encA (fun t => F t.1 t.2) (args, hin)
theorem wrap : (fun (y1 : Int) (y2 : Vec (Vec ByteArray)) => Q [.c (.h 0), vi y1] [ro y2]) = F := by
  funext y1 y2
  exact ofC_enc encAI _ (y1, y2)
noncomputable def G (Q0 : List AV → List Ob → Option (Int × Vec ByteArray)) : Orc := ⟨fun f => 9, fun ρ f args K => Option.none, fun ρ f st args dst K => sel (Nat.beq f 31) (callE Try.prog 31 [true, false] false [true] laws_markStringS_s1401.encR Q0 st args dst K) (Option.none), true⟩
noncomputable def L (W0 : (ρ : Type) → List AV → List Ob → (Int → (Vec (Vec ByteArray)) → Option ρ) → Option ρ) : Lor := fun ρ j st K => sel (Nat.beq j 0) (cutO Try.prog 19 [0, 1, 5] 1 [true] [] st fun avs obs => W0 ρ avs obs (fun z1 z2 => K (.exit 0) (mkS 19 [1] [vi z1] [ro z2] [true]))) (Option.none)
noncomputable def c0 : Code := loopC (atomN [] 0 (bodyOf Try.f82) 0)
def ct0 : Cut := ⟨[0, 1, 5], []⟩
def lv0 : Exit → Cut
  | .exit 0 => ⟨[1], []⟩
  | _ => ⟨[], []⟩
theorem step0 (Q0) (W0) {ρ : Type} (K : Exit → St → Option ρ) (W : List AV → List Ob → Option ρ) (v1 v2 v3) : exC Try.prog (G Q0) (L W0) [] 1 c0 (mkS 19 [0, 1, 5] [.c (.h 0), vi v1, vi v2] [ro v3] [true]) (bodyK Try.prog 19 1 [true] ct0 W lv0 K) =
    B0 (fun y1 y2 => Q0 [.c (.h 0), vi y1] [ro y2]) v1 v2 v3 (fun u1 u2 u3 => W [.c (.h 0), vi u1, vi u2] [ro u3]) (fun z1 z2 => K (.exit 0) (mkS 19 [1] [vi z1] [ro z2] [true])) := by kernel_rfl
def enc0 (t : Int × Int × Vec (Vec ByteArray)) : List AV × List Ob := ([.c (.h 0), vi t.1, vi t.2.1], [ro t.2.2])
theorem enc0I : ∀ a b, enc0 a = enc0 b → a = b := by
  intro a b h
  obtain ⟨a0, a1, a2⟩ := a
  obtain ⟨b0, b1, b2⟩ := b
  simp [enc0, encRw_iff] at h
  simp_all
noncomputable def V0 : (ρ : Type) → List AV → List Ob → (Int → (Vec (Vec ByteArray)) → Option ρ) → Option ρ := fun ρ avs obs k0 => ofC enc0 (fun t => F0 fuelN t.1 t.2.1 t.2.2 k0) (avs, obs)
theorem V0_enc (ρ : Type) : (fun w1 w2 w3 k0 => V0 ρ [.c (.h 0), vi w1, vi w2] [ro w3] k0) = F0 fuelN := by
  funext w1 w2 w3 k0
  exact ofC_enc enc0I _ (w1, w2, w3)
theorem main (Q0) (W0) {ρ : Type} (K : AV → List Ob → Option ρ) (a1 a2) : exC Try.prog (G Q0) (L W0) [] 0 (bodyOf Try.f82) (entry 19 [.c (.h 0), vi a1] [ro a2] [true]) (finO Try.prog Try.f82.results.toList 1 [true] [] K) =
    B (fun w1 w2 w3 k0 => W0 ρ [.c (.h 0), vi w1, vi w2] [ro w3] k0) a1 a2 (fun x1 x2 => K (vi x1) [ro x2]) := by kernel_rfl
theorem Gok : (G laws_markStringS_s1401.Q).ok Try.prog := ⟨(fun ρ f args K r h => (by cases h)),
  (fun ρ f args K => rfl),
  (by
    intro ρ f st caps args dst K r h
    rcases sel_cases h with ⟨hb, h⟩ | ⟨-, h⟩
    · obtain rfl := beq_nat hb
      exact callE_ok (fun h => by cases h) laws_markStringS_s1401.ac h
    cases h)⟩
theorem hm : Try.prog.follows .mixedOrders = true := by kernel_rfl
theorem e0 : atomsL [] 1 c0 = [] := by kernel_rfl
theorem ok0 (ρ : Type) (st : St) (K : Exit → St → Option ρ) (r : ρ) (h : (L V0) ρ 0 st K = some r) : AW Try.prog (.loop c0) st fun e st' => K e st' = some r := by
  refine loop_ok (ct := ct0) (lv := lv0) (n := 19) (m := 1) (ks := [true]) (j := 0) (jn := []) (L := (L V0)) Gok hm (by rw [e0]; exact Lor.ok_nil _ _) enc0I (fun k t => F0 k t.1 t.2.1 t.2.2 (fun z1 z2 => K (.exit 0) (mkS 19 [1] [vi z1] [ro z2] [true]))) (fun t => rfl) (fun k t => ?_) (fun _ => fuelN) h
  refine (step0 laws_markStringS_s1401.Q V0 K _ t.1 t.2.1 t.2.2).trans ?_
  rw [laws_markStringS_s1401.wrap]
  refine congrArg (fun W => B0 laws_markStringS_s1401.F t.1 t.2.1 t.2.2 W (fun z1 z2 => K (.exit 0) (mkS 19 [1] [vi z1] [ro z2] [true]))) ?_
  funext u1 u2 u3
  exact ofC_enc enc0I _ (u1, u2, u3)
theorem e : atomsL [] 0 (bodyOf Try.f82) = [(0, 0, .loop c0)] := by kernel_rfl
theorem acc (t : Int × Vec (Vec ByteArray)) (x : Int × Vec (Vec ByteArray)) (h : F t.1 t.2 = some x) : ACc Try.prog 82 (encA t).1 (encA t).2 true [true] fun rv obs => (rv, obs) = encR x := by
  refine fun_okc (L := (L V0)) (jn := []) (cmds := []) (ks := [true]) (hin := (encA t).2) (fn := Try.f82) (body := (bodyOf Try.f82)) Gok hm Try.func82 (by kernel_rfl) (by kernel_rfl) (by rw [e]; exact Lor.ok_cons ok0 (Lor.ok_nil _ _)) ?_ h
  refine (main laws_markStringS_s1401.Q V0 _ t.1 t.2).trans ?_
  rw [V0_enc]
  refine congrArg (fun K => B (F0 fuelN) t.1 t.2 K) ?_
  funext x1 x2
  exact ofC_enc encRI some (x1, x2)
theorem ac0 (t : Int × Vec (Vec ByteArray)) (x : Int × Vec (Vec ByteArray)) (h : F t.1 t.2 = some x) : AC Try.prog 82 (encA t).1 (encA t).2 true [true] fun rv obs => (rv, obs) = encR x := ACc.ac (body := bodyOf Try.f82) Try.func82 (by kernel_rfl) (by kernel_rfl) (acc t x h)
theorem ac (args : List AV) (hin : List Ob) (x : Int × Vec (Vec ByteArray)) (h : Q args hin = some x) : AC Try.prog 82 args hin false [true] fun rv obs => (rv, obs) = encR x := by
  obtain ⟨t, he, h2⟩ := ofC_some h
  obtain rfl : args = (encA t).1 := (congrArg Prod.fst he).symm
  obtain rfl : hin = (encA t).2 := (congrArg Prod.snd he).symm
  refine (ac0 t x h2).flat fun rv obs e => ?_
  obtain rfl : rv = (encR x).1 := congrArg Prod.fst e
  obtain rfl : obs = (encR x).2 := congrArg Prod.snd e
  refine ⟨by simp [encR, AV.Flat, K.Flat, C.Flat], ?_⟩
  intro o ho
  simp only [encR, List.mem_cons, List.not_mem_nil, or_false] at ho
  subst ho
  exact flat_rw rfl _
end laws_markStringSS_sc740
/-! loop.example/g00073/laws.markIdentS -/
namespace laws_markIdentS_s7fcd
noncomputable def B0 {ρ : Type} (v1 : Int) (v2 : Int) (v3 : Vec (Int × Int)) (W : Int → Int → (Vec (Int × Int)) → Option ρ) (K0 : Int → (Vec (Int × Int)) → Option ρ) : Option ρ :=
  sel (decide (v2 < (v3.n : Int))) (chk (decide (0 ≤ v2 ∧ v2 < (v3.n : Int))) (chk (decide (v2.toNat < v3.n)) (chk (decide (0 ≤ v2 ∧ v2 < ((Vec.set v3 v2.toNat (v1, (v3.g v2.toNat).2)).n : Int))) (chk (decide (v2.toNat < (Vec.set v3 v2.toNat (v1, (v3.g v2.toNat).2)).n)) (W (wr ((wr (v1 + (1 : Int))) + (1 : Int))) (wr (v2 + (1 : Int))) (Vec.set (Vec.set v3 v2.toNat (v1, (v3.g v2.toNat).2)) v2.toNat (((Vec.set v3 v2.toNat (v1, (v3.g v2.toNat).2)).g v2.toNat).1, (wr (v1 + (1 : Int)))))))))) (K0 v1 v3)
noncomputable def F0 {ρ : Type} : Nat → Int → Int → (Vec (Int × Int)) → (Int → (Vec (Int × Int)) → Option ρ) → Option ρ
  | 0, _, _, _, _ => none
  | k + 1, v1, v2, v3, K0 => B0 v1 v2 v3 (fun v1' v2' v3' => F0 k v1' v2' v3' K0) K0
noncomputable def B {ρ : Type} (L0 : Int → Int → (Vec (Int × Int)) → (Int → (Vec (Int × Int)) → Option ρ) → Option ρ) (a1 : Int) (a2 : Vec (Int × Int)) (K : Int → (Vec (Int × Int)) → Option ρ) : Option ρ :=
  L0 a1 (0 : Int) a2 (fun e01 e02 => K e01 e02)
noncomputable def F (a1 : Int) (a2 : Vec (Int × Int)) : Option (Int × (Vec (Int × Int))) := B (F0 fuelN) a1 a2 (fun x1 x2 => some (x1, x2))
def encA (t : Int × (Vec (Int × Int))) : List AV × List Ob := ([.c (.h 0), vi t.1], [ro t.2])
def encR (x : Int × (Vec (Int × Int))) : AV × List Ob := (vi x.1, [ro x.2])
theorem encAI : ∀ a b, encA a = encA b → a = b := by
  intro a b h
  obtain ⟨a0, a1⟩ := a
  obtain ⟨b0, b1⟩ := b
  simp [encA, encRw_iff] at h
  simp_all
theorem encRI : ∀ a b, encR a = encR b → a = b := by
  intro a b h
  obtain ⟨a0, a1⟩ := a
  obtain ⟨b0, b1⟩ := b
  simp [encR, encRw_iff] at h
  simp_all
noncomputable def Q (args : List AV) (hin : List Ob) : Option (Int × (Vec (Int × Int))) := ofC encA (fun t => F t.1 t.2) (args, hin)
theorem wrap : (fun (y1 : Int) (y2 : Vec (Int × Int)) => Q [.c (.h 0), vi y1] [ro y2]) = F := by
  funext y1 y2
  exact ofC_enc encAI _ (y1, y2)
noncomputable def G : Orc := ⟨fun f => 9, fun ρ f args K => Option.none, noE, false⟩
noncomputable def L (W0 : (ρ : Type) → List AV → List Ob → (Int → (Vec (Int × Int)) → Option ρ) → Option ρ) : Lor := fun ρ j st K => sel (Nat.beq j 0) (cutO Try.prog 27 [0, 1, 5] 1 [true] [] st fun avs obs => W0 ρ avs obs (fun z1 z2 => K (.exit 0) (mkS 27 [1] [vi z1] [ro z2] [true]))) (Option.none)
noncomputable def c0 : Code := loopC (atomN [] 0 (bodyOf Try.f122) 0)
def ct0 : Cut := ⟨[0, 1, 5], []⟩
def lv0 : Exit → Cut
  | .exit 0 => ⟨[1], []⟩
  | _ => ⟨[], []⟩
theorem step0 (W0) {ρ : Type} (K : Exit → St → Option ρ) (W : List AV → List Ob → Option ρ) (v1 v2 v3) : exC Try.prog (G) (L W0) [] 1 c0 (mkS 27 [0, 1, 5] [.c (.h 0), vi v1, vi v2] [ro v3] [true]) (bodyK Try.prog 27 1 [true] ct0 W lv0 K) =
    B0 v1 v2 v3 (fun u1 u2 u3 => W [.c (.h 0), vi u1, vi u2] [ro u3]) (fun z1 z2 => K (.exit 0) (mkS 27 [1] [vi z1] [ro z2] [true])) := by kernel_rfl
def enc0 (t : Int × Int × (Vec (Int × Int))) : List AV × List Ob := ([.c (.h 0), vi t.1, vi t.2.1], [ro t.2.2])
theorem enc0I : ∀ a b, enc0 a = enc0 b → a = b := by
  intro a b h
  obtain ⟨a0, a1, a2⟩ := a
  obtain ⟨b0, b1, b2⟩ := b
  simp [enc0, encRw_iff] at h
  simp_all
noncomputable def V0 : (ρ : Type) → List AV → List Ob → (Int → (Vec (Int × Int)) → Option ρ) → Option ρ := fun ρ avs obs k0 => ofC enc0 (fun t => F0 fuelN t.1 t.2.1 t.2.2 k0) (avs, obs)
theorem V0_enc (ρ : Type) : (fun w1 w2 w3 k0 => V0 ρ [.c (.h 0), vi w1, vi w2] [ro w3] k0) = F0 fuelN := by
  funext w1 w2 w3 k0
  exact ofC_enc enc0I _ (w1, w2, w3)
theorem main (W0) {ρ : Type} (K : AV → List Ob → Option ρ) (a1 a2) : exC Try.prog (G) (L W0) [] 0 (bodyOf Try.f122) (entry 27 [.c (.h 0), vi a1] [ro a2] [true]) (finO Try.prog Try.f122.results.toList 1 [true] [] K) =
    B (fun w1 w2 w3 k0 => W0 ρ [.c (.h 0), vi w1, vi w2] [ro w3] k0) a1 a2 (fun x1 x2 => K (vi x1) [ro x2]) := by kernel_rfl
theorem Gok : (G).ok Try.prog := ⟨(fun ρ f args K r h => (by cases h)),
  (fun ρ f args K => rfl),
  (fun ρ f st caps args dst K r h => (by cases h))⟩
theorem hm : Try.prog.follows .mixedOrders = true := by kernel_rfl
theorem e0 : atomsL [] 1 c0 = [] := by kernel_rfl
theorem ok0 (ρ : Type) (st : St) (K : Exit → St → Option ρ) (r : ρ) (h : (L V0) ρ 0 st K = some r) : AW Try.prog (.loop c0) st fun e st' => K e st' = some r := by
  refine loop_ok (ct := ct0) (lv := lv0) (n := 27) (m := 1) (ks := [true]) (j := 0) (jn := []) (L := (L V0)) Gok hm (by rw [e0]; exact Lor.ok_nil _ _) enc0I (fun k t => F0 k t.1 t.2.1 t.2.2 (fun z1 z2 => K (.exit 0) (mkS 27 [1] [vi z1] [ro z2] [true]))) (fun t => rfl) (fun k t => ?_) (fun _ => fuelN) h
  refine (step0 V0 K _ t.1 t.2.1 t.2.2).trans ?_
  refine congrArg (fun W => B0 t.1 t.2.1 t.2.2 W (fun z1 z2 => K (.exit 0) (mkS 27 [1] [vi z1] [ro z2] [true]))) ?_
  funext u1 u2 u3
  exact ofC_enc enc0I _ (u1, u2, u3)
theorem e : atomsL [] 0 (bodyOf Try.f122) = [(0, 0, .loop c0)] := by kernel_rfl
theorem acc (t : Int × (Vec (Int × Int))) (x : Int × (Vec (Int × Int))) (h : F t.1 t.2 = some x) : ACc Try.prog 122 (encA t).1 (encA t).2 true [true] fun rv obs => (rv, obs) = encR x := by
  refine fun_okc (L := (L V0)) (jn := []) (cmds := []) (ks := [true]) (hin := (encA t).2) (fn := Try.f122) (body := (bodyOf Try.f122)) Gok hm Try.func122 (by kernel_rfl) (by kernel_rfl) (by rw [e]; exact Lor.ok_cons ok0 (Lor.ok_nil _ _)) ?_ h
  refine (main V0 _ t.1 t.2).trans ?_
  rw [V0_enc]
  refine congrArg (fun K => B (F0 fuelN) t.1 t.2 K) ?_
  funext x1 x2
  exact ofC_enc encRI some (x1, x2)
theorem ac0 (t : Int × (Vec (Int × Int))) (x : Int × (Vec (Int × Int))) (h : F t.1 t.2 = some x) : AC Try.prog 122 (encA t).1 (encA t).2 true [true] fun rv obs => (rv, obs) = encR x := ACc.ac (body := bodyOf Try.f122) Try.func122 (by kernel_rfl) (by kernel_rfl) (acc t x h)
theorem ac (args : List AV) (hin : List Ob) (x : Int × (Vec (Int × Int))) (h : Q args hin = some x) : AC Try.prog 122 args hin false [true] fun rv obs => (rv, obs) = encR x := by
  obtain ⟨t, he, h2⟩ := ofC_some h
  obtain rfl : args = (encA t).1 := (congrArg Prod.fst he).symm
  obtain rfl : hin = (encA t).2 := (congrArg Prod.snd he).symm
  refine (ac0 t x h2).flat fun rv obs e => ?_
  obtain rfl : rv = (encR x).1 := congrArg Prod.fst e
  obtain rfl : obs = (encR x).2 := congrArg Prod.snd e
  refine ⟨by simp [encR, AV.Flat, K.Flat, C.Flat], ?_⟩
  intro o ho
  simp only [encR, List.mem_cons, List.not_mem_nil, or_false] at ho
  subst ho
  exact flat_rw rfl _
end laws_markIdentS_s7fcd
/-! loop.example/g00073/laws.markIdentSS -/
namespace laws_markIdentSS_s400b
noncomputable def B0 {ρ : Type} (C0 : Int → (Vec (Int × Int)) → Option (Int × (Vec (Int × Int)))) (v1 : Int) (v2 : Int) (v3 : Vec (Vec (Int × Int))) (W : Int → Int → (Vec (Vec (Int × Int))) → Option ρ) (K0 : Int → (Vec (Vec (Int × Int))) → Option ρ) : Option ρ :=
  sel (decide (v2 < (v3.n : Int))) (chk (decide (0 ≤ v2 ∧ v2 < (v3.n : Int))) (chk (decide (v2.toNat < v3.n)) ((C0 v1 (v3.g v2.toNat)).bind fun r1 => W r1.1 (wr (v2 + (1 : Int))) (Vec.set v3 v2.toNat r1.2)))) (K0 v1 v3)
noncomputable def F0 {ρ : Type} : Nat → Int → Int → (Vec (Vec (Int × Int))) → (Int → (Vec (Vec (Int × Int))) → Option ρ) → Option ρ
  | 0, _, _, _, _ => none
  | k + 1, v1, v2, v3, K0 => B0 laws_markIdentS_s7fcd.F v1 v2 v3 (fun v1' v2' v3' => F0 k v1' v2' v3' K0) K0
noncomputable def B {ρ : Type} (L0 : Int → Int → (Vec (Vec (Int × Int))) → (Int → (Vec (Vec (Int × Int))) → Option ρ) → Option ρ) (a1 : Int) (a2 : Vec (Vec (Int × Int))) (K : Int → (Vec (Vec (Int × Int))) → Option ρ) : Option ρ :=
  L0 a1 (0 : Int) a2 (fun e01 e02 => K e01 e02)
noncomputable def F (a1 : Int) (a2 : Vec (Vec (Int × Int))) : Option (Int × (Vec (Vec (Int × Int)))) := B (F0 fuelN) a1 a2 (fun x1 x2 => some (x1, x2))
def encA (t : Int × (Vec (Vec (Int × Int)))) : List AV × List Ob := ([.c (.h 0), vi t.1], [ro t.2])
def encR (x : Int × (Vec (Vec (Int × Int)))) : AV × List Ob := (vi x.1, [ro x.2])
theorem encAI : ∀ a b, encA a = encA b → a = b := by
  intro a b h
  obtain ⟨a0, a1⟩ := a
  obtain ⟨b0, b1⟩ := b
  simp [encA, encRw_iff] at h
  simp_all
theorem encRI : ∀ a b, encR a = encR b → a = b := by
  intro a b h
  obtain ⟨a0, a1⟩ := a
  obtain ⟨b0, b1⟩ := b
  simp [encR, encRw_iff] at h
  simp_all
noncomputable def Q (args : List AV) (hin : List Ob) : Option (Int × (Vec (Vec (Int × Int)))) := ofC encA (fun t => F t.1 t.2) (args, hin)
theorem wrap : (fun (y1 : Int) (y2 : Vec (Vec (Int × Int))) => Q [.c (.h 0), vi y1] [ro y2]) = F := by
  funext y1 y2
  exact ofC_enc encAI _ (y1, y2)
noncomputable def G (Q0 : List AV → List Ob → Option (Int × (Vec (Int × Int)))) : Orc := ⟨fun f => 9, fun ρ f args K => Option.none, fun ρ f st args dst K => sel (Nat.beq f 122) (callE Try.prog 122 [true, false] false [true] laws_markIdentS_s7fcd.encR Q0 st args dst K) (Option.none), true⟩
noncomputable def L (W0 : (ρ : Type) → List AV → List Ob → (Int → (Vec (Vec (Int × Int))) → Option ρ) → Option ρ) : Lor := fun ρ j st K => sel (Nat.beq j 0) (cutO Try.prog 19 [0, 1, 5] 1 [true] [] st fun avs obs => W0 ρ avs obs (fun z1 z2 => K (.exit 0) (mkS 19 [1] [vi z1] [ro z2] [true]))) (Option.none)
noncomputable def c0 : Code := loopC (atomN [] 0 (bodyOf Try.f83) 0)
def ct0 : Cut := ⟨[0, 1, 5], []⟩
def lv0 : Exit → Cut
  | .exit 0 => ⟨[1], []⟩
  | _ => ⟨[], []⟩
theorem step0 (Q0) (W0) {ρ : Type} (K : Exit → St → Option ρ) (W : List AV → List Ob → Option ρ) (v1 v2 v3) : exC Try.prog (G Q0) (L W0) [] 1 c0 (mkS 19 [0, 1, 5] [.c (.h 0), vi v1, vi v2] [ro v3] [true]) (bodyK Try.prog 19 1 [true] ct0 W lv0 K) =
    B0 (fun y1 y2 => Q0 [.c (.h 0), vi y1] [ro y2]) v1 v2 v3 (fun u1 u2 u3 => W [.c (.h 0), vi u1, vi u2] [ro u3]) (fun z1 z2 => K (.exit 0) (mkS 19 [1] [vi z1] [ro z2] [true])) := by kernel_rfl
def enc0 (t : Int × Int × (Vec (Vec (Int × Int)))) : List AV × List Ob := ([.c (.h 0), vi t.1, vi t.2.1], [ro t.2.2])
theorem enc0I : ∀ a b, enc0 a = enc0 b → a = b := by
  intro a b h
  obtain ⟨a0, a1, a2⟩ := a
  obtain ⟨b0, b1, b2⟩ := b
  simp [enc0, encRw_iff] at h
  simp_all
noncomputable def V0 : (ρ : Type) → List AV → List Ob → (Int → (Vec (Vec (Int × Int))) → Option ρ) → Option ρ := fun ρ avs obs k0 => ofC enc0 (fun t => F0 fuelN t.1 t.2.1 t.2.2 k0) (avs, obs)
theorem V0_enc (ρ : Type) : (fun w1 w2 w3 k0 => V0 ρ [.c (.h 0), vi w1, vi w2] [ro w3] k0) = F0 fuelN := by
  funext w1 w2 w3 k0
  exact ofC_enc enc0I _ (w1, w2, w3)
theorem main (Q0) (W0) {ρ : Type} (K : AV → List Ob → Option ρ) (a1 a2) : exC Try.prog (G Q0) (L W0) [] 0 (bodyOf Try.f83) (entry 19 [.c (.h 0), vi a1] [ro a2] [true]) (finO Try.prog Try.f83.results.toList 1 [true] [] K) =
    B (fun w1 w2 w3 k0 => W0 ρ [.c (.h 0), vi w1, vi w2] [ro w3] k0) a1 a2 (fun x1 x2 => K (vi x1) [ro x2]) := by kernel_rfl
theorem Gok : (G laws_markIdentS_s7fcd.Q).ok Try.prog := ⟨(fun ρ f args K r h => (by cases h)),
  (fun ρ f args K => rfl),
  (by
    intro ρ f st caps args dst K r h
    rcases sel_cases h with ⟨hb, h⟩ | ⟨-, h⟩
    · obtain rfl := beq_nat hb
      exact callE_ok (fun h => by cases h) laws_markIdentS_s7fcd.ac h
    cases h)⟩
theorem hm : Try.prog.follows .mixedOrders = true := by kernel_rfl
theorem e0 : atomsL [] 1 c0 = [] := by kernel_rfl
theorem ok0 (ρ : Type) (st : St) (K : Exit → St → Option ρ) (r : ρ) (h : (L V0) ρ 0 st K = some r) : AW Try.prog (.loop c0) st fun e st' => K e st' = some r := by
  refine loop_ok (ct := ct0) (lv := lv0) (n := 19) (m := 1) (ks := [true]) (j := 0) (jn := []) (L := (L V0)) Gok hm (by rw [e0]; exact Lor.ok_nil _ _) enc0I (fun k t => F0 k t.1 t.2.1 t.2.2 (fun z1 z2 => K (.exit 0) (mkS 19 [1] [vi z1] [ro z2] [true]))) (fun t => rfl) (fun k t => ?_) (fun _ => fuelN) h
  refine (step0 laws_markIdentS_s7fcd.Q V0 K _ t.1 t.2.1 t.2.2).trans ?_
  rw [laws_markIdentS_s7fcd.wrap]
  refine congrArg (fun W => B0 laws_markIdentS_s7fcd.F t.1 t.2.1 t.2.2 W (fun z1 z2 => K (.exit 0) (mkS 19 [1] [vi z1] [ro z2] [true]))) ?_
  funext u1 u2 u3
  exact ofC_enc enc0I _ (u1, u2, u3)
theorem e : atomsL [] 0 (bodyOf Try.f83) = [(0, 0, .loop c0)] := by kernel_rfl
theorem acc (t : Int × (Vec (Vec (Int × Int)))) (x : Int × (Vec (Vec (Int × Int)))) (h : F t.1 t.2 = some x) : ACc Try.prog 83 (encA t).1 (encA t).2 true [true] fun rv obs => (rv, obs) = encR x := by
  refine fun_okc (L := (L V0)) (jn := []) (cmds := []) (ks := [true]) (hin := (encA t).2) (fn := Try.f83) (body := (bodyOf Try.f83)) Gok hm Try.func83 (by kernel_rfl) (by kernel_rfl) (by rw [e]; exact Lor.ok_cons ok0 (Lor.ok_nil _ _)) ?_ h
  refine (main laws_markIdentS_s7fcd.Q V0 _ t.1 t.2).trans ?_
  rw [V0_enc]
  refine congrArg (fun K => B (F0 fuelN) t.1 t.2 K) ?_
  funext x1 x2
  exact ofC_enc encRI some (x1, x2)
theorem ac0 (t : Int × (Vec (Vec (Int × Int)))) (x : Int × (Vec (Vec (Int × Int)))) (h : F t.1 t.2 = some x) : AC Try.prog 83 (encA t).1 (encA t).2 true [true] fun rv obs => (rv, obs) = encR x := ACc.ac (body := bodyOf Try.f83) Try.func83 (by kernel_rfl) (by kernel_rfl) (acc t x h)
theorem ac (args : List AV) (hin : List Ob) (x : Int × (Vec (Vec (Int × Int)))) (h : Q args hin = some x) : AC Try.prog 83 args hin false [true] fun rv obs => (rv, obs) = encR x := by
  obtain ⟨t, he, h2⟩ := ofC_some h
  obtain rfl : args = (encA t).1 := (congrArg Prod.fst he).symm
  obtain rfl : hin = (encA t).2 := (congrArg Prod.snd he).symm
  refine (ac0 t x h2).flat fun rv obs e => ?_
  obtain rfl : rv = (encR x).1 := congrArg Prod.fst e
  obtain rfl : obs = (encR x).2 := congrArg Prod.snd e
  refine ⟨by simp [encR, AV.Flat, K.Flat, C.Flat], ?_⟩
  intro o ho
  simp only [encR, List.mem_cons, List.not_mem_nil, or_false] at ho
  subst ho
  exact flat_rw rfl _
end laws_markIdentSS_s400b
/-! loop.example/g00073/laws.markPlain -/
namespace laws_markPlain_sa1d2
noncomputable def B {ρ : Type} (C0 : Int → (Vec (Vec Int)) → Option (Int × Vec (Vec Int))) (C1 : Int → (Vec (Vec ByteArray)) → Option (Int × Vec (Vec ByteArray))) (C2 : Int → (Vec (Vec (Int × Int))) → Option (Int × (Vec (Vec (Int × Int))))) (a1 : Int) (a2 : Vec (Vec Int)) (a3 : Vec (Vec ByteArray)) (a4 : Vec (Vec (Int × Int))) (K : Int → (Vec (Vec Int)) → (Vec (Vec ByteArray)) → (Vec (Vec (Int × Int))) → Option ρ) : Option ρ :=
  (C0 a1 a2).bind fun r1 => (C1 r1.1 a3).bind fun r2 => (C2 r2.1 a4).bind fun r3 => K r3.1 r1.2 r2.2 r3.2
noncomputable def F (a1 : Int) (a2 : Vec (Vec Int)) (a3 : Vec (Vec ByteArray)) (a4 : Vec (Vec (Int × Int))) : Option (Int × Vec (Vec Int) × Vec (Vec ByteArray) × (Vec (Vec (Int × Int)))) := B laws_markIntSS_s45a1.F laws_markStringSS_sc740.F laws_markIdentSS_s400b.F a1 a2 a3 a4 (fun x1 x2 x3 x4 => some (x1, x2, x3, x4))
def encA (t : Int × Vec (Vec Int) × Vec (Vec ByteArray) × (Vec (Vec (Int × Int)))) : List AV × List Ob := ([.a [.h 0, .h 1, .h 2], vi t.1], [ro t.2.1, ro t.2.2.1, ro t.2.2.2])
def encR (x : Int × Vec (Vec Int) × Vec (Vec ByteArray) × (Vec (Vec (Int × Int)))) : AV × List Ob := (vi x.1, [ro x.2.1, ro x.2.2.1, ro x.2.2.2])
theorem encAI : ∀ a b, encA a = encA b → a = b := by
  intro a b h
  obtain ⟨a0, a1, a2, a3⟩ := a
  obtain ⟨b0, b1, b2, b3⟩ := b
  simp [encA, encRw_iff] at h
  simp_all
theorem encRI : ∀ a b, encR a = encR b → a = b := by
  intro a b h
  obtain ⟨a0, a1, a2, a3⟩ := a
  obtain ⟨b0, b1, b2, b3⟩ := b
  simp [encR, encRw_iff] at h
  simp_all
noncomputable def Q (args : List AV) (hin : List Ob) : Option (Int × Vec (Vec Int) × Vec (Vec ByteArray) × (Vec (Vec (Int × Int)))) := ofC encA (fun t => F t.1 t.2.1 t.2.2.1 t.2.2.2) (args, hin)
theorem wrap : (fun (y1 : Int) (y2 : Vec (Vec Int)) (y3 : Vec (Vec ByteArray)) (y4 : Vec (Vec (Int × Int))) => Q [.a [.h 0, .h 1, .h 2], vi y1] [ro y2, ro y3, ro y4]) = F := by
  funext y1 y2 y3 y4
  exact ofC_enc encAI _ (y1, y2, y3, y4)
noncomputable def G (Q0 : List AV → List Ob → Option (Int × Vec (Vec Int))) (Q1 : List AV → List Ob → Option (Int × Vec (Vec ByteArray))) (Q2 : List AV → List Ob → Option (Int × (Vec (Vec (Int × Int))))) : Orc := ⟨fun f => 9, fun ρ f args K => Option.none, fun ρ f st args dst K => sel (Nat.beq f 64) (callE Try.prog 64 [true, false] false [true] laws_markIntSS_s45a1.encR Q0 st args dst K) (sel (Nat.beq f 82) (callE Try.prog 82 [true, false] false [true] laws_markStringSS_sc740.encR Q1 st args dst K) (sel (Nat.beq f 83) (callE Try.prog 83 [true, false] false [true] laws_markIdentSS_s400b.encR Q2 st args dst K) (Option.none))), false⟩
noncomputable def L : Lor := fun ρ j st K => Option.none
theorem main (Q0 Q1 Q2) {ρ : Type} (K : AV → List Ob → Option ρ) (a1 a2 a3 a4) : exC Try.prog (G Q0 Q1 Q2) (L) [] 0 (bodyOf Try.f40) (entry 18 [.a [.h 0, .h 1, .h 2], vi a1] [ro a2, ro a3, ro a4] [true, true, true]) (finO Try.prog Try.f40.results.toList 3 [true, true, true] [] K) =
    B (fun y1 y2 => Q0 [.c (.h 0), vi y1] [ro y2]) (fun y1 y2 => Q1 [.c (.h 0), vi y1] [ro y2]) (fun y1 y2 => Q2 [.c (.h 0), vi y1] [ro y2]) a1 a2 a3 a4 (fun x1 x2 x3 x4 => K (vi x1) [ro x2, ro x3, ro x4]) := by kernel_rfl
theorem Gok : (G laws_markIntSS_s45a1.Q laws_markStringSS_sc740.Q laws_markIdentSS_s400b.Q).ok Try.prog := ⟨(fun ρ f args K r h => (by cases h)),
  (fun ρ f args K => rfl),
  (by
    intro ρ f st caps args dst K r h
    rcases sel_cases h with ⟨hb, h⟩ | ⟨-, h⟩
    · obtain rfl := beq_nat hb
      exact callE_ok (fun h => by cases h) laws_markIntSS_s45a1.ac h
    rcases sel_cases h with ⟨hb, h⟩ | ⟨-, h⟩
    · obtain rfl := beq_nat hb
      exact callE_ok (fun h => by cases h) laws_markStringSS_sc740.ac h
    rcases sel_cases h with ⟨hb, h⟩ | ⟨-, h⟩
    · obtain rfl := beq_nat hb
      exact callE_ok (fun h => by cases h) laws_markIdentSS_s400b.ac h
    cases h)⟩
theorem hm : Try.prog.follows .mixedOrders = true := by kernel_rfl
theorem e : atomsL [] 0 (bodyOf Try.f40) = [] := by kernel_rfl
theorem acc (t : Int × Vec (Vec Int) × Vec (Vec ByteArray) × (Vec (Vec (Int × Int)))) (x : Int × Vec (Vec Int) × Vec (Vec ByteArray) × (Vec (Vec (Int × Int)))) (h : F t.1 t.2.1 t.2.2.1 t.2.2.2 = some x) : ACc Try.prog 40 (encA t).1 (encA t).2 true [true, true, true] fun rv obs => (rv, obs) = encR x := by
  refine fun_okc (L := (L)) (jn := []) (cmds := []) (ks := [true, true, true]) (hin := (encA t).2) (fn := Try.f40) (body := (bodyOf Try.f40)) Gok hm Try.func40 (by kernel_rfl) (by kernel_rfl) (by rw [e]; exact Lor.ok_nil _ _) ?_ h
  refine (main laws_markIntSS_s45a1.Q laws_markStringSS_sc740.Q laws_markIdentSS_s400b.Q _ t.1 t.2.1 t.2.2.1 t.2.2.2).trans ?_
  rw [laws_markIntSS_s45a1.wrap, laws_markStringSS_sc740.wrap, laws_markIdentSS_s400b.wrap]
  refine congrArg (fun K => B laws_markIntSS_s45a1.F laws_markStringSS_sc740.F laws_markIdentSS_s400b.F t.1 t.2.1 t.2.2.1 t.2.2.2 K) ?_
  funext x1 x2 x3 x4
  exact ofC_enc encRI some (x1, x2, x3, x4)
theorem ac0 (t : Int × Vec (Vec Int) × Vec (Vec ByteArray) × (Vec (Vec (Int × Int)))) (x : Int × Vec (Vec Int) × Vec (Vec ByteArray) × (Vec (Vec (Int × Int)))) (h : F t.1 t.2.1 t.2.2.1 t.2.2.2 = some x) : AC Try.prog 40 (encA t).1 (encA t).2 true [true, true, true] fun rv obs => (rv, obs) = encR x := ACc.ac (body := bodyOf Try.f40) Try.func40 (by kernel_rfl) (by kernel_rfl) (acc t x h)
theorem ac (args : List AV) (hin : List Ob) (x : Int × Vec (Vec Int) × Vec (Vec ByteArray) × (Vec (Vec (Int × Int)))) (h : Q args hin = some x) : AC Try.prog 40 args hin false [true, true, true] fun rv obs => (rv, obs) = encR x := by
  obtain ⟨t, he, h2⟩ := ofC_some h
  obtain rfl : args = (encA t).1 := (congrArg Prod.fst he).symm
  obtain rfl : hin = (encA t).2 := (congrArg Prod.snd he).symm
  refine (ac0 t x h2).flat fun rv obs e => ?_
  obtain rfl : rv = (encR x).1 := congrArg Prod.fst e
  obtain rfl : obs = (encR x).2 := congrArg Prod.snd e
  refine ⟨by simp [encR, AV.Flat, K.Flat, C.Flat], ?_⟩
  intro o ho
  simp only [encR, List.mem_cons, List.not_mem_nil, or_false] at ho
  rcases ho with rfl | rfl | rfl
  · exact flat_rw rfl _
  · exact flat_rw rfl _
  · exact flat_rw rfl _
end laws_markPlain_sa1d2
/-! loop.example/g00073/laws.heldIntS -/
namespace laws_heldIntS
noncomputable def B0 {ρ : Type} (v1 : Vec Int) (v2 : Int) (v3 : Int) (W : (Vec Int) → Int → Int → Option ρ) (K0 : Int → Option ρ) (Kr : Int → Option ρ) : Option ρ :=
  sel (decide (v3 < (v1.n : Int))) (chk (decide (0 ≤ v3 ∧ v3 < (v1.n : Int))) (sel ((!decide ((v1.g v3.toNat) = v2))) (Kr (-1 : Int)) (W v1 (wr (v2 + (1 : Int))) (wr (v3 + (1 : Int)))))) (K0 v2)
noncomputable def F0 {ρ : Type} : Nat → (Vec Int) → Int → Int → (Int → Option ρ) → (Int → Option ρ) → Option ρ
  | 0, _, _, _, _, _ => none
  | k + 1, v1, v2, v3, K0, Kr => B0 v1 v2 v3 (fun v1' v2' v3' => F0 k v1' v2' v3' K0 Kr) K0 Kr
noncomputable def B {ρ : Type} (L0 : (Vec Int) → Int → Int → (Int → Option ρ) → (Int → Option ρ) → Option ρ) (a1 : Vec Int) (a2 : Int) (K : Int → Option ρ) : Option ρ :=
  L0 a1 a2 (0 : Int) (fun e01 => K e01) (fun x01 => K x01)
noncomputable def F (a1 : Vec Int) (a2 : Int) : Option Int := B (F0 fuelN) a1 a2 (fun x1 => some (x1))
def encA (t : Vec Int × Int) : List AV := [vl t.1, vi t.2]
def encR (x : Int) : AV × List Ob := (vi x, [])
theorem encAI : ∀ a b, encA a = encA b → a = b := by
  intro a b h
  obtain ⟨a0, a1⟩ := a
  obtain ⟨b0, b1⟩ := b
  simp [encA, encRw_iff] at h
  simp_all
theorem encRI : ∀ a b, encR a = encR b → a = b := by
  intro a b h
  simp [encR, encRw_iff] at h
  simp_all
noncomputable def Q (args : List AV) : Option Int := ofC encA (fun t => F t.1 t.2) args
theorem wrap : (fun (y1 : Vec Int) (y2 : Int) => Q [vl y1, vi y2]) = F := by
  funext y1 y2
  exact ofC_enc encAI _ (y1, y2)
noncomputable def G : Orc := ⟨fun f => 9, fun ρ f args K => Option.none, noE, false⟩
noncomputable def L (W0 : (ρ : Type) → List AV → List Ob → (Int → Option ρ) → (Int → Option ρ) → Option ρ) : Lor := fun ρ j st K => sel (Nat.beq j 0) (cutO Try.prog 21 [0, 1, 5] 0 [] [] st fun avs obs => W0 ρ avs obs (fun z1 => K (.exit 0) (mkS 21 [1] [vi z1] [] [])) (fun z1 => K .ret (mkS 21 [4] [vi z1] [] []))) (Option.none)
noncomputable def c0 : Code := loopC (atomN [] 0 (bodyOf Try.f18) 0)
def ct0 : Cut := ⟨[0, 1, 5], []⟩
def lv0 : Exit → Cut
  | .exit 0 => ⟨[1], []⟩
  | .ret => ⟨[4], []⟩
  | _ => ⟨[], []⟩
theorem step0 (W0) {ρ : Type} (K : Exit → St → Option ρ) (W : List AV → List Ob → Option ρ) (v1 v2 v3) : exC Try.prog (G) (L W0) [] 1 c0 (mkS 21 [0, 1, 5] [vl v1, vi v2, vi v3] [] []) (bodyK Try.prog 21 0 [] ct0 W lv0 K) =
    B0 v1 v2 v3 (fun u1 u2 u3 => W [vl u1, vi u2, vi u3] []) (fun z1 => K (.exit 0) (mkS 21 [1] [vi z1] [] [])) (fun z1 => K .ret (mkS 21 [4] [vi z1] [] [])) := by kernel_rfl
def enc0 (t : Vec Int × Int × Int) : List AV × List Ob := ([vl t.1, vi t.2.1, vi t.2.2], [])
theorem enc0I : ∀ a b, enc0 a = enc0 b → a = b := by
  intro a b h
  obtain ⟨a0, a1, a2⟩ := a
  obtain ⟨b0, b1, b2⟩ := b
  simp [enc0, encRw_iff] at h
  simp_all
noncomputable def V0 : (ρ : Type) → List AV → List Ob → (Int → Option ρ) → (Int → Option ρ) → Option ρ := fun ρ avs obs k0 kr => ofC enc0 (fun t => F0 fuelN t.1 t.2.1 t.2.2 k0 kr) (avs, obs)
theorem V0_enc (ρ : Type) : (fun w1 w2 w3 k0 kr => V0 ρ [vl w1, vi w2, vi w3] [] k0 kr) = F0 fuelN := by
  funext w1 w2 w3 k0 kr
  exact ofC_enc enc0I _ (w1, w2, w3)
theorem main (W0) {ρ : Type} (K : AV → List Ob → Option ρ) (a1 a2) : exC Try.prog (G) (L W0) [] 0 (bodyOf Try.f18) (entry 21 [vl a1, vi a2] [] []) (finO Try.prog Try.f18.results.toList 0 [] [] K) =
    B (fun w1 w2 w3 k0 kr => W0 ρ [vl w1, vi w2, vi w3] [] k0 kr) a1 a2 (fun x1 => K (vi x1) []) := by kernel_rfl
theorem Gok : (G).ok Try.prog := ⟨(fun ρ f args K r h => (by cases h)),
  (fun ρ f args K => rfl),
  (fun ρ f st caps args dst K r h => (by cases h))⟩
theorem hm : Try.prog.follows .mixedOrders = true := by kernel_rfl
theorem e0 : atomsL [] 1 c0 = [] := by kernel_rfl
theorem ok0 (ρ : Type) (st : St) (K : Exit → St → Option ρ) (r : ρ) (h : (L V0) ρ 0 st K = some r) : AW Try.prog (.loop c0) st fun e st' => K e st' = some r := by
  refine loop_ok (ct := ct0) (lv := lv0) (n := 21) (m := 0) (ks := []) (j := 0) (jn := []) (L := (L V0)) Gok hm (by rw [e0]; exact Lor.ok_nil _ _) enc0I (fun k t => F0 k t.1 t.2.1 t.2.2 (fun z1 => K (.exit 0) (mkS 21 [1] [vi z1] [] [])) (fun z1 => K .ret (mkS 21 [4] [vi z1] [] []))) (fun t => rfl) (fun k t => ?_) (fun _ => fuelN) h
  refine (step0 V0 K _ t.1 t.2.1 t.2.2).trans ?_
  refine congrArg (fun W => B0 t.1 t.2.1 t.2.2 W (fun z1 => K (.exit 0) (mkS 21 [1] [vi z1] [] [])) (fun z1 => K .ret (mkS 21 [4] [vi z1] [] []))) ?_
  funext u1 u2 u3
  exact ofC_enc enc0I _ (u1, u2, u3)
theorem e : atomsL [] 0 (bodyOf Try.f18) = [(0, 0, .loop c0)] := by kernel_rfl
theorem acc (t : Vec Int × Int) (x : Int) (h : F t.1 t.2 = some x) : ACc Try.prog 18 (encA t) [] true [] fun rv obs => (rv, obs) = encR x := by
  refine fun_okc (L := (L V0)) (jn := []) (cmds := []) (ks := []) (hin := []) (fn := Try.f18) (body := (bodyOf Try.f18)) Gok hm Try.func18 (by kernel_rfl) (by kernel_rfl) (by rw [e]; exact Lor.ok_cons ok0 (Lor.ok_nil _ _)) ?_ h
  refine (main V0 _ t.1 t.2).trans ?_
  rw [V0_enc]
  refine congrArg (fun K => B (F0 fuelN) t.1 t.2 K) ?_
  funext x1
  exact ofC_enc encRI some (x1)
theorem ac0 (t : Vec Int × Int) (x : Int) (h : F t.1 t.2 = some x) : AC Try.prog 18 (encA t) [] true [] fun rv obs => (rv, obs) = encR x := ACc.ac (body := bodyOf Try.f18) Try.func18 (by kernel_rfl) (by kernel_rfl) (acc t x h)
theorem ac (args : List AV) (x : Int) (h : Q args = some x) : AC Try.prog 18 args [] false [] fun rv obs => (rv, obs) = encR x := by
  obtain ⟨t, rfl, h2⟩ := ofC_some h
  refine (ac0 t x h2).flat fun rv obs e => ?_
  obtain rfl : rv = (encR x).1 := congrArg Prod.fst e
  obtain rfl : obs = (encR x).2 := congrArg Prod.snd e
  refine ⟨by simp [encR, AV.Flat, K.Flat, C.Flat], ?_⟩
  simp [encR]
end laws_heldIntS
/-! loop.example/g00073/laws.heldIntSS -/
namespace laws_heldIntSS
noncomputable def B0 {ρ : Type} (C0 : (Vec Int) → Int → Option Int) (v1 : Vec (Vec Int)) (v2 : Int) (v3 : Int) (W : (Vec (Vec Int)) → Int → Int → Option ρ) (K0 : Int → Option ρ) (Kr : Int → Option ρ) : Option ρ :=
  sel (decide (v3 < (v1.n : Int))) (chk (decide (0 ≤ v3 ∧ v3 < (v1.n : Int))) ((C0 (v1.g v3.toNat) v2).bind fun r1 => sel (decide (r1 < (0 : Int))) (Kr (-1 : Int)) (W v1 r1 (wr (v3 + (1 : Int)))))) (K0 v2)
noncomputable def F0 {ρ : Type} : Nat → (Vec (Vec Int)) → Int → Int → (Int → Option ρ) → (Int → Option ρ) → Option ρ
  | 0, _, _, _, _, _ => none
  | k + 1, v1, v2, v3, K0, Kr => B0 laws_heldIntS.F v1 v2 v3 (fun v1' v2' v3' => F0 k v1' v2' v3' K0 Kr) K0 Kr
noncomputable def B {ρ : Type} (L0 : (Vec (Vec Int)) → Int → Int → (Int → Option ρ) → (Int → Option ρ) → Option ρ) (a1 : Vec (Vec Int)) (a2 : Int) (K : Int → Option ρ) : Option ρ :=
  L0 a1 a2 (0 : Int) (fun e01 => K e01) (fun x01 => K x01)
noncomputable def F (a1 : Vec (Vec Int)) (a2 : Int) : Option Int := B (F0 fuelN) a1 a2 (fun x1 => some (x1))
def encA (t : Vec (Vec Int) × Int) : List AV := [vl t.1, vi t.2]
def encR (x : Int) : AV × List Ob := (vi x, [])
theorem encAI : ∀ a b, encA a = encA b → a = b := by
  intro a b h
  obtain ⟨a0, a1⟩ := a
  obtain ⟨b0, b1⟩ := b
  simp [encA, encRw_iff] at h
  simp_all
theorem encRI : ∀ a b, encR a = encR b → a = b := by
  intro a b h
  simp [encR, encRw_iff] at h
  simp_all
noncomputable def Q (args : List AV) : Option Int := ofC encA (fun t => F t.1 t.2) args
theorem wrap : (fun (y1 : Vec (Vec Int)) (y2 : Int) => Q [vl y1, vi y2]) = F := by
  funext y1 y2
  exact ofC_enc encAI _ (y1, y2)
noncomputable def G (Q0 : List AV → Option Int) : Orc := ⟨fun f => sel (Nat.beq f 18) 0 (9), fun ρ f args K => sel (Nat.beq f 18) (qEntry laws_heldIntS.encR Q0 args K) (Option.none), noE, false⟩
noncomputable def L (W0 : (ρ : Type) → List AV → List Ob → (Int → Option ρ) → (Int → Option ρ) → Option ρ) : Lor := fun ρ j st K => sel (Nat.beq j 0) (cutO Try.prog 21 [0, 1, 5] 0 [] [] st fun avs obs => W0 ρ avs obs (fun z1 => K (.exit 0) (mkS 21 [1] [vi z1] [] [])) (fun z1 => K .ret (mkS 21 [4] [vi z1] [] []))) (Option.none)
noncomputable def c0 : Code := loopC (atomN [] 0 (bodyOf Try.f84) 0)
def ct0 : Cut := ⟨[0, 1, 5], []⟩
def lv0 : Exit → Cut
  | .exit 0 => ⟨[1], []⟩
  | .ret => ⟨[4], []⟩
  | _ => ⟨[], []⟩
theorem step0 (Q0) (W0) {ρ : Type} (K : Exit → St → Option ρ) (W : List AV → List Ob → Option ρ) (v1 v2 v3) : exC Try.prog (G Q0) (L W0) [] 1 c0 (mkS 21 [0, 1, 5] [vl v1, vi v2, vi v3] [] []) (bodyK Try.prog 21 0 [] ct0 W lv0 K) =
    B0 (fun y1 y2 => Q0 [vl y1, vi y2]) v1 v2 v3 (fun u1 u2 u3 => W [vl u1, vi u2, vi u3] []) (fun z1 => K (.exit 0) (mkS 21 [1] [vi z1] [] [])) (fun z1 => K .ret (mkS 21 [4] [vi z1] [] [])) := by kernel_rfl
def enc0 (t : Vec (Vec Int) × Int × Int) : List AV × List Ob := ([vl t.1, vi t.2.1, vi t.2.2], [])
theorem enc0I : ∀ a b, enc0 a = enc0 b → a = b := by
  intro a b h
  obtain ⟨a0, a1, a2⟩ := a
  obtain ⟨b0, b1, b2⟩ := b
  simp [enc0, encRw_iff] at h
  simp_all
noncomputable def V0 : (ρ : Type) → List AV → List Ob → (Int → Option ρ) → (Int → Option ρ) → Option ρ := fun ρ avs obs k0 kr => ofC enc0 (fun t => F0 fuelN t.1 t.2.1 t.2.2 k0 kr) (avs, obs)
theorem V0_enc (ρ : Type) : (fun w1 w2 w3 k0 kr => V0 ρ [vl w1, vi w2, vi w3] [] k0 kr) = F0 fuelN := by
  funext w1 w2 w3 k0 kr
  exact ofC_enc enc0I _ (w1, w2, w3)
theorem main (Q0) (W0) {ρ : Type} (K : AV → List Ob → Option ρ) (a1 a2) : exC Try.prog (G Q0) (L W0) [] 0 (bodyOf Try.f84) (entry 21 [vl a1, vi a2] [] []) (finO Try.prog Try.f84.results.toList 0 [] [] K) =
    B (fun w1 w2 w3 k0 kr => W0 ρ [vl w1, vi w2, vi w3] [] k0 kr) a1 a2 (fun x1 => K (vi x1) []) := by kernel_rfl
theorem Gok : (G laws_heldIntS.Q).ok Try.prog := ⟨(by
    intro ρ f args K r h
    rcases sel_cases h with ⟨hb, h⟩ | ⟨-, h⟩
    · obtain rfl := beq_nat hb
      exact qEntry_ok laws_heldIntS.ac h
    cases h),
  (by
    intro ρ f args K
    simp only [G]
    cases Nat.beq f 18 with
    | true => exact qEntry_nat args K
    | false =>
    simp only [sel]
    rfl),
  (fun ρ f st caps args dst K r h => (by cases h))⟩
theorem hm : Try.prog.follows .mixedOrders = true := by kernel_rfl
theorem e0 : atomsL [] 1 c0 = [] := by kernel_rfl
theorem ok0 (ρ : Type) (st : St) (K : Exit → St → Option ρ) (r : ρ) (h : (L V0) ρ 0 st K = some r) : AW Try.prog (.loop c0) st fun e st' => K e st' = some r := by
  refine loop_ok (ct := ct0) (lv := lv0) (n := 21) (m := 0) (ks := []) (j := 0) (jn := []) (L := (L V0)) Gok hm (by rw [e0]; exact Lor.ok_nil _ _) enc0I (fun k t => F0 k t.1 t.2.1 t.2.2 (fun z1 => K (.exit 0) (mkS 21 [1] [vi z1] [] [])) (fun z1 => K .ret (mkS 21 [4] [vi z1] [] []))) (fun t => rfl) (fun k t => ?_) (fun _ => fuelN) h
  refine (step0 laws_heldIntS.Q V0 K _ t.1 t.2.1 t.2.2).trans ?_
  rw [laws_heldIntS.wrap]
  refine congrArg (fun W => B0 laws_heldIntS.F t.1 t.2.1 t.2.2 W (fun z1 => K (.exit 0) (mkS 21 [1] [vi z1] [] [])) (fun z1 => K .ret (mkS 21 [4] [vi z1] [] []))) ?_
  funext u1 u2 u3
  exact ofC_enc enc0I _ (u1, u2, u3)
theorem e : atomsL [] 0 (bodyOf Try.f84) = [(0, 0, .loop c0)] := by kernel_rfl
theorem acc (t : Vec (Vec Int) × Int) (x : Int) (h : F t.1 t.2 = some x) : ACc Try.prog 84 (encA t) [] true [] fun rv obs => (rv, obs) = encR x := by
  refine fun_okc (L := (L V0)) (jn := []) (cmds := []) (ks := []) (hin := []) (fn := Try.f84) (body := (bodyOf Try.f84)) Gok hm Try.func84 (by kernel_rfl) (by kernel_rfl) (by rw [e]; exact Lor.ok_cons ok0 (Lor.ok_nil _ _)) ?_ h
  refine (main laws_heldIntS.Q V0 _ t.1 t.2).trans ?_
  rw [V0_enc]
  refine congrArg (fun K => B (F0 fuelN) t.1 t.2 K) ?_
  funext x1
  exact ofC_enc encRI some (x1)
theorem ac0 (t : Vec (Vec Int) × Int) (x : Int) (h : F t.1 t.2 = some x) : AC Try.prog 84 (encA t) [] true [] fun rv obs => (rv, obs) = encR x := ACc.ac (body := bodyOf Try.f84) Try.func84 (by kernel_rfl) (by kernel_rfl) (acc t x h)
theorem ac (args : List AV) (x : Int) (h : Q args = some x) : AC Try.prog 84 args [] false [] fun rv obs => (rv, obs) = encR x := by
  obtain ⟨t, rfl, h2⟩ := ofC_some h
  refine (ac0 t x h2).flat fun rv obs e => ?_
  obtain rfl : rv = (encR x).1 := congrArg Prod.fst e
  obtain rfl : obs = (encR x).2 := congrArg Prod.snd e
  refine ⟨by simp [encR, AV.Flat, K.Flat, C.Flat], ?_⟩
  simp [encR]
end laws_heldIntSS
/-! loop.example/g00073/laws.heldStringS -/
namespace laws_heldStringS
noncomputable def B0 {ρ : Type} (C0 : Int → Option ByteArray) (v1 : Vec ByteArray) (v2 : Int) (v3 : Int) (W : (Vec ByteArray) → Int → Int → Option ρ) (K0 : Int → Option ρ) (Kr : Int → Option ρ) : Option ρ :=
  sel (decide (v3 < (v1.n : Int))) (chk (decide (0 ≤ v3 ∧ v3 < (v1.n : Int))) ((C0 v2).bind fun r1 => sel ((!decide ((v1.g v3.toNat) = r1))) (Kr (-1 : Int)) (W v1 (wr (v2 + (1 : Int))) (wr (v3 + (1 : Int)))))) (K0 v2)
noncomputable def F0 {ρ : Type} : Nat → (Vec ByteArray) → Int → Int → (Int → Option ρ) → (Int → Option ρ) → Option ρ
  | 0, _, _, _, _, _ => none
  | k + 1, v1, v2, v3, K0, Kr => B0 laws_markText.F v1 v2 v3 (fun v1' v2' v3' => F0 k v1' v2' v3' K0 Kr) K0 Kr
noncomputable def B {ρ : Type} (L0 : (Vec ByteArray) → Int → Int → (Int → Option ρ) → (Int → Option ρ) → Option ρ) (a1 : Vec ByteArray) (a2 : Int) (K : Int → Option ρ) : Option ρ :=
  L0 a1 a2 (0 : Int) (fun e01 => K e01) (fun x01 => K x01)
noncomputable def F (a1 : Vec ByteArray) (a2 : Int) : Option Int := B (F0 fuelN) a1 a2 (fun x1 => some (x1))
def encA (t : Vec ByteArray × Int) : List AV := [vl t.1, vi t.2]
def encR (x : Int) : AV × List Ob := (vi x, [])
theorem encAI : ∀ a b, encA a = encA b → a = b := by
  intro a b h
  obtain ⟨a0, a1⟩ := a
  obtain ⟨b0, b1⟩ := b
  simp [encA, encRw_iff] at h
  simp_all
theorem encRI : ∀ a b, encR a = encR b → a = b := by
  intro a b h
  simp [encR, encRw_iff] at h
  simp_all
noncomputable def Q (args : List AV) : Option Int := ofC encA (fun t => F t.1 t.2) args
theorem wrap : (fun (y1 : Vec ByteArray) (y2 : Int) => Q [vl y1, vi y2]) = F := by
  funext y1 y2
  exact ofC_enc encAI _ (y1, y2)
noncomputable def G (Q0 : List AV → Option ByteArray) : Orc := ⟨fun f => sel (Nat.beq f 51) 0 (9), fun ρ f args K => sel (Nat.beq f 51) (qEntry laws_markText.encR Q0 args K) (Option.none), noE, false⟩
noncomputable def L (W0 : (ρ : Type) → List AV → List Ob → (Int → Option ρ) → (Int → Option ρ) → Option ρ) : Lor := fun ρ j st K => sel (Nat.beq j 0) (cutO Try.prog 22 [0, 1, 5] 0 [] [] st fun avs obs => W0 ρ avs obs (fun z1 => K (.exit 0) (mkS 22 [1] [vi z1] [] [])) (fun z1 => K .ret (mkS 22 [4] [vi z1] [] []))) (Option.none)
noncomputable def c0 : Code := loopC (atomN [] 0 (bodyOf Try.f32) 0)
def ct0 : Cut := ⟨[0, 1, 5], []⟩
def lv0 : Exit → Cut
  | .exit 0 => ⟨[1], []⟩
  | .ret => ⟨[4], []⟩
  | _ => ⟨[], []⟩
theorem step0 (Q0) (W0) {ρ : Type} (K : Exit → St → Option ρ) (W : List AV → List Ob → Option ρ) (v1 v2 v3) : exC Try.prog (G Q0) (L W0) [] 1 c0 (mkS 22 [0, 1, 5] [vl v1, vi v2, vi v3] [] []) (bodyK Try.prog 22 0 [] ct0 W lv0 K) =
    B0 (fun y1 => Q0 [vi y1]) v1 v2 v3 (fun u1 u2 u3 => W [vl u1, vi u2, vi u3] []) (fun z1 => K (.exit 0) (mkS 22 [1] [vi z1] [] [])) (fun z1 => K .ret (mkS 22 [4] [vi z1] [] [])) := by kernel_rfl
def enc0 (t : Vec ByteArray × Int × Int) : List AV × List Ob := ([vl t.1, vi t.2.1, vi t.2.2], [])
theorem enc0I : ∀ a b, enc0 a = enc0 b → a = b := by
  intro a b h
  obtain ⟨a0, a1, a2⟩ := a
  obtain ⟨b0, b1, b2⟩ := b
  simp [enc0, encRw_iff] at h
  simp_all
noncomputable def V0 : (ρ : Type) → List AV → List Ob → (Int → Option ρ) → (Int → Option ρ) → Option ρ := fun ρ avs obs k0 kr => ofC enc0 (fun t => F0 fuelN t.1 t.2.1 t.2.2 k0 kr) (avs, obs)
theorem V0_enc (ρ : Type) : (fun w1 w2 w3 k0 kr => V0 ρ [vl w1, vi w2, vi w3] [] k0 kr) = F0 fuelN := by
  funext w1 w2 w3 k0 kr
  exact ofC_enc enc0I _ (w1, w2, w3)
theorem main (Q0) (W0) {ρ : Type} (K : AV → List Ob → Option ρ) (a1 a2) : exC Try.prog (G Q0) (L W0) [] 0 (bodyOf Try.f32) (entry 22 [vl a1, vi a2] [] []) (finO Try.prog Try.f32.results.toList 0 [] [] K) =
    B (fun w1 w2 w3 k0 kr => W0 ρ [vl w1, vi w2, vi w3] [] k0 kr) a1 a2 (fun x1 => K (vi x1) []) := by kernel_rfl
theorem Gok : (G laws_markText.Q).ok Try.prog := ⟨(by
    intro ρ f args K r h
    rcases sel_cases h with ⟨hb, h⟩ | ⟨-, h⟩
    · obtain rfl := beq_nat hb
      exact qEntry_ok laws_markText.ac h
    cases h),
  (by
    intro ρ f args K
    simp only [G]
    cases Nat.beq f 51 with
    | true => exact qEntry_nat args K
    | false =>
    simp only [sel]
    rfl),
  (fun ρ f st caps args dst K r h => (by cases h))⟩
theorem hm : Try.prog.follows .mixedOrders = true := by kernel_rfl
theorem e0 : atomsL [] 1 c0 = [] := by kernel_rfl
theorem ok0 (ρ : Type) (st : St) (K : Exit → St → Option ρ) (r : ρ) (h : (L V0) ρ 0 st K = some r) : AW Try.prog (.loop c0) st fun e st' => K e st' = some r := by
  refine loop_ok (ct := ct0) (lv := lv0) (n := 22) (m := 0) (ks := []) (j := 0) (jn := []) (L := (L V0)) Gok hm (by rw [e0]; exact Lor.ok_nil _ _) enc0I (fun k t => F0 k t.1 t.2.1 t.2.2 (fun z1 => K (.exit 0) (mkS 22 [1] [vi z1] [] [])) (fun z1 => K .ret (mkS 22 [4] [vi z1] [] []))) (fun t => rfl) (fun k t => ?_) (fun _ => fuelN) h
  refine (step0 laws_markText.Q V0 K _ t.1 t.2.1 t.2.2).trans ?_
  rw [laws_markText.wrap]
  refine congrArg (fun W => B0 laws_markText.F t.1 t.2.1 t.2.2 W (fun z1 => K (.exit 0) (mkS 22 [1] [vi z1] [] [])) (fun z1 => K .ret (mkS 22 [4] [vi z1] [] []))) ?_
  funext u1 u2 u3
  exact ofC_enc enc0I _ (u1, u2, u3)
theorem e : atomsL [] 0 (bodyOf Try.f32) = [(0, 0, .loop c0)] := by kernel_rfl
theorem acc (t : Vec ByteArray × Int) (x : Int) (h : F t.1 t.2 = some x) : ACc Try.prog 32 (encA t) [] true [] fun rv obs => (rv, obs) = encR x := by
  refine fun_okc (L := (L V0)) (jn := []) (cmds := []) (ks := []) (hin := []) (fn := Try.f32) (body := (bodyOf Try.f32)) Gok hm Try.func32 (by kernel_rfl) (by kernel_rfl) (by rw [e]; exact Lor.ok_cons ok0 (Lor.ok_nil _ _)) ?_ h
  refine (main laws_markText.Q V0 _ t.1 t.2).trans ?_
  rw [V0_enc]
  refine congrArg (fun K => B (F0 fuelN) t.1 t.2 K) ?_
  funext x1
  exact ofC_enc encRI some (x1)
theorem ac0 (t : Vec ByteArray × Int) (x : Int) (h : F t.1 t.2 = some x) : AC Try.prog 32 (encA t) [] true [] fun rv obs => (rv, obs) = encR x := ACc.ac (body := bodyOf Try.f32) Try.func32 (by kernel_rfl) (by kernel_rfl) (acc t x h)
theorem ac (args : List AV) (x : Int) (h : Q args = some x) : AC Try.prog 32 args [] false [] fun rv obs => (rv, obs) = encR x := by
  obtain ⟨t, rfl, h2⟩ := ofC_some h
  refine (ac0 t x h2).flat fun rv obs e => ?_
  obtain rfl : rv = (encR x).1 := congrArg Prod.fst e
  obtain rfl : obs = (encR x).2 := congrArg Prod.snd e
  refine ⟨by simp [encR, AV.Flat, K.Flat, C.Flat], ?_⟩
  simp [encR]
end laws_heldStringS
/-! loop.example/g00073/laws.heldStringSS -/
namespace laws_heldStringSS
noncomputable def B0 {ρ : Type} (C0 : (Vec ByteArray) → Int → Option Int) (v1 : Vec (Vec ByteArray)) (v2 : Int) (v3 : Int) (W : (Vec (Vec ByteArray)) → Int → Int → Option ρ) (K0 : Int → Option ρ) (Kr : Int → Option ρ) : Option ρ :=
  sel (decide (v3 < (v1.n : Int))) (chk (decide (0 ≤ v3 ∧ v3 < (v1.n : Int))) ((C0 (v1.g v3.toNat) v2).bind fun r1 => sel (decide (r1 < (0 : Int))) (Kr (-1 : Int)) (W v1 r1 (wr (v3 + (1 : Int)))))) (K0 v2)
noncomputable def F0 {ρ : Type} : Nat → (Vec (Vec ByteArray)) → Int → Int → (Int → Option ρ) → (Int → Option ρ) → Option ρ
  | 0, _, _, _, _, _ => none
  | k + 1, v1, v2, v3, K0, Kr => B0 laws_heldStringS.F v1 v2 v3 (fun v1' v2' v3' => F0 k v1' v2' v3' K0 Kr) K0 Kr
noncomputable def B {ρ : Type} (L0 : (Vec (Vec ByteArray)) → Int → Int → (Int → Option ρ) → (Int → Option ρ) → Option ρ) (a1 : Vec (Vec ByteArray)) (a2 : Int) (K : Int → Option ρ) : Option ρ :=
  L0 a1 a2 (0 : Int) (fun e01 => K e01) (fun x01 => K x01)
noncomputable def F (a1 : Vec (Vec ByteArray)) (a2 : Int) : Option Int := B (F0 fuelN) a1 a2 (fun x1 => some (x1))
def encA (t : Vec (Vec ByteArray) × Int) : List AV := [vl t.1, vi t.2]
def encR (x : Int) : AV × List Ob := (vi x, [])
theorem encAI : ∀ a b, encA a = encA b → a = b := by
  intro a b h
  obtain ⟨a0, a1⟩ := a
  obtain ⟨b0, b1⟩ := b
  simp [encA, encRw_iff] at h
  simp_all
theorem encRI : ∀ a b, encR a = encR b → a = b := by
  intro a b h
  simp [encR, encRw_iff] at h
  simp_all
noncomputable def Q (args : List AV) : Option Int := ofC encA (fun t => F t.1 t.2) args
theorem wrap : (fun (y1 : Vec (Vec ByteArray)) (y2 : Int) => Q [vl y1, vi y2]) = F := by
  funext y1 y2
  exact ofC_enc encAI _ (y1, y2)
noncomputable def G (Q0 : List AV → Option Int) : Orc := ⟨fun f => sel (Nat.beq f 32) 0 (9), fun ρ f args K => sel (Nat.beq f 32) (qEntry laws_heldStringS.encR Q0 args K) (Option.none), noE, false⟩
noncomputable def L (W0 : (ρ : Type) → List AV → List Ob → (Int → Option ρ) → (Int → Option ρ) → Option ρ) : Lor := fun ρ j st K => sel (Nat.beq j 0) (cutO Try.prog 21 [0, 1, 5] 0 [] [] st fun avs obs => W0 ρ avs obs (fun z1 => K (.exit 0) (mkS 21 [1] [vi z1] [] [])) (fun z1 => K .ret (mkS 21 [4] [vi z1] [] []))) (Option.none)
noncomputable def c0 : Code := loopC (atomN [] 0 (bodyOf Try.f85) 0)
def ct0 : Cut := ⟨[0, 1, 5], []⟩
def lv0 : Exit → Cut
  | .exit 0 => ⟨[1], []⟩
  | .ret => ⟨[4], []⟩
  | _ => ⟨[], []⟩
theorem step0 (Q0) (W0) {ρ : Type} (K : Exit → St → Option ρ) (W : List AV → List Ob → Option ρ) (v1 v2 v3) : exC Try.prog (G Q0) (L W0) [] 1 c0 (mkS 21 [0, 1, 5] [vl v1, vi v2, vi v3] [] []) (bodyK Try.prog 21 0 [] ct0 W lv0 K) =
    B0 (fun y1 y2 => Q0 [vl y1, vi y2]) v1 v2 v3 (fun u1 u2 u3 => W [vl u1, vi u2, vi u3] []) (fun z1 => K (.exit 0) (mkS 21 [1] [vi z1] [] [])) (fun z1 => K .ret (mkS 21 [4] [vi z1] [] [])) := by kernel_rfl
def enc0 (t : Vec (Vec ByteArray) × Int × Int) : List AV × List Ob := ([vl t.1, vi t.2.1, vi t.2.2], [])
theorem enc0I : ∀ a b, enc0 a = enc0 b → a = b := by
  intro a b h
  obtain ⟨a0, a1, a2⟩ := a
  obtain ⟨b0, b1, b2⟩ := b
  simp [enc0, encRw_iff] at h
  simp_all
noncomputable def V0 : (ρ : Type) → List AV → List Ob → (Int → Option ρ) → (Int → Option ρ) → Option ρ := fun ρ avs obs k0 kr => ofC enc0 (fun t => F0 fuelN t.1 t.2.1 t.2.2 k0 kr) (avs, obs)
theorem V0_enc (ρ : Type) : (fun w1 w2 w3 k0 kr => V0 ρ [vl w1, vi w2, vi w3] [] k0 kr) = F0 fuelN := by
  funext w1 w2 w3 k0 kr
  exact ofC_enc enc0I _ (w1, w2, w3)
theorem main (Q0) (W0) {ρ : Type} (K : AV → List Ob → Option ρ) (a1 a2) : exC Try.prog (G Q0) (L W0) [] 0 (bodyOf Try.f85) (entry 21 [vl a1, vi a2] [] []) (finO Try.prog Try.f85.results.toList 0 [] [] K) =
    B (fun w1 w2 w3 k0 kr => W0 ρ [vl w1, vi w2, vi w3] [] k0 kr) a1 a2 (fun x1 => K (vi x1) []) := by kernel_rfl
theorem Gok : (G laws_heldStringS.Q).ok Try.prog := ⟨(by
    intro ρ f args K r h
    rcases sel_cases h with ⟨hb, h⟩ | ⟨-, h⟩
    · obtain rfl := beq_nat hb
      exact qEntry_ok laws_heldStringS.ac h
    cases h),
  (by
    intro ρ f args K
    simp only [G]
    cases Nat.beq f 32 with
    | true => exact qEntry_nat args K
    | false =>
    simp only [sel]
    rfl),
  (fun ρ f st caps args dst K r h => (by cases h))⟩
theorem hm : Try.prog.follows .mixedOrders = true := by kernel_rfl
theorem e0 : atomsL [] 1 c0 = [] := by kernel_rfl
theorem ok0 (ρ : Type) (st : St) (K : Exit → St → Option ρ) (r : ρ) (h : (L V0) ρ 0 st K = some r) : AW Try.prog (.loop c0) st fun e st' => K e st' = some r := by
  refine loop_ok (ct := ct0) (lv := lv0) (n := 21) (m := 0) (ks := []) (j := 0) (jn := []) (L := (L V0)) Gok hm (by rw [e0]; exact Lor.ok_nil _ _) enc0I (fun k t => F0 k t.1 t.2.1 t.2.2 (fun z1 => K (.exit 0) (mkS 21 [1] [vi z1] [] [])) (fun z1 => K .ret (mkS 21 [4] [vi z1] [] []))) (fun t => rfl) (fun k t => ?_) (fun _ => fuelN) h
  refine (step0 laws_heldStringS.Q V0 K _ t.1 t.2.1 t.2.2).trans ?_
  rw [laws_heldStringS.wrap]
  refine congrArg (fun W => B0 laws_heldStringS.F t.1 t.2.1 t.2.2 W (fun z1 => K (.exit 0) (mkS 21 [1] [vi z1] [] [])) (fun z1 => K .ret (mkS 21 [4] [vi z1] [] []))) ?_
  funext u1 u2 u3
  exact ofC_enc enc0I _ (u1, u2, u3)
theorem e : atomsL [] 0 (bodyOf Try.f85) = [(0, 0, .loop c0)] := by kernel_rfl
theorem acc (t : Vec (Vec ByteArray) × Int) (x : Int) (h : F t.1 t.2 = some x) : ACc Try.prog 85 (encA t) [] true [] fun rv obs => (rv, obs) = encR x := by
  refine fun_okc (L := (L V0)) (jn := []) (cmds := []) (ks := []) (hin := []) (fn := Try.f85) (body := (bodyOf Try.f85)) Gok hm Try.func85 (by kernel_rfl) (by kernel_rfl) (by rw [e]; exact Lor.ok_cons ok0 (Lor.ok_nil _ _)) ?_ h
  refine (main laws_heldStringS.Q V0 _ t.1 t.2).trans ?_
  rw [V0_enc]
  refine congrArg (fun K => B (F0 fuelN) t.1 t.2 K) ?_
  funext x1
  exact ofC_enc encRI some (x1)
theorem ac0 (t : Vec (Vec ByteArray) × Int) (x : Int) (h : F t.1 t.2 = some x) : AC Try.prog 85 (encA t) [] true [] fun rv obs => (rv, obs) = encR x := ACc.ac (body := bodyOf Try.f85) Try.func85 (by kernel_rfl) (by kernel_rfl) (acc t x h)
theorem ac (args : List AV) (x : Int) (h : Q args = some x) : AC Try.prog 85 args [] false [] fun rv obs => (rv, obs) = encR x := by
  obtain ⟨t, rfl, h2⟩ := ofC_some h
  refine (ac0 t x h2).flat fun rv obs e => ?_
  obtain rfl : rv = (encR x).1 := congrArg Prod.fst e
  obtain rfl : obs = (encR x).2 := congrArg Prod.snd e
  refine ⟨by simp [encR, AV.Flat, K.Flat, C.Flat], ?_⟩
  simp [encR]
end laws_heldStringSS
/-! loop.example/g00073/laws.heldIdentS -/
namespace laws_heldIdentS
noncomputable def B0 {ρ : Type} (v1 : Vec (Int × Int)) (v2 : Int) (v3 : Int) (W : (Vec (Int × Int)) → Int → Int → Option ρ) (K0 : Int → Option ρ) (Kr : Int → Option ρ) : Option ρ :=
  sel (decide (v3 < (v1.n : Int))) (chk (decide (0 ≤ v3 ∧ v3 < (v1.n : Int))) (sel ((!decide ((v1.g v3.toNat).1 = v2))) (Kr (-1 : Int)) (chk (decide (0 ≤ v3 ∧ v3 < (v1.n : Int))) (sel ((!decide ((v1.g v3.toNat).2 = (wr (v2 + (1 : Int)))))) (Kr (-1 : Int)) (W v1 (wr ((wr (v2 + (1 : Int))) + (1 : Int))) (wr (v3 + (1 : Int)))))))) (K0 v2)
noncomputable def F0 {ρ : Type} : Nat → (Vec (Int × Int)) → Int → Int → (Int → Option ρ) → (Int → Option ρ) → Option ρ
  | 0, _, _, _, _, _ => none
  | k + 1, v1, v2, v3, K0, Kr => B0 v1 v2 v3 (fun v1' v2' v3' => F0 k v1' v2' v3' K0 Kr) K0 Kr
noncomputable def B {ρ : Type} (L0 : (Vec (Int × Int)) → Int → Int → (Int → Option ρ) → (Int → Option ρ) → Option ρ) (a1 : Vec (Int × Int)) (a2 : Int) (K : Int → Option ρ) : Option ρ :=
  L0 a1 a2 (0 : Int) (fun e01 => K e01) (fun x01 => K x01)
noncomputable def F (a1 : Vec (Int × Int)) (a2 : Int) : Option Int := B (F0 fuelN) a1 a2 (fun x1 => some (x1))
def encA (t : (Vec (Int × Int)) × Int) : List AV := [vl t.1, vi t.2]
def encR (x : Int) : AV × List Ob := (vi x, [])
theorem encAI : ∀ a b, encA a = encA b → a = b := by
  intro a b h
  obtain ⟨a0, a1⟩ := a
  obtain ⟨b0, b1⟩ := b
  simp [encA, encRw_iff] at h
  simp_all
theorem encRI : ∀ a b, encR a = encR b → a = b := by
  intro a b h
  simp [encR, encRw_iff] at h
  simp_all
noncomputable def Q (args : List AV) : Option Int := ofC encA (fun t => F t.1 t.2) args
theorem wrap : (fun (y1 : Vec (Int × Int)) (y2 : Int) => Q [vl y1, vi y2]) = F := by
  funext y1 y2
  exact ofC_enc encAI _ (y1, y2)
noncomputable def G : Orc := ⟨fun f => 9, fun ρ f args K => Option.none, noE, false⟩
noncomputable def L (W0 : (ρ : Type) → List AV → List Ob → (Int → Option ρ) → (Int → Option ρ) → Option ρ) : Lor := fun ρ j st K => sel (Nat.beq j 0) (cutO Try.prog 31 [0, 1, 5] 0 [] [] st fun avs obs => W0 ρ avs obs (fun z1 => K (.exit 0) (mkS 31 [1] [vi z1] [] [])) (fun z1 => K .ret (mkS 31 [4] [vi z1] [] []))) (Option.none)
noncomputable def c0 : Code := loopC (atomN [] 0 (bodyOf Try.f123) 0)
def ct0 : Cut := ⟨[0, 1, 5], []⟩
def lv0 : Exit → Cut
  | .exit 0 => ⟨[1], []⟩
  | .ret => ⟨[4], []⟩
  | _ => ⟨[], []⟩
theorem step0 (W0) {ρ : Type} (K : Exit → St → Option ρ) (W : List AV → List Ob → Option ρ) (v1 v2 v3) : exC Try.prog (G) (L W0) [] 1 c0 (mkS 31 [0, 1, 5] [vl v1, vi v2, vi v3] [] []) (bodyK Try.prog 31 0 [] ct0 W lv0 K) =
    B0 v1 v2 v3 (fun u1 u2 u3 => W [vl u1, vi u2, vi u3] []) (fun z1 => K (.exit 0) (mkS 31 [1] [vi z1] [] [])) (fun z1 => K .ret (mkS 31 [4] [vi z1] [] [])) := by kernel_rfl
def enc0 (t : (Vec (Int × Int)) × Int × Int) : List AV × List Ob := ([vl t.1, vi t.2.1, vi t.2.2], [])
theorem enc0I : ∀ a b, enc0 a = enc0 b → a = b := by
  intro a b h
  obtain ⟨a0, a1, a2⟩ := a
  obtain ⟨b0, b1, b2⟩ := b
  simp [enc0, encRw_iff] at h
  simp_all
noncomputable def V0 : (ρ : Type) → List AV → List Ob → (Int → Option ρ) → (Int → Option ρ) → Option ρ := fun ρ avs obs k0 kr => ofC enc0 (fun t => F0 fuelN t.1 t.2.1 t.2.2 k0 kr) (avs, obs)
theorem V0_enc (ρ : Type) : (fun w1 w2 w3 k0 kr => V0 ρ [vl w1, vi w2, vi w3] [] k0 kr) = F0 fuelN := by
  funext w1 w2 w3 k0 kr
  exact ofC_enc enc0I _ (w1, w2, w3)
theorem main (W0) {ρ : Type} (K : AV → List Ob → Option ρ) (a1 a2) : exC Try.prog (G) (L W0) [] 0 (bodyOf Try.f123) (entry 31 [vl a1, vi a2] [] []) (finO Try.prog Try.f123.results.toList 0 [] [] K) =
    B (fun w1 w2 w3 k0 kr => W0 ρ [vl w1, vi w2, vi w3] [] k0 kr) a1 a2 (fun x1 => K (vi x1) []) := by kernel_rfl
theorem Gok : (G).ok Try.prog := ⟨(fun ρ f args K r h => (by cases h)),
  (fun ρ f args K => rfl),
  (fun ρ f st caps args dst K r h => (by cases h))⟩
theorem hm : Try.prog.follows .mixedOrders = true := by kernel_rfl
theorem e0 : atomsL [] 1 c0 = [] := by kernel_rfl
theorem ok0 (ρ : Type) (st : St) (K : Exit → St → Option ρ) (r : ρ) (h : (L V0) ρ 0 st K = some r) : AW Try.prog (.loop c0) st fun e st' => K e st' = some r := by
  refine loop_ok (ct := ct0) (lv := lv0) (n := 31) (m := 0) (ks := []) (j := 0) (jn := []) (L := (L V0)) Gok hm (by rw [e0]; exact Lor.ok_nil _ _) enc0I (fun k t => F0 k t.1 t.2.1 t.2.2 (fun z1 => K (.exit 0) (mkS 31 [1] [vi z1] [] [])) (fun z1 => K .ret (mkS 31 [4] [vi z1] [] []))) (fun t => rfl) (fun k t => ?_) (fun _ => fuelN) h
  refine (step0 V0 K _ t.1 t.2.1 t.2.2).trans ?_
  refine congrArg (fun W => B0 t.1 t.2.1 t.2.2 W (fun z1 => K (.exit 0) (mkS 31 [1] [vi z1] [] [])) (fun z1 => K .ret (mkS 31 [4] [vi z1] [] []))) ?_
  funext u1 u2 u3
  exact ofC_enc enc0I _ (u1, u2, u3)
theorem e : atomsL [] 0 (bodyOf Try.f123) = [(0, 0, .loop c0)] := by kernel_rfl
theorem acc (t : (Vec (Int × Int)) × Int) (x : Int) (h : F t.1 t.2 = some x) : ACc Try.prog 123 (encA t) [] true [] fun rv obs => (rv, obs) = encR x := by
  refine fun_okc (L := (L V0)) (jn := []) (cmds := []) (ks := []) (hin := []) (fn := Try.f123) (body := (bodyOf Try.f123)) Gok hm Try.func123 (by kernel_rfl) (by kernel_rfl) (by rw [e]; exact Lor.ok_cons ok0 (Lor.ok_nil _ _)) ?_ h
  refine (main V0 _ t.1 t.2).trans ?_
  rw [V0_enc]
  refine congrArg (fun K => B (F0 fuelN) t.1 t.2 K) ?_
  funext x1
  exact ofC_enc encRI some (x1)
theorem ac0 (t : (Vec (Int × Int)) × Int) (x : Int) (h : F t.1 t.2 = some x) : AC Try.prog 123 (encA t) [] true [] fun rv obs => (rv, obs) = encR x := ACc.ac (body := bodyOf Try.f123) Try.func123 (by kernel_rfl) (by kernel_rfl) (acc t x h)
theorem ac (args : List AV) (x : Int) (h : Q args = some x) : AC Try.prog 123 args [] false [] fun rv obs => (rv, obs) = encR x := by
  obtain ⟨t, rfl, h2⟩ := ofC_some h
  refine (ac0 t x h2).flat fun rv obs e => ?_
  obtain rfl : rv = (encR x).1 := congrArg Prod.fst e
  obtain rfl : obs = (encR x).2 := congrArg Prod.snd e
  refine ⟨by simp [encR, AV.Flat, K.Flat, C.Flat], ?_⟩
  simp [encR]
end laws_heldIdentS
/-! loop.example/g00073/laws.heldIdentSS -/
namespace laws_heldIdentSS
noncomputable def B0 {ρ : Type} (C0 : (Vec (Int × Int)) → Int → Option Int) (v1 : Vec (Vec (Int × Int))) (v2 : Int) (v3 : Int) (W : (Vec (Vec (Int × Int))) → Int → Int → Option ρ) (K0 : Int → Option ρ) (Kr : Int → Option ρ) : Option ρ :=
  sel (decide (v3 < (v1.n : Int))) (chk (decide (0 ≤ v3 ∧ v3 < (v1.n : Int))) ((C0 (v1.g v3.toNat) v2).bind fun r1 => sel (decide (r1 < (0 : Int))) (Kr (-1 : Int)) (W v1 r1 (wr (v3 + (1 : Int)))))) (K0 v2)
noncomputable def F0 {ρ : Type} : Nat → (Vec (Vec (Int × Int))) → Int → Int → (Int → Option ρ) → (Int → Option ρ) → Option ρ
  | 0, _, _, _, _, _ => none
  | k + 1, v1, v2, v3, K0, Kr => B0 laws_heldIdentS.F v1 v2 v3 (fun v1' v2' v3' => F0 k v1' v2' v3' K0 Kr) K0 Kr
noncomputable def B {ρ : Type} (L0 : (Vec (Vec (Int × Int))) → Int → Int → (Int → Option ρ) → (Int → Option ρ) → Option ρ) (a1 : Vec (Vec (Int × Int))) (a2 : Int) (K : Int → Option ρ) : Option ρ :=
  L0 a1 a2 (0 : Int) (fun e01 => K e01) (fun x01 => K x01)
noncomputable def F (a1 : Vec (Vec (Int × Int))) (a2 : Int) : Option Int := B (F0 fuelN) a1 a2 (fun x1 => some (x1))
def encA (t : (Vec (Vec (Int × Int))) × Int) : List AV := [vl t.1, vi t.2]
def encR (x : Int) : AV × List Ob := (vi x, [])
theorem encAI : ∀ a b, encA a = encA b → a = b := by
  intro a b h
  obtain ⟨a0, a1⟩ := a
  obtain ⟨b0, b1⟩ := b
  simp [encA, encRw_iff] at h
  simp_all
theorem encRI : ∀ a b, encR a = encR b → a = b := by
  intro a b h
  simp [encR, encRw_iff] at h
  simp_all
noncomputable def Q (args : List AV) : Option Int := ofC encA (fun t => F t.1 t.2) args
theorem wrap : (fun (y1 : Vec (Vec (Int × Int))) (y2 : Int) => Q [vl y1, vi y2]) = F := by
  funext y1 y2
  exact ofC_enc encAI _ (y1, y2)
noncomputable def G (Q0 : List AV → Option Int) : Orc := ⟨fun f => sel (Nat.beq f 123) 0 (9), fun ρ f args K => sel (Nat.beq f 123) (qEntry laws_heldIdentS.encR Q0 args K) (Option.none), noE, false⟩
noncomputable def L (W0 : (ρ : Type) → List AV → List Ob → (Int → Option ρ) → (Int → Option ρ) → Option ρ) : Lor := fun ρ j st K => sel (Nat.beq j 0) (cutO Try.prog 21 [0, 1, 5] 0 [] [] st fun avs obs => W0 ρ avs obs (fun z1 => K (.exit 0) (mkS 21 [1] [vi z1] [] [])) (fun z1 => K .ret (mkS 21 [4] [vi z1] [] []))) (Option.none)
noncomputable def c0 : Code := loopC (atomN [] 0 (bodyOf Try.f86) 0)
def ct0 : Cut := ⟨[0, 1, 5], []⟩
def lv0 : Exit → Cut
  | .exit 0 => ⟨[1], []⟩
  | .ret => ⟨[4], []⟩
  | _ => ⟨[], []⟩
theorem step0 (Q0) (W0) {ρ : Type} (K : Exit → St → Option ρ) (W : List AV → List Ob → Option ρ) (v1 v2 v3) : exC Try.prog (G Q0) (L W0) [] 1 c0 (mkS 21 [0, 1, 5] [vl v1, vi v2, vi v3] [] []) (bodyK Try.prog 21 0 [] ct0 W lv0 K) =
    B0 (fun y1 y2 => Q0 [vl y1, vi y2]) v1 v2 v3 (fun u1 u2 u3 => W [vl u1, vi u2, vi u3] []) (fun z1 => K (.exit 0) (mkS 21 [1] [vi z1] [] [])) (fun z1 => K .ret (mkS 21 [4] [vi z1] [] [])) := by kernel_rfl
def enc0 (t : (Vec (Vec (Int × Int))) × Int × Int) : List AV × List Ob := ([vl t.1, vi t.2.1, vi t.2.2], [])
theorem enc0I : ∀ a b, enc0 a = enc0 b → a = b := by
  intro a b h
  obtain ⟨a0, a1, a2⟩ := a
  obtain ⟨b0, b1, b2⟩ := b
  simp [enc0, encRw_iff] at h
  simp_all
noncomputable def V0 : (ρ : Type) → List AV → List Ob → (Int → Option ρ) → (Int → Option ρ) → Option ρ := fun ρ avs obs k0 kr => ofC enc0 (fun t => F0 fuelN t.1 t.2.1 t.2.2 k0 kr) (avs, obs)
theorem V0_enc (ρ : Type) : (fun w1 w2 w3 k0 kr => V0 ρ [vl w1, vi w2, vi w3] [] k0 kr) = F0 fuelN := by
  funext w1 w2 w3 k0 kr
  exact ofC_enc enc0I _ (w1, w2, w3)
theorem main (Q0) (W0) {ρ : Type} (K : AV → List Ob → Option ρ) (a1 a2) : exC Try.prog (G Q0) (L W0) [] 0 (bodyOf Try.f86) (entry 21 [vl a1, vi a2] [] []) (finO Try.prog Try.f86.results.toList 0 [] [] K) =
    B (fun w1 w2 w3 k0 kr => W0 ρ [vl w1, vi w2, vi w3] [] k0 kr) a1 a2 (fun x1 => K (vi x1) []) := by kernel_rfl
theorem Gok : (G laws_heldIdentS.Q).ok Try.prog := ⟨(by
    intro ρ f args K r h
    rcases sel_cases h with ⟨hb, h⟩ | ⟨-, h⟩
    · obtain rfl := beq_nat hb
      exact qEntry_ok laws_heldIdentS.ac h
    cases h),
  (by
    intro ρ f args K
    simp only [G]
    cases Nat.beq f 123 with
    | true => exact qEntry_nat args K
    | false =>
    simp only [sel]
    rfl),
  (fun ρ f st caps args dst K r h => (by cases h))⟩
theorem hm : Try.prog.follows .mixedOrders = true := by kernel_rfl
theorem e0 : atomsL [] 1 c0 = [] := by kernel_rfl
theorem ok0 (ρ : Type) (st : St) (K : Exit → St → Option ρ) (r : ρ) (h : (L V0) ρ 0 st K = some r) : AW Try.prog (.loop c0) st fun e st' => K e st' = some r := by
  refine loop_ok (ct := ct0) (lv := lv0) (n := 21) (m := 0) (ks := []) (j := 0) (jn := []) (L := (L V0)) Gok hm (by rw [e0]; exact Lor.ok_nil _ _) enc0I (fun k t => F0 k t.1 t.2.1 t.2.2 (fun z1 => K (.exit 0) (mkS 21 [1] [vi z1] [] [])) (fun z1 => K .ret (mkS 21 [4] [vi z1] [] []))) (fun t => rfl) (fun k t => ?_) (fun _ => fuelN) h
  refine (step0 laws_heldIdentS.Q V0 K _ t.1 t.2.1 t.2.2).trans ?_
  rw [laws_heldIdentS.wrap]
  refine congrArg (fun W => B0 laws_heldIdentS.F t.1 t.2.1 t.2.2 W (fun z1 => K (.exit 0) (mkS 21 [1] [vi z1] [] [])) (fun z1 => K .ret (mkS 21 [4] [vi z1] [] []))) ?_
  funext u1 u2 u3
  exact ofC_enc enc0I _ (u1, u2, u3)
theorem e : atomsL [] 0 (bodyOf Try.f86) = [(0, 0, .loop c0)] := by kernel_rfl
theorem acc (t : (Vec (Vec (Int × Int))) × Int) (x : Int) (h : F t.1 t.2 = some x) : ACc Try.prog 86 (encA t) [] true [] fun rv obs => (rv, obs) = encR x := by
  refine fun_okc (L := (L V0)) (jn := []) (cmds := []) (ks := []) (hin := []) (fn := Try.f86) (body := (bodyOf Try.f86)) Gok hm Try.func86 (by kernel_rfl) (by kernel_rfl) (by rw [e]; exact Lor.ok_cons ok0 (Lor.ok_nil _ _)) ?_ h
  refine (main laws_heldIdentS.Q V0 _ t.1 t.2).trans ?_
  rw [V0_enc]
  refine congrArg (fun K => B (F0 fuelN) t.1 t.2 K) ?_
  funext x1
  exact ofC_enc encRI some (x1)
theorem ac0 (t : (Vec (Vec (Int × Int))) × Int) (x : Int) (h : F t.1 t.2 = some x) : AC Try.prog 86 (encA t) [] true [] fun rv obs => (rv, obs) = encR x := ACc.ac (body := bodyOf Try.f86) Try.func86 (by kernel_rfl) (by kernel_rfl) (acc t x h)
theorem ac (args : List AV) (x : Int) (h : Q args = some x) : AC Try.prog 86 args [] false [] fun rv obs => (rv, obs) = encR x := by
  obtain ⟨t, rfl, h2⟩ := ofC_some h
  refine (ac0 t x h2).flat fun rv obs e => ?_
  obtain rfl : rv = (encR x).1 := congrArg Prod.fst e
  obtain rfl : obs = (encR x).2 := congrArg Prod.snd e
  refine ⟨by simp [encR, AV.Flat, K.Flat, C.Flat], ?_⟩
  simp [encR]
end laws_heldIdentSS
/-! loop.example/g00073/laws.heldPlain -/
namespace laws_heldPlain
noncomputable def B {ρ : Type} (C0 : (Vec (Vec Int)) → Int → Option Int) (C1 : (Vec (Vec ByteArray)) → Int → Option Int) (C2 : (Vec (Vec (Int × Int))) → Int → Option Int) (a1 : Vec (Vec Int)) (a2 : Vec (Vec ByteArray)) (a3 : Vec (Vec (Int × Int))) (a4 : Int) (K : Int → Option ρ) : Option ρ :=
  (C0 a1 a4).bind fun r1 => sel (decide (r1 < (0 : Int))) (K (-1 : Int)) ((C1 a2 r1).bind fun r2 => sel (decide (r2 < (0 : Int))) (K (-1 : Int)) ((C2 a3 r2).bind fun r3 => sel (decide (r3 < (0 : Int))) (K (-1 : Int)) (K r3)))
noncomputable def F (a1 : Vec (Vec Int)) (a2 : Vec (Vec ByteArray)) (a3 : Vec (Vec (Int × Int))) (a4 : Int) : Option Int := B laws_heldIntSS.F laws_heldStringSS.F laws_heldIdentSS.F a1 a2 a3 a4 (fun x1 => some (x1))
def encA (t : Vec (Vec Int) × Vec (Vec ByteArray) × (Vec (Vec (Int × Int))) × Int) : List AV := [.a [cl t.1, cl t.2.1, cl t.2.2.1], vi t.2.2.2]
def encR (x : Int) : AV × List Ob := (vi x, [])
theorem encAI : ∀ a b, encA a = encA b → a = b := by
  intro a b h
  obtain ⟨a0, a1, a2, a3⟩ := a
  obtain ⟨b0, b1, b2, b3⟩ := b
  simp [encA, encRw_iff] at h
  simp_all
theorem encRI : ∀ a b, encR a = encR b → a = b := by
  intro a b h
  simp [encR, encRw_iff] at h
  simp_all
noncomputable def Q (args : List AV) : Option Int := ofC encA (fun t => F t.1 t.2.1 t.2.2.1 t.2.2.2) args
theorem wrap : (fun (y1 : Vec (Vec Int)) (y2 : Vec (Vec ByteArray)) (y3 : Vec (Vec (Int × Int))) (y4 : Int) => Q [.a [cl y1, cl y2, cl y3], vi y4]) = F := by
  funext y1 y2 y3 y4
  exact ofC_enc encAI _ (y1, y2, y3, y4)
noncomputable def G (Q0 : List AV → Option Int) (Q1 : List AV → Option Int) (Q2 : List AV → Option Int) : Orc := ⟨fun f => sel (Nat.beq f 84) 0 (sel (Nat.beq f 85) 0 (sel (Nat.beq f 86) 0 (9))), fun ρ f args K => sel (Nat.beq f 84) (qEntry laws_heldIntSS.encR Q0 args K) (sel (Nat.beq f 85) (qEntry laws_heldStringSS.encR Q1 args K) (sel (Nat.beq f 86) (qEntry laws_heldIdentSS.encR Q2 args K) (Option.none))), noE, false⟩
noncomputable def L : Lor := fun ρ j st K => Option.none
theorem main (Q0 Q1 Q2) {ρ : Type} (K : AV → List Ob → Option ρ) (a1 a2 a3 a4) : exC Try.prog (G Q0 Q1 Q2) (L) [] 0 (bodyOf Try.f41) (entry 24 [.a [cl a1, cl a2, cl a3], vi a4] [] []) (finO Try.prog Try.f41.results.toList 0 [] [] K) =
    B (fun y1 y2 => Q0 [vl y1, vi y2]) (fun y1 y2 => Q1 [vl y1, vi y2]) (fun y1 y2 => Q2 [vl y1, vi y2]) a1 a2 a3 a4 (fun x1 => K (vi x1) []) := by kernel_rfl
theorem Gok : (G laws_heldIntSS.Q laws_heldStringSS.Q laws_heldIdentSS.Q).ok Try.prog := ⟨(by
    intro ρ f args K r h
    rcases sel_cases h with ⟨hb, h⟩ | ⟨-, h⟩
    · obtain rfl := beq_nat hb
      exact qEntry_ok laws_heldIntSS.ac h
    rcases sel_cases h with ⟨hb, h⟩ | ⟨-, h⟩
    · obtain rfl := beq_nat hb
      exact qEntry_ok laws_heldStringSS.ac h
    rcases sel_cases h with ⟨hb, h⟩ | ⟨-, h⟩
    · obtain rfl := beq_nat hb
      exact qEntry_ok laws_heldIdentSS.ac h
    cases h),
  (by
    intro ρ f args K
    simp only [G]
    cases Nat.beq f 84 with
    | true => exact qEntry_nat args K
    | false =>
    simp only [sel]
    cases Nat.beq f 85 with
    | true => exact qEntry_nat args K
    | false =>
    simp only [sel]
    cases Nat.beq f 86 with
    | true => exact qEntry_nat args K
    | false =>
    simp only [sel]
    rfl),
  (fun ρ f st caps args dst K r h => (by cases h))⟩
theorem hm : Try.prog.follows .mixedOrders = true := by kernel_rfl
theorem e : atomsL [] 0 (bodyOf Try.f41) = [] := by kernel_rfl
theorem acc (t : Vec (Vec Int) × Vec (Vec ByteArray) × (Vec (Vec (Int × Int))) × Int) (x : Int) (h : F t.1 t.2.1 t.2.2.1 t.2.2.2 = some x) : ACc Try.prog 41 (encA t) [] true [] fun rv obs => (rv, obs) = encR x := by
  refine fun_okc (L := (L)) (jn := []) (cmds := []) (ks := []) (hin := []) (fn := Try.f41) (body := (bodyOf Try.f41)) Gok hm Try.func41 (by kernel_rfl) (by kernel_rfl) (by rw [e]; exact Lor.ok_nil _ _) ?_ h
  refine (main laws_heldIntSS.Q laws_heldStringSS.Q laws_heldIdentSS.Q _ t.1 t.2.1 t.2.2.1 t.2.2.2).trans ?_
  rw [laws_heldIntSS.wrap, laws_heldStringSS.wrap, laws_heldIdentSS.wrap]
  refine congrArg (fun K => B laws_heldIntSS.F laws_heldStringSS.F laws_heldIdentSS.F t.1 t.2.1 t.2.2.1 t.2.2.2 K) ?_
  funext x1
  exact ofC_enc encRI some (x1)
theorem ac0 (t : Vec (Vec Int) × Vec (Vec ByteArray) × (Vec (Vec (Int × Int))) × Int) (x : Int) (h : F t.1 t.2.1 t.2.2.1 t.2.2.2 = some x) : AC Try.prog 41 (encA t) [] true [] fun rv obs => (rv, obs) = encR x := ACc.ac (body := bodyOf Try.f41) Try.func41 (by kernel_rfl) (by kernel_rfl) (acc t x h)
theorem ac (args : List AV) (x : Int) (h : Q args = some x) : AC Try.prog 41 args [] false [] fun rv obs => (rv, obs) = encR x := by
  obtain ⟨t, rfl, h2⟩ := ofC_some h
  refine (ac0 t x h2).flat fun rv obs e => ?_
  obtain rfl : rv = (encR x).1 := congrArg Prod.fst e
  obtain rfl : obs = (encR x).2 := congrArg Prod.snd e
  refine ⟨by simp [encR, AV.Flat, K.Flat, C.Flat], ?_⟩
  simp [encR]
end laws_heldPlain
/-! loop.example/g00073/laws.FnExactPlainOf -/
namespace laws_FnExactPlainOf
noncomputable def B {ρ : Type} (C0 : (Vec (Vec Int)) → (Vec (ByteArray × Int × Int × (Vec Int))) → Int → Option Int) (C1 : (Vec (Vec Int)) → (Vec (ByteArray × Int × Int × (Vec Int))) → Option (Vec (Vec Int) × (Vec (ByteArray × Int × Int × (Vec Int))))) (C2 : (Vec (Vec Int)) → (Vec (ByteArray × Int × Int × (Vec Int))) → Option (Bool × Vec (Vec Int) × Vec (Vec ByteArray) × (Vec (Vec (Int × Int))))) (C3 : (Vec (Vec Int)) → (Vec (ByteArray × Int × Int × (Vec Int))) → Option (Bool × Vec (Vec Int) × Vec (Vec ByteArray) × (Vec (Vec (Int × Int))))) (C4 : (Vec (Vec Int)) → (Vec (Vec ByteArray)) → (Vec (Vec (Int × Int))) → (Vec (Vec Int)) → (Vec (Vec ByteArray)) → (Vec (Vec (Int × Int))) → Option Bool) (C5 : (Vec (Vec Int)) → (Vec (ByteArray × Int × Int × (Vec Int))) → (Vec (Vec Int)) → (Vec (ByteArray × Int × Int × (Vec Int))) → Option Bool) (C6 : Int → (Vec (Vec Int)) → (Vec (ByteArray × Int × Int × (Vec Int))) → Option (Int × Vec (Vec Int) × (Vec (ByteArray × Int × Int × (Vec Int))))) (C7 : Int → (Vec (Vec Int)) → (Vec (Vec ByteArray)) → (Vec (Vec (Int × Int))) → Option (Int × Vec (Vec Int) × Vec (Vec ByteArray) × (Vec (Vec (Int × Int))))) (C8 : (Vec (Vec Int)) → (Vec (Vec ByteArray)) → (Vec (Vec (Int × Int))) → Int → Option Int) (a1 : Vec (Vec Int)) (a2 : Vec (ByteArray × Int × Int × (Vec Int))) (K : Bool → Option ρ) : Option ρ :=
  (C0 a1 a2 (1048576 : Int)).bind fun r1 => sel (decide (r1 < (0 : Int))) (K true) ((C1 a1 a2).bind fun r2 => (C2 r2.1 r2.2).bind fun r3 => (C1 a1 a2).bind fun r4 => (C3 r4.1 r4.2).bind fun r5 => (C4 r5.2.1 r5.2.2.1 r5.2.2.2 r3.2.1 r3.2.2.1 r3.2.2.2).bind fun r6 => sel ((!r6)) (K false) (sel ((!(r5.1 == r3.1))) (K false) ((C1 a1 a2).bind fun r7 => (C5 r4.1 r4.2 r7.1 r7.2).bind fun r8 => sel ((!r8)) (K false) ((C6 (1 : Int) r4.1 r4.2).bind fun r9 => sel (decide (r9.1 < (0 : Int))) (K false) ((C4 r5.2.1 r5.2.2.1 r5.2.2.2 r3.2.1 r3.2.2.1 r3.2.2.2).bind fun r10 => sel ((!r10)) (K false) (sel ((!(r5.1 == r3.1))) (K false) ((C7 (1 : Int) r5.2.1 r5.2.2.1 r5.2.2.2).bind fun r11 => (C8 r11.2.1 r11.2.2.1 r11.2.2.2 (1 : Int)).bind fun r12 => sel (decide (r12 < (0 : Int))) (K false) (sel ((!decide (r12 = r11.1))) (K false) ((C1 a1 a2).bind fun r13 => (C3 r13.1 r13.2).bind fun r14 => (C4 r14.2.1 r14.2.2.1 r14.2.2.2 r3.2.1 r3.2.2.1 r3.2.2.2).bind fun r15 => sel ((!r15)) (K false) (sel ((!(r14.1 == r3.1))) (K false) ((C8 r11.2.1 r11.2.2.1 r11.2.2.2 (1 : Int)).bind fun r16 => sel (decide (r16 < (0 : Int))) (K false) (sel ((!decide (r16 = r11.1))) (K false) (K true)))))))))))))
noncomputable def F (a1 : Vec (Vec Int)) (a2 : Vec (ByteArray × Int × Int × (Vec Int))) : Option Bool := B laws_szWeave.F laws_toWeave.F spec_PlainOf.F impl_PlainOf.F laws_eqPlain.F laws_eqWeave.F laws_markWeave_saeda.F laws_markPlain_sa1d2.F laws_heldPlain.F a1 a2 (fun x1 => some (x1))
def encA (t : Vec (Vec Int) × (Vec (ByteArray × Int × Int × (Vec Int)))) : List AV := [.a [cl t.1, cl t.2]]
def encR (x : Bool) : AV × List Ob := (vb x, [])
theorem encAI : ∀ a b, encA a = encA b → a = b := by
  intro a b h
  obtain ⟨a0, a1⟩ := a
  obtain ⟨b0, b1⟩ := b
  simp [encA, encRw_iff] at h
  simp_all
theorem encRI : ∀ a b, encR a = encR b → a = b := by
  intro a b h
  simp [encR, encRw_iff] at h
  simp_all
noncomputable def Q (args : List AV) : Option Bool := ofC encA (fun t => F t.1 t.2) args
theorem wrap : (fun (y1 : Vec (Vec Int)) (y2 : Vec (ByteArray × Int × Int × (Vec Int))) => Q [.a [cl y1, cl y2]]) = F := by
  funext y1 y2
  exact ofC_enc encAI _ (y1, y2)
noncomputable def G (Q0 : List AV → Option Int) (Q1 : List AV → Option (Vec (Vec Int) × (Vec (ByteArray × Int × Int × (Vec Int))))) (Q2 : List AV → Option (Bool × Vec (Vec Int) × Vec (Vec ByteArray) × (Vec (Vec (Int × Int))))) (Q3 : List AV → Option (Bool × Vec (Vec Int) × Vec (Vec ByteArray) × (Vec (Vec (Int × Int))))) (Q4 : List AV → Option Bool) (Q5 : List AV → Option Bool) (Q6 : List AV → List Ob → Option (Int × Vec (Vec Int) × (Vec (ByteArray × Int × Int × (Vec Int))))) (Q7 : List AV → List Ob → Option (Int × Vec (Vec Int) × Vec (Vec ByteArray) × (Vec (Vec (Int × Int))))) (Q8 : List AV → Option Int) : Orc := ⟨fun f => sel (Nat.beq f 19) 0 (sel (Nat.beq f 21) 0 (sel (Nat.beq f 37) 0 (sel (Nat.beq f 38) 0 (sel (Nat.beq f 39) 0 (sel (Nat.beq f 24) 0 (sel (Nat.beq f 41) 0 (9))))))), fun ρ f args K => sel (Nat.beq f 19) (qEntry laws_szWeave.encR Q0 args K) (sel (Nat.beq f 21) (qEntry laws_toWeave.encR Q1 args K) (sel (Nat.beq f 37) (qEntry spec_PlainOf.encR Q2 args K) (sel (Nat.beq f 38) (qEntry impl_PlainOf.encR Q3 args K) (sel (Nat.beq f 39) (qEntry laws_eqPlain.encR Q4 args K) (sel (Nat.beq f 24) (qEntry laws_eqWeave.encR Q5 args K) (sel (Nat.beq f 41) (qEntry laws_heldPlain.encR Q8 args K) (Option.none))))))), fun ρ f st args dst K => sel (Nat.beq f 25) (callE Try.prog 25 [true, false] false [true, true] laws_markWeave_saeda.encR Q6 st args dst K) (sel (Nat.beq f 40) (callE Try.prog 40 [true, false] false [true, true, true] laws_markPlain_sa1d2.encR Q7 st args dst K) (Option.none)), false⟩
noncomputable def L : Lor := fun ρ j st K => Option.none
theorem main (Q0 Q1 Q2 Q3 Q4 Q5 Q6 Q7 Q8) {ρ : Type} (K : AV → List Ob → Option ρ) (a1 a2) : exC Try.prog (G Q0 Q1 Q2 Q3 Q4 Q5 Q6 Q7 Q8) (L) [] 0 (bodyOf Try.f8) (entry 96 [.a [cl a1, cl a2]] [] []) (finO Try.prog Try.f8.results.toList 0 [] [] K) =
    B (fun y1 y2 y3 => Q0 [.a [cl y1, cl y2], vi y3]) (fun y1 y2 => Q1 [.a [cl y1, cl y2]]) (fun y1 y2 => Q2 [.a [cl y1, cl y2]]) (fun y1 y2 => Q3 [.a [cl y1, cl y2]]) (fun y1 y2 y3 y4 y5 y6 => Q4 [.a [cl y1, cl y2, cl y3], .a [cl y4, cl y5, cl y6]]) (fun y1 y2 y3 y4 => Q5 [.a [cl y1, cl y2], .a [cl y3, cl y4]]) (fun y1 y2 y3 => Q6 [.a [.h 0, .h 1], vi y1] [ro y2, ro y3]) (fun y1 y2 y3 y4 => Q7 [.a [.h 0, .h 1, .h 2], vi y1] [ro y2, ro y3, ro y4]) (fun y1 y2 y3 y4 => Q8 [.a [cl y1, cl y2, cl y3], vi y4]) a1 a2 (fun x1 => K (vb x1) []) := by kernel_rfl
theorem Gok : (G laws_szWeave.Q laws_toWeave.Q spec_PlainOf.Q impl_PlainOf.Q laws_eqPlain.Q laws_eqWeave.Q laws_markWeave_saeda.Q laws_markPlain_sa1d2.Q laws_heldPlain.Q).ok Try.prog := ⟨(by
    intro ρ f args K r h
    rcases sel_cases h with ⟨hb, h⟩ | ⟨-, h⟩
    · obtain rfl := beq_nat hb
      exact qEntry_ok laws_szWeave.ac h
    rcases sel_cases h with ⟨hb, h⟩ | ⟨-, h⟩
    · obtain rfl := beq_nat hb
      exact qEntry_ok laws_toWeave.ac h
    rcases sel_cases h with ⟨hb, h⟩ | ⟨-, h⟩
    · obtain rfl := beq_nat hb
      exact qEntry_ok spec_PlainOf.ac h
    rcases sel_cases h with ⟨hb, h⟩ | ⟨-, h⟩
    · obtain rfl := beq_nat hb
      exact qEntry_ok impl_PlainOf.ac h
    rcases sel_cases h with ⟨hb, h⟩ | ⟨-, h⟩
    · obtain rfl := beq_nat hb
      exact qEntry_ok laws_eqPlain.ac h
    rcases sel_cases h with ⟨hb, h⟩ | ⟨-, h⟩
    · obtain rfl := beq_nat hb
      exact qEntry_ok laws_eqWeave.ac h
    rcases sel_cases h with ⟨hb, h⟩ | ⟨-, h⟩
    · obtain rfl := beq_nat hb
      exact qEntry_ok laws_heldPlain.ac h
    cases h),
  (by
    intro ρ f args K
    simp only [G]
    cases Nat.beq f 19 with
    | true => exact qEntry_nat args K
    | false =>
    simp only [sel]
    cases Nat.beq f 21 with
    | true => exact qEntry_nat args K
    | false =>
    simp only [sel]
    cases Nat.beq f 37 with
    | true => exact qEntry_nat args K
    | false =>
    simp only [sel]
    cases Nat.beq f 38 with
    | true => exact qEntry_nat args K
    | false =>
    simp only [sel]
    cases Nat.beq f 39 with
    | true => exact qEntry_nat args K
    | false =>
    simp only [sel]
    cases Nat.beq f 24 with
    | true => exact qEntry_nat args K
    | false =>
    simp only [sel]
    cases Nat.beq f 41 with
    | true => exact qEntry_nat args K
    | false =>
    simp only [sel]
    rfl),
  (by
    intro ρ f st caps args dst K r h
    rcases sel_cases h with ⟨hb, h⟩ | ⟨-, h⟩
    · obtain rfl := beq_nat hb
      exact callE_ok (fun h => by cases h) laws_markWeave_saeda.ac h
    rcases sel_cases h with ⟨hb, h⟩ | ⟨-, h⟩
    · obtain rfl := beq_nat hb
      exact callE_ok (fun h => by cases h) laws_markPlain_sa1d2.ac h
    cases h)⟩
theorem hm : Try.prog.follows .mixedOrders = true := by kernel_rfl
theorem e : atomsL [] 0 (bodyOf Try.f8) = [] := by kernel_rfl
theorem acc (t : Vec (Vec Int) × (Vec (ByteArray × Int × Int × (Vec Int)))) (x : Bool) (h : F t.1 t.2 = some x) : ACc Try.prog 8 (encA t) [] true [] fun rv obs => (rv, obs) = encR x := by
  refine fun_okc (L := (L)) (jn := []) (cmds := []) (ks := []) (hin := []) (fn := Try.f8) (body := (bodyOf Try.f8)) Gok hm Try.func8 (by kernel_rfl) (by kernel_rfl) (by rw [e]; exact Lor.ok_nil _ _) ?_ h
  refine (main laws_szWeave.Q laws_toWeave.Q spec_PlainOf.Q impl_PlainOf.Q laws_eqPlain.Q laws_eqWeave.Q laws_markWeave_saeda.Q laws_markPlain_sa1d2.Q laws_heldPlain.Q _ t.1 t.2).trans ?_
  rw [laws_szWeave.wrap, laws_toWeave.wrap, spec_PlainOf.wrap, impl_PlainOf.wrap, laws_eqPlain.wrap, laws_eqWeave.wrap, laws_markWeave_saeda.wrap, laws_markPlain_sa1d2.wrap, laws_heldPlain.wrap]
  refine congrArg (fun K => B laws_szWeave.F laws_toWeave.F spec_PlainOf.F impl_PlainOf.F laws_eqPlain.F laws_eqWeave.F laws_markWeave_saeda.F laws_markPlain_sa1d2.F laws_heldPlain.F t.1 t.2 K) ?_
  funext x1
  exact ofC_enc encRI some (x1)
theorem ac0 (t : Vec (Vec Int) × (Vec (ByteArray × Int × Int × (Vec Int)))) (x : Bool) (h : F t.1 t.2 = some x) : AC Try.prog 8 (encA t) [] true [] fun rv obs => (rv, obs) = encR x := ACc.ac (body := bodyOf Try.f8) Try.func8 (by kernel_rfl) (by kernel_rfl) (acc t x h)
theorem ac (args : List AV) (x : Bool) (h : Q args = some x) : AC Try.prog 8 args [] false [] fun rv obs => (rv, obs) = encR x := by
  obtain ⟨t, rfl, h2⟩ := ofC_some h
  refine (ac0 t x h2).flat fun rv obs e => ?_
  obtain rfl : rv = (encR x).1 := congrArg Prod.fst e
  obtain rfl : obs = (encR x).2 := congrArg Prod.snd e
  refine ⟨by simp [encR, AV.Flat, K.Flat, C.Flat], ?_⟩
  simp [encR]
end laws_FnExactPlainOf
end Go.Al
