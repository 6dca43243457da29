import Derived.Test.YtdiclekkkaaahaaAlE
import Derived.Test.YtdiclekkkaaahaaSC
import Derived.Test.YtdiclekkkaaahaaGCom
set_option linter.unusedVariables false
set_option linter.unusedSimpArgs false
set_option linter.constructorNameAsVariable false
set_option linter.unusedSectionVars false
set_option maxRecDepth 100000
namespace Go.Al
open Go.Proofs

/-! loop.example/g00073/laws.szIntS -/
namespace laws_szIntS
noncomputable def B {ρ : Type} (a1 : Vec Int) (a2 : Int) (K : Int → Option ρ) : Option ρ :=
  sel (decide ((wr (a2 - (a1.n : Int))) < (0 : Int))) (K (-1 : Int)) (K (wr (a2 - (a1.n : Int))))
noncomputable def F (a1 : Vec Int) (a2 : Int) : Option Int := B a1 a2 (fun x1 => some (x1))
def encA (t : Vec Int × Int) : List AV := [vl t.1, vi t.2]
def encR (x : Int) : AV × List Ob := (vi x, [])
theorem encAI : ∀ a b, encA a = encA b → a = b := by
  intro a b h
  obtain ⟨a0, a1⟩ := a
  obtain ⟨b0, b1⟩ := b
  simp [encA, encRw_iff] at h
  simp_all
theorem encRI : ∀ a b, encR a = encR b → a = b := by
  intro a b h
  simp [encR, encRw_iff] at h
  simp_all
noncomputable def Q (args : List AV) : Option Int := ofC encA (fun t => F t.1 t.2) args
theorem wrap : (fun (y1 : Vec Int) (y2 : Int) => Q [vl y1, vi y2]) = F := by
  funext y1 y2
  exact ofC_enc encAI _ (y1, y2)
noncomputable def G : Orc := ⟨fun f => 9, fun ρ f args K => Option.none, noE, false⟩
noncomputable def L : Lor := fun ρ j st K => Option.none
theorem main {ρ : Type} (K : AV → List Ob → Option ρ) (a1 a2) : exC Try.prog (G) (L) [] 0 (bodyOf Try.f57) (entry 12 [vl a1, vi a2] [] []) (finO Try.prog Try.f57.results.toList 0 [] [] K) =
    B a1 a2 (fun x1 => K (vi x1) []) := by kernel_rfl
theorem Gok : (G).ok Try.prog := ⟨(fun ρ f args K r h => (by cases h)),
  (fun ρ f args K => rfl),
  (fun ρ f st caps args dst K r h => (by cases h))⟩
theorem hm : Try.prog.follows .mixedOrders = true := by kernel_rfl
theorem e : atomsL [] 0 (bodyOf Try.f57) = [] := by kernel_rfl
theorem acc (t : Vec Int × Int) (x : Int) (h : F t.1 t.2 = some x) : ACc Try.prog 57 (encA t) [] true [] fun rv obs => (rv, obs) = encR x := by
  refine fun_okc (L := (L)) (jn := []) (cmds := []) (ks := []) (hin := []) (fn := Try.f57) (body := (bodyOf Try.f57)) Gok hm Try.func57 (by kernel_rfl) (by kernel_rfl) (by rw [e]; exact Lor.ok_nil _ _) ?_ h
  refine (main _ t.1 t.2).trans ?_
  refine congrArg (fun K => B t.1 t.2 K) ?_
  funext x1
  exact ofC_enc encRI some (x1)
theorem ac0 (t : Vec Int × Int) (x : Int) (h : F t.1 t.2 = some x) : AC Try.prog 57 (encA t) [] true [] fun rv obs => (rv, obs) = encR x := ACc.ac (body := bodyOf Try.f57) Try.func57 (by kernel_rfl) (by kernel_rfl) (acc t x h)
theorem ac (args : List AV) (x : Int) (h : Q args = some x) : AC Try.prog 57 args [] false [] fun rv obs => (rv, obs) = encR x := by
  obtain ⟨t, rfl, h2⟩ := ofC_some h
  refine (ac0 t x h2).flat fun rv obs e => ?_
  obtain rfl : rv = (encR x).1 := congrArg Prod.fst e
  obtain rfl : obs = (encR x).2 := congrArg Prod.snd e
  refine ⟨by simp [encR, AV.Flat, K.Flat, C.Flat], ?_⟩
  simp [encR]
end laws_szIntS
/-! loop.example/g00073/laws.szName -/
namespace laws_szName
noncomputable def B {ρ : Type} (a1 : ByteArray) (a2 : Int) (a3 : Int) (a4 : Int) (K : Int → Option ρ) : Option ρ :=
  sel (decide ((wr (a4 - (a1.size : Int))) < (0 : Int))) (K (-1 : Int)) (K (wr (a4 - (a1.size : Int))))
noncomputable def F (a1 : ByteArray) (a2 : Int) (a3 : Int) (a4 : Int) : Option Int := B a1 a2 a3 a4 (fun x1 => some (x1))
def encA (t : ByteArray × Int × Int × Int) : List AV := [.a [cs t.1, ci t.2.1, ci t.2.2.1], vi t.2.2.2]
def encR (x : Int) : AV × List Ob := (vi x, [])
theorem encAI : ∀ a b, encA a = encA b → a = b := by
  intro a b h
  obtain ⟨a0, a1, a2, a3⟩ := a
  obtain ⟨b0, b1, b2, b3⟩ := b
  simp [encA, encRw_iff] at h
  simp_all
theorem encRI : ∀ a b, encR a = encR b → a = b := by
  intro a b h
  simp [encR, encRw_iff] at h
  simp_all
noncomputable def Q (args : List AV) : Option Int := ofC encA (fun t => F t.1 t.2.1 t.2.2.1 t.2.2.2) args
theorem wrap : (fun (y1 : ByteArray) (y2 : Int) (y3 : Int) (y4 : Int) => Q [.a [cs y1, ci y2, ci y3], vi y4]) = F := by
  funext y1 y2 y3 y4
  exact ofC_enc encAI _ (y1, y2, y3, y4)
noncomputable def G : Orc := ⟨fun f => 9, fun ρ f args K => Option.none, noE, false⟩
noncomputable def L : Lor := fun ρ j st K => Option.none
theorem main {ρ : Type} (K : AV → List Ob → Option ρ) (a1 a2 a3 a4) : exC Try.prog (G) (L) [] 0 (bodyOf Try.f95) (entry 13 [.a [cs a1, ci a2, ci a3], vi a4] [] []) (finO Try.prog Try.f95.results.toList 0 [] [] K) =
    B a1 a2 a3 a4 (fun x1 => K (vi x1) []) := by kernel_rfl
theorem Gok : (G).ok Try.prog := ⟨(fun ρ f args K r h => (by cases h)),
  (fun ρ f args K => rfl),
  (fun ρ f st caps args dst K r h => (by cases h))⟩
theorem hm : Try.prog.follows .mixedOrders = true := by kernel_rfl
theorem e : atomsL [] 0 (bodyOf Try.f95) = [] := by kernel_rfl
theorem acc (t : ByteArray × Int × Int × Int) (x : Int) (h : F t.1 t.2.1 t.2.2.1 t.2.2.2 = some x) : ACc Try.prog 95 (encA t) [] true [] fun rv obs => (rv, obs) = encR x := by
  refine fun_okc (L := (L)) (jn := []) (cmds := []) (ks := []) (hin := []) (fn := Try.f95) (body := (bodyOf Try.f95)) Gok hm Try.func95 (by kernel_rfl) (by kernel_rfl) (by rw [e]; exact Lor.ok_nil _ _) ?_ h
  refine (main _ t.1 t.2.1 t.2.2.1 t.2.2.2).trans ?_
  refine congrArg (fun K => B t.1 t.2.1 t.2.2.1 t.2.2.2 K) ?_
  funext x1
  exact ofC_enc encRI some (x1)
theorem ac0 (t : ByteArray × Int × Int × Int) (x : Int) (h : F t.1 t.2.1 t.2.2.1 t.2.2.2 = some x) : AC Try.prog 95 (encA t) [] true [] fun rv obs => (rv, obs) = encR x := ACc.ac (body := bodyOf Try.f95) Try.func95 (by kernel_rfl) (by kernel_rfl) (acc t x h)
theorem ac (args : List AV) (x : Int) (h : Q args = some x) : AC Try.prog 95 args [] false [] fun rv obs => (rv, obs) = encR x := by
  obtain ⟨t, rfl, h2⟩ := ofC_some h
  refine (ac0 t x h2).flat fun rv obs e => ?_
  obtain rfl : rv = (encR x).1 := congrArg Prod.fst e
  obtain rfl : obs = (encR x).2 := congrArg Prod.snd e
  refine ⟨by simp [encR, AV.Flat, K.Flat, C.Flat], ?_⟩
  simp [encR]
end laws_szName
/-! loop.example/g00073/laws.szNameS -/
namespace laws_szNameS
noncomputable def B0 {ρ : Type} (C0 : ByteArray → Int → Int → Int → Option Int) (v1 : Vec (ByteArray × Int × Int)) (v2 : Int) (v3 : Int) (W : (Vec (ByteArray × Int × Int)) → Int → Int → Option ρ) (K0 : Int → Option ρ) (Kr : Int → Option ρ) : Option ρ :=
  sel (decide (v3 < (v1.n : Int))) (chk (decide (0 ≤ v3 ∧ v3 < (v1.n : Int))) ((C0 ((v1.g v3.toNat).1) ((v1.g v3.toNat).2.1) ((v1.g v3.toNat).2.2) v2).bind fun r1 => sel (decide (r1 < (0 : Int))) (Kr (-1 : Int)) (W v1 r1 (wr (v3 + (1 : Int)))))) (K0 v2)
noncomputable def F0 {ρ : Type} : Nat → (Vec (ByteArray × Int × Int)) → Int → Int → (Int → Option ρ) → (Int → Option ρ) → Option ρ
  | 0, _, _, _, _, _ => none
  | k + 1, v1, v2, v3, K0, Kr => B0 laws_szName.F v1 v2 v3 (fun v1' v2' v3' => F0 k v1' v2' v3' K0 Kr) K0 Kr
noncomputable def B {ρ : Type} (L0 : (Vec (ByteArray × Int × Int)) → Int → Int → (Int → Option ρ) → (Int → Option ρ) → Option ρ) (a1 : Vec (ByteArray × Int × Int)) (a2 : Int) (K : Int → Option ρ) : Option ρ :=
  sel (decide ((wr (a2 - (a1.n : Int))) < (0 : Int))) (K (-1 : Int)) (L0 a1 (wr (a2 - (a1.n : Int))) (0 : Int) (fun e01 => K e01) (fun x01 => K x01))
noncomputable def F (a1 : Vec (ByteArray × Int × Int)) (a2 : Int) : Option Int := B (F0 fuelN) a1 a2 (fun x1 => some (x1))
def encA (t : (Vec (ByteArray × Int × Int)) × Int) : List AV := [vl t.1, vi t.2]
def encR (x : Int) : AV × List Ob := (vi x, [])
theorem encAI : ∀ a b, encA a = encA b → a = b := by
  intro a b h
  obtain ⟨a0, a1⟩ := a
  obtain ⟨b0, b1⟩ := b
  simp [encA, encRw_iff] at h
  simp_all
theorem encRI : ∀ a b, encR a = encR b → a = b := by
  intro a b h
  simp [encR, encRw_iff] at h
  simp_all
noncomputable def Q (args : List AV) : Option Int := ofC encA (fun t => F t.1 t.2) args
theorem wrap : (fun (y1 : Vec (ByteArray × Int × Int)) (y2 : Int) => Q [vl y1, vi y2]) = F := by
  funext y1 y2
  exact ofC_enc encAI _ (y1, y2)
noncomputable def G (Q0 : List AV → Option Int) : Orc := ⟨fun f => sel (Nat.beq f 95) 0 (9), fun ρ f args K => sel (Nat.beq f 95) (qEntry laws_szName.encR Q0 args K) (Option.none), noE, false⟩
noncomputable def L (W0 : (ρ : Type) → List AV → List Ob → (Int → Option ρ) → (Int → Option ρ) → Option ρ) : Lor := fun ρ j st K => sel (Nat.beq j 0) (cutO Try.prog 27 [0, 1, 5] 0 [] [] st fun avs obs => W0 ρ avs obs (fun z1 => K (.exit 0) (mkS 27 [1] [vi z1] [] [])) (fun z1 => K .ret (mkS 27 [4] [vi z1] [] []))) (Option.none)
noncomputable def c0 : Code := loopC (atomN [] 0 (bodyOf Try.f58) 0)
def ct0 : Cut := ⟨[0, 1, 5], []⟩
def lv0 : Exit → Cut
  | .exit 0 => ⟨[1], []⟩
  | .ret => ⟨[4], []⟩
  | _ => ⟨[], []⟩
theorem step0 (Q0) (W0) {ρ : Type} (K : Exit → St → Option ρ) (W : List AV → List Ob → Option ρ) (v1 v2 v3) : exC Try.prog (G Q0) (L W0) [] 1 c0 (mkS 27 [0, 1, 5] [vl v1, vi v2, vi v3] [] []) (bodyK Try.prog 27 0 [] ct0 W lv0 K) =
    B0 (fun y1 y2 y3 y4 => Q0 [.a [cs y1, ci y2, ci y3], vi y4]) v1 v2 v3 (fun u1 u2 u3 => W [vl u1, vi u2, vi u3] []) (fun z1 => K (.exit 0) (mkS 27 [1] [vi z1] [] [])) (fun z1 => K .ret (mkS 27 [4] [vi z1] [] [])) := by kernel_rfl
def enc0 (t : (Vec (ByteArray × Int × Int)) × Int × Int) : List AV × List Ob := ([vl t.1, vi t.2.1, vi t.2.2], [])
theorem enc0I : ∀ a b, enc0 a = enc0 b → a = b := by
  intro a b h
  obtain ⟨a0, a1, a2⟩ := a
  obtain ⟨b0, b1, b2⟩ := b
  simp [enc0, encRw_iff] at h
  simp_all
noncomputable def V0 : (ρ : Type) → List AV → List Ob → (Int → Option ρ) → (Int → Option ρ) → Option ρ := fun ρ avs obs k0 kr => ofC enc0 (fun t => F0 fuelN t.1 t.2.1 t.2.2 k0 kr) (avs, obs)
theorem V0_enc (ρ : Type) : (fun w1 w2 w3 k0 kr => V0 ρ [vl w1, vi w2, vi w3] [] k0 kr) = F0 fuelN := by
  funext w1 w2 w3 k0 kr
  exact ofC_enc enc0I _ (w1, w2, w3)
theorem main (Q0) (W0) {ρ : Type} (K : AV → List Ob → Option ρ) (a1 a2) : exC Try.prog (G Q0) (L W0) [] 0 (bodyOf Try.f58) (entry 27 [vl a1, vi a2] [] []) (finO Try.prog Try.f58.results.toList 0 [] [] K) =
    B (fun w1 w2 w3 k0 kr => W0 ρ [vl w1, vi w2, vi w3] [] k0 kr) a1 a2 (fun x1 => K (vi x1) []) := by kernel_rfl
theorem Gok : (G laws_szName.Q).ok Try.prog := ⟨(by
    intro ρ f args K r h
    rcases sel_cases h with ⟨hb, h⟩ | ⟨-, h⟩
    · obtain rfl := beq_nat hb
      exact qEntry_ok laws_szName.ac h
    cases h),
  (by
    intro ρ f args K
    simp only [G]
    cases Nat.beq f 95 with
    | true => exact qEntry_nat args K
    | false =>
    simp only [sel]
    rfl),
  (fun ρ f st caps args dst K r h => (by cases h))⟩
theorem hm : Try.prog.follows .mixedOrders = true := by kernel_rfl
theorem e0 : atomsL [] 1 c0 = [] := by kernel_rfl
theorem ok0 (ρ : Type) (st : St) (K : Exit → St → Option ρ) (r : ρ) (h : (L V0) ρ 0 st K = some r) : AW Try.prog (.loop c0) st fun e st' => K e st' = some r := by
  refine loop_ok (ct := ct0) (lv := lv0) (n := 27) (m := 0) (ks := []) (j := 0) (jn := []) (L := (L V0)) Gok hm (by rw [e0]; exact Lor.ok_nil _ _) enc0I (fun k t => F0 k t.1 t.2.1 t.2.2 (fun z1 => K (.exit 0) (mkS 27 [1] [vi z1] [] [])) (fun z1 => K .ret (mkS 27 [4] [vi z1] [] []))) (fun t => rfl) (fun k t => ?_) (fun _ => fuelN) h
  refine (step0 laws_szName.Q V0 K _ t.1 t.2.1 t.2.2).trans ?_
  rw [laws_szName.wrap]
  refine congrArg (fun W => B0 laws_szName.F t.1 t.2.1 t.2.2 W (fun z1 => K (.exit 0) (mkS 27 [1] [vi z1] [] [])) (fun z1 => K .ret (mkS 27 [4] [vi z1] [] []))) ?_
  funext u1 u2 u3
  exact ofC_enc enc0I _ (u1, u2, u3)
theorem e : atomsL [] 0 (bodyOf Try.f58) = [(0, 0, .loop c0)] := by kernel_rfl
theorem acc (t : (Vec (ByteArray × Int × Int)) × Int) (x : Int) (h : F t.1 t.2 = some x) : ACc Try.prog 58 (encA t) [] true [] fun rv obs => (rv, obs) = encR x := by
  refine fun_okc (L := (L V0)) (jn := []) (cmds := []) (ks := []) (hin := []) (fn := Try.f58) (body := (bodyOf Try.f58)) Gok hm Try.func58 (by kernel_rfl) (by kernel_rfl) (by rw [e]; exact Lor.ok_cons ok0 (Lor.ok_nil _ _)) ?_ h
  refine (main laws_szName.Q V0 _ t.1 t.2).trans ?_
  rw [V0_enc]
  refine congrArg (fun K => B (F0 fuelN) t.1 t.2 K) ?_
  funext x1
  exact ofC_enc encRI some (x1)
theorem ac0 (t : (Vec (ByteArray × Int × Int)) × Int) (x : Int) (h : F t.1 t.2 = some x) : AC Try.prog 58 (encA t) [] true [] fun rv obs => (rv, obs) = encR x := ACc.ac (body := bodyOf Try.f58) Try.func58 (by kernel_rfl) (by kernel_rfl) (acc t x h)
theorem ac (args : List AV) (x : Int) (h : Q args = some x) : AC Try.prog 58 args [] false [] fun rv obs => (rv, obs) = encR x := by
  obtain ⟨t, rfl, h2⟩ := ofC_some h
  refine (ac0 t x h2).flat fun rv obs e => ?_
  obtain rfl : rv = (encR x).1 := congrArg Prod.fst e
  obtain rfl : obs = (encR x).2 := congrArg Prod.snd e
  refine ⟨by simp [encR, AV.Flat, K.Flat, C.Flat], ?_⟩
  simp [encR]
end laws_szNameS
/-! loop.example/g00073/laws.szCommit -/
namespace laws_szCommit
noncomputable def B {ρ : Type} (C0 : (Vec Int) → Int → Option Int) (C1 : (Vec (ByteArray × Int × Int)) → Int → Option Int) (a1 : Vec Int) (a2 : ByteArray) (a3 : Vec (ByteArray × Int × Int)) (a4 : Int) (K : Int → Option ρ) : Option ρ :=
  (C0 a1 a4).bind fun r1 => sel (decide (r1 < (0 : Int))) (K (-1 : Int)) (sel (decide ((wr (r1 - (a2.size : Int))) < (0 : Int))) (K (-1 : Int)) ((C1 a3 (wr (r1 - (a2.size : Int)))).bind fun r2 => sel (decide (r2 < (0 : Int))) (K (-1 : Int)) (K r2)))
noncomputable def F (a1 : Vec Int) (a2 : ByteArray) (a3 : Vec (ByteArray × Int × Int)) (a4 : Int) : Option Int := B laws_szIntS.F laws_szNameS.F a1 a2 a3 a4 (fun x1 => some (x1))
def encA (t : Vec Int × ByteArray × (Vec (ByteArray × Int × Int)) × Int) : List AV := [.a [cl t.1, cs t.2.1, cl t.2.2.1], vi t.2.2.2]
def encR (x : Int) : AV × List Ob := (vi x, [])
theorem encAI : ∀ a b, encA a = encA b → a = b := by
  intro a b h
  obtain ⟨a0, a1, a2, a3⟩ := a
  obtain ⟨b0, b1, b2, b3⟩ := b
  simp [encA, encRw_iff] at h
  simp_all
theorem encRI : ∀ a b, encR a = encR b → a = b := by
  intro a b h
  simp [encR, encRw_iff] at h
  simp_all
noncomputable def Q (args : List AV) : Option Int := ofC encA (fun t => F t.1 t.2.1 t.2.2.1 t.2.2.2) args
theorem wrap : (fun (y1 : Vec Int) (y2 : ByteArray) (y3 : Vec (ByteArray × Int × Int)) (y4 : Int) => Q [.a [cl y1, cs y2, cl y3], vi y4]) = F := by
  funext y1 y2 y3 y4
  exact ofC_enc encAI _ (y1, y2, y3, y4)
noncomputable def G (Q0 : List AV → Option Int) (Q1 : List AV → Option Int) : Orc := ⟨fun f => sel (Nat.beq f 57) 0 (sel (Nat.beq f 58) 0 (9)), fun ρ f args K => sel (Nat.beq f 57) (qEntry laws_szIntS.encR Q0 args K) (sel (Nat.beq f 58) (qEntry laws_szNameS.encR Q1 args K) (Option.none)), noE, false⟩
noncomputable def L : Lor := fun ρ j st K => Option.none
theorem main (Q0 Q1) {ρ : Type} (K : AV → List Ob → Option ρ) (a1 a2 a3 a4) : exC Try.prog (G Q0 Q1) (L) [] 0 (bodyOf Try.f23) (entry 25 [.a [cl a1, cs a2, cl a3], vi a4] [] []) (finO Try.prog Try.f23.results.toList 0 [] [] K) =
    B (fun y1 y2 => Q0 [vl y1, vi y2]) (fun y1 y2 => Q1 [vl y1, vi y2]) a1 a2 a3 a4 (fun x1 => K (vi x1) []) := by kernel_rfl
theorem Gok : (G laws_szIntS.Q laws_szNameS.Q).ok Try.prog := ⟨(by
    intro ρ f args K r h
    rcases sel_cases h with ⟨hb, h⟩ | ⟨-, h⟩
    · obtain rfl := beq_nat hb
      exact qEntry_ok laws_szIntS.ac h
    rcases sel_cases h with ⟨hb, h⟩ | ⟨-, h⟩
    · obtain rfl := beq_nat hb
      exact qEntry_ok laws_szNameS.ac h
    cases h),
  (by
    intro ρ f args K
    simp only [G]
    cases Nat.beq f 57 with
    | true => exact qEntry_nat args K
    | false =>
    simp only [sel]
    cases Nat.beq f 58 with
    | true => exact qEntry_nat args K
    | false =>
    simp only [sel]
    rfl),
  (fun ρ f st caps args dst K r h => (by cases h))⟩
theorem hm : Try.prog.follows .mixedOrders = true := by kernel_rfl
theorem e : atomsL [] 0 (bodyOf Try.f23) = [] := by kernel_rfl
theorem acc (t : Vec Int × ByteArray × (Vec (ByteArray × Int × Int)) × Int) (x : Int) (h : F t.1 t.2.1 t.2.2.1 t.2.2.2 = some x) : ACc Try.prog 23 (encA t) [] true [] fun rv obs => (rv, obs) = encR x := by
  refine fun_okc (L := (L)) (jn := []) (cmds := []) (ks := []) (hin := []) (fn := Try.f23) (body := (bodyOf Try.f23)) Gok hm Try.func23 (by kernel_rfl) (by kernel_rfl) (by rw [e]; exact Lor.ok_nil _ _) ?_ h
  refine (main laws_szIntS.Q laws_szNameS.Q _ t.1 t.2.1 t.2.2.1 t.2.2.2).trans ?_
  rw [laws_szIntS.wrap, laws_szNameS.wrap]
  refine congrArg (fun K => B laws_szIntS.F laws_szNameS.F t.1 t.2.1 t.2.2.1 t.2.2.2 K) ?_
  funext x1
  exact ofC_enc encRI some (x1)
theorem ac0 (t : Vec Int × ByteArray × (Vec (ByteArray × Int × Int)) × Int) (x : Int) (h : F t.1 t.2.1 t.2.2.1 t.2.2.2 = some x) : AC Try.prog 23 (encA t) [] true [] fun rv obs => (rv, obs) = encR x := ACc.ac (body := bodyOf Try.f23) Try.func23 (by kernel_rfl) (by kernel_rfl) (acc t x h)
theorem ac (args : List AV) (x : Int) (h : Q args = some x) : AC Try.prog 23 args [] false [] fun rv obs => (rv, obs) = encR x := by
  obtain ⟨t, rfl, h2⟩ := ofC_some h
  refine (ac0 t x h2).flat fun rv obs e => ?_
  obtain rfl : rv = (encR x).1 := congrArg Prod.fst e
  obtain rfl : obs = (encR x).2 := congrArg Prod.snd e
  refine ⟨by simp [encR, AV.Flat, K.Flat, C.Flat], ?_⟩
  simp [encR]
end laws_szCommit
/-! loop.example/g00073/laws.szCommitS -/
namespace laws_szCommitS
noncomputable def B0 {ρ : Type} (C0 : (Vec Int) → ByteArray → (Vec (ByteArray × Int × Int)) → Int → Option Int) (v1 : Vec ((Vec Int) × ByteArray × (Vec (ByteArray × Int × Int)))) (v2 : Int) (v3 : Int) (W : (Vec ((Vec Int) × ByteArray × (Vec (ByteArray × Int × Int)))) → Int → Int → Option ρ) (K0 : Int → Option ρ) (Kr : Int → Option ρ) : Option ρ :=
  sel (decide (v3 < (v1.n : Int))) (chk (decide (0 ≤ v3 ∧ v3 < (v1.n : Int))) ((C0 ((v1.g v3.toNat).1) ((v1.g v3.toNat).2.1) ((v1.g v3.toNat).2.2) v2).bind fun r1 => sel (decide (r1 < (0 : Int))) (Kr (-1 : Int)) (W v1 r1 (wr (v3 + (1 : Int)))))) (K0 v2)
noncomputable def F0 {ρ : Type} : Nat → (Vec ((Vec Int) × ByteArray × (Vec (ByteArray × Int × Int)))) → Int → Int → (Int → Option ρ) → (Int → Option ρ) → Option ρ
  | 0, _, _, _, _, _ => none
  | k + 1, v1, v2, v3, K0, Kr => B0 laws_szCommit.F v1 v2 v3 (fun v1' v2' v3' => F0 k v1' v2' v3' K0 Kr) K0 Kr
noncomputable def B {ρ : Type} (L0 : (Vec ((Vec Int) × ByteArray × (Vec (ByteArray × Int × Int)))) → Int → Int → (Int → Option ρ) → (Int → Option ρ) → Option ρ) (a1 : Vec ((Vec Int) × ByteArray × (Vec (ByteArray × Int × Int)))) (a2 : Int) (K : Int → Option ρ) : Option ρ :=
  sel (decide ((wr (a2 - (a1.n : Int))) < (0 : Int))) (K (-1 : Int)) (L0 a1 (wr (a2 - (a1.n : Int))) (0 : Int) (fun e01 => K e01) (fun x01 => K x01))
noncomputable def F (a1 : Vec ((Vec Int) × ByteArray × (Vec (ByteArray × Int × Int)))) (a2 : Int) : Option Int := B (F0 fuelN) a1 a2 (fun x1 => some (x1))
def encA (t : (Vec ((Vec Int) × ByteArray × (Vec (ByteArray × Int × Int)))) × Int) : List AV := [vl t.1, vi t.2]
def encR (x : Int) : AV × List Ob := (vi x, [])
theorem encAI : ∀ a b, encA a = encA b → a = b := by
  intro a b h
  obtain ⟨a0, a1⟩ := a
  obtain ⟨b0, b1⟩ := b
  simp [encA, encRw_iff] at h
  simp_all
theorem encRI : ∀ a b, encR a = encR b → a = b := by
  intro a b h
  simp [encR, encRw_iff] at h
  simp_all
noncomputable def Q (args : List AV) : Option Int := ofC encA (fun t => F t.1 t.2) args
theorem wrap : (fun (y1 : Vec ((Vec Int) × ByteArray × (Vec (ByteArray × Int × Int)))) (y2 : Int) => Q [vl y1, vi y2]) = F := by
  funext y1 y2
  exact ofC_enc encAI _ (y1, y2)
noncomputable def G (Q0 : List AV → Option Int) : Orc := ⟨fun f => sel (Nat.beq f 23) 0 (9), fun ρ f args K => sel (Nat.beq f 23) (qEntry laws_szCommit.encR Q0 args K) (Option.none), noE, false⟩
noncomputable def L (W0 : (ρ : Type) → List AV → List Ob → (Int → Option ρ) → (Int → Option ρ) → Option ρ) : Lor := fun ρ j st K => sel (Nat.beq j 0) (cutO Try.prog 27 [0, 1, 5] 0 [] [] st fun avs obs => W0 ρ avs obs (fun z1 => K (.exit 0) (mkS 27 [1] [vi z1] [] [])) (fun z1 => K .ret (mkS 27 [4] [vi z1] [] []))) (Option.none)
noncomputable def c0 : Code := loopC (atomN [] 0 (bodyOf Try.f6) 0)
def ct0 : Cut := ⟨[0, 1, 5], []⟩
def lv0 : Exit → Cut
  | .exit 0 => ⟨[1], []⟩
  | .ret => ⟨[4], []⟩
  | _ => ⟨[], []⟩
theorem step0 (Q0) (W0) {ρ : Type} (K : Exit → St → Option ρ) (W : List AV → List Ob → Option ρ) (v1 v2 v3) : exC Try.prog (G Q0) (L W0) [] 1 c0 (mkS 27 [0, 1, 5] [vl v1, vi v2, vi v3] [] []) (bodyK Try.prog 27 0 [] ct0 W lv0 K) =
    B0 (fun y1 y2 y3 y4 => Q0 [.a [cl y1, cs y2, cl y3], vi y4]) v1 v2 v3 (fun u1 u2 u3 => W [vl u1, vi u2, vi u3] []) (fun z1 => K (.exit 0) (mkS 27 [1] [vi z1] [] [])) (fun z1 => K .ret (mkS 27 [4] [vi z1] [] [])) := by kernel_rfl
def enc0 (t : (Vec ((Vec Int) × ByteArray × (Vec (ByteArray × Int × Int)))) × Int × Int) : List AV × List Ob := ([vl t.1, vi t.2.1, vi t.2.2], [])
theorem enc0I : ∀ a b, enc0 a = enc0 b → a = b := by
  intro a b h
  obtain ⟨a0, a1, a2⟩ := a
  obtain ⟨b0, b1, b2⟩ := b
  simp [enc0, encRw_iff] at h
  simp_all
noncomputable def V0 : (ρ : Type) → List AV → List Ob → (Int → Option ρ) → (Int → Option ρ) → Option ρ := fun ρ avs obs k0 kr => ofC enc0 (fun t => F0 fuelN t.1 t.2.1 t.2.2 k0 kr) (avs, obs)
theorem V0_enc (ρ : Type) : (fun w1 w2 w3 k0 kr => V0 ρ [vl w1, vi w2, vi w3] [] k0 kr) = F0 fuelN := by
  funext w1 w2 w3 k0 kr
  exact ofC_enc enc0I _ (w1, w2, w3)
theorem main (Q0) (W0) {ρ : Type} (K : AV → List Ob → Option ρ) (a1 a2) : exC Try.prog (G Q0) (L W0) [] 0 (bodyOf Try.f6) (entry 27 [vl a1, vi a2] [] []) (finO Try.prog Try.f6.results.toList 0 [] [] K) =
    B (fun w1 w2 w3 k0 kr => W0 ρ [vl w1, vi w2, vi w3] [] k0 kr) a1 a2 (fun x1 => K (vi x1) []) := by kernel_rfl
theorem Gok : (G laws_szCommit.Q).ok Try.prog := ⟨(by
    intro ρ f args K r h
    rcases sel_cases h with ⟨hb, h⟩ | ⟨-, h⟩
    · obtain rfl := beq_nat hb
      exact qEntry_ok laws_szCommit.ac h
    cases h),
  (by
    intro ρ f args K
    simp only [G]
    cases Nat.beq f 23 with
    | true => exact qEntry_nat args K
    | false =>
    simp only [sel]
    rfl),
  (fun ρ f st caps args dst K r h => (by cases h))⟩
theorem hm : Try.prog.follows .mixedOrders = true := by kernel_rfl
theorem e0 : atomsL [] 1 c0 = [] := by kernel_rfl
theorem ok0 (ρ : Type) (st : St) (K : Exit → St → Option ρ) (r : ρ) (h : (L V0) ρ 0 st K = some r) : AW Try.prog (.loop c0) st fun e st' => K e st' = some r := by
  refine loop_ok (ct := ct0) (lv := lv0) (n := 27) (m := 0) (ks := []) (j := 0) (jn := []) (L := (L V0)) Gok hm (by rw [e0]; exact Lor.ok_nil _ _) enc0I (fun k t => F0 k t.1 t.2.1 t.2.2 (fun z1 => K (.exit 0) (mkS 27 [1] [vi z1] [] [])) (fun z1 => K .ret (mkS 27 [4] [vi z1] [] []))) (fun t => rfl) (fun k t => ?_) (fun _ => fuelN) h
  refine (step0 laws_szCommit.Q V0 K _ t.1 t.2.1 t.2.2).trans ?_
  rw [laws_szCommit.wrap]
  refine congrArg (fun W => B0 laws_szCommit.F t.1 t.2.1 t.2.2 W (fun z1 => K (.exit 0) (mkS 27 [1] [vi z1] [] [])) (fun z1 => K .ret (mkS 27 [4] [vi z1] [] []))) ?_
  funext u1 u2 u3
  exact ofC_enc enc0I _ (u1, u2, u3)
theorem e : atomsL [] 0 (bodyOf Try.f6) = [(0, 0, .loop c0)] := by kernel_rfl
theorem acc (t : (Vec ((Vec Int) × ByteArray × (Vec (ByteArray × Int × Int)))) × Int) (x : Int) (h : F t.1 t.2 = some x) : ACc Try.prog 6 (encA t) [] true [] fun rv obs => (rv, obs) = encR x := by
  refine fun_okc (L := (L V0)) (jn := []) (cmds := []) (ks := []) (hin := []) (fn := Try.f6) (body := (bodyOf Try.f6)) Gok hm Try.func6 (by kernel_rfl) (by kernel_rfl) (by rw [e]; exact Lor.ok_cons ok0 (Lor.ok_nil _ _)) ?_ h
  refine (main laws_szCommit.Q V0 _ t.1 t.2).trans ?_
  rw [V0_enc]
  refine congrArg (fun K => B (F0 fuelN) t.1 t.2 K) ?_
  funext x1
  exact ofC_enc encRI some (x1)
theorem ac0 (t : (Vec ((Vec Int) × ByteArray × (Vec (ByteArray × Int × Int)))) × Int) (x : Int) (h : F t.1 t.2 = some x) : AC Try.prog 6 (encA t) [] true [] fun rv obs => (rv, obs) = encR x := ACc.ac (body := bodyOf Try.f6) Try.func6 (by kernel_rfl) (by kernel_rfl) (acc t x h)
theorem ac (args : List AV) (x : Int) (h : Q args = some x) : AC Try.prog 6 args [] false [] fun rv obs => (rv, obs) = encR x := by
  obtain ⟨t, rfl, h2⟩ := ofC_some h
  refine (ac0 t x h2).flat fun rv obs e => ?_
  obtain rfl : rv = (encR x).1 := congrArg Prod.fst e
  obtain rfl : obs = (encR x).2 := congrArg Prod.snd e
  refine ⟨by simp [encR, AV.Flat, K.Flat, C.Flat], ?_⟩
  simp [encR]
end laws_szCommitS
/-! loop.example/g00073/laws.toIntS -/
namespace laws_toIntS
noncomputable def B0 {ρ : Type} (v1 : Vec Int) (v2 : Int) (v3 : Vec Int) (W : (Vec Int) → Int → (Vec Int) → Option ρ) (K0 : (Vec Int) → Option ρ) : Option ρ :=
  sel (decide (v2 < (v1.n : Int))) (chk (decide (0 ≤ v2 ∧ v2 < (v1.n : Int))) (chk (decide (0 ≤ v2 ∧ v2 < (v3.n : Int))) (chk (decide (v2.toNat < v3.n)) (W v1 (wr (v2 + (1 : Int))) (Vec.set v3 v2.toNat (v1.g v2.toNat)))))) (K0 v3)
noncomputable def F0 {ρ : Type} : Nat → (Vec Int) → Int → (Vec Int) → ((Vec Int) → Option ρ) → Option ρ
  | 0, _, _, _, _ => none
  | k + 1, v1, v2, v3, K0 => B0 v1 v2 v3 (fun v1' v2' v3' => F0 k v1' v2' v3' K0) K0
noncomputable def B {ρ : Type} (L0 : (Vec Int) → Int → (Vec Int) → ((Vec Int) → Option ρ) → Option ρ) (a1 : Vec Int) (K : (Vec Int) → Option ρ) : Option ρ :=
  chk (decide ((a1.n : Int) = (a1.n : Int) ∧ 0 ≤ (a1.n : Int))) (chk (mkOk (a1.n : Int) 8) (L0 a1 (0 : Int) (Vec.rep ((a1.n : Int).toNat) (0 : Int) : Vec Int) (fun e01 => K e01)))
noncomputable def F (a1 : Vec Int) : Option (Vec Int) := B (F0 fuelN) a1 (fun x1 => some (x1))
def encA (t : Vec Int) : List AV := [vl t]
def encR (x : Vec Int) : AV × List Ob := (.c (.h 0), [ro x])
theorem encAI : ∀ a b, encA a = encA b → a = b := by
  intro a b h
  simp [encA, encRw_iff] at h
  simp_all
theorem encRI : ∀ a b, encR a = encR b → a = b := by
  intro a b h
  simp [encR, encRw_iff] at h
  simp_all
noncomputable def Q (args : List AV) : Option (Vec Int) := ofC encA (fun t => F t) args
theorem wrap : (fun (y1 : Vec Int) => Q [vl y1]) = F := by
  funext y1
  exact ofC_enc encAI _ (y1)
noncomputable def G : Orc := ⟨fun f => 9, fun ρ f args K => Option.none, noE, false⟩
noncomputable def L (W0 : (ρ : Type) → List AV → List Ob → ((Vec Int) → Option ρ) → Option ρ) : Lor := fun ρ j st K => sel (Nat.beq j 0) (cutO Try.prog 22 [0, 3, 4] 0 [] [] st fun avs obs => W0 ρ avs obs (fun z1 => K (.exit 0) (mkS 22 [3] [.c (.h 0)] [ro z1] []))) (Option.none)
noncomputable def c0 : Code := loopC (atomN [] 0 (bodyOf Try.f9) 0)
def ct0 : Cut := ⟨[0, 3, 4], []⟩
def lv0 : Exit → Cut
  | .exit 0 => ⟨[3], []⟩
  | _ => ⟨[], []⟩
theorem step0 (W0) {ρ : Type} (K : Exit → St → Option ρ) (W : List AV → List Ob → Option ρ) (v1 v2 v3) : exC Try.prog (G) (L W0) [] 1 c0 (mkS 22 [0, 3, 4] [vl v1, .c (.h 0), vi v2] [ro v3] []) (bodyK Try.prog 22 0 [] ct0 W lv0 K) =
    B0 v1 v2 v3 (fun u1 u2 u3 => W [vl u1, .c (.h 0), vi u2] [ro u3]) (fun z1 => K (.exit 0) (mkS 22 [3] [.c (.h 0)] [ro z1] [])) := by kernel_rfl
def enc0 (t : Vec Int × Int × Vec Int) : List AV × List Ob := ([vl t.1, .c (.h 0), vi t.2.1], [ro t.2.2])
theorem enc0I : ∀ a b, enc0 a = enc0 b → a = b := by
  intro a b h
  obtain ⟨a0, a1, a2⟩ := a
  obtain ⟨b0, b1, b2⟩ := b
  simp [enc0, encRw_iff] at h
  simp_all
noncomputable def V0 : (ρ : Type) → List AV → List Ob → ((Vec Int) → Option ρ) → Option ρ := fun ρ avs obs k0 => ofC enc0 (fun t => F0 fuelN t.1 t.2.1 t.2.2 k0) (avs, obs)
theorem V0_enc (ρ : Type) : (fun w1 w2 w3 k0 => V0 ρ [vl w1, .c (.h 0), vi w2] [ro w3] k0) = F0 fuelN := by
  funext w1 w2 w3 k0
  exact ofC_enc enc0I _ (w1, w2, w3)
theorem main (W0) {ρ : Type} (K : AV → List Ob → Option ρ) (a1) : exC Try.prog (G) (L W0) [] 0 (bodyOf Try.f9) (entry 22 [vl a1] [] []) (finO Try.prog Try.f9.results.toList 0 [] [] K) =
    B (fun w1 w2 w3 k0 => W0 ρ [vl w1, .c (.h 0), vi w2] [ro w3] k0) a1 (fun x1 => K (.c (.h 0)) [ro x1]) := by kernel_rfl
theorem Gok : (G).ok Try.prog := ⟨(fun ρ f args K r h => (by cases h)),
  (fun ρ f args K => rfl),
  (fun ρ f st caps args dst K r h => (by cases h))⟩
theorem hm : Try.prog.follows .mixedOrders = true := by kernel_rfl
theorem e0 : atomsL [] 1 c0 = [] := by kernel_rfl
theorem ok0 (ρ : Type) (st : St) (K : Exit → St → Option ρ) (r : ρ) (h : (L V0) ρ 0 st K = some r) : AW Try.prog (.loop c0) st fun e st' => K e st' = some r := by
  refine loop_ok (ct := ct0) (lv := lv0) (n := 22) (m := 0) (ks := []) (j := 0) (jn := []) (L := (L V0)) Gok hm (by rw [e0]; exact Lor.ok_nil _ _) enc0I (fun k t => F0 k t.1 t.2.1 t.2.2 (fun z1 => K (.exit 0) (mkS 22 [3] [.c (.h 0)] [ro z1] []))) (fun t => rfl) (fun k t => ?_) (fun _ => fuelN) h
  refine (step0 V0 K _ t.1 t.2.1 t.2.2).trans ?_
  refine congrArg (fun W => B0 t.1 t.2.1 t.2.2 W (fun z1 => K (.exit 0) (mkS 22 [3] [.c (.h 0)] [ro z1] []))) ?_
  funext u1 u2 u3
  exact ofC_enc enc0I _ (u1, u2, u3)
theorem e : atomsL [] 0 (bodyOf Try.f9) = [(0, 0, .loop c0)] := by kernel_rfl
theorem acc (t : Vec Int) (x : Vec Int) (h : F t = some x) : ACc Try.prog 9 (encA t) [] true [] fun rv obs => (rv, obs) = encR x := by
  refine fun_okc (L := (L V0)) (jn := []) (cmds := []) (ks := []) (hin := []) (fn := Try.f9) (body := (bodyOf Try.f9)) Gok hm Try.func9 (by kernel_rfl) (by kernel_rfl) (by rw [e]; exact Lor.ok_cons ok0 (Lor.ok_nil _ _)) ?_ h
  refine (main V0 _ t).trans ?_
  rw [V0_enc]
  refine congrArg (fun K => B (F0 fuelN) t K) ?_
  funext x1
  exact ofC_enc encRI some (x1)
theorem ac0 (t : Vec Int) (x : Vec Int) (h : F t = some x) : AC Try.prog 9 (encA t) [] true [] fun rv obs => (rv, obs) = encR x := ACc.ac (body := bodyOf Try.f9) Try.func9 (by kernel_rfl) (by kernel_rfl) (acc t x h)
theorem ac (args : List AV) (x : Vec Int) (h : Q args = some x) : AC Try.prog 9 args [] false [] fun rv obs => (rv, obs) = encR x := by
  obtain ⟨t, rfl, h2⟩ := ofC_some h
  refine (ac0 t x h2).flat fun rv obs e => ?_
  obtain rfl : rv = (encR x).1 := congrArg Prod.fst e
  obtain rfl : obs = (encR x).2 := congrArg Prod.snd e
  refine ⟨by simp [encR, AV.Flat, K.Flat, C.Flat], ?_⟩
  intro o ho
  simp only [encR, List.mem_cons, List.not_mem_nil, or_false] at ho
  subst ho
  exact flat_rw rfl _
end laws_toIntS
/-! loop.example/g00073/laws.toName -/
namespace laws_toName
noncomputable def B {ρ : Type} (a1 : ByteArray) (a2 : Int) (a3 : Int) (K : ByteArray → Int → Int → Option ρ) : Option ρ :=
  K a1 a2 a3
noncomputable def F (a1 : ByteArray) (a2 : Int) (a3 : Int) : Option (ByteArray × Int × Int) := B a1 a2 a3 (fun x1 x2 x3 => some (x1, x2, x3))
def encA (t : ByteArray × Int × Int) : List AV := [.a [cs t.1, ci t.2.1, ci t.2.2]]
def encR (x : ByteArray × Int × Int) : AV × List Ob := (.a [cs x.1, ci x.2.1, ci x.2.2], [])
theorem encAI : ∀ a b, encA a = encA b → a = b := by
  intro a b h
  obtain ⟨a0, a1, a2⟩ := a
  obtain ⟨b0, b1, b2⟩ := b
  simp [encA, encRw_iff] at h
  simp_all
theorem encRI : ∀ a b, encR a = encR b → a = b := by
  intro a b h
  obtain ⟨a0, a1, a2⟩ := a
  obtain ⟨b0, b1, b2⟩ := b
  simp [encR, encRw_iff] at h
  simp_all
noncomputable def Q (args : List AV) : Option (ByteArray × Int × Int) := ofC encA (fun t => F t.1 t.2.1 t.2.2) args
theorem wrap : (fun (y1 : ByteArray) (y2 : Int) (y3 : Int) => Q [.a [cs y1, ci y2, ci y3]]) = F := by
  funext y1 y2 y3
  exact ofC_enc encAI _ (y1, y2, y3)
noncomputable def G : Orc := ⟨fun f => 9, fun ρ f args K => Option.none, noE, false⟩
noncomputable def L : Lor := fun ρ j st K => Option.none
theorem main {ρ : Type} (K : AV → List Ob → Option ρ) (a1 a2 a3) : exC Try.prog (G) (L) [] 0 (bodyOf Try.f96) (entry 14 [.a [cs a1, ci a2, ci a3]] [] []) (finO Try.prog Try.f96.results.toList 0 [] [] K) =
    B a1 a2 a3 (fun x1 x2 x3 => K (.a [cs x1, ci x2, ci x3]) []) := by kernel_rfl
theorem Gok : (G).ok Try.prog := ⟨(fun ρ f args K r h => (by cases h)),
  (fun ρ f args K => rfl),
  (fun ρ f st caps args dst K r h => (by cases h))⟩
theorem hm : Try.prog.follows .mixedOrders = true := by kernel_rfl
theorem e : atomsL [] 0 (bodyOf Try.f96) = [] := by kernel_rfl
theorem acc (t : ByteArray × Int × Int) (x : ByteArray × Int × Int) (h : F t.1 t.2.1 t.2.2 = some x) : ACc Try.prog 96 (encA t) [] true [] fun rv obs => (rv, obs) = encR x := by
  refine fun_okc (L := (L)) (jn := []) (cmds := []) (ks := []) (hin := []) (fn := Try.f96) (body := (bodyOf Try.f96)) Gok hm Try.func96 (by kernel_rfl) (by kernel_rfl) (by rw [e]; exact Lor.ok_nil _ _) ?_ h
  refine (main _ t.1 t.2.1 t.2.2).trans ?_
  refine congrArg (fun K => B t.1 t.2.1 t.2.2 K) ?_
  funext x1 x2 x3
  exact ofC_enc encRI some (x1, x2, x3)
theorem ac0 (t : ByteArray × Int × Int) (x : ByteArray × Int × Int) (h : F t.1 t.2.1 t.2.2 = some x) : AC Try.prog 96 (encA t) [] true [] fun rv obs => (rv, obs) = encR x := ACc.ac (body := bodyOf Try.f96) Try.func96 (by kernel_rfl) (by kernel_rfl) (acc t x h)
theorem ac (args : List AV) (x : ByteArray × Int × Int) (h : Q args = some x) : AC Try.prog 96 args [] false [] fun rv obs => (rv, obs) = encR x := by
  obtain ⟨t, rfl, h2⟩ := ofC_some h
  refine (ac0 t x h2).flat fun rv obs e => ?_
  obtain rfl : rv = (encR x).1 := congrArg Prod.fst e
  obtain rfl : obs = (encR x).2 := congrArg Prod.snd e
  refine ⟨by simp [encR, AV.Flat, K.Flat, C.Flat], ?_⟩
  simp [encR]
end laws_toName
/-! loop.example/g00073/laws.toNameS -/
namespace laws_toNameS
noncomputable def B0 {ρ : Type} (C0 : ByteArray → Int → Int → Option (ByteArray × Int × Int)) (v1 : Vec (ByteArray × Int × Int)) (v2 : Int) (v3 : Vec (ByteArray × Int × Int)) (W : (Vec (ByteArray × Int × Int)) → Int → (Vec (ByteArray × Int × Int)) → Option ρ) (K0 : (Vec (ByteArray × Int × Int)) → Option ρ) : Option ρ :=
  sel (decide (v2 < (v1.n : Int))) (chk (decide (0 ≤ v2 ∧ v2 < (v1.n : Int))) ((C0 ((v1.g v2.toNat).1) ((v1.g v2.toNat).2.1) ((v1.g v2.toNat).2.2)).bind fun r1 => chk (decide (0 ≤ v2 ∧ v2 < (v3.n : Int))) (chk (decide (v2.toNat < v3.n)) (W v1 (wr (v2 + (1 : Int))) (Vec.set v3 v2.toNat (r1.1, r1.2.1, r1.2.2)))))) (K0 v3)
noncomputable def F0 {ρ : Type} : Nat → (Vec (ByteArray × Int × Int)) → Int → (Vec (ByteArray × Int × Int)) → ((Vec (ByteArray × Int × Int)) → Option ρ) → Option ρ
  | 0, _, _, _, _ => none
  | k + 1, v1, v2, v3, K0 => B0 laws_toName.F v1 v2 v3 (fun v1' v2' v3' => F0 k v1' v2' v3' K0) K0
noncomputable def B {ρ : Type} (L0 : (Vec (ByteArray × Int × Int)) → Int → (Vec (ByteArray × Int × Int)) → ((Vec (ByteArray × Int × Int)) → Option ρ) → Option ρ) (a1 : Vec (ByteArray × Int × Int)) (K : (Vec (ByteArray × Int × Int)) → Option ρ) : Option ρ :=
  chk (decide ((a1.n : Int) = (a1.n : Int) ∧ 0 ≤ (a1.n : Int))) (chk (mkOk (a1.n : Int) 32) (L0 a1 (0 : Int) (Vec.rep ((a1.n : Int).toNat) (ByteArray.empty, (0 : Int), (0 : Int)) : Vec (ByteArray × Int × Int)) (fun e01 => K e01)))
noncomputable def F (a1 : Vec (ByteArray × Int × Int)) : Option (Vec (ByteArray × Int × Int)) := B (F0 fuelN) a1 (fun x1 => some (x1))
def encA (t : Vec (ByteArray × Int × Int)) : List AV := [vl t]
def encR (x : Vec (ByteArray × Int × Int)) : AV × List Ob := (.c (.h 0), [ro x])
theorem encAI : ∀ a b, encA a = encA b → a = b := by
  intro a b h
  simp [encA, encRw_iff] at h
  simp_all
theorem encRI : ∀ a b, encR a = encR b → a = b := by
  intro a b h
  simp [encR, encRw_iff] at h
  simp_all
noncomputable def Q (args : List AV) : Option (Vec (ByteArray × Int × Int)) := ofC encA (fun t => F t) args
theorem wrap : (fun (y1 : Vec (ByteArray × Int × Int)) => Q [vl y1]) = F := by
  funext y1
  exact ofC_enc encAI _ (y1)
noncomputable def G (Q0 : List AV → Option (ByteArray × Int × Int)) : Orc := ⟨fun f => sel (Nat.beq f 96) 0 (9), fun ρ f args K => sel (Nat.beq f 96) (qEntry laws_toName.encR Q0 args K) (Option.none), noE, false⟩
noncomputable def L (W0 : (ρ : Type) → List AV → List Ob → ((Vec (ByteArray × Int × Int)) → Option ρ) → Option ρ) : Lor := fun ρ j st K => sel (Nat.beq j 0) (cutO Try.prog 23 [0, 3, 4] 0 [] [] st fun avs obs => W0 ρ avs obs (fun z1 => K (.exit 0) (mkS 23 [3] [.c (.h 0)] [ro z1] []))) (Option.none)
noncomputable def c0 : Code := loopC (atomN [] 0 (bodyOf Try.f61) 0)
def ct0 : Cut := ⟨[0, 3, 4], []⟩
def lv0 : Exit → Cut
  | .exit 0 => ⟨[3], []⟩
  | _ => ⟨[], []⟩
theorem step0 (Q0) (W0) {ρ : Type} (K : Exit → St → Option ρ) (W : List AV → List Ob → Option ρ) (v1 v2 v3) : exC Try.prog (G Q0) (L W0) [] 1 c0 (mkS 23 [0, 3, 4] [vl v1, .c (.h 0), vi v2] [ro v3] []) (bodyK Try.prog 23 0 [] ct0 W lv0 K) =
    B0 (fun y1 y2 y3 => Q0 [.a [cs y1, ci y2, ci y3]]) v1 v2 v3 (fun u1 u2 u3 => W [vl u1, .c (.h 0), vi u2] [ro u3]) (fun z1 => K (.exit 0) (mkS 23 [3] [.c (.h 0)] [ro z1] [])) := by kernel_rfl
def enc0 (t : (Vec (ByteArray × Int × Int)) × Int × (Vec (ByteArray × Int × Int))) : List AV × List Ob := ([vl t.1, .c (.h 0), vi t.2.1], [ro t.2.2])
theorem enc0I : ∀ a b, enc0 a = enc0 b → a = b := by
  intro a b h
  obtain ⟨a0, a1, a2⟩ := a
  obtain ⟨b0, b1, b2⟩ := b
  simp [enc0, encRw_iff] at h
  simp_all
noncomputable def V0 : (ρ : Type) → List AV → List Ob → ((Vec (ByteArray × Int × Int)) → Option ρ) → Option ρ := fun ρ avs obs k0 => ofC enc0 (fun t => F0 fuelN t.1 t.2.1 t.2.2 k0) (avs, obs)
theorem V0_enc (ρ : Type) : (fun w1 w2 w3 k0 => V0 ρ [vl w1, .c (.h 0), vi w2] [ro w3] k0) = F0 fuelN := by
  funext w1 w2 w3 k0
  exact ofC_enc enc0I _ (w1, w2, w3)
theorem main (Q0) (W0) {ρ : Type} (K : AV → List Ob → Option ρ) (a1) : exC Try.prog (G Q0) (L W0) [] 0 (bodyOf Try.f61) (entry 23 [vl a1] [] []) (finO Try.prog Try.f61.results.toList 0 [] [] K) =
    B (fun w1 w2 w3 k0 => W0 ρ [vl w1, .c (.h 0), vi w2] [ro w3] k0) a1 (fun x1 => K (.c (.h 0)) [ro x1]) := by kernel_rfl
theorem Gok : (G laws_toName.Q).ok Try.prog := ⟨(by
    intro ρ f args K r h
    rcases sel_cases h with ⟨hb, h⟩ | ⟨-, h⟩
    · obtain rfl := beq_nat hb
      exact qEntry_ok laws_toName.ac h
    cases h),
  (by
    intro ρ f args K
    simp only [G]
    cases Nat.beq f 96 with
    | true => exact qEntry_nat args K
    | false =>
    simp only [sel]
    rfl),
  (fun ρ f st caps args dst K r h => (by cases h))⟩
theorem hm : Try.prog.follows .mixedOrders = true := by kernel_rfl
theorem e0 : atomsL [] 1 c0 = [] := by kernel_rfl
theorem ok0 (ρ : Type) (st : St) (K : Exit → St → Option ρ) (r : ρ) (h : (L V0) ρ 0 st K = some r) : AW Try.prog (.loop c0) st fun e st' => K e st' = some r := by
  refine loop_ok (ct := ct0) (lv := lv0) (n := 23) (m := 0) (ks := []) (j := 0) (jn := []) (L := (L V0)) Gok hm (by rw [e0]; exact Lor.ok_nil _ _) enc0I (fun k t => F0 k t.1 t.2.1 t.2.2 (fun z1 => K (.exit 0) (mkS 23 [3] [.c (.h 0)] [ro z1] []))) (fun t => rfl) (fun k t => ?_) (fun _ => fuelN) h
  refine (step0 laws_toName.Q V0 K _ t.1 t.2.1 t.2.2).trans ?_
  rw [laws_toName.wrap]
  refine congrArg (fun W => B0 laws_toName.F t.1 t.2.1 t.2.2 W (fun z1 => K (.exit 0) (mkS 23 [3] [.c (.h 0)] [ro z1] []))) ?_
  funext u1 u2 u3
  exact ofC_enc enc0I _ (u1, u2, u3)
theorem e : atomsL [] 0 (bodyOf Try.f61) = [(0, 0, .loop c0)] := by kernel_rfl
theorem acc (t : Vec (ByteArray × Int × Int)) (x : Vec (ByteArray × Int × Int)) (h : F t = some x) : ACc Try.prog 61 (encA t) [] true [] fun rv obs => (rv, obs) = encR x := by
  refine fun_okc (L := (L V0)) (jn := []) (cmds := []) (ks := []) (hin := []) (fn := Try.f61) (body := (bodyOf Try.f61)) Gok hm Try.func61 (by kernel_rfl) (by kernel_rfl) (by rw [e]; exact Lor.ok_cons ok0 (Lor.ok_nil _ _)) ?_ h
  refine (main laws_toName.Q V0 _ t).trans ?_
  rw [V0_enc]
  refine congrArg (fun K => B (F0 fuelN) t K) ?_
  funext x1
  exact ofC_enc encRI some (x1)
theorem ac0 (t : Vec (ByteArray × Int × Int)) (x : Vec (ByteArray × Int × Int)) (h : F t = some x) : AC Try.prog 61 (encA t) [] true [] fun rv obs => (rv, obs) = encR x := ACc.ac (body := bodyOf Try.f61) Try.func61 (by kernel_rfl) (by kernel_rfl) (acc t x h)
theorem ac (args : List AV) (x : Vec (ByteArray × Int × Int)) (h : Q args = some x) : AC Try.prog 61 args [] false [] fun rv obs => (rv, obs) = encR x := by
  obtain ⟨t, rfl, h2⟩ := ofC_some h
  refine (ac0 t x h2).flat fun rv obs e => ?_
  obtain rfl : rv = (encR x).1 := congrArg Prod.fst e
  obtain rfl : obs = (encR x).2 := congrArg Prod.snd e
  refine ⟨by simp [encR, AV.Flat, K.Flat, C.Flat], ?_⟩
  intro o ho
  simp only [encR, List.mem_cons, List.not_mem_nil, or_false] at ho
  subst ho
  exact flat_rw rfl _
end laws_toNameS
/-! loop.example/g00073/laws.toCommit -/
namespace laws_toCommit
noncomputable def B {ρ : Type} (C0 : (Vec Int) → Option (Vec Int)) (C1 : (Vec (ByteArray × Int × Int)) → Option (Vec (ByteArray × Int × Int))) (a1 : Vec Int) (a2 : ByteArray) (a3 : Vec (ByteArray × Int × Int)) (K : ByteArray → (Vec Int) → (Vec (ByteArray × Int × Int)) → Option ρ) : Option ρ :=
  (C0 a1).bind fun r1 => (C1 a3).bind fun r2 => K a2 r1 r2
noncomputable def F (a1 : Vec Int) (a2 : ByteArray) (a3 : Vec (ByteArray × Int × Int)) : Option (ByteArray × Vec Int × (Vec (ByteArray × Int × Int))) := B laws_toIntS.F laws_toNameS.F a1 a2 a3 (fun x1 x2 x3 => some (x1, x2, x3))
def encA (t : Vec Int × ByteArray × (Vec (ByteArray × Int × Int))) : List AV := [.a [cl t.1, cs t.2.1, cl t.2.2]]
def encR (x : ByteArray × Vec Int × (Vec (ByteArray × Int × Int))) : AV × List Ob := (.a [.h 0, cs x.1, .h 1], [ro x.2.1, ro x.2.2])
theorem encAI : ∀ a b, encA a = encA b → a = b := by
  intro a b h
  obtain ⟨a0, a1, a2⟩ := a
  obtain ⟨b0, b1, b2⟩ := b
  simp [encA, encRw_iff] at h
  simp_all
theorem encRI : ∀ a b, encR a = encR b → a = b := by
  intro a b h
  obtain ⟨a0, a1, a2⟩ := a
  obtain ⟨b0, b1, b2⟩ := b
  simp [encR, encRw_iff] at h
  simp_all
noncomputable def Q (args : List AV) : Option (ByteArray × Vec Int × (Vec (ByteArray × Int × Int))) := ofC encA (fun t => F t.1 t.2.1 t.2.2) args
theorem wrap : (fun (y1 : Vec Int) (y2 : ByteArray) (y3 : Vec (ByteArray × Int × Int)) => Q [.a [cl y1, cs y2, cl y3]]) = F := by
  funext y1 y2 y3
  exact ofC_enc encAI _ (y1, y2, y3)
noncomputable def G (Q0 : List AV → Option (Vec Int)) (Q1 : List AV → Option (Vec (ByteArray × Int × Int))) : Orc := ⟨fun f => sel (Nat.beq f 9) 0 (sel (Nat.beq f 61) 0 (9)), fun ρ f args K => sel (Nat.beq f 9) (qEntry laws_toIntS.encR Q0 args K) (sel (Nat.beq f 61) (qEntry laws_toNameS.encR Q1 args K) (Option.none)), noE, false⟩
noncomputable def L : Lor := fun ρ j st K => Option.none
theorem main (Q0 Q1) {ρ : Type} (K : AV → List Ob → Option ρ) (a1 a2 a3) : exC Try.prog (G Q0 Q1) (L) [] 0 (bodyOf Try.f29) (entry 16 [.a [cl a1, cs a2, cl a3]] [] []) (finO Try.prog Try.f29.results.toList 0 [] [] K) =
    B (fun y1 => Q0 [vl y1]) (fun y1 => Q1 [vl y1]) a1 a2 a3 (fun x1 x2 x3 => K (.a [.h 0, cs x1, .h 1]) [ro x2, ro x3]) := by kernel_rfl
theorem Gok : (G laws_toIntS.Q laws_toNameS.Q).ok Try.prog := ⟨(by
    intro ρ f args K r h
    rcases sel_cases h with ⟨hb, h⟩ | ⟨-, h⟩
    · obtain rfl := beq_nat hb
      exact qEntry_ok laws_toIntS.ac h
    rcases sel_cases h with ⟨hb, h⟩ | ⟨-, h⟩
    · obtain rfl := beq_nat hb
      exact qEntry_ok laws_toNameS.ac h
    cases h),
  (by
    intro ρ f args K
    simp only [G]
    cases Nat.beq f 9 with
    | true => exact qEntry_nat args K
    | false =>
    simp only [sel]
    cases Nat.beq f 61 with
    | true => exact qEntry_nat args K
    | false =>
    simp only [sel]
    rfl),
  (fun ρ f st caps args dst K r h => (by cases h))⟩
theorem hm : Try.prog.follows .mixedOrders = true := by kernel_rfl
theorem e : atomsL [] 0 (bodyOf Try.f29) = [] := by kernel_rfl
theorem acc (t : Vec Int × ByteArray × (Vec (ByteArray × Int × Int))) (x : ByteArray × Vec Int × (Vec (ByteArray × Int × Int))) (h : F t.1 t.2.1 t.2.2 = some x) : ACc Try.prog 29 (encA t) [] true [] fun rv obs => (rv, obs) = encR x := by
  refine fun_okc (L := (L)) (jn := []) (cmds := []) (ks := []) (hin := []) (fn := Try.f29) (body := (bodyOf Try.f29)) Gok hm Try.func29 (by kernel_rfl) (by kernel_rfl) (by rw [e]; exact Lor.ok_nil _ _) ?_ h
  refine (main laws_toIntS.Q laws_toNameS.Q _ t.1 t.2.1 t.2.2).trans ?_
  rw [laws_toIntS.wrap, laws_toNameS.wrap]
  refine congrArg (fun K => B laws_toIntS.F laws_toNameS.F t.1 t.2.1 t.2.2 K) ?_
  funext x1 x2 x3
  exact ofC_enc encRI some (x1, x2, x3)
theorem ac0 (t : Vec Int × ByteArray × (Vec (ByteArray × Int × Int))) (x : ByteArray × Vec Int × (Vec (ByteArray × Int × Int))) (h : F t.1 t.2.1 t.2.2 = some x) : AC Try.prog 29 (encA t) [] true [] fun rv obs => (rv, obs) = encR x := ACc.ac (body := bodyOf Try.f29) Try.func29 (by kernel_rfl) (by kernel_rfl) (acc t x h)
theorem ac (args : List AV) (x : ByteArray × Vec Int × (Vec (ByteArray × Int × Int))) (h : Q args = some x) : AC Try.prog 29 args [] false [] fun rv obs => (rv, obs) = encR x := by
  obtain ⟨t, rfl, h2⟩ := ofC_some h
  refine (ac0 t x h2).flat fun rv obs e => ?_
  obtain rfl : rv = (encR x).1 := congrArg Prod.fst e
  obtain rfl : obs = (encR x).2 := congrArg Prod.snd e
  refine ⟨by simp [encR, AV.Flat, K.Flat, C.Flat], ?_⟩
  intro o ho
  simp only [encR, List.mem_cons, List.not_mem_nil, or_false] at ho
  rcases ho with rfl | rfl
  · exact flat_rw rfl _
  · exact flat_rw rfl _
end laws_toCommit
/-! loop.example/g00073/laws.toCommitS -/
namespace laws_toCommitS
noncomputable def B0 {ρ : Type} (C0 : (Vec Int) → ByteArray → (Vec (ByteArray × Int × Int)) → Option (ByteArray × Vec Int × (Vec (ByteArray × Int × Int)))) (v1 : Vec ((Vec Int) × ByteArray × (Vec (ByteArray × Int × Int)))) (v2 : Int) (v3 : Vec ((Vec Int) × ByteArray × (Vec (ByteArray × Int × Int)))) (W : (Vec ((Vec Int) × ByteArray × (Vec (ByteArray × Int × Int)))) → Int → (Vec ((Vec Int) × ByteArray × (Vec (ByteArray × Int × Int)))) → Option ρ) (K0 : (Vec ((Vec Int) × ByteArray × (Vec (ByteArray × Int × Int)))) → Option ρ) : Option ρ :=
  sel (decide (v2 < (v1.n : Int))) (chk (decide (0 ≤ v2 ∧ v2 < (v1.n : Int))) ((C0 ((v1.g v2.toNat).1) ((v1.g v2.toNat).2.1) ((v1.g v2.toNat).2.2)).bind fun r1 => chk (decide (0 ≤ v2 ∧ v2 < (v3.n : Int))) (chk (decide (v2.toNat < v3.n)) (W v1 (wr (v2 + (1 : Int))) (Vec.set v3 v2.toNat (r1.2.1, r1.1, r1.2.2)))))) (K0 v3)
noncomputable def F0 {ρ : Type} : Nat → (Vec ((Vec Int) × ByteArray × (Vec (ByteArray × Int × Int)))) → Int → (Vec ((Vec Int) × ByteArray × (Vec (ByteArray × Int × Int)))) → ((Vec ((Vec Int) × ByteArray × (Vec (ByteArray × Int × Int)))) → Option ρ) → Option ρ
  | 0, _, _, _, _ => none
  | k + 1, v1, v2, v3, K0 => B0 laws_toCommit.F v1 v2 v3 (fun v1' v2' v3' => F0 k v1' v2' v3' K0) K0
noncomputable def B {ρ : Type} (L0 : (Vec ((Vec Int) × ByteArray × (Vec (ByteArray × Int × Int)))) → Int → (Vec ((Vec Int) × ByteArray × (Vec (ByteArray × Int × Int)))) → ((Vec ((Vec Int) × ByteArray × (Vec (ByteArray × Int × Int)))) → Option ρ) → Option ρ) (a1 : Vec ((Vec Int) × ByteArray × (Vec (ByteArray × Int × Int)))) (K : (Vec ((Vec Int) × ByteArray × (Vec (ByteArray × Int × Int)))) → Option ρ) : Option ρ :=
  chk (decide ((a1.n : Int) = (a1.n : Int) ∧ 0 ≤ (a1.n : Int))) (chk (mkOk (a1.n : Int) 64) (L0 a1 (0 : Int) (Vec.rep ((a1.n : Int).toNat) (Vec.nil, ByteArray.empty, Vec.nil) : Vec ((Vec Int) × ByteArray × (Vec (ByteArray × Int × Int)))) (fun e01 => K e01)))
noncomputable def F (a1 : Vec ((Vec Int) × ByteArray × (Vec (ByteArray × Int × Int)))) : Option (Vec ((Vec Int) × ByteArray × (Vec (ByteArray × Int × Int)))) := B (F0 fuelN) a1 (fun x1 => some (x1))
def encA (t : Vec ((Vec Int) × ByteArray × (Vec (ByteArray × Int × Int)))) : List AV := [vl t]
def encR (x : Vec ((Vec Int) × ByteArray × (Vec (ByteArray × Int × Int)))) : AV × List Ob := (.c (.h 0), [ro x])
theorem encAI : ∀ a b, encA a = encA b → a = b := by
  intro a b h
  simp [encA, encRw_iff] at h
  simp_all
theorem encRI : ∀ a b, encR a = encR b → a = b := by
  intro a b h
  simp [encR, encRw_iff] at h
  simp_all
noncomputable def Q (args : List AV) : Option (Vec ((Vec Int) × ByteArray × (Vec (ByteArray × Int × Int)))) := ofC encA (fun t => F t) args
theorem wrap : (fun (y1 : Vec ((Vec Int) × ByteArray × (Vec (ByteArray × Int × Int)))) => Q [vl y1]) = F := by
  funext y1
  exact ofC_enc encAI _ (y1)
noncomputable def G (Q0 : List AV → Option (ByteArray × Vec Int × (Vec (ByteArray × Int × Int)))) : Orc := ⟨fun f => sel (Nat.beq f 29) 0 (9), fun ρ f args K => sel (Nat.beq f 29) (qEntry laws_toCommit.encR Q0 args K) (Option.none), noE, false⟩
noncomputable def L (W0 : (ρ : Type) → List AV → List Ob → ((Vec ((Vec Int) × ByteArray × (Vec (ByteArray × Int × Int)))) → Option ρ) → Option ρ) : Lor := fun ρ j st K => sel (Nat.beq j 0) (cutO Try.prog 23 [0, 3, 4] 0 [] [] st fun avs obs => W0 ρ avs obs (fun z1 => K (.exit 0) (mkS 23 [3] [.c (.h 0)] [ro z1] []))) (Option.none)
noncomputable def c0 : Code := loopC (atomN [] 0 (bodyOf Try.f8) 0)
def ct0 : Cut := ⟨[0, 3, 4], []⟩
def lv0 : Exit → Cut
  | .exit 0 => ⟨[3], []⟩
  | _ => ⟨[], []⟩
theorem step0 (Q0) (W0) {ρ : Type} (K : Exit → St → Option ρ) (W : List AV → List Ob → Option ρ) (v1 v2 v3) : exC Try.prog (G Q0) (L W0) [] 1 c0 (mkS 23 [0, 3, 4] [vl v1, .c (.h 0), vi v2] [ro v3] []) (bodyK Try.prog 23 0 [] ct0 W lv0 K) =
    B0 (fun y1 y2 y3 => Q0 [.a [cl y1, cs y2, cl y3]]) v1 v2 v3 (fun u1 u2 u3 => W [vl u1, .c (.h 0), vi u2] [ro u3]) (fun z1 => K (.exit 0) (mkS 23 [3] [.c (.h 0)] [ro z1] [])) := by kernel_rfl
def enc0 (t : (Vec ((Vec Int) × ByteArray × (Vec (ByteArray × Int × Int)))) × Int × (Vec ((Vec Int) × ByteArray × (Vec (ByteArray × Int × Int))))) : List AV × List Ob := ([vl t.1, .c (.h 0), vi t.2.1], [ro t.2.2])
theorem enc0I : ∀ a b, enc0 a = enc0 b → a = b := by
  intro a b h
  obtain ⟨a0, a1, a2⟩ := a
  obtain ⟨b0, b1, b2⟩ := b
  simp [enc0, encRw_iff] at h
  simp_all
noncomputable def V0 : (ρ : Type) → List AV → List Ob → ((Vec ((Vec Int) × ByteArray × (Vec (ByteArray × Int × Int)))) → Option ρ) → Option ρ := fun ρ avs obs k0 => ofC enc0 (fun t => F0 fuelN t.1 t.2.1 t.2.2 k0) (avs, obs)
theorem V0_enc (ρ : Type) : (fun w1 w2 w3 k0 => V0 ρ [vl w1, .c (.h 0), vi w2] [ro w3] k0) = F0 fuelN := by
  funext w1 w2 w3 k0
  exact ofC_enc enc0I _ (w1, w2, w3)
theorem main (Q0) (W0) {ρ : Type} (K : AV → List Ob → Option ρ) (a1) : exC Try.prog (G Q0) (L W0) [] 0 (bodyOf Try.f8) (entry 23 [vl a1] [] []) (finO Try.prog Try.f8.results.toList 0 [] [] K) =
    B (fun w1 w2 w3 k0 => W0 ρ [vl w1, .c (.h 0), vi w2] [ro w3] k0) a1 (fun x1 => K (.c (.h 0)) [ro x1]) := by kernel_rfl
theorem Gok : (G laws_toCommit.Q).ok Try.prog := ⟨(by
    intro ρ f args K r h
    rcases sel_cases h with ⟨hb, h⟩ | ⟨-, h⟩
    · obtain rfl := beq_nat hb
      exact qEntry_ok laws_toCommit.ac h
    cases h),
  (by
    intro ρ f args K
    simp only [G]
    cases Nat.beq f 29 with
    | true => exact qEntry_nat args K
    | false =>
    simp only [sel]
    rfl),
  (fun ρ f st caps args dst K r h => (by cases h))⟩
theorem hm : Try.prog.follows .mixedOrders = true := by kernel_rfl
theorem e0 : atomsL [] 1 c0 = [] := by kernel_rfl
theorem ok0 (ρ : Type) (st : St) (K : Exit → St → Option ρ) (r : ρ) (h : (L V0) ρ 0 st K = some r) : AW Try.prog (.loop c0) st fun e st' => K e st' = some r := by
  refine loop_ok (ct := ct0) (lv := lv0) (n := 23) (m := 0) (ks := []) (j := 0) (jn := []) (L := (L V0)) Gok hm (by rw [e0]; exact Lor.ok_nil _ _) enc0I (fun k t => F0 k t.1 t.2.1 t.2.2 (fun z1 => K (.exit 0) (mkS 23 [3] [.c (.h 0)] [ro z1] []))) (fun t => rfl) (fun k t => ?_) (fun _ => fuelN) h
  refine (step0 laws_toCommit.Q V0 K _ t.1 t.2.1 t.2.2).trans ?_
  rw [laws_toCommit.wrap]
  refine congrArg (fun W => B0 laws_toCommit.F t.1 t.2.1 t.2.2 W (fun z1 => K (.exit 0) (mkS 23 [3] [.c (.h 0)] [ro z1] []))) ?_
  funext u1 u2 u3
  exact ofC_enc enc0I _ (u1, u2, u3)
theorem e : atomsL [] 0 (bodyOf Try.f8) = [(0, 0, .loop c0)] := by kernel_rfl
theorem acc (t : Vec ((Vec Int) × ByteArray × (Vec (ByteArray × Int × Int)))) (x : Vec ((Vec Int) × ByteArray × (Vec (ByteArray × Int × Int)))) (h : F t = some x) : ACc Try.prog 8 (encA t) [] true [] fun rv obs => (rv, obs) = encR x := by
  refine fun_okc (L := (L V0)) (jn := []) (cmds := []) (ks := []) (hin := []) (fn := Try.f8) (body := (bodyOf Try.f8)) Gok hm Try.func8 (by kernel_rfl) (by kernel_rfl) (by rw [e]; exact Lor.ok_cons ok0 (Lor.ok_nil _ _)) ?_ h
  refine (main laws_toCommit.Q V0 _ t).trans ?_
  rw [V0_enc]
  refine congrArg (fun K => B (F0 fuelN) t K) ?_
  funext x1
  exact ofC_enc encRI some (x1)
theorem ac0 (t : Vec ((Vec Int) × ByteArray × (Vec (ByteArray × Int × Int)))) (x : Vec ((Vec Int) × ByteArray × (Vec (ByteArray × Int × Int)))) (h : F t = some x) : AC Try.prog 8 (encA t) [] true [] fun rv obs => (rv, obs) = encR x := ACc.ac (body := bodyOf Try.f8) Try.func8 (by kernel_rfl) (by kernel_rfl) (acc t x h)
theorem ac (args : List AV) (x : Vec ((Vec Int) × ByteArray × (Vec (ByteArray × Int × Int)))) (h : Q args = some x) : AC Try.prog 8 args [] false [] fun rv obs => (rv, obs) = encR x := by
  obtain ⟨t, rfl, h2⟩ := ofC_some h
  refine (ac0 t x h2).flat fun rv obs e => ?_
  obtain rfl : rv = (encR x).1 := congrArg Prod.fst e
  obtain rfl : obs = (encR x).2 := congrArg Prod.snd e
  refine ⟨by simp [encR, AV.Flat, K.Flat, C.Flat], ?_⟩
  intro o ho
  simp only [encR, List.mem_cons, List.not_mem_nil, or_false] at ho
  subst ho
  exact flat_rw rfl _
end laws_toCommitS
/-! loop.example/g00073/laws.eqIntS -/
namespace laws_eqIntS
noncomputable def B0 {ρ : Type} (v1 : Vec Int) (v2 : Vec Int) (v3 : Int) (W : (Vec Int) → (Vec Int) → Int → Option ρ) (K0 : Unit → Option ρ) (Kr : Bool → Option ρ) : Option ρ :=
  sel (decide (v3 < (v1.n : Int))) (chk (decide (0 ≤ v3 ∧ v3 < (v1.n : Int))) (chk (decide (0 ≤ v3 ∧ v3 < (v2.n : Int))) (sel ((!decide ((v1.g v3.toNat) = (v2.g v3.toNat)))) (Kr false) (W v1 v2 (wr (v3 + (1 : Int))))))) (K0 ())
noncomputable def F0 {ρ : Type} : Nat → (Vec Int) → (Vec Int) → Int → (Unit → Option ρ) → (Bool → Option ρ) → Option ρ
  | 0, _, _, _, _, _ => none
  | k + 1, v1, v2, v3, K0, Kr => B0 v1 v2 v3 (fun v1' v2' v3' => F0 k v1' v2' v3' K0 Kr) K0 Kr
noncomputable def B {ρ : Type} (L0 : (Vec Int) → (Vec Int) → Int → (Unit → Option ρ) → (Bool → Option ρ) → Option ρ) (a1 : Vec Int) (a2 : Vec Int) (K : Bool → Option ρ) : Option ρ :=
  sel ((!decide ((a1.n : Int) = (a2.n : Int)))) (K false) (L0 a1 a2 (0 : Int) (fun _ => K true) (fun x01 => K x01))
noncomputable def F (a1 : Vec Int) (a2 : Vec Int) : Option Bool := B (F0 fuelN) a1 a2 (fun x1 => some (x1))
def encA (t : Vec Int × Vec Int) : List AV := [vl t.1, vl t.2]
def encR (x : Bool) : AV × List Ob := (vb x, [])
theorem encAI : ∀ a b, encA a = encA b → a = b := by
  intro a b h
  obtain ⟨a0, a1⟩ := a
  obtain ⟨b0, b1⟩ := b
  simp [encA, encRw_iff] at h
  simp_all
theorem encRI : ∀ a b, encR a = encR b → a = b := by
  intro a b h
  simp [encR, encRw_iff] at h
  simp_all
noncomputable def Q (args : List AV) : Option Bool := ofC encA (fun t => F t.1 t.2) args
theorem wrap : (fun (y1 : Vec Int) (y2 : Vec Int) => Q [vl y1, vl y2]) = F := by
  funext y1 y2
  exact ofC_enc encAI _ (y1, y2)
noncomputable def G : Orc := ⟨fun f => 9, fun ρ f args K => Option.none, noE, false⟩
noncomputable def L (W0 : (ρ : Type) → List AV → List Ob → (Unit → Option ρ) → (Bool → Option ρ) → Option ρ) : Lor := fun ρ j st K => sel (Nat.beq j 0) (cutO Try.prog 26 [0, 1, 5] 0 [] [] st fun avs obs => W0 ρ avs obs (fun _ => K (.exit 0) (mkS 26 [] [] [] [])) (fun z1 => K .ret (mkS 26 [4] [vb z1] [] []))) (Option.none)
noncomputable def c0 : Code := loopC (atomN [] 0 (bodyOf Try.f12) 0)
def ct0 : Cut := ⟨[0, 1, 5], []⟩
def lv0 : Exit → Cut
  | .exit 0 => ⟨[], []⟩
  | .ret => ⟨[4], []⟩
  | _ => ⟨[], []⟩
theorem step0 (W0) {ρ : Type} (K : Exit → St → Option ρ) (W : List AV → List Ob → Option ρ) (v1 v2 v3) : exC Try.prog (G) (L W0) [] 1 c0 (mkS 26 [0, 1, 5] [vl v1, vl v2, vi v3] [] []) (bodyK Try.prog 26 0 [] ct0 W lv0 K) =
    B0 v1 v2 v3 (fun u1 u2 u3 => W [vl u1, vl u2, vi u3] []) (fun _ => K (.exit 0) (mkS 26 [] [] [] [])) (fun z1 => K .ret (mkS 26 [4] [vb z1] [] [])) := by kernel_rfl
def enc0 (t : Vec Int × Vec Int × Int) : List AV × List Ob := ([vl t.1, vl t.2.1, vi t.2.2], [])
theorem enc0I : ∀ a b, enc0 a = enc0 b → a = b := by
  intro a b h
  obtain ⟨a0, a1, a2⟩ := a
  obtain ⟨b0, b1, b2⟩ := b
  simp [enc0, encRw_iff] at h
  simp_all
noncomputable def V0 : (ρ : Type) → List AV → List Ob → (Unit → Option ρ) → (Bool → Option ρ) → Option ρ := fun ρ avs obs k0 kr => ofC enc0 (fun t => F0 fuelN t.1 t.2.1 t.2.2 k0 kr) (avs, obs)
theorem V0_enc (ρ : Type) : (fun w1 w2 w3 k0 kr => V0 ρ [vl w1, vl w2, vi w3] [] k0 kr) = F0 fuelN := by
  funext w1 w2 w3 k0 kr
  exact ofC_enc enc0I _ (w1, w2, w3)
theorem main (W0) {ρ : Type} (K : AV → List Ob → Option ρ) (a1 a2) : exC Try.prog (G) (L W0) [] 0 (bodyOf Try.f12) (entry 26 [vl a1, vl a2] [] []) (finO Try.prog Try.f12.results.toList 0 [] [] K) =
    B (fun w1 w2 w3 k0 kr => W0 ρ [vl w1, vl w2, vi w3] [] k0 kr) a1 a2 (fun x1 => K (vb x1) []) := by kernel_rfl
theorem Gok : (G).ok Try.prog := ⟨(fun ρ f args K r h => (by cases h)),
  (fun ρ f args K => rfl),
  (fun ρ f st caps args dst K r h => (by cases h))⟩
theorem hm : Try.prog.follows .mixedOrders = true := by kernel_rfl
theorem e0 : atomsL [] 1 c0 = [] := by kernel_rfl
theorem ok0 (ρ : Type) (st : St) (K : Exit → St → Option ρ) (r : ρ) (h : (L V0) ρ 0 st K = some r) : AW Try.prog (.loop c0) st fun e st' => K e st' = some r := by
  refine loop_ok (ct := ct0) (lv := lv0) (n := 26) (m := 0) (ks := []) (j := 0) (jn := []) (L := (L V0)) Gok hm (by rw [e0]; exact Lor.ok_nil _ _) enc0I (fun k t => F0 k t.1 t.2.1 t.2.2 (fun _ => K (.exit 0) (mkS 26 [] [] [] [])) (fun z1 => K .ret (mkS 26 [4] [vb z1] [] []))) (fun t => rfl) (fun k t => ?_) (fun _ => fuelN) h
  refine (step0 V0 K _ t.1 t.2.1 t.2.2).trans ?_
  refine congrArg (fun W => B0 t.1 t.2.1 t.2.2 W (fun _ => K (.exit 0) (mkS 26 [] [] [] [])) (fun z1 => K .ret (mkS 26 [4] [vb z1] [] []))) ?_
  funext u1 u2 u3
  exact ofC_enc enc0I _ (u1, u2, u3)
theorem e : atomsL [] 0 (bodyOf Try.f12) = [(0, 0, .loop c0)] := by kernel_rfl
theorem acc (t : Vec Int × Vec Int) (x : Bool) (h : F t.1 t.2 = some x) : ACc Try.prog 12 (encA t) [] true [] fun rv obs => (rv, obs) = encR x := by
  refine fun_okc (L := (L V0)) (jn := []) (cmds := []) (ks := []) (hin := []) (fn := Try.f12) (body := (bodyOf Try.f12)) Gok hm Try.func12 (by kernel_rfl) (by kernel_rfl) (by rw [e]; exact Lor.ok_cons ok0 (Lor.ok_nil _ _)) ?_ h
  refine (main V0 _ t.1 t.2).trans ?_
  rw [V0_enc]
  refine congrArg (fun K => B (F0 fuelN) t.1 t.2 K) ?_
  funext x1
  exact ofC_enc encRI some (x1)
theorem ac0 (t : Vec Int × Vec Int) (x : Bool) (h : F t.1 t.2 = some x) : AC Try.prog 12 (encA t) [] true [] fun rv obs => (rv, obs) = encR x := ACc.ac (body := bodyOf Try.f12) Try.func12 (by kernel_rfl) (by kernel_rfl) (acc t x h)
theorem ac (args : List AV) (x : Bool) (h : Q args = some x) : AC Try.prog 12 args [] false [] fun rv obs => (rv, obs) = encR x := by
  obtain ⟨t, rfl, h2⟩ := ofC_some h
  refine (ac0 t x h2).flat fun rv obs e => ?_
  obtain rfl : rv = (encR x).1 := congrArg Prod.fst e
  obtain rfl : obs = (encR x).2 := congrArg Prod.snd e
  refine ⟨by simp [encR, AV.Flat, K.Flat, C.Flat], ?_⟩
  simp [encR]
end laws_eqIntS
/-! loop.example/g00073/laws.eqName -/
namespace laws_eqName
noncomputable def B {ρ : Type} (a1 : ByteArray) (a2 : Int) (a3 : Int) (a4 : ByteArray) (a5 : Int) (a6 : Int) (K : Bool → Option ρ) : Option ρ :=
  sel ((!decide (a1 = a4))) (K false) (sel ((!decide (a2 = a5))) (K false) (sel ((!decide (a3 = a6))) (K false) (K true)))
noncomputable def F (a1 : ByteArray) (a2 : Int) (a3 : Int) (a4 : ByteArray) (a5 : Int) (a6 : Int) : Option Bool := B a1 a2 a3 a4 a5 a6 (fun x1 => some (x1))
def encA (t : ByteArray × Int × Int × ByteArray × Int × Int) : List AV := [.a [cs t.1, ci t.2.1, ci t.2.2.1], .a [cs t.2.2.2.1, ci t.2.2.2.2.1, ci t.2.2.2.2.2]]
def encR (x : Bool) : AV × List Ob := (vb x, [])
theorem encAI : ∀ a b, encA a = encA b → a = b := by
  intro a b h
  obtain ⟨a0, a1, a2, a3, a4, a5⟩ := a
  obtain ⟨b0, b1, b2, b3, b4, b5⟩ := b
  simp [encA, encRw_iff] at h
  simp_all
theorem encRI : ∀ a b, encR a = encR b → a = b := by
  intro a b h
  simp [encR, encRw_iff] at h
  simp_all
noncomputable def Q (args : List AV) : Option Bool := ofC encA (fun t => F t.1 t.2.1 t.2.2.1 t.2.2.2.1 t.2.2.2.2.1 t.2.2.2.2.2) args
theorem wrap : (fun (y1 : ByteArray) (y2 : Int) (y3 : Int) (y4 : ByteArray) (y5 : Int) (y6 : Int) => Q [.a [cs y1, ci y2, ci y3], .a [cs y4, ci y5, ci y6]]) = F := by
  funext y1 y2 y3 y4 y5 y6
  exact ofC_enc encAI _ (y1, y2, y3, y4, y5, y6)
noncomputable def G : Orc := ⟨fun f => 9, fun ρ f args K => Option.none, noE, false⟩
noncomputable def L : Lor := fun ρ j st K => Option.none
theorem main {ρ : Type} (K : AV → List Ob → Option ρ) (a1 a2 a3 a4 a5 a6) : exC Try.prog (G) (L) [] 0 (bodyOf Try.f102) (entry 20 [.a [cs a1, ci a2, ci a3], .a [cs a4, ci a5, ci a6]] [] []) (finO Try.prog Try.f102.results.toList 0 [] [] K) =
    B a1 a2 a3 a4 a5 a6 (fun x1 => K (vb x1) []) := by kernel_rfl
theorem Gok : (G).ok Try.prog := ⟨(fun ρ f args K r h => (by cases h)),
  (fun ρ f args K => rfl),
  (fun ρ f st caps args dst K r h => (by cases h))⟩
theorem hm : Try.prog.follows .mixedOrders = true := by kernel_rfl
theorem e : atomsL [] 0 (bodyOf Try.f102) = [] := by kernel_rfl
theorem acc (t : ByteArray × Int × Int × ByteArray × Int × Int) (x : Bool) (h : F t.1 t.2.1 t.2.2.1 t.2.2.2.1 t.2.2.2.2.1 t.2.2.2.2.2 = some x) : ACc Try.prog 102 (encA t) [] true [] fun rv obs => (rv, obs) = encR x := by
  refine fun_okc (L := (L)) (jn := []) (cmds := []) (ks := []) (hin := []) (fn := Try.f102) (body := (bodyOf Try.f102)) Gok hm Try.func102 (by kernel_rfl) (by kernel_rfl) (by rw [e]; exact Lor.ok_nil _ _) ?_ h
  refine (main _ t.1 t.2.1 t.2.2.1 t.2.2.2.1 t.2.2.2.2.1 t.2.2.2.2.2).trans ?_
  refine congrArg (fun K => B t.1 t.2.1 t.2.2.1 t.2.2.2.1 t.2.2.2.2.1 t.2.2.2.2.2 K) ?_
  funext x1
  exact ofC_enc encRI some (x1)
theorem ac0 (t : ByteArray × Int × Int × ByteArray × Int × Int) (x : Bool) (h : F t.1 t.2.1 t.2.2.1 t.2.2.2.1 t.2.2.2.2.1 t.2.2.2.2.2 = some x) : AC Try.prog 102 (encA t) [] true [] fun rv obs => (rv, obs) = encR x := ACc.ac (body := bodyOf Try.f102) Try.func102 (by kernel_rfl) (by kernel_rfl) (acc t x h)
theorem ac (args : List AV) (x : Bool) (h : Q args = some x) : AC Try.prog 102 args [] false [] fun rv obs => (rv, obs) = encR x := by
  obtain ⟨t, rfl, h2⟩ := ofC_some h
  refine (ac0 t x h2).flat fun rv obs e => ?_
  obtain rfl : rv = (encR x).1 := congrArg Prod.fst e
  obtain rfl : obs = (encR x).2 := congrArg Prod.snd e
  refine ⟨by simp [encR, AV.Flat, K.Flat, C.Flat], ?_⟩
  simp [encR]
end laws_eqName
/-! loop.example/g00073/laws.eqNameS -/
namespace laws_eqNameS
noncomputable def B0 {ρ : Type} (C0 : ByteArray → Int → Int → ByteArray → Int → Int → Option Bool) (v1 : Vec (ByteArray × Int × Int)) (v2 : Vec (ByteArray × Int × Int)) (v3 : Int) (W : (Vec (ByteArray × Int × Int)) → (Vec (ByteArray × Int × Int)) → Int → Option ρ) (K0 : Unit → Option ρ) (Kr : Bool → Option ρ) : Option ρ :=
  sel (decide (v3 < (v1.n : Int))) (chk (decide (0 ≤ v3 ∧ v3 < (v1.n : Int))) (chk (decide (0 ≤ v3 ∧ v3 < (v2.n : Int))) ((C0 ((v1.g v3.toNat).1) ((v1.g v3.toNat).2.1) ((v1.g v3.toNat).2.2) ((v2.g v3.toNat).1) ((v2.g v3.toNat).2.1) ((v2.g v3.toNat).2.2)).bind fun r1 => sel ((!r1)) (Kr false) (W v1 v2 (wr (v3 + (1 : Int))))))) (K0 ())
noncomputable def F0 {ρ : Type} : Nat → (Vec (ByteArray × Int × Int)) → (Vec (ByteArray × Int × Int)) → Int → (Unit → Option ρ) → (Bool → Option ρ) → Option ρ
  | 0, _, _, _, _, _ => none
  | k + 1, v1, v2, v3, K0, Kr => B0 laws_eqName.F v1 v2 v3 (fun v1' v2' v3' => F0 k v1' v2' v3' K0 Kr) K0 Kr
noncomputable def B {ρ : Type} (L0 : (Vec (ByteArray × Int × Int)) → (Vec (ByteArray × Int × Int)) → Int → (Unit → Option ρ) → (Bool → Option ρ) → Option ρ) (a1 : Vec (ByteArray × Int × Int)) (a2 : Vec (ByteArray × Int × Int)) (K : Bool → Option ρ) : Option ρ :=
  sel ((!decide ((a1.n : Int) = (a2.n : Int)))) (K false) (L0 a1 a2 (0 : Int) (fun _ => K true) (fun x01 => K x01))
noncomputable def F (a1 : Vec (ByteArray × Int × Int)) (a2 : Vec (ByteArray × Int × Int)) : Option Bool := B (F0 fuelN) a1 a2 (fun x1 => some (x1))
def encA (t : (Vec (ByteArray × Int × Int)) × (Vec (ByteArray × Int × Int))) : List AV := [vl t.1, vl t.2]
def encR (x : Bool) : AV × List Ob := (vb x, [])
theorem encAI : ∀ a b, encA a = encA b → a = b := by
  intro a b h
  obtain ⟨a0, a1⟩ := a
  obtain ⟨b0, b1⟩ := b
  simp [encA, encRw_iff] at h
  simp_all
theorem encRI : ∀ a b, encR a = encR b → a = b := by
  intro a b h
  simp [encR, encRw_iff] at h
  simp_all
noncomputable def Q (args : List AV) : Option Bool := ofC encA (fun t => F t.1 t.2) args
theorem wrap : (fun (y1 : Vec (ByteArray × Int × Int)) (y2 : Vec (ByteArray × Int × Int)) => Q [vl y1, vl y2]) = F := by
  funext y1 y2
  exact ofC_enc encAI _ (y1, y2)
noncomputable def G (Q0 : List AV → Option Bool) : Orc := ⟨fun f => sel (Nat.beq f 102) 0 (9), fun ρ f args K => sel (Nat.beq f 102) (qEntry laws_eqName.encR Q0 args K) (Option.none), noE, false⟩
noncomputable def L (W0 : (ρ : Type) → List AV → List Ob → (Unit → Option ρ) → (Bool → Option ρ) → Option ρ) : Lor := fun ρ j st K => sel (Nat.beq j 0) (cutO Try.prog 27 [0, 1, 5] 0 [] [] st fun avs obs => W0 ρ avs obs (fun _ => K (.exit 0) (mkS 27 [] [] [] [])) (fun z1 => K .ret (mkS 27 [4] [vb z1] [] []))) (Option.none)
noncomputable def c0 : Code := loopC (atomN [] 0 (bodyOf Try.f65) 0)
def ct0 : Cut := ⟨[0, 1, 5], []⟩
def lv0 : Exit → Cut
  | .exit 0 => ⟨[], []⟩
  | .ret => ⟨[4], []⟩
  | _ => ⟨[], []⟩
theorem step0 (Q0) (W0) {ρ : Type} (K : Exit → St → Option ρ) (W : List AV → List Ob → Option ρ) (v1 v2 v3) : exC Try.prog (G Q0) (L W0) [] 1 c0 (mkS 27 [0, 1, 5] [vl v1, vl v2, vi v3] [] []) (bodyK Try.prog 27 0 [] ct0 W lv0 K) =
    B0 (fun y1 y2 y3 y4 y5 y6 => Q0 [.a [cs y1, ci y2, ci y3], .a [cs y4, ci y5, ci y6]]) v1 v2 v3 (fun u1 u2 u3 => W [vl u1, vl u2, vi u3] []) (fun _ => K (.exit 0) (mkS 27 [] [] [] [])) (fun z1 => K .ret (mkS 27 [4] [vb z1] [] [])) := by kernel_rfl
def enc0 (t : (Vec (ByteArray × Int × Int)) × (Vec (ByteArray × Int × Int)) × Int) : List AV × List Ob := ([vl t.1, vl t.2.1, vi t.2.2], [])
theorem enc0I : ∀ a b, enc0 a = enc0 b → a = b := by
  intro a b h
  obtain ⟨a0, a1, a2⟩ := a
  obtain ⟨b0, b1, b2⟩ := b
  simp [enc0, encRw_iff] at h
  simp_all
noncomputable def V0 : (ρ : Type) → List AV → List Ob → (Unit → Option ρ) → (Bool → Option ρ) → Option ρ := fun ρ avs obs k0 kr => ofC enc0 (fun t => F0 fuelN t.1 t.2.1 t.2.2 k0 kr) (avs, obs)
theorem V0_enc (ρ : Type) : (fun w1 w2 w3 k0 kr => V0 ρ [vl w1, vl w2, vi w3] [] k0 kr) = F0 fuelN := by
  funext w1 w2 w3 k0 kr
  exact ofC_enc enc0I _ (w1, w2, w3)
theorem main (Q0) (W0) {ρ : Type} (K : AV → List Ob → Option ρ) (a1 a2) : exC Try.prog (G Q0) (L W0) [] 0 (bodyOf Try.f65) (entry 27 [vl a1, vl a2] [] []) (finO Try.prog Try.f65.results.toList 0 [] [] K) =
    B (fun w1 w2 w3 k0 kr => W0 ρ [vl w1, vl w2, vi w3] [] k0 kr) a1 a2 (fun x1 => K (vb x1) []) := by kernel_rfl
theorem Gok : (G laws_eqName.Q).ok Try.prog := ⟨(by
    intro ρ f args K r h
    rcases sel_cases h with ⟨hb, h⟩ | ⟨-, h⟩
    · obtain rfl := beq_nat hb
      exact qEntry_ok laws_eqName.ac h
    cases h),
  (by
    intro ρ f args K
    simp only [G]
    cases Nat.beq f 102 with
    | true => exact qEntry_nat args K
    | false =>
    simp only [sel]
    rfl),
  (fun ρ f st caps args dst K r h => (by cases h))⟩
theorem hm : Try.prog.follows .mixedOrders = true := by kernel_rfl
theorem e0 : atomsL [] 1 c0 = [] := by kernel_rfl
theorem ok0 (ρ : Type) (st : St) (K : Exit → St → Option ρ) (r : ρ) (h : (L V0) ρ 0 st K = some r) : AW Try.prog (.loop c0) st fun e st' => K e st' = some r := by
  refine loop_ok (ct := ct0) (lv := lv0) (n := 27) (m := 0) (ks := []) (j := 0) (jn := []) (L := (L V0)) Gok hm (by rw [e0]; exact Lor.ok_nil _ _) enc0I (fun k t => F0 k t.1 t.2.1 t.2.2 (fun _ => K (.exit 0) (mkS 27 [] [] [] [])) (fun z1 => K .ret (mkS 27 [4] [vb z1] [] []))) (fun t => rfl) (fun k t => ?_) (fun _ => fuelN) h
  refine (step0 laws_eqName.Q V0 K _ t.1 t.2.1 t.2.2).trans ?_
  rw [laws_eqName.wrap]
  refine congrArg (fun W => B0 laws_eqName.F t.1 t.2.1 t.2.2 W (fun _ => K (.exit 0) (mkS 27 [] [] [] [])) (fun z1 => K .ret (mkS 27 [4] [vb z1] [] []))) ?_
  funext u1 u2 u3
  exact ofC_enc enc0I _ (u1, u2, u3)
theorem e : atomsL [] 0 (bodyOf Try.f65) = [(0, 0, .loop c0)] := by kernel_rfl
theorem acc (t : (Vec (ByteArray × Int × Int)) × (Vec (ByteArray × Int × Int))) (x : Bool) (h : F t.1 t.2 = some x) : ACc Try.prog 65 (encA t) [] true [] fun rv obs => (rv, obs) = encR x := by
  refine fun_okc (L := (L V0)) (jn := []) (cmds := []) (ks := []) (hin := []) (fn := Try.f65) (body := (bodyOf Try.f65)) Gok hm Try.func65 (by kernel_rfl) (by kernel_rfl) (by rw [e]; exact Lor.ok_cons ok0 (Lor.ok_nil _ _)) ?_ h
  refine (main laws_eqName.Q V0 _ t.1 t.2).trans ?_
  rw [V0_enc]
  refine congrArg (fun K => B (F0 fuelN) t.1 t.2 K) ?_
  funext x1
  exact ofC_enc encRI some (x1)
theorem ac0 (t : (Vec (ByteArray × Int × Int)) × (Vec (ByteArray × Int × Int))) (x : Bool) (h : F t.1 t.2 = some x) : AC Try.prog 65 (encA t) [] true [] fun rv obs => (rv, obs) = encR x := ACc.ac (body := bodyOf Try.f65) Try.func65 (by kernel_rfl) (by kernel_rfl) (acc t x h)
theorem ac (args : List AV) (x : Bool) (h : Q args = some x) : AC Try.prog 65 args [] false [] fun rv obs => (rv, obs) = encR x := by
  obtain ⟨t, rfl, h2⟩ := ofC_some h
  refine (ac0 t x h2).flat fun rv obs e => ?_
  obtain rfl : rv = (encR x).1 := congrArg Prod.fst e
  obtain rfl : obs = (encR x).2 := congrArg Prod.snd e
  refine ⟨by simp [encR, AV.Flat, K.Flat, C.Flat], ?_⟩
  simp [encR]
end laws_eqNameS
/-! loop.example/g00073/laws.eqCommit -/
namespace laws_eqCommit
noncomputable def B {ρ : Type} (C0 : (Vec Int) → (Vec Int) → Option Bool) (C1 : (Vec (ByteArray × Int × Int)) → (Vec (ByteArray × Int × Int)) → Option Bool) (a1 : Vec Int) (a2 : ByteArray) (a3 : Vec (ByteArray × Int × Int)) (a4 : Vec Int) (a5 : ByteArray) (a6 : Vec (ByteArray × Int × Int)) (K : Bool → Option ρ) : Option ρ :=
  (C0 a1 a4).bind fun r1 => sel ((!r1)) (K false) (sel ((!decide (a2 = a5))) (K false) ((C1 a3 a6).bind fun r2 => sel ((!r2)) (K false) (K true)))
noncomputable def F (a1 : Vec Int) (a2 : ByteArray) (a3 : Vec (ByteArray × Int × Int)) (a4 : Vec Int) (a5 : ByteArray) (a6 : Vec (ByteArray × Int × Int)) : Option Bool := B laws_eqIntS.F laws_eqNameS.F a1 a2 a3 a4 a5 a6 (fun x1 => some (x1))
def encA (t : Vec Int × ByteArray × (Vec (ByteArray × Int × Int)) × Vec Int × ByteArray × (Vec (ByteArray × Int × Int))) : List AV := [.a [cl t.1, cs t.2.1, cl t.2.2.1], .a [cl t.2.2.2.1, cs t.2.2.2.2.1, cl t.2.2.2.2.2]]
def encR (x : Bool) : AV × List Ob := (vb x, [])
theorem encAI : ∀ a b, encA a = encA b → a = b := by
  intro a b h
  obtain ⟨a0, a1, a2, a3, a4, a5⟩ := a
  obtain ⟨b0, b1, b2, b3, b4, b5⟩ := b
  simp [encA, encRw_iff] at h
  simp_all
theorem encRI : ∀ a b, encR a = encR b → a = b := by
  intro a b h
  simp [encR, encRw_iff] at h
  simp_all
noncomputable def Q (args : List AV) : Option Bool := ofC encA (fun t => F t.1 t.2.1 t.2.2.1 t.2.2.2.1 t.2.2.2.2.1 t.2.2.2.2.2) args
theorem wrap : (fun (y1 : Vec Int) (y2 : ByteArray) (y3 : Vec (ByteArray × Int × Int)) (y4 : Vec Int) (y5 : ByteArray) (y6 : Vec (ByteArray × Int × Int)) => Q [.a [cl y1, cs y2, cl y3], .a [cl y4, cs y5, cl y6]]) = F := by
  funext y1 y2 y3 y4 y5 y6
  exact ofC_enc encAI _ (y1, y2, y3, y4, y5, y6)
noncomputable def G (Q0 : List AV → Option Bool) (Q1 : List AV → Option Bool) : Orc := ⟨fun f => sel (Nat.beq f 12) 0 (sel (Nat.beq f 65) 0 (9)), fun ρ f args K => sel (Nat.beq f 12) (qEntry laws_eqIntS.encR Q0 args K) (sel (Nat.beq f 65) (qEntry laws_eqNameS.encR Q1 args K) (Option.none)), noE, false⟩
noncomputable def L : Lor := fun ρ j st K => Option.none
theorem main (Q0 Q1) {ρ : Type} (K : AV → List Ob → Option ρ) (a1 a2 a3 a4 a5 a6) : exC Try.prog (G Q0 Q1) (L) [] 0 (bodyOf Try.f35) (entry 22 [.a [cl a1, cs a2, cl a3], .a [cl a4, cs a5, cl a6]] [] []) (finO Try.prog Try.f35.results.toList 0 [] [] K) =
    B (fun y1 y2 => Q0 [vl y1, vl y2]) (fun y1 y2 => Q1 [vl y1, vl y2]) a1 a2 a3 a4 a5 a6 (fun x1 => K (vb x1) []) := by kernel_rfl
theorem Gok : (G laws_eqIntS.Q laws_eqNameS.Q).ok Try.prog := ⟨(by
    intro ρ f args K r h
    rcases sel_cases h with ⟨hb, h⟩ | ⟨-, h⟩
    · obtain rfl := beq_nat hb
      exact qEntry_ok laws_eqIntS.ac h
    rcases sel_cases h with ⟨hb, h⟩ | ⟨-, h⟩
    · obtain rfl := beq_nat hb
      exact qEntry_ok laws_eqNameS.ac h
    cases h),
  (by
    intro ρ f args K
    simp only [G]
    cases Nat.beq f 12 with
    | true => exact qEntry_nat args K
    | false =>
    simp only [sel]
    cases Nat.beq f 65 with
    | true => exact qEntry_nat args K
    | false =>
    simp only [sel]
    rfl),
  (fun ρ f st caps args dst K r h => (by cases h))⟩
theorem hm : Try.prog.follows .mixedOrders = true := by kernel_rfl
theorem e : atomsL [] 0 (bodyOf Try.f35) = [] := by kernel_rfl
theorem acc (t : Vec Int × ByteArray × (Vec (ByteArray × Int × Int)) × Vec Int × ByteArray × (Vec (ByteArray × Int × Int))) (x : Bool) (h : F t.1 t.2.1 t.2.2.1 t.2.2.2.1 t.2.2.2.2.1 t.2.2.2.2.2 = some x) : ACc Try.prog 35 (encA t) [] true [] fun rv obs => (rv, obs) = encR x := by
  refine fun_okc (L := (L)) (jn := []) (cmds := []) (ks := []) (hin := []) (fn := Try.f35) (body := (bodyOf Try.f35)) Gok hm Try.func35 (by kernel_rfl) (by kernel_rfl) (by rw [e]; exact Lor.ok_nil _ _) ?_ h
  refine (main laws_eqIntS.Q laws_eqNameS.Q _ t.1 t.2.1 t.2.2.1 t.2.2.2.1 t.2.2.2.2.1 t.2.2.2.2.2).trans ?_
  rw [laws_eqIntS.wrap, laws_eqNameS.wrap]
  refine congrArg (fun K => B laws_eqIntS.F laws_eqNameS.F t.1 t.2.1 t.2.2.1 t.2.2.2.1 t.2.2.2.2.1 t.2.2.2.2.2 K) ?_
  funext x1
  exact ofC_enc encRI some (x1)
theorem ac0 (t : Vec Int × ByteArray × (Vec (ByteArray × Int × Int)) × Vec Int × ByteArray × (Vec (ByteArray × Int × Int))) (x : Bool) (h : F t.1 t.2.1 t.2.2.1 t.2.2.2.1 t.2.2.2.2.1 t.2.2.2.2.2 = some x) : AC Try.prog 35 (encA t) [] true [] fun rv obs => (rv, obs) = encR x := ACc.ac (body := bodyOf Try.f35) Try.func35 (by kernel_rfl) (by kernel_rfl) (acc t x h)
theorem ac (args : List AV) (x : Bool) (h : Q args = some x) : AC Try.prog 35 args [] false [] fun rv obs => (rv, obs) = encR x := by
  obtain ⟨t, rfl, h2⟩ := ofC_some h
  refine (ac0 t x h2).flat fun rv obs e => ?_
  obtain rfl : rv = (encR x).1 := congrArg Prod.fst e
  obtain rfl : obs = (encR x).2 := congrArg Prod.snd e
  refine ⟨by simp [encR, AV.Flat, K.Flat, C.Flat], ?_⟩
  simp [encR]
end laws_eqCommit
/-! loop.example/g00073/laws.eqCommitS -/
namespace laws_eqCommitS
noncomputable def B0 {ρ : Type} (C0 : (Vec Int) → ByteArray → (Vec (ByteArray × Int × Int)) → (Vec Int) → ByteArray → (Vec (ByteArray × Int × Int)) → Option Bool) (v1 : Vec ((Vec Int) × ByteArray × (Vec (ByteArray × Int × Int)))) (v2 : Vec ((Vec Int) × ByteArray × (Vec (ByteArray × Int × Int)))) (v3 : Int) (W : (Vec ((Vec Int) × ByteArray × (Vec (ByteArray × Int × Int)))) → (Vec ((Vec Int) × ByteArray × (Vec (ByteArray × Int × Int)))) → Int → Option ρ) (K0 : Unit → Option ρ) (Kr : Bool → Option ρ) : Option ρ :=
  sel (decide (v3 < (v1.n : Int))) (chk (decide (0 ≤ v3 ∧ v3 < (v1.n : Int))) (chk (decide (0 ≤ v3 ∧ v3 < (v2.n : Int))) ((C0 ((v1.g v3.toNat).1) ((v1.g v3.toNat).2.1) ((v1.g v3.toNat).2.2) ((v2.g v3.toNat).1) ((v2.g v3.toNat).2.1) ((v2.g v3.toNat).2.2)).bind fun r1 => sel ((!r1)) (Kr false) (W v1 v2 (wr (v3 + (1 : Int))))))) (K0 ())
noncomputable def F0 {ρ : Type} : Nat → (Vec ((Vec Int) × ByteArray × (Vec (ByteArray × Int × Int)))) → (Vec ((Vec Int) × ByteArray × (Vec (ByteArray × Int × Int)))) → Int → (Unit → Option ρ) → (Bool → Option ρ) → Option ρ
  | 0, _, _, _, _, _ => none
  | k + 1, v1, v2, v3, K0, Kr => B0 laws_eqCommit.F v1 v2 v3 (fun v1' v2' v3' => F0 k v1' v2' v3' K0 Kr) K0 Kr
noncomputable def B {ρ : Type} (L0 : (Vec ((Vec Int) × ByteArray × (Vec (ByteArray × Int × Int)))) → (Vec ((Vec Int) × ByteArray × (Vec (ByteArray × Int × Int)))) → Int → (Unit → Option ρ) → (Bool → Option ρ) → Option ρ) (a1 : Vec ((Vec Int) × ByteArray × (Vec (ByteArray × Int × Int)))) (a2 : Vec ((Vec Int) × ByteArray × (Vec (ByteArray × Int × Int)))) (K : Bool → Option ρ) : Option ρ :=
  sel ((!decide ((a1.n : Int) = (a2.n : Int)))) (K false) (L0 a1 a2 (0 : Int) (fun _ => K true) (fun x01 => K x01))
noncomputable def F (a1 : Vec ((Vec Int) × ByteArray × (Vec (ByteArray × Int × Int)))) (a2 : Vec ((Vec Int) × ByteArray × (Vec (ByteArray × Int × Int)))) : Option Bool := B (F0 fuelN) a1 a2 (fun x1 => some (x1))
def encA (t : (Vec ((Vec Int) × ByteArray × (Vec (ByteArray × Int × Int)))) × (Vec ((Vec Int) × ByteArray × (Vec (ByteArray × Int × Int))))) : List AV := [vl t.1, vl t.2]
def encR (x : Bool) : AV × List Ob := (vb x, [])
theorem encAI : ∀ a b, encA a = encA b → a = b := by
  intro a b h
  obtain ⟨a0, a1⟩ := a
  obtain ⟨b0, b1⟩ := b
  simp [encA, encRw_iff] at h
  simp_all
theorem encRI : ∀ a b, encR a = encR b → a = b := by
  intro a b h
  simp [encR, encRw_iff] at h
  simp_all
noncomputable def Q (args : List AV) : Option Bool := ofC encA (fun t => F t.1 t.2) args
theorem wrap : (fun (y1 : Vec ((Vec Int) × ByteArray × (Vec (ByteArray × Int × Int)))) (y2 : Vec ((Vec Int) × ByteArray × (Vec (ByteArray × Int × Int)))) => Q [vl y1, vl y2]) = F := by
  funext y1 y2
  exact ofC_enc encAI _ (y1, y2)
noncomputable def G (Q0 : List AV → Option Bool) : Orc := ⟨fun f => sel (Nat.beq f 35) 0 (9), fun ρ f args K => sel (Nat.beq f 35) (qEntry laws_eqCommit.encR Q0 args K) (Option.none), noE, false⟩
noncomputable def L (W0 : (ρ : Type) → List AV → List Ob → (Unit → Option ρ) → (Bool → Option ρ) → Option ρ) : Lor := fun ρ j st K => sel (Nat.beq j 0) (cutO Try.prog 27 [0, 1, 5] 0 [] [] st fun avs obs => W0 ρ avs obs (fun _ => K (.exit 0) (mkS 27 [] [] [] [])) (fun z1 => K .ret (mkS 27 [4] [vb z1] [] []))) (Option.none)
noncomputable def c0 : Code := loopC (atomN [] 0 (bodyOf Try.f11) 0)
def ct0 : Cut := ⟨[0, 1, 5], []⟩
def lv0 : Exit → Cut
  | .exit 0 => ⟨[], []⟩
  | .ret => ⟨[4], []⟩
  | _ => ⟨[], []⟩
theorem step0 (Q0) (W0) {ρ : Type} (K : Exit → St → Option ρ) (W : List AV → List Ob → Option ρ) (v1 v2 v3) : exC Try.prog (G Q0) (L W0) [] 1 c0 (mkS 27 [0, 1, 5] [vl v1, vl v2, vi v3] [] []) (bodyK Try.prog 27 0 [] ct0 W lv0 K) =
    B0 (fun y1 y2 y3 y4 y5 y6 => Q0 [.a [cl y1, cs y2, cl y3], .a [cl y4, cs y5, cl y6]]) v1 v2 v3 (fun u1 u2 u3 => W [vl u1, vl u2, vi u3] []) (fun _ => K (.exit 0) (mkS 27 [] [] [] [])) (fun z1 => K .ret (mkS 27 [4] [vb z1] [] [])) := by kernel_rfl
def enc0 (t : (Vec ((Vec Int) × ByteArray × (Vec (ByteArray × Int × Int)))) × (Vec ((Vec Int) × ByteArray × (Vec (ByteArray × Int × Int)))) × Int) : List AV × List Ob := ([vl t.1, vl t.2.1, vi t.2.2], [])
theorem enc0I : ∀ a b, enc0 a = enc0 b → a = b := by
  intro a b h
  obtain ⟨a0, a1, a2⟩ := a
  obtain ⟨b0, b1, b2⟩ := b
  simp [enc0, encRw_iff] at h
  simp_all
noncomputable def V0 : (ρ : Type) → List AV → List Ob → (Unit → Option ρ) → (Bool → Option ρ) → Option ρ := fun ρ avs obs k0 kr => ofC enc0 (fun t => F0 fuelN t.1 t.2.1 t.2.2 k0 kr) (avs, obs)
theorem V0_enc (ρ : Type) : (fun w1 w2 w3 k0 kr => V0 ρ [vl w1, vl w2, vi w3] [] k0 kr) = F0 fuelN := by
  funext w1 w2 w3 k0 kr
  exact ofC_enc enc0I _ (w1, w2, w3)
theorem main (Q0) (W0) {ρ : Type} (K : AV → List Ob → Option ρ) (a1 a2) : exC Try.prog (G Q0) (L W0) [] 0 (bodyOf Try.f11) (entry 27 [vl a1, vl a2] [] []) (finO Try.prog Try.f11.results.toList 0 [] [] K) =
    B (fun w1 w2 w3 k0 kr => W0 ρ [vl w1, vl w2, vi w3] [] k0 kr) a1 a2 (fun x1 => K (vb x1) []) := by kernel_rfl
theorem Gok : (G laws_eqCommit.Q).ok Try.prog := ⟨(by
    intro ρ f args K r h
    rcases sel_cases h with ⟨hb, h⟩ | ⟨-, h⟩
    · obtain rfl := beq_nat hb
      exact qEntry_ok laws_eqCommit.ac h
    cases h),
  (by
    intro ρ f args K
    simp only [G]
    cases Nat.beq f 35 with
    | true => exact qEntry_nat args K
    | false =>
    simp only [sel]
    rfl),
  (fun ρ f st caps args dst K r h => (by cases h))⟩
theorem hm : Try.prog.follows .mixedOrders = true := by kernel_rfl
theorem e0 : atomsL [] 1 c0 = [] := by kernel_rfl
theorem ok0 (ρ : Type) (st : St) (K : Exit → St → Option ρ) (r : ρ) (h : (L V0) ρ 0 st K = some r) : AW Try.prog (.loop c0) st fun e st' => K e st' = some r := by
  refine loop_ok (ct := ct0) (lv := lv0) (n := 27) (m := 0) (ks := []) (j := 0) (jn := []) (L := (L V0)) Gok hm (by rw [e0]; exact Lor.ok_nil _ _) enc0I (fun k t => F0 k t.1 t.2.1 t.2.2 (fun _ => K (.exit 0) (mkS 27 [] [] [] [])) (fun z1 => K .ret (mkS 27 [4] [vb z1] [] []))) (fun t => rfl) (fun k t => ?_) (fun _ => fuelN) h
  refine (step0 laws_eqCommit.Q V0 K _ t.1 t.2.1 t.2.2).trans ?_
  rw [laws_eqCommit.wrap]
  refine congrArg (fun W => B0 laws_eqCommit.F t.1 t.2.1 t.2.2 W (fun _ => K (.exit 0) (mkS 27 [] [] [] [])) (fun z1 => K .ret (mkS 27 [4] [vb z1] [] []))) ?_
  funext u1 u2 u3
  exact ofC_enc enc0I _ (u1, u2, u3)
theorem e : atomsL [] 0 (bodyOf Try.f11) = [(0, 0, .loop c0)] := by kernel_rfl
theorem acc (t : (Vec ((Vec Int) × ByteArray × (Vec (ByteArray × Int × Int)))) × (Vec ((Vec Int) × ByteArray × (Vec (ByteArray × Int × Int))))) (x : Bool) (h : F t.1 t.2 = some x) : ACc Try.prog 11 (encA t) [] true [] fun rv obs => (rv, obs) = encR x := by
  refine fun_okc (L := (L V0)) (jn := []) (cmds := []) (ks := []) (hin := []) (fn := Try.f11) (body := (bodyOf Try.f11)) Gok hm Try.func11 (by kernel_rfl) (by kernel_rfl) (by rw [e]; exact Lor.ok_cons ok0 (Lor.ok_nil _ _)) ?_ h
  refine (main laws_eqCommit.Q V0 _ t.1 t.2).trans ?_
  rw [V0_enc]
  refine congrArg (fun K => B (F0 fuelN) t.1 t.2 K) ?_
  funext x1
  exact ofC_enc encRI some (x1)
theorem ac0 (t : (Vec ((Vec Int) × ByteArray × (Vec (ByteArray × Int × Int)))) × (Vec ((Vec Int) × ByteArray × (Vec (ByteArray × Int × Int))))) (x : Bool) (h : F t.1 t.2 = some x) : AC Try.prog 11 (encA t) [] true [] fun rv obs => (rv, obs) = encR x := ACc.ac (body := bodyOf Try.f11) Try.func11 (by kernel_rfl) (by kernel_rfl) (acc t x h)
theorem ac (args : List AV) (x : Bool) (h : Q args = some x) : AC Try.prog 11 args [] false [] fun rv obs => (rv, obs) = encR x := by
  obtain ⟨t, rfl, h2⟩ := ofC_some h
  refine (ac0 t x h2).flat fun rv obs e => ?_
  obtain rfl : rv = (encR x).1 := congrArg Prod.fst e
  obtain rfl : obs = (encR x).2 := congrArg Prod.snd e
  refine ⟨by simp [encR, AV.Flat, K.Flat, C.Flat], ?_⟩
  simp [encR]
end laws_eqCommitS
/-! loop.example/g00073/laws.FnExactCommitsOk -/
namespace laws_FnExactCommitsOk
noncomputable def B {ρ : Type} (C0 : (Vec ((Vec Int) × ByteArray × (Vec (ByteArray × Int × Int)))) → Int → Option Int) (C1 : (Vec ((Vec Int) × ByteArray × (Vec (ByteArray × Int × Int)))) → Option (Vec ((Vec Int) × ByteArray × (Vec (ByteArray × Int × Int))))) (C2 : (Vec Int) → Option (Vec Int)) (C3 : (Vec ((Vec Int) × ByteArray × (Vec (ByteArray × Int × Int)))) → (Vec Int) → Option Bool) (C4 : (Vec ((Vec Int) × ByteArray × (Vec (ByteArray × Int × Int)))) → (Vec Int) → Option Bool) (C5 : (Vec ((Vec Int) × ByteArray × (Vec (ByteArray × Int × Int)))) → (Vec ((Vec Int) × ByteArray × (Vec (ByteArray × Int × Int)))) → Option Bool) (C6 : (Vec Int) → (Vec Int) → Option Bool) (a1 : Vec ((Vec Int) × ByteArray × (Vec (ByteArray × Int × Int)))) (a2 : Vec Int) (K : Bool → Option ρ) : Option ρ :=
  sel (decide ((1048576 : Int) < (a2.n : Int))) (K true) ((C0 a1 (1048576 : Int)).bind fun r1 => sel (decide (r1 < (0 : Int))) (K true) ((C1 a1).bind fun r2 => (C2 a2).bind fun r3 => (C3 r2 r3).bind fun r4 => (C1 a1).bind fun r5 => (C2 a2).bind fun r6 => (C4 r5 r6).bind fun r7 => sel ((!(r7 == r4))) (K false) ((C1 a1).bind fun r8 => (C5 r5 r8).bind fun r9 => sel ((!r9)) (K false) ((C2 a2).bind fun r10 => (C6 r6 r10).bind fun r11 => sel ((!r11)) (K false) (K true)))))
noncomputable def F (a1 : Vec ((Vec Int) × ByteArray × (Vec (ByteArray × Int × Int)))) (a2 : Vec Int) : Option Bool := B laws_szCommitS.F laws_toCommitS.F laws_toIntS.F spec_CommitsOk.F impl_CommitsOk.F laws_eqCommitS.F laws_eqIntS.F a1 a2 (fun x1 => some (x1))
def encA (t : (Vec ((Vec Int) × ByteArray × (Vec (ByteArray × Int × Int)))) × Vec Int) : List AV := [vl t.1, vl t.2]
def encR (x : Bool) : AV × List Ob := (vb x, [])
theorem encAI : ∀ a b, encA a = encA b → a = b := by
  intro a b h
  obtain ⟨a0, a1⟩ := a
  obtain ⟨b0, b1⟩ := b
  simp [encA, encRw_iff] at h
  simp_all
theorem encRI : ∀ a b, encR a = encR b → a = b := by
  intro a b h
  simp [encR, encRw_iff] at h
  simp_all
noncomputable def Q (args : List AV) : Option Bool := ofC encA (fun t => F t.1 t.2) args
theorem wrap : (fun (y1 : Vec ((Vec Int) × ByteArray × (Vec (ByteArray × Int × Int)))) (y2 : Vec Int) => Q [vl y1, vl y2]) = F := by
  funext y1 y2
  exact ofC_enc encAI _ (y1, y2)
noncomputable def G (Q0 : List AV → Option Int) (Q1 : List AV → Option (Vec ((Vec Int) × ByteArray × (Vec (ByteArray × Int × Int))))) (Q2 : List AV → Option (Vec Int)) (Q3 : List AV → Option Bool) (Q4 : List AV → Option Bool) (Q5 : List AV → Option Bool) (Q6 : List AV → Option Bool) : Orc := ⟨fun f => sel (Nat.beq f 6) 0 (sel (Nat.beq f 8) 0 (sel (Nat.beq f 9) 0 (sel (Nat.beq f 7) 0 (sel (Nat.beq f 10) 0 (sel (Nat.beq f 11) 0 (sel (Nat.beq f 12) 0 (9))))))), fun ρ f args K => sel (Nat.beq f 6) (qEntry laws_szCommitS.encR Q0 args K) (sel (Nat.beq f 8) (qEntry laws_toCommitS.encR Q1 args K) (sel (Nat.beq f 9) (qEntry laws_toIntS.encR Q2 args K) (sel (Nat.beq f 7) (qEntry spec_CommitsOk.encR Q3 args K) (sel (Nat.beq f 10) (qEntry impl_CommitsOk.encR Q4 args K) (sel (Nat.beq f 11) (qEntry laws_eqCommitS.encR Q5 args K) (sel (Nat.beq f 12) (qEntry laws_eqIntS.encR Q6 args K) (Option.none))))))), noE, false⟩
noncomputable def L : Lor := fun ρ j st K => Option.none
theorem main (Q0 Q1 Q2 Q3 Q4 Q5 Q6) {ρ : Type} (K : AV → List Ob → Option ρ) (a1 a2) : exC Try.prog (G Q0 Q1 Q2 Q3 Q4 Q5 Q6) (L) [] 0 (bodyOf Try.f3) (entry 43 [vl a1, vl a2] [] []) (finO Try.prog Try.f3.results.toList 0 [] [] K) =
    B (fun y1 y2 => Q0 [vl y1, vi y2]) (fun y1 => Q1 [vl y1]) (fun y1 => Q2 [vl y1]) (fun y1 y2 => Q3 [vl y1, vl y2]) (fun y1 y2 => Q4 [vl y1, vl y2]) (fun y1 y2 => Q5 [vl y1, vl y2]) (fun y1 y2 => Q6 [vl y1, vl y2]) a1 a2 (fun x1 => K (vb x1) []) := by kernel_rfl
theorem Gok : (G laws_szCommitS.Q laws_toCommitS.Q laws_toIntS.Q spec_CommitsOk.Q impl_CommitsOk.Q laws_eqCommitS.Q laws_eqIntS.Q).ok Try.prog := ⟨(by
    intro ρ f args K r h
    rcases sel_cases h with ⟨hb, h⟩ | ⟨-, h⟩
    · obtain rfl := beq_nat hb
      exact qEntry_ok laws_szCommitS.ac h
    rcases sel_cases h with ⟨hb, h⟩ | ⟨-, h⟩
    · obtain rfl := beq_nat hb
      exact qEntry_ok laws_toCommitS.ac h
    rcases sel_cases h with ⟨hb, h⟩ | ⟨-, h⟩
    · obtain rfl := beq_nat hb
      exact qEntry_ok laws_toIntS.ac h
    rcases sel_cases h with ⟨hb, h⟩ | ⟨-, h⟩
    · obtain rfl := beq_nat hb
      exact qEntry_ok spec_CommitsOk.ac h
    rcases sel_cases h with ⟨hb, h⟩ | ⟨-, h⟩
    · obtain rfl := beq_nat hb
      exact qEntry_ok impl_CommitsOk.ac h
    rcases sel_cases h with ⟨hb, h⟩ | ⟨-, h⟩
    · obtain rfl := beq_nat hb
      exact qEntry_ok laws_eqCommitS.ac h
    rcases sel_cases h with ⟨hb, h⟩ | ⟨-, h⟩
    · obtain rfl := beq_nat hb
      exact qEntry_ok laws_eqIntS.ac h
    cases h),
  (by
    intro ρ f args K
    simp only [G]
    cases Nat.beq f 6 with
    | true => exact qEntry_nat args K
    | false =>
    simp only [sel]
    cases Nat.beq f 8 with
    | true => exact qEntry_nat args K
    | false =>
    simp only [sel]
    cases Nat.beq f 9 with
    | true => exact qEntry_nat args K
    | false =>
    simp only [sel]
    cases Nat.beq f 7 with
    | true => exact qEntry_nat args K
    | false =>
    simp only [sel]
    cases Nat.beq f 10 with
    | true => exact qEntry_nat args K
    | false =>
    simp only [sel]
    cases Nat.beq f 11 with
    | true => exact qEntry_nat args K
    | false =>
    simp only [sel]
    cases Nat.beq f 12 with
    | true => exact qEntry_nat args K
    | false =>
    simp only [sel]
    rfl),
  (fun ρ f st caps args dst K r h => (by cases h))⟩
theorem hm : Try.prog.follows .mixedOrders = true := by kernel_rfl
theorem e : atomsL [] 0 (bodyOf Try.f3) = [] := by kernel_rfl
theorem acc (t : (Vec ((Vec Int) × ByteArray × (Vec (ByteArray × Int × Int)))) × Vec Int) (x : Bool) (h : F t.1 t.2 = some x) : ACc Try.prog 3 (encA t) [] true [] fun rv obs => (rv, obs) = encR x := by
  refine fun_okc (L := (L)) (jn := []) (cmds := []) (ks := []) (hin := []) (fn := Try.f3) (body := (bodyOf Try.f3)) Gok hm Try.func3 (by kernel_rfl) (by kernel_rfl) (by rw [e]; exact Lor.ok_nil _ _) ?_ h
  refine (main laws_szCommitS.Q laws_toCommitS.Q laws_toIntS.Q spec_CommitsOk.Q impl_CommitsOk.Q laws_eqCommitS.Q laws_eqIntS.Q _ t.1 t.2).trans ?_
  rw [laws_szCommitS.wrap, laws_toCommitS.wrap, laws_toIntS.wrap, spec_CommitsOk.wrap, impl_CommitsOk.wrap, laws_eqCommitS.wrap, laws_eqIntS.wrap]
  refine congrArg (fun K => B laws_szCommitS.F laws_toCommitS.F laws_toIntS.F spec_CommitsOk.F impl_CommitsOk.F laws_eqCommitS.F laws_eqIntS.F t.1 t.2 K) ?_
  funext x1
  exact ofC_enc encRI some (x1)
theorem ac0 (t : (Vec ((Vec Int) × ByteArray × (Vec (ByteArray × Int × Int)))) × Vec Int) (x : Bool) (h : F t.1 t.2 = some x) : AC Try.prog 3 (encA t) [] true [] fun rv obs => (rv, obs) = encR x := ACc.ac (body := bodyOf Try.f3) Try.func3 (by kernel_rfl) (by kernel_rfl) (acc t x h)
theorem ac (args : List AV) (x : Bool) (h : Q args = some x) : AC Try.prog 3 args [] false [] fun rv obs => (rv, obs) = encR x := by
  obtain ⟨t, rfl, h2⟩ := ofC_some h
  refine (ac0 t x h2).flat fun rv obs e => ?_
  obtain rfl : rv = (encR x).1 := congrArg Prod.fst e
  obtain rfl : obs = (encR x).2 := congrArg Prod.snd e
  refine ⟨by simp [encR, AV.Flat, K.Flat, C.Flat], ?_⟩
  simp [encR]
end laws_FnExactCommitsOk
end Go.Al
