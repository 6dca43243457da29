import Derived.Test.YtbhcecfdgkgjmaaAlF
import Derived.Test.YtbhcecfdgkgjmaaSC
import Derived.Test.YtbhcecfdgkgjmaaGPut
set_option linter.unusedVariables false
set_option linter.unusedSimpArgs false
set_option linter.constructorNameAsVariable false
set_option linter.unusedSectionVars false
set_option maxRecDepth 100000
namespace Go.Al
open Go.Proofs

/-! loop.example/g00073/laws.szName -/
namespace laws_szName
noncomputable def B {ρ : Type} (a1 : ByteArray) (a2 : Int) (a3 : Int) (a4 : Int) (K : Int → Option ρ) : Option ρ :=
  sel (decide ((wr (a4 - (a1.size : Int))) < (0 : Int))) (K (-1 : Int)) (K (wr (a4 - (a1.size : Int))))
noncomputable def F (a1 : ByteArray) (a2 : Int) (a3 : Int) (a4 : Int) : Option Int := B a1 a2 a3 a4 (fun x1 => some (x1))
def encA (t : ByteArray × Int × Int × Int) : List AV := [.a [cs t.1, ci t.2.1, ci t.2.2.1], vi t.2.2.2]
def encR (x : Int) : AV × List Ob := (vi x, [])
theorem encAI : ∀ a b, encA a = encA b → a = b := by
  intro a b h
  obtain ⟨a0, a1, a2, a3⟩ := a
  obtain ⟨b0, b1, b2, b3⟩ := b
  simp [encA, encRw_iff] at h
  simp_all
theorem encRI : ∀ a b, encR a = encR b → a = b := by
  intro a b h
  simp [encR, encRw_iff] at h
  simp_all
noncomputable def Q (args : List AV) : Option Int := ofC encA (fun t => F t.1 t.2.1 t.2.2.1 t.2.2.2) args
theorem wrap : (fun (y1 : ByteArray) (y2 : Int) (y3 : Int) (y4 : Int) => Q [.a [cs y1, ci y2, ci y3], vi y4]) = F := by
  funext y1 y2 y3 y4
  exact ofC_enc encAI _ (y1, y2, y3, y4)
noncomputable def G : Orc := ⟨fun f => 9, fun ρ f args K => Option.none, noE, false⟩
noncomputable def L : Lor := fun ρ j st K => Option.none
theorem main {ρ : Type} (K : AV → List Ob → Option ρ) (a1 a2 a3 a4) : exC Try.prog (G) (L) [] 0 (bodyOf Try.f41) (entry 13 [.a [cs a1, ci a2, ci a3], vi a4] [] []) (finO Try.prog Try.f41.results.toList 0 [] [] K) =
    B a1 a2 a3 a4 (fun x1 => K (vi x1) []) := by kernel_rfl
theorem Gok : (G).ok Try.prog := ⟨(fun ρ f args K r h => (by cases h)),
  (fun ρ f args K => rfl),
  (fun ρ f st caps args dst K r h => (by cases h))⟩
theorem hm : Try.prog.follows .mixedOrders = true := by kernel_rfl
theorem e : atomsL [] 0 (bodyOf Try.f41) = [] := by kernel_rfl
theorem acc (t : ByteArray × Int × Int × Int) (x : Int) (h : F t.1 t.2.1 t.2.2.1 t.2.2.2 = some x) : ACc Try.prog 41 (encA t) [] true [] fun rv obs => (rv, obs) = encR x := by
  refine fun_okc (L := (L)) (jn := []) (cmds := []) (ks := []) (hin := []) (fn := Try.f41) (body := (bodyOf Try.f41)) Gok hm Try.func41 (by kernel_rfl) (by kernel_rfl) (by rw [e]; exact Lor.ok_nil _ _) ?_ h
  refine (main _ t.1 t.2.1 t.2.2.1 t.2.2.2).trans ?_
  refine congrArg (fun K => B t.1 t.2.1 t.2.2.1 t.2.2.2 K) ?_
  funext x1
  exact ofC_enc encRI some (x1)
theorem ac0 (t : ByteArray × Int × Int × Int) (x : Int) (h : F t.1 t.2.1 t.2.2.1 t.2.2.2 = some x) : AC Try.prog 41 (encA t) [] true [] fun rv obs => (rv, obs) = encR x := ACc.ac (body := bodyOf Try.f41) Try.func41 (by kernel_rfl) (by kernel_rfl) (acc t x h)
theorem ac (args : List AV) (x : Int) (h : Q args = some x) : AC Try.prog 41 args [] false [] fun rv obs => (rv, obs) = encR x := by
  obtain ⟨t, rfl, h2⟩ := ofC_some h
  refine (ac0 t x h2).flat fun rv obs e => ?_
  obtain rfl : rv = (encR x).1 := congrArg Prod.fst e
  obtain rfl : obs = (encR x).2 := congrArg Prod.snd e
  refine ⟨by simp [encR, AV.Flat, K.Flat, C.Flat], ?_⟩
  simp [encR]
end laws_szName
/-! loop.example/g00073/laws.szNameS -/
namespace laws_szNameS
noncomputable def B0 {ρ : Type} (C0 : ByteArray → Int → Int → Int → Option Int) (v1 : Vec (ByteArray × Int × Int)) (v2 : Int) (v3 : Int) (W : (Vec (ByteArray × Int × Int)) → Int → Int → Option ρ) (K0 : Int → Option ρ) (Kr : Int → Option ρ) : Option ρ :=
  sel (decide (v3 < (v1.n : Int))) (chk (decide (0 ≤ v3 ∧ v3 < (v1.n : Int))) ((C0 ((v1.g v3.toNat).1) ((v1.g v3.toNat).2.1) ((v1.g v3.toNat).2.2) v2).bind fun r1 => sel (decide (r1 < (0 : Int))) (Kr (-1 : Int)) (W v1 r1 (wr (v3 + (1 : Int)))))) (K0 v2)
noncomputable def F0 {ρ : Type} : Nat → (Vec (ByteArray × Int × Int)) → Int → Int → (Int → Option ρ) → (Int → Option ρ) → Option ρ
  | 0, _, _, _, _, _ => none
  | k + 1, v1, v2, v3, K0, Kr => B0 laws_szName.F v1 v2 v3 (fun v1' v2' v3' => F0 k v1' v2' v3' K0 Kr) K0 Kr
noncomputable def B {ρ : Type} (L0 : (Vec (ByteArray × Int × Int)) → Int → Int → (Int → Option ρ) → (Int → Option ρ) → Option ρ) (a1 : Vec (ByteArray × Int × Int)) (a2 : Int) (K : Int → Option ρ) : Option ρ :=
  sel (decide ((wr (a2 - (a1.n : Int))) < (0 : Int))) (K (-1 : Int)) (L0 a1 (wr (a2 - (a1.n : Int))) (0 : Int) (fun e01 => K e01) (fun x01 => K x01))
noncomputable def F (a1 : Vec (ByteArray × Int × Int)) (a2 : Int) : Option Int := B (F0 fuelN) a1 a2 (fun x1 => some (x1))
def encA (t : (Vec (ByteArray × Int × Int)) × Int) : List AV := [vl t.1, vi t.2]
def encR (x : Int) : AV × List Ob := (vi x, [])
theorem encAI : ∀ a b, encA a = encA b → a = b := by
  intro a b h
  obtain ⟨a0, a1⟩ := a
  obtain ⟨b0, b1⟩ := b
  simp [encA, encRw_iff] at h
  simp_all
theorem encRI : ∀ a b, encR a = encR b → a = b := by
  intro a b h
  simp [encR, encRw_iff] at h
  simp_all
noncomputable def Q (args : List AV) : Option Int := ofC encA (fun t => F t.1 t.2) args
theorem wrap : (fun (y1 : Vec (ByteArray × Int × Int)) (y2 : Int) => Q [vl y1, vi y2]) = F := by
  funext y1 y2
  exact ofC_enc encAI _ (y1, y2)
noncomputable def G (Q0 : List AV → Option Int) : Orc := ⟨fun f => sel (Nat.beq f 41) 0 (9), fun ρ f args K => sel (Nat.beq f 41) (qEntry laws_szName.encR Q0 args K) (Option.none), noE, false⟩
noncomputable def L (W0 : (ρ : Type) → List AV → List Ob → (Int → Option ρ) → (Int → Option ρ) → Option ρ) : Lor := fun ρ j st K => sel (Nat.beq j 0) (cutO Try.prog 27 [0, 1, 5] 0 [] [] st fun avs obs => W0 ρ avs obs (fun z1 => K (.exit 0) (mkS 27 [1] [vi z1] [] [])) (fun z1 => K .ret (mkS 27 [4] [vi z1] [] []))) (Option.none)
noncomputable def c0 : Code := loopC (atomN [] 0 (bodyOf Try.f8) 0)
def ct0 : Cut := ⟨[0, 1, 5], []⟩
def lv0 : Exit → Cut
  | .exit 0 => ⟨[1], []⟩
  | .ret => ⟨[4], []⟩
  | _ => ⟨[], []⟩
theorem step0 (Q0) (W0) {ρ : Type} (K : Exit → St → Option ρ) (W : List AV → List Ob → Option ρ) (v1 v2 v3) : exC Try.prog (G Q0) (L W0) [] 1 c0 (mkS 27 [0, 1, 5] [vl v1, vi v2, vi v3] [] []) (bodyK Try.prog 27 0 [] ct0 W lv0 K) =
    B0 (fun y1 y2 y3 y4 => Q0 [.a [cs y1, ci y2, ci y3], vi y4]) v1 v2 v3 (fun u1 u2 u3 => W [vl u1, vi u2, vi u3] []) (fun z1 => K (.exit 0) (mkS 27 [1] [vi z1] [] [])) (fun z1 => K .ret (mkS 27 [4] [vi z1] [] [])) := by kernel_rfl
def enc0 (t : (Vec (ByteArray × Int × Int)) × Int × Int) : List AV × List Ob := ([vl t.1, vi t.2.1, vi t.2.2], [])
theorem enc0I : ∀ a b, enc0 a = enc0 b → a = b := by
  intro a b h
  obtain ⟨a0, a1, a2⟩ := a
  obtain ⟨b0, b1, b2⟩ := b
  simp [enc0, encRw_iff] at h
  simp_all
noncomputable def V0 : (ρ : Type) → List AV → List Ob → (Int → Option ρ) → (Int → Option ρ) → Option ρ := fun ρ avs obs k0 kr => ofC enc0 (fun t => F0 fuelN t.1 t.2.1 t.2.2 k0 kr) (avs, obs)
theorem V0_enc (ρ : Type) : (fun w1 w2 w3 k0 kr => V0 ρ [vl w1, vi w2, vi w3] [] k0 kr) = F0 fuelN := by
  funext w1 w2 w3 k0 kr
  exact ofC_enc enc0I _ (w1, w2, w3)
theorem main (Q0) (W0) {ρ : Type} (K : AV → List Ob → Option ρ) (a1 a2) : exC Try.prog (G Q0) (L W0) [] 0 (bodyOf Try.f8) (entry 27 [vl a1, vi a2] [] []) (finO Try.prog Try.f8.results.toList 0 [] [] K) =
    B (fun w1 w2 w3 k0 kr => W0 ρ [vl w1, vi w2, vi w3] [] k0 kr) a1 a2 (fun x1 => K (vi x1) []) := by kernel_rfl
theorem Gok : (G laws_szName.Q).ok Try.prog := ⟨(by
    intro ρ f args K r h
    rcases sel_cases h with ⟨hb, h⟩ | ⟨-, h⟩
    · obtain rfl := beq_nat hb
      exact qEntry_ok laws_szName.ac h
    cases h),
  (by
    intro ρ f args K
    simp only [G]
    cases Nat.beq f 41 with
    | true => exact qEntry_nat args K
    | false =>
    simp only [sel]
    rfl),
  (fun ρ f st caps args dst K r h => (by cases h))⟩
theorem hm : Try.prog.follows .mixedOrders = true := by kernel_rfl
theorem e0 : atomsL [] 1 c0 = [] := by kernel_rfl
theorem ok0 (ρ : Type) (st : St) (K : Exit → St → Option ρ) (r : ρ) (h : (L V0) ρ 0 st K = some r) : AW Try.prog (.loop c0) st fun e st' => K e st' = some r := by
  refine loop_ok (ct := ct0) (lv := lv0) (n := 27) (m := 0) (ks := []) (j := 0) (jn := []) (L := (L V0)) Gok hm (by rw [e0]; exact Lor.ok_nil _ _) enc0I (fun k t => F0 k t.1 t.2.1 t.2.2 (fun z1 => K (.exit 0) (mkS 27 [1] [vi z1] [] [])) (fun z1 => K .ret (mkS 27 [4] [vi z1] [] []))) (fun t => rfl) (fun k t => ?_) (fun _ => fuelN) h
  refine (step0 laws_szName.Q V0 K _ t.1 t.2.1 t.2.2).trans ?_
  rw [laws_szName.wrap]
  refine congrArg (fun W => B0 laws_szName.F t.1 t.2.1 t.2.2 W (fun z1 => K (.exit 0) (mkS 27 [1] [vi z1] [] [])) (fun z1 => K .ret (mkS 27 [4] [vi z1] [] []))) ?_
  funext u1 u2 u3
  exact ofC_enc enc0I _ (u1, u2, u3)
theorem e : atomsL [] 0 (bodyOf Try.f8) = [(0, 0, .loop c0)] := by kernel_rfl
theorem acc (t : (Vec (ByteArray × Int × Int)) × Int) (x : Int) (h : F t.1 t.2 = some x) : ACc Try.prog 8 (encA t) [] true [] fun rv obs => (rv, obs) = encR x := by
  refine fun_okc (L := (L V0)) (jn := []) (cmds := []) (ks := []) (hin := []) (fn := Try.f8) (body := (bodyOf Try.f8)) Gok hm Try.func8 (by kernel_rfl) (by kernel_rfl) (by rw [e]; exact Lor.ok_cons ok0 (Lor.ok_nil _ _)) ?_ h
  refine (main laws_szName.Q V0 _ t.1 t.2).trans ?_
  rw [V0_enc]
  refine congrArg (fun K => B (F0 fuelN) t.1 t.2 K) ?_
  funext x1
  exact ofC_enc encRI some (x1)
theorem ac0 (t : (Vec (ByteArray × Int × Int)) × Int) (x : Int) (h : F t.1 t.2 = some x) : AC Try.prog 8 (encA t) [] true [] fun rv obs => (rv, obs) = encR x := ACc.ac (body := bodyOf Try.f8) Try.func8 (by kernel_rfl) (by kernel_rfl) (acc t x h)
theorem ac (args : List AV) (x : Int) (h : Q args = some x) : AC Try.prog 8 args [] false [] fun rv obs => (rv, obs) = encR x := by
  obtain ⟨t, rfl, h2⟩ := ofC_some h
  refine (ac0 t x h2).flat fun rv obs e => ?_
  obtain rfl : rv = (encR x).1 := congrArg Prod.fst e
  obtain rfl : obs = (encR x).2 := congrArg Prod.snd e
  refine ⟨by simp [encR, AV.Flat, K.Flat, C.Flat], ?_⟩
  simp [encR]
end laws_szNameS
/-! loop.example/g00073/laws.toName -/
namespace laws_toName
noncomputable def B {ρ : Type} (a1 : ByteArray) (a2 : Int) (a3 : Int) (K : ByteArray → Int → Int → Option ρ) : Option ρ :=
  K a1 a2 a3
noncomputable def F (a1 : ByteArray) (a2 : Int) (a3 : Int) : Option (ByteArray × Int × Int) := B a1 a2 a3 (fun x1 x2 x3 => some (x1, x2, x3))
def encA (t : ByteArray × Int × Int) : List AV := [.a [cs t.1, ci t.2.1, ci t.2.2]]
def encR (x : ByteArray × Int × Int) : AV × List Ob := (.a [cs x.1, ci x.2.1, ci x.2.2], [])
theorem encAI : ∀ a b, encA a = encA b → a = b := by
  intro a b h
  obtain ⟨a0, a1, a2⟩ := a
  obtain ⟨b0, b1, b2⟩ := b
  simp [encA, encRw_iff] at h
  simp_all
theorem encRI : ∀ a b, encR a = encR b → a = b := by
  intro a b h
  obtain ⟨a0, a1, a2⟩ := a
  obtain ⟨b0, b1, b2⟩ := b
  simp [encR, encRw_iff] at h
  simp_all
noncomputable def Q (args : List AV) : Option (ByteArray × Int × Int) := ofC encA (fun t => F t.1 t.2.1 t.2.2) args
theorem wrap : (fun (y1 : ByteArray) (y2 : Int) (y3 : Int) => Q [.a [cs y1, ci y2, ci y3]]) = F := by
  funext y1 y2 y3
  exact ofC_enc encAI _ (y1, y2, y3)
noncomputable def G : Orc := ⟨fun f => 9, fun ρ f args K => Option.none, noE, false⟩
noncomputable def L : Lor := fun ρ j st K => Option.none
theorem main {ρ : Type} (K : AV → List Ob → Option ρ) (a1 a2 a3) : exC Try.prog (G) (L) [] 0 (bodyOf Try.f44) (entry 14 [.a [cs a1, ci a2, ci a3]] [] []) (finO Try.prog Try.f44.results.toList 0 [] [] K) =
    B a1 a2 a3 (fun x1 x2 x3 => K (.a [cs x1, ci x2, ci x3]) []) := by kernel_rfl
theorem Gok : (G).ok Try.prog := ⟨(fun ρ f args K r h => (by cases h)),
  (fun ρ f args K => rfl),
  (fun ρ f st caps args dst K r h => (by cases h))⟩
theorem hm : Try.prog.follows .mixedOrders = true := by kernel_rfl
theorem e : atomsL [] 0 (bodyOf Try.f44) = [] := by kernel_rfl
theorem acc (t : ByteArray × Int × Int) (x : ByteArray × Int × Int) (h : F t.1 t.2.1 t.2.2 = some x) : ACc Try.prog 44 (encA t) [] true [] fun rv obs => (rv, obs) = encR x := by
  refine fun_okc (L := (L)) (jn := []) (cmds := []) (ks := []) (hin := []) (fn := Try.f44) (body := (bodyOf Try.f44)) Gok hm Try.func44 (by kernel_rfl) (by kernel_rfl) (by rw [e]; exact Lor.ok_nil _ _) ?_ h
  refine (main _ t.1 t.2.1 t.2.2).trans ?_
  refine congrArg (fun K => B t.1 t.2.1 t.2.2 K) ?_
  funext x1 x2 x3
  exact ofC_enc encRI some (x1, x2, x3)
theorem ac0 (t : ByteArray × Int × Int) (x : ByteArray × Int × Int) (h : F t.1 t.2.1 t.2.2 = some x) : AC Try.prog 44 (encA t) [] true [] fun rv obs => (rv, obs) = encR x := ACc.ac (body := bodyOf Try.f44) Try.func44 (by kernel_rfl) (by kernel_rfl) (acc t x h)
theorem ac (args : List AV) (x : ByteArray × Int × Int) (h : Q args = some x) : AC Try.prog 44 args [] false [] fun rv obs => (rv, obs) = encR x := by
  obtain ⟨t, rfl, h2⟩ := ofC_some h
  refine (ac0 t x h2).flat fun rv obs e => ?_
  obtain rfl : rv = (encR x).1 := congrArg Prod.fst e
  obtain rfl : obs = (encR x).2 := congrArg Prod.snd e
  refine ⟨by simp [encR, AV.Flat, K.Flat, C.Flat], ?_⟩
  simp [encR]
end laws_toName
/-! loop.example/g00073/laws.toNameS -/
namespace laws_toNameS
noncomputable def B0 {ρ : Type} (C0 : ByteArray → Int → Int → Option (ByteArray × Int × Int)) (v1 : Vec (ByteArray × Int × Int)) (v2 : Int) (v3 : Vec (ByteArray × Int × Int)) (W : (Vec (ByteArray × Int × Int)) → Int → (Vec (ByteArray × Int × Int)) → Option ρ) (K0 : (Vec (ByteArray × Int × Int)) → Option ρ) : Option ρ :=
  sel (decide (v2 < (v1.n : Int))) (chk (decide (0 ≤ v2 ∧ v2 < (v1.n : Int))) ((C0 ((v1.g v2.toNat).1) ((v1.g v2.toNat).2.1) ((v1.g v2.toNat).2.2)).bind fun r1 => chk (decide (0 ≤ v2 ∧ v2 < (v3.n : Int))) (chk (decide (v2.toNat < v3.n)) (W v1 (wr (v2 + (1 : Int))) (Vec.set v3 v2.toNat (r1.1, r1.2.1, r1.2.2)))))) (K0 v3)
noncomputable def F0 {ρ : Type} : Nat → (Vec (ByteArray × Int × Int)) → Int → (Vec (ByteArray × Int × Int)) → ((Vec (ByteArray × Int × Int)) → Option ρ) → Option ρ
  | 0, _, _, _, _ => none
  | k + 1, v1, v2, v3, K0 => B0 laws_toName.F v1 v2 v3 (fun v1' v2' v3' => F0 k v1' v2' v3' K0) K0
noncomputable def B {ρ : Type} (L0 : (Vec (ByteArray × Int × Int)) → Int → (Vec (ByteArray × Int × Int)) → ((Vec (ByteArray × Int × Int)) → Option ρ) → Option ρ) (a1 : Vec (ByteArray × Int × Int)) (K : (Vec (ByteArray × Int × Int)) → Option ρ) : Option ρ :=
  chk (decide ((a1.n : Int) = (a1.n : Int) ∧ 0 ≤ (a1.n : Int))) (chk (mkOk (a1.n : Int) 32) (L0 a1 (0 : Int) (Vec.rep ((a1.n : Int).toNat) (ByteArray.empty, (0 : Int), (0 : Int)) : Vec (ByteArray × Int × Int)) (fun e01 => K e01)))
noncomputable def F (a1 : Vec (ByteArray × Int × Int)) : Option (Vec (ByteArray × Int × Int)) := B (F0 fuelN) a1 (fun x1 => some (x1))
def encA (t : Vec (ByteArray × Int × Int)) : List AV := [vl t]
def encR (x : Vec (ByteArray × Int × Int)) : AV × List Ob := (.c (.h 0), [ro x])
theorem encAI : ∀ a b, encA a = encA b → a = b := by
  intro a b h
  simp [encA, encRw_iff] at h
  simp_all
theorem encRI : ∀ a b, encR a = encR b → a = b := by
  intro a b h
  simp [encR, encRw_iff] at h
  simp_all
noncomputable def Q (args : List AV) : Option (Vec (ByteArray × Int × Int)) := ofC encA (fun t => F t) args
theorem wrap : (fun (y1 : Vec (ByteArray × Int × Int)) => Q [vl y1]) = F := by
  funext y1
  exact ofC_enc encAI _ (y1)
noncomputable def G (Q0 : List AV → Option (ByteArray × Int × Int)) : Orc := ⟨fun f => sel (Nat.beq f 44) 0 (9), fun ρ f args K => sel (Nat.beq f 44) (qEntry laws_toName.encR Q0 args K) (Option.none), noE, false⟩
noncomputable def L (W0 : (ρ : Type) → List AV → List Ob → ((Vec (ByteArray × Int × Int)) → Option ρ) → Option ρ) : Lor := fun ρ j st K => sel (Nat.beq j 0) (cutO Try.prog 23 [0, 3, 4] 0 [] [] st fun avs obs => W0 ρ avs obs (fun z1 => K (.exit 0) (mkS 23 [3] [.c (.h 0)] [ro z1] []))) (Option.none)
noncomputable def c0 : Code := loopC (atomN [] 0 (bodyOf Try.f10) 0)
def ct0 : Cut := ⟨[0, 3, 4], []⟩
def lv0 : Exit → Cut
  | .exit 0 => ⟨[3], []⟩
  | _ => ⟨[], []⟩
theorem step0 (Q0) (W0) {ρ : Type} (K : Exit → St → Option ρ) (W : List AV → List Ob → Option ρ) (v1 v2 v3) : exC Try.prog (G Q0) (L W0) [] 1 c0 (mkS 23 [0, 3, 4] [vl v1, .c (.h 0), vi v2] [ro v3] []) (bodyK Try.prog 23 0 [] ct0 W lv0 K) =
    B0 (fun y1 y2 y3 => Q0 [.a [cs y1, ci y2, ci y3]]) v1 v2 v3 (fun u1 u2 u3 => W [vl u1, .c (.h 0), vi u2] [ro u3]) (fun z1 => K (.exit 0) (mkS 23 [3] [.c (.h 0)] [ro z1] [])) := by kernel_rfl
def enc0 (t : (Vec (ByteArray × Int × Int)) × Int × (Vec (ByteArray × Int × Int))) : List AV × List Ob := ([vl t.1, .c (.h 0), vi t.2.1], [ro t.2.2])
theorem enc0I : ∀ a b, enc0 a = enc0 b → a = b := by
  intro a b h
  obtain ⟨a0, a1, a2⟩ := a
  obtain ⟨b0, b1, b2⟩ := b
  simp [enc0, encRw_iff] at h
  simp_all
noncomputable def V0 : (ρ : Type) → List AV → List Ob → ((Vec (ByteArray × Int × Int)) → Option ρ) → Option ρ := fun ρ avs obs k0 => ofC enc0 (fun t => F0 fuelN t.1 t.2.1 t.2.2 k0) (avs, obs)
theorem V0_enc (ρ : Type) : (fun w1 w2 w3 k0 => V0 ρ [vl w1, .c (.h 0), vi w2] [ro w3] k0) = F0 fuelN := by
  funext w1 w2 w3 k0
  exact ofC_enc enc0I _ (w1, w2, w3)
theorem main (Q0) (W0) {ρ : Type} (K : AV → List Ob → Option ρ) (a1) : exC Try.prog (G Q0) (L W0) [] 0 (bodyOf Try.f10) (entry 23 [vl a1] [] []) (finO Try.prog Try.f10.results.toList 0 [] [] K) =
    B (fun w1 w2 w3 k0 => W0 ρ [vl w1, .c (.h 0), vi w2] [ro w3] k0) a1 (fun x1 => K (.c (.h 0)) [ro x1]) := by kernel_rfl
theorem Gok : (G laws_toName.Q).ok Try.prog := ⟨(by
    intro ρ f args K r h
    rcases sel_cases h with ⟨hb, h⟩ | ⟨-, h⟩
    · obtain rfl := beq_nat hb
      exact qEntry_ok laws_toName.ac h
    cases h),
  (by
    intro ρ f args K
    simp only [G]
    cases Nat.beq f 44 with
    | true => exact qEntry_nat args K
    | false =>
    simp only [sel]
    rfl),
  (fun ρ f st caps args dst K r h => (by cases h))⟩
theorem hm : Try.prog.follows .mixedOrders = true := by kernel_rfl
theorem e0 : atomsL [] 1 c0 = [] := by kernel_rfl
theorem ok0 (ρ : Type) (st : St) (K : Exit → St → Option ρ) (r : ρ) (h : (L V0) ρ 0 st K = some r) : AW Try.prog (.loop c0) st fun e st' => K e st' = some r := by
  refine loop_ok (ct := ct0) (lv := lv0) (n := 23) (m := 0) (ks := []) (j := 0) (jn := []) (L := (L V0)) Gok hm (by rw [e0]; exact Lor.ok_nil _ _) enc0I (fun k t => F0 k t.1 t.2.1 t.2.2 (fun z1 => K (.exit 0) (mkS 23 [3] [.c (.h 0)] [ro z1] []))) (fun t => rfl) (fun k t => ?_) (fun _ => fuelN) h
  refine (step0 laws_toName.Q V0 K _ t.1 t.2.1 t.2.2).trans ?_
  rw [laws_toName.wrap]
  refine congrArg (fun W => B0 laws_toName.F t.1 t.2.1 t.2.2 W (fun z1 => K (.exit 0) (mkS 23 [3] [.c (.h 0)] [ro z1] []))) ?_
  funext u1 u2 u3
  exact ofC_enc enc0I _ (u1, u2, u3)
theorem e : atomsL [] 0 (bodyOf Try.f10) = [(0, 0, .loop c0)] := by kernel_rfl
theorem acc (t : Vec (ByteArray × Int × Int)) (x : Vec (ByteArray × Int × Int)) (h : F t = some x) : ACc Try.prog 10 (encA t) [] true [] fun rv obs => (rv, obs) = encR x := by
  refine fun_okc (L := (L V0)) (jn := []) (cmds := []) (ks := []) (hin := []) (fn := Try.f10) (body := (bodyOf Try.f10)) Gok hm Try.func10 (by kernel_rfl) (by kernel_rfl) (by rw [e]; exact Lor.ok_cons ok0 (Lor.ok_nil _ _)) ?_ h
  refine (main laws_toName.Q V0 _ t).trans ?_
  rw [V0_enc]
  refine congrArg (fun K => B (F0 fuelN) t K) ?_
  funext x1
  exact ofC_enc encRI some (x1)
theorem ac0 (t : Vec (ByteArray × Int × Int)) (x : Vec (ByteArray × Int × Int)) (h : F t = some x) : AC Try.prog 10 (encA t) [] true [] fun rv obs => (rv, obs) = encR x := ACc.ac (body := bodyOf Try.f10) Try.func10 (by kernel_rfl) (by kernel_rfl) (acc t x h)
theorem ac (args : List AV) (x : Vec (ByteArray × Int × Int)) (h : Q args = some x) : AC Try.prog 10 args [] false [] fun rv obs => (rv, obs) = encR x := by
  obtain ⟨t, rfl, h2⟩ := ofC_some h
  refine (ac0 t x h2).flat fun rv obs e => ?_
  obtain rfl : rv = (encR x).1 := congrArg Prod.fst e
  obtain rfl : obs = (encR x).2 := congrArg Prod.snd e
  refine ⟨by simp [encR, AV.Flat, K.Flat, C.Flat], ?_⟩
  intro o ho
  simp only [encR, List.mem_cons, List.not_mem_nil, or_false] at ho
  subst ho
  exact flat_rw rfl _
end laws_toNameS
/-! loop.example/g00073/laws.eqName -/
namespace laws_eqName
noncomputable def B {ρ : Type} (a1 : ByteArray) (a2 : Int) (a3 : Int) (a4 : ByteArray) (a5 : Int) (a6 : Int) (K : Bool → Option ρ) : Option ρ :=
  sel ((!decide (a1 = a4))) (K false) (sel ((!decide (a2 = a5))) (K false) (sel ((!decide (a3 = a6))) (K false) (K true)))
noncomputable def F (a1 : ByteArray) (a2 : Int) (a3 : Int) (a4 : ByteArray) (a5 : Int) (a6 : Int) : Option Bool := B a1 a2 a3 a4 a5 a6 (fun x1 => some (x1))
def encA (t : ByteArray × Int × Int × ByteArray × Int × Int) : List AV := [.a [cs t.1, ci t.2.1, ci t.2.2.1], .a [cs t.2.2.2.1, ci t.2.2.2.2.1, ci t.2.2.2.2.2]]
def encR (x : Bool) : AV × List Ob := (vb x, [])
theorem encAI : ∀ a b, encA a = encA b → a = b := by
  intro a b h
  obtain ⟨a0, a1, a2, a3, a4, a5⟩ := a
  obtain ⟨b0, b1, b2, b3, b4, b5⟩ := b
  simp [encA, encRw_iff] at h
  simp_all
theorem encRI : ∀ a b, encR a = encR b → a = b := by
  intro a b h
  simp [encR, encRw_iff] at h
  simp_all
noncomputable def Q (args : List AV) : Option Bool := ofC encA (fun t => F t.1 t.2.1 t.2.2.1 t.2.2.2.1 t.2.2.2.2.1 t.2.2.2.2.2) args
theorem wrap : (fun (y1 : ByteArray) (y2 : Int) (y3 : Int) (y4 : ByteArray) (y5 : Int) (y6 : Int) => Q [.a [cs y1, ci y2, ci y3], .a [cs y4, ci y5, ci y6]]) = F := by
  funext y1 y2 y3 y4 y5 y6
  exact ofC_enc encAI _ (y1, y2, y3, y4, y5, y6)
noncomputable def G : Orc := ⟨fun f => 9, fun ρ f args K => Option.none, noE, false⟩
noncomputable def L : Lor := fun ρ j st K => Option.none
theorem main {ρ : Type} (K : AV → List Ob → Option ρ) (a1 a2 a3 a4 a5 a6) : exC Try.prog (G) (L) [] 0 (bodyOf Try.f48) (entry 20 [.a [cs a1, ci a2, ci a3], .a [cs a4, ci a5, ci a6]] [] []) (finO Try.prog Try.f48.results.toList 0 [] [] K) =
    B a1 a2 a3 a4 a5 a6 (fun x1 => K (vb x1) []) := by kernel_rfl
theorem Gok : (G).ok Try.prog := ⟨(fun ρ f args K r h => (by cases h)),
  (fun ρ f args K => rfl),
  (fun ρ f st caps args dst K r h => (by cases h))⟩
theorem hm : Try.prog.follows .mixedOrders = true := by kernel_rfl
theorem e : atomsL [] 0 (bodyOf Try.f48) = [] := by kernel_rfl
theorem acc (t : ByteArray × Int × Int × ByteArray × Int × Int) (x : Bool) (h : F t.1 t.2.1 t.2.2.1 t.2.2.2.1 t.2.2.2.2.1 t.2.2.2.2.2 = some x) : ACc Try.prog 48 (encA t) [] true [] fun rv obs => (rv, obs) = encR x := by
  refine fun_okc (L := (L)) (jn := []) (cmds := []) (ks := []) (hin := []) (fn := Try.f48) (body := (bodyOf Try.f48)) Gok hm Try.func48 (by kernel_rfl) (by kernel_rfl) (by rw [e]; exact Lor.ok_nil _ _) ?_ h
  refine (main _ t.1 t.2.1 t.2.2.1 t.2.2.2.1 t.2.2.2.2.1 t.2.2.2.2.2).trans ?_
  refine congrArg (fun K => B t.1 t.2.1 t.2.2.1 t.2.2.2.1 t.2.2.2.2.1 t.2.2.2.2.2 K) ?_
  funext x1
  exact ofC_enc encRI some (x1)
theorem ac0 (t : ByteArray × Int × Int × ByteArray × Int × Int) (x : Bool) (h : F t.1 t.2.1 t.2.2.1 t.2.2.2.1 t.2.2.2.2.1 t.2.2.2.2.2 = some x) : AC Try.prog 48 (encA t) [] true [] fun rv obs => (rv, obs) = encR x := ACc.ac (body := bodyOf Try.f48) Try.func48 (by kernel_rfl) (by kernel_rfl) (acc t x h)
theorem ac (args : List AV) (x : Bool) (h : Q args = some x) : AC Try.prog 48 args [] false [] fun rv obs => (rv, obs) = encR x := by
  obtain ⟨t, rfl, h2⟩ := ofC_some h
  refine (ac0 t x h2).flat fun rv obs e => ?_
  obtain rfl : rv = (encR x).1 := congrArg Prod.fst e
  obtain rfl : obs = (encR x).2 := congrArg Prod.snd e
  refine ⟨by simp [encR, AV.Flat, K.Flat, C.Flat], ?_⟩
  simp [encR]
end laws_eqName
/-! loop.example/g00073/laws.eqNameS -/
namespace laws_eqNameS
noncomputable def B0 {ρ : Type} (C0 : ByteArray → Int → Int → ByteArray → Int → Int → Option Bool) (v1 : Vec (ByteArray × Int × Int)) (v2 : Vec (ByteArray × Int × Int)) (v3 : Int) (W : (Vec (ByteArray × Int × Int)) → (Vec (ByteArray × Int × Int)) → Int → Option ρ) (K0 : Unit → Option ρ) (Kr : Bool → Option ρ) : Option ρ :=
  sel (decide (v3 < (v1.n : Int))) (chk (decide (0 ≤ v3 ∧ v3 < (v1.n : Int))) (chk (decide (0 ≤ v3 ∧ v3 < (v2.n : Int))) ((C0 ((v1.g v3.toNat).1) ((v1.g v3.toNat).2.1) ((v1.g v3.toNat).2.2) ((v2.g v3.toNat).1) ((v2.g v3.toNat).2.1) ((v2.g v3.toNat).2.2)).bind fun r1 => sel ((!r1)) (Kr false) (W v1 v2 (wr (v3 + (1 : Int))))))) (K0 ())
noncomputable def F0 {ρ : Type} : Nat → (Vec (ByteArray × Int × Int)) → (Vec (ByteArray × Int × Int)) → Int → (Unit → Option ρ) → (Bool → Option ρ) → Option ρ
  | 0, _, _, _, _, _ => none
  | k + 1, v1, v2, v3, K0, Kr => B0 laws_eqName.F v1 v2 v3 (fun v1' v2' v3' => F0 k v1' v2' v3' K0 Kr) K0 Kr
noncomputable def B {ρ : Type} (L0 : (Vec (ByteArray × Int × Int)) → (Vec (ByteArray × Int × Int)) → Int → (Unit → Option ρ) → (Bool → Option ρ) → Option ρ) (a1 : Vec (ByteArray × Int × Int)) (a2 : Vec (ByteArray × Int × Int)) (K : Bool → Option ρ) : Option ρ :=
  sel ((!decide ((a1.n : Int) = (a2.n : Int)))) (K false) (L0 a1 a2 (0 : Int) (fun _ => K true) (fun x01 => K x01))
noncomputable def F (a1 : Vec (ByteArray × Int × Int)) (a2 : Vec (ByteArray × Int × Int)) : Option Bool := B (F0 fuelN) a1 a2 (fun x1 => some (x1))
def encA (t : (Vec (ByteArray × Int × Int)) × (Vec (ByteArray × Int × Int))) : List AV := [vl t.1, vl t.2]
def encR (x : Bool) : AV × List Ob := (vb x, [])
theorem encAI : ∀ a b, encA a = encA b → a = b := by
  intro a b h
  obtain ⟨a0, a1⟩ := a
  obtain ⟨b0, b1⟩ := b
  simp [encA, encRw_iff] at h
  simp_all
theorem encRI : ∀ a b, encR a = encR b → a = b := by
  intro a b h
  simp [encR, encRw_iff] at h
  simp_all
noncomputable def Q (args : List AV) : Option Bool := ofC encA (fun t => F t.1 t.2) args
theorem wrap : (fun (y1 : Vec (ByteArray × Int × Int)) (y2 : Vec (ByteArray × Int × Int)) => Q [vl y1, vl y2]) = F := by
  funext y1 y2
  exact ofC_enc encAI _ (y1, y2)
noncomputable def G (Q0 : List AV → Option Bool) : Orc := ⟨fun f => sel (Nat.beq f 48) 0 (9), fun ρ f args K => sel (Nat.beq f 48) (qEntry laws_eqName.encR Q0 args K) (Option.none), noE, false⟩
noncomputable def L (W0 : (ρ : Type) → List AV → List Ob → (Unit → Option ρ) → (Bool → Option ρ) → Option ρ) : Lor := fun ρ j st K => sel (Nat.beq j 0) (cutO Try.prog 27 [0, 1, 5] 0 [] [] st fun avs obs => W0 ρ avs obs (fun _ => K (.exit 0) (mkS 27 [] [] [] [])) (fun z1 => K .ret (mkS 27 [4] [vb z1] [] []))) (Option.none)
noncomputable def c0 : Code := loopC (atomN [] 0 (bodyOf Try.f12) 0)
def ct0 : Cut := ⟨[0, 1, 5], []⟩
def lv0 : Exit → Cut
  | .exit 0 => ⟨[], []⟩
  | .ret => ⟨[4], []⟩
  | _ => ⟨[], []⟩
theorem step0 (Q0) (W0) {ρ : Type} (K : Exit → St → Option ρ) (W : List AV → List Ob → Option ρ) (v1 v2 v3) : exC Try.prog (G Q0) (L W0) [] 1 c0 (mkS 27 [0, 1, 5] [vl v1, vl v2, vi v3] [] []) (bodyK Try.prog 27 0 [] ct0 W lv0 K) =
    B0 (fun y1 y2 y3 y4 y5 y6 => Q0 [.a [cs y1, ci y2, ci y3], .a [cs y4, ci y5, ci y6]]) v1 v2 v3 (fun u1 u2 u3 => W [vl u1, vl u2, vi u3] []) (fun _ => K (.exit 0) (mkS 27 [] [] [] [])) (fun z1 => K .ret (mkS 27 [4] [vb z1] [] [])) := by kernel_rfl
def enc0 (t : (Vec (ByteArray × Int × Int)) × (Vec (ByteArray × Int × Int)) × Int) : List AV × List Ob := ([vl t.1, vl t.2.1, vi t.2.2], [])
theorem enc0I : ∀ a b, enc0 a = enc0 b → a = b := by
  intro a b h
  obtain ⟨a0, a1, a2⟩ := a
  obtain ⟨b0, b1, b2⟩ := b
  simp [enc0, encRw_iff] at h
  simp_all
noncomputable def V0 : (ρ : Type) → List AV → List Ob → (Unit → Option ρ) → (Bool → Option ρ) → Option ρ := fun ρ avs obs k0 kr => ofC enc0 (fun t => F0 fuelN t.1 t.2.1 t.2.2 k0 kr) (avs, obs)
theorem V0_enc (ρ : Type) : (fun w1 w2 w3 k0 kr => V0 ρ [vl w1, vl w2, vi w3] [] k0 kr) = F0 fuelN := by
  funext w1 w2 w3 k0 kr
  exact ofC_enc enc0I _ (w1, w2, w3)
theorem main (Q0) (W0) {ρ : Type} (K : AV → List Ob → Option ρ) (a1 a2) : exC Try.prog (G Q0) (L W0) [] 0 (bodyOf Try.f12) (entry 27 [vl a1, vl a2] [] []) (finO Try.prog Try.f12.results.toList 0 [] [] K) =
    B (fun w1 w2 w3 k0 kr => W0 ρ [vl w1, vl w2, vi w3] [] k0 kr) a1 a2 (fun x1 => K (vb x1) []) := by kernel_rfl
theorem Gok : (G laws_eqName.Q).ok Try.prog := ⟨(by
    intro ρ f args K r h
    rcases sel_cases h with ⟨hb, h⟩ | ⟨-, h⟩
    · obtain rfl := beq_nat hb
      exact qEntry_ok laws_eqName.ac h
    cases h),
  (by
    intro ρ f args K
    simp only [G]
    cases Nat.beq f 48 with
    | true => exact qEntry_nat args K
    | false =>
    simp only [sel]
    rfl),
  (fun ρ f st caps args dst K r h => (by cases h))⟩
theorem hm : Try.prog.follows .mixedOrders = true := by kernel_rfl
theorem e0 : atomsL [] 1 c0 = [] := by kernel_rfl
theorem ok0 (ρ : Type) (st : St) (K : Exit → St → Option ρ) (r : ρ) (h : (L V0) ρ 0 st K = some r) : AW Try.prog (.loop c0) st fun e st' => K e st' = some r := by
  refine loop_ok (ct := ct0) (lv := lv0) (n := 27) (m := 0) (ks := []) (j := 0) (jn := []) (L := (L V0)) Gok hm (by rw [e0]; exact Lor.ok_nil _ _) enc0I (fun k t => F0 k t.1 t.2.1 t.2.2 (fun _ => K (.exit 0) (mkS 27 [] [] [] [])) (fun z1 => K .ret (mkS 27 [4] [vb z1] [] []))) (fun t => rfl) (fun k t => ?_) (fun _ => fuelN) h
  refine (step0 laws_eqName.Q V0 K _ t.1 t.2.1 t.2.2).trans ?_
  rw [laws_eqName.wrap]
  refine congrArg (fun W => B0 laws_eqName.F t.1 t.2.1 t.2.2 W (fun _ => K (.exit 0) (mkS 27 [] [] [] [])) (fun z1 => K .ret (mkS 27 [4] [vb z1] [] []))) ?_
  funext u1 u2 u3
  exact ofC_enc enc0I _ (u1, u2, u3)
theorem e : atomsL [] 0 (bodyOf Try.f12) = [(0, 0, .loop c0)] := by kernel_rfl
theorem acc (t : (Vec (ByteArray × Int × Int)) × (Vec (ByteArray × Int × Int))) (x : Bool) (h : F t.1 t.2 = some x) : ACc Try.prog 12 (encA t) [] true [] fun rv obs => (rv, obs) = encR x := by
  refine fun_okc (L := (L V0)) (jn := []) (cmds := []) (ks := []) (hin := []) (fn := Try.f12) (body := (bodyOf Try.f12)) Gok hm Try.func12 (by kernel_rfl) (by kernel_rfl) (by rw [e]; exact Lor.ok_cons ok0 (Lor.ok_nil _ _)) ?_ h
  refine (main laws_eqName.Q V0 _ t.1 t.2).trans ?_
  rw [V0_enc]
  refine congrArg (fun K => B (F0 fuelN) t.1 t.2 K) ?_
  funext x1
  exact ofC_enc encRI some (x1)
theorem ac0 (t : (Vec (ByteArray × Int × Int)) × (Vec (ByteArray × Int × Int))) (x : Bool) (h : F t.1 t.2 = some x) : AC Try.prog 12 (encA t) [] true [] fun rv obs => (rv, obs) = encR x := ACc.ac (body := bodyOf Try.f12) Try.func12 (by kernel_rfl) (by kernel_rfl) (acc t x h)
theorem ac (args : List AV) (x : Bool) (h : Q args = some x) : AC Try.prog 12 args [] false [] fun rv obs => (rv, obs) = encR x := by
  obtain ⟨t, rfl, h2⟩ := ofC_some h
  refine (ac0 t x h2).flat fun rv obs e => ?_
  obtain rfl : rv = (encR x).1 := congrArg Prod.fst e
  obtain rfl : obs = (encR x).2 := congrArg Prod.snd e
  refine ⟨by simp [encR, AV.Flat, K.Flat, C.Flat], ?_⟩
  simp [encR]
end laws_eqNameS
/-! loop.example/g00073/laws.markText -/
namespace laws_markText
noncomputable def B0 {ρ : Type} (v1 : Int) (v2 : ByteArray) (W : Int → ByteArray → Option ρ) (K0 : ByteArray → Option ρ) : Option ρ :=
  sel (decide ((0 : Int) < v1)) (chk (okBytes (Vec.lit [⟨(IntKind.wrap .u8 (wr ((48 : Int) + (Int.tmod v1 (10 : Int)))))⟩] : Vec (IK .u8))) (chk (decide ((toBytes (Vec.lit [⟨(IntKind.wrap .u8 (wr ((48 : Int) + (Int.tmod v1 (10 : Int)))))⟩] : Vec (IK .u8))).size + v2.size ≤ maxN)) (W (wr (Int.tdiv v1 (10 : Int))) ((toBytes (Vec.lit [⟨(IntKind.wrap .u8 (wr ((48 : Int) + (Int.tmod v1 (10 : Int)))))⟩] : Vec (IK .u8))) ++ v2)))) (K0 v2)
noncomputable def F0 {ρ : Type} : Nat → Int → ByteArray → (ByteArray → Option ρ) → Option ρ
  | 0, _, _, _ => none
  | k + 1, v1, v2, K0 => B0 v1 v2 (fun v1' v2' => F0 k v1' v2' K0) K0
noncomputable def B {ρ : Type} (L0 : Int → ByteArray → (ByteArray → Option ρ) → Option ρ) (a1 : Int) (K : ByteArray → Option ρ) : Option ρ :=
  sel (decide (a1 ≤ (0 : Int))) (K (ByteArray.mk #[109, 48])) (L0 a1 ByteArray.empty (fun e01 => chk (decide ((ByteArray.mk #[109]).size + e01.size ≤ maxN)) (K ((ByteArray.mk #[109]) ++ e01))))
noncomputable def F (a1 : Int) : Option ByteArray := B (F0 fuelN) a1 (fun x1 => some (x1))
def encA (t : Int) : List AV := [vi t]
def encR (x : ByteArray) : AV × List Ob := (vs x, [])
theorem encAI : ∀ a b, encA a = encA b → a = b := by
  intro a b h
  simp [encA, encRw_iff] at h
  simp_all
theorem encRI : ∀ a b, encR a = encR b → a = b := by
  intro a b h
  simp [encR, encRw_iff] at h
  simp_all
noncomputable def Q (args : List AV) : Option ByteArray := ofC encA (fun t => F t) args
theorem wrap : (fun (y1 : Int) => Q [vi y1]) = F := by
  funext y1
  exact ofC_enc encAI _ (y1)
noncomputable def G : Orc := ⟨fun f => 9, fun ρ f args K => Option.none, noE, false⟩
noncomputable def L (W0 : (ρ : Type) → List AV → List Ob → (ByteArray → Option ρ) → Option ρ) : Lor := fun ρ j st K => sel (Nat.beq j 0) (cutO Try.prog 20 [0, 3] 0 [] [] st fun avs obs => W0 ρ avs obs (fun z1 => K (.exit 0) (mkS 20 [3] [vs z1] [] []))) (Option.none)
noncomputable def c0 : Code := loopC (atomN [] 0 (bodyOf Try.f49) 0)
def ct0 : Cut := ⟨[0, 3], []⟩
def lv0 : Exit → Cut
  | .exit 0 => ⟨[3], []⟩
  | _ => ⟨[], []⟩
theorem step0 (W0) {ρ : Type} (K : Exit → St → Option ρ) (W : List AV → List Ob → Option ρ) (v1 v2) : exC Try.prog (G) (L W0) [] 1 c0 (mkS 20 [0, 3] [vi v1, vs v2] [] []) (bodyK Try.prog 20 0 [] ct0 W lv0 K) =
    B0 v1 v2 (fun u1 u2 => W [vi u1, vs u2] []) (fun z1 => K (.exit 0) (mkS 20 [3] [vs z1] [] [])) := by kernel_rfl
def enc0 (t : Int × ByteArray) : List AV × List Ob := ([vi t.1, vs t.2], [])
theorem enc0I : ∀ a b, enc0 a = enc0 b → a = b := by
  intro a b h
  obtain ⟨a0, a1⟩ := a
  obtain ⟨b0, b1⟩ := b
  simp [enc0, encRw_iff] at h
  simp_all
noncomputable def V0 : (ρ : Type) → List AV → List Ob → (ByteArray → Option ρ) → Option ρ := fun ρ avs obs k0 => ofC enc0 (fun t => F0 fuelN t.1 t.2 k0) (avs, obs)
theorem V0_enc (ρ : Type) : (fun w1 w2 k0 => V0 ρ [vi w1, vs w2] [] k0) = F0 fuelN := by
  funext w1 w2 k0
  exact ofC_enc enc0I _ (w1, w2)
theorem main (W0) {ρ : Type} (K : AV → List Ob → Option ρ) (a1) : exC Try.prog (G) (L W0) [] 0 (bodyOf Try.f49) (entry 20 [vi a1] [] []) (finO Try.prog Try.f49.results.toList 0 [] [] K) =
    B (fun w1 w2 k0 => W0 ρ [vi w1, vs w2] [] k0) a1 (fun x1 => K (vs x1) []) := by kernel_rfl
theorem Gok : (G).ok Try.prog := ⟨(fun ρ f args K r h => (by cases h)),
  (fun ρ f args K => rfl),
  (fun ρ f st caps args dst K r h => (by cases h))⟩
theorem hm : Try.prog.follows .mixedOrders = true := by kernel_rfl
theorem e0 : atomsL [] 1 c0 = [] := by kernel_rfl
theorem ok0 (ρ : Type) (st : St) (K : Exit → St → Option ρ) (r : ρ) (h : (L V0) ρ 0 st K = some r) : AW Try.prog (.loop c0) st fun e st' => K e st' = some r := by
  refine loop_ok (ct := ct0) (lv := lv0) (n := 20) (m := 0) (ks := []) (j := 0) (jn := []) (L := (L V0)) Gok hm (by rw [e0]; exact Lor.ok_nil _ _) enc0I (fun k t => F0 k t.1 t.2 (fun z1 => K (.exit 0) (mkS 20 [3] [vs z1] [] []))) (fun t => rfl) (fun k t => ?_) (fun _ => fuelN) h
  refine (step0 V0 K _ t.1 t.2).trans ?_
  refine congrArg (fun W => B0 t.1 t.2 W (fun z1 => K (.exit 0) (mkS 20 [3] [vs z1] [] []))) ?_
  funext u1 u2
  exact ofC_enc enc0I _ (u1, u2)
theorem e : atomsL [] 0 (bodyOf Try.f49) = [(0, 0, .loop c0)] := by kernel_rfl
theorem acc (t : Int) (x : ByteArray) (h : F t = some x) : ACc Try.prog 49 (encA t) [] true [] fun rv obs => (rv, obs) = encR x := by
  refine fun_okc (L := (L V0)) (jn := []) (cmds := []) (ks := []) (hin := []) (fn := Try.f49) (body := (bodyOf Try.f49)) Gok hm Try.func49 (by kernel_rfl) (by kernel_rfl) (by rw [e]; exact Lor.ok_cons ok0 (Lor.ok_nil _ _)) ?_ h
  refine (main V0 _ t).trans ?_
  rw [V0_enc]
  refine congrArg (fun K => B (F0 fuelN) t K) ?_
  funext x1
  exact ofC_enc encRI some (x1)
theorem ac0 (t : Int) (x : ByteArray) (h : F t = some x) : AC Try.prog 49 (encA t) [] true [] fun rv obs => (rv, obs) = encR x := ACc.ac (body := bodyOf Try.f49) Try.func49 (by kernel_rfl) (by kernel_rfl) (acc t x h)
theorem ac (args : List AV) (x : ByteArray) (h : Q args = some x) : AC Try.prog 49 args [] false [] fun rv obs => (rv, obs) = encR x := by
  obtain ⟨t, rfl, h2⟩ := ofC_some h
  refine (ac0 t x h2).flat fun rv obs e => ?_
  obtain rfl : rv = (encR x).1 := congrArg Prod.fst e
  obtain rfl : obs = (encR x).2 := congrArg Prod.snd e
  refine ⟨by simp [encR, AV.Flat, K.Flat, C.Flat], ?_⟩
  simp [encR]
end laws_markText
/-! loop.example/g00073/laws.markNameS -/
namespace laws_markNameS_s0773
noncomputable def B0 {ρ : Type} (C0 : Int → Option ByteArray) (v1 : Int) (v2 : Int) (v3 : Vec (ByteArray × Int × Int)) (W : Int → Int → (Vec (ByteArray × Int × Int)) → Option ρ) (K0 : Int → (Vec (ByteArray × Int × Int)) → Option ρ) : Option ρ :=
  sel (decide (v2 < (v3.n : Int))) ((C0 v1).bind fun r1 => chk (decide (0 ≤ v2 ∧ v2 < (v3.n : Int))) (chk (decide (v2.toNat < v3.n)) (chk (decide (0 ≤ v2 ∧ v2 < ((Vec.set v3 v2.toNat (r1, (v3.g v2.toNat).2.1, (v3.g v2.toNat).2.2)).n : Int))) (chk (decide (v2.toNat < (Vec.set v3 v2.toNat (r1, (v3.g v2.toNat).2.1, (v3.g v2.toNat).2.2)).n)) (chk (decide (0 ≤ v2 ∧ v2 < ((Vec.set (Vec.set v3 v2.toNat (r1, (v3.g v2.toNat).2.1, (v3.g v2.toNat).2.2)) v2.toNat (((Vec.set v3 v2.toNat (r1, (v3.g v2.toNat).2.1, (v3.g v2.toNat).2.2)).g v2.toNat).1, (wr (v1 + (1 : Int))), ((Vec.set v3 v2.toNat (r1, (v3.g v2.toNat).2.1, (v3.g v2.toNat).2.2)).g v2.toNat).2.2)).n : Int))) (chk (decide (v2.toNat < (Vec.set (Vec.set v3 v2.toNat (r1, (v3.g v2.toNat).2.1, (v3.g v2.toNat).2.2)) v2.toNat (((Vec.set v3 v2.toNat (r1, (v3.g v2.toNat).2.1, (v3.g v2.toNat).2.2)).g v2.toNat).1, (wr (v1 + (1 : Int))), ((Vec.set v3 v2.toNat (r1, (v3.g v2.toNat).2.1, (v3.g v2.toNat).2.2)).g v2.toNat).2.2)).n)) (W (wr ((wr ((wr (v1 + (1 : Int))) + (1 : Int))) + (1 : Int))) (wr (v2 + (1 : Int))) (Vec.set (Vec.set (Vec.set v3 v2.toNat (r1, (v3.g v2.toNat).2.1, (v3.g v2.toNat).2.2)) v2.toNat (((Vec.set v3 v2.toNat (r1, (v3.g v2.toNat).2.1, (v3.g v2.toNat).2.2)).g v2.toNat).1, (wr (v1 + (1 : Int))), ((Vec.set v3 v2.toNat (r1, (v3.g v2.toNat).2.1, (v3.g v2.toNat).2.2)).g v2.toNat).2.2)) v2.toNat (((Vec.set (Vec.set v3 v2.toNat (r1, (v3.g v2.toNat).2.1, (v3.g v2.toNat).2.2)) v2.toNat (((Vec.set v3 v2.toNat (r1, (v3.g v2.toNat).2.1, (v3.g v2.toNat).2.2)).g v2.toNat).1, (wr (v1 + (1 : Int))), ((Vec.set v3 v2.toNat (r1, (v3.g v2.toNat).2.1, (v3.g v2.toNat).2.2)).g v2.toNat).2.2)).g v2.toNat).1, ((Vec.set (Vec.set v3 v2.toNat (r1, (v3.g v2.toNat).2.1, (v3.g v2.toNat).2.2)) v2.toNat (((Vec.set v3 v2.toNat (r1, (v3.g v2.toNat).2.1, (v3.g v2.toNat).2.2)).g v2.toNat).1, (wr (v1 + (1 : Int))), ((Vec.set v3 v2.toNat (r1, (v3.g v2.toNat).2.1, (v3.g v2.toNat).2.2)).g v2.toNat).2.2)).g v2.toNat).2.1, (wr ((wr (v1 + (1 : Int))) + (1 : Int)))))))))))) (K0 v1 v3)
noncomputable def F0 {ρ : Type} : Nat → Int → Int → (Vec (ByteArray × Int × Int)) → (Int → (Vec (ByteArray × Int × Int)) → Option ρ) → Option ρ
  | 0, _, _, _, _ => none
  | k + 1, v1, v2, v3, K0 => B0 laws_markText.F v1 v2 v3 (fun v1' v2' v3' => F0 k v1' v2' v3' K0) K0
noncomputable def B {ρ : Type} (L0 : Int → Int → (Vec (ByteArray × Int × Int)) → (Int → (Vec (ByteArray × Int × Int)) → Option ρ) → Option ρ) (a1 : Int) (a2 : Vec (ByteArray × Int × Int)) (K : Int → (Vec (ByteArray × Int × Int)) → Option ρ) : Option ρ :=
  L0 a1 (0 : Int) a2 (fun e01 e02 => K e01 e02)
noncomputable def F (a1 : Int) (a2 : Vec (ByteArray × Int × Int)) : Option (Int × (Vec (ByteArray × Int × Int))) := B (F0 fuelN) a1 a2 (fun x1 x2 => some (x1, x2))
def encA (t : Int × (Vec (ByteArray × Int × Int))) : List AV × List Ob := ([.c (.h 0), vi t.1], [ro t.2])
def encR (x : Int × (Vec (ByteArray × Int × Int))) : AV × List Ob := (vi x.1, [ro x.2])
theorem encAI : ∀ a b, encA a = encA b → a = b := by
  intro a b h
  obtain ⟨a0, a1⟩ := a
  obtain ⟨b0, b1⟩ := b
  simp [encA, encRw_iff] at h
  simp_all
theorem encRI : ∀ a b, encR a = encR b → a = b := by
  intro a b h
  obtain ⟨a0, a1⟩ := a
  obtain ⟨b0, b1⟩ := b
  simp [encR, encRw_iff] at h
  simp_all
noncomputable def Q (args : List AV) (hin : List Ob) : Option (Int × (Vec (ByteArray × Int × Int))) := ofC encA (fun t => F t.1 t.2) (args, hin)
theorem wrap : (fun (y1 : Int) (y2 : Vec (ByteArray × Int × Int)) => Q [.c (.h 0), vi y1] [ro y2]) = F := by
  funext y1 y2
  exact ofC_enc encAI _ (y1, y2)
noncomputable def G (Q0 : List AV → Option ByteArray) : Orc := ⟨fun f => sel (Nat.beq f 49) 0 (9), fun ρ f args K => sel (Nat.beq f 49) (qEntry laws_markText.encR Q0 args K) (Option.none), noE, false⟩
noncomputable def L (W0 : (ρ : Type) → List AV → List Ob → (Int → (Vec (ByteArray × Int × Int)) → Option ρ) → Option ρ) : Lor := fun ρ j st K => sel (Nat.beq j 0) (cutO Try.prog 35 [0, 1, 5] 1 [true] [] st fun avs obs => W0 ρ avs obs (fun z1 z2 => K (.exit 0) (mkS 35 [1] [vi z1] [ro z2] [true]))) (Option.none)
noncomputable def c0 : Code := loopC (atomN [] 0 (bodyOf Try.f13) 0)
def ct0 : Cut := ⟨[0, 1, 5], []⟩
def lv0 : Exit → Cut
  | .exit 0 => ⟨[1], []⟩
  | _ => ⟨[], []⟩
theorem step0 (Q0) (W0) {ρ : Type} (K : Exit → St → Option ρ) (W : List AV → List Ob → Option ρ) (v1 v2 v3) : exC Try.prog (G Q0) (L W0) [] 1 c0 (mkS 35 [0, 1, 5] [.c (.h 0), vi v1, vi v2] [ro v3] [true]) (bodyK Try.prog 35 1 [true] ct0 W lv0 K) =
    B0 (fun y1 => Q0 [vi y1]) v1 v2 v3 (fun u1 u2 u3 => W [.c (.h 0), vi u1, vi u2] [ro u3]) (fun z1 z2 => K (.exit 0) (mkS 35 [1] [vi z1] [ro z2] [true])) := by kernel_rfl
def enc0 (t : Int × Int × (Vec (ByteArray × Int × Int))) : List AV × List Ob := ([.c (.h 0), vi t.1, vi t.2.1], [ro t.2.2])
theorem enc0I : ∀ a b, enc0 a = enc0 b → a = b := by
  intro a b h
  obtain ⟨a0, a1, a2⟩ := a
  obtain ⟨b0, b1, b2⟩ := b
  simp [enc0, encRw_iff] at h
  simp_all
noncomputable def V0 : (ρ : Type) → List AV → List Ob → (Int → (Vec (ByteArray × Int × Int)) → Option ρ) → Option ρ := fun ρ avs obs k0 => ofC enc0 (fun t => F0 fuelN t.1 t.2.1 t.2.2 k0) (avs, obs)
theorem V0_enc (ρ : Type) : (fun w1 w2 w3 k0 => V0 ρ [.c (.h 0), vi w1, vi w2] [ro w3] k0) = F0 fuelN := by
  funext w1 w2 w3 k0
  exact ofC_enc enc0I _ (w1, w2, w3)
theorem main (Q0) (W0) {ρ : Type} (K : AV → List Ob → Option ρ) (a1 a2) : exC Try.prog (G Q0) (L W0) [] 0 (bodyOf Try.f13) (entry 35 [.c (.h 0), vi a1] [ro a2] [true]) (finO Try.prog Try.f13.results.toList 1 [true] [] K) =
    B (fun w1 w2 w3 k0 => W0 ρ [.c (.h 0), vi w1, vi w2] [ro w3] k0) a1 a2 (fun x1 x2 => K (vi x1) [ro x2]) := by kernel_rfl
theorem Gok : (G laws_markText.Q).ok Try.prog := ⟨(by
    intro ρ f args K r h
    rcases sel_cases h with ⟨hb, h⟩ | ⟨-, h⟩
    · obtain rfl := beq_nat hb
      exact qEntry_ok laws_markText.ac h
    cases h),
  (by
    intro ρ f args K
    simp only [G]
    cases Nat.beq f 49 with
    | true => exact qEntry_nat args K
    | false =>
    simp only [sel]
    rfl),
  (fun ρ f st caps args dst K r h => (by cases h))⟩
theorem hm : Try.prog.follows .mixedOrders = true := by kernel_rfl
theorem e0 : atomsL [] 1 c0 = [] := by kernel_rfl
theorem ok0 (ρ : Type) (st : St) (K : Exit → St → Option ρ) (r : ρ) (h : (L V0) ρ 0 st K = some r) : AW Try.prog (.loop c0) st fun e st' => K e st' = some r := by
  refine loop_ok (ct := ct0) (lv := lv0) (n := 35) (m := 1) (ks := [true]) (j := 0) (jn := []) (L := (L V0)) Gok hm (by rw [e0]; exact Lor.ok_nil _ _) enc0I (fun k t => F0 k t.1 t.2.1 t.2.2 (fun z1 z2 => K (.exit 0) (mkS 35 [1] [vi z1] [ro z2] [true]))) (fun t => rfl) (fun k t => ?_) (fun _ => fuelN) h
  refine (step0 laws_markText.Q V0 K _ t.1 t.2.1 t.2.2).trans ?_
  rw [laws_markText.wrap]
  refine congrArg (fun W => B0 laws_markText.F t.1 t.2.1 t.2.2 W (fun z1 z2 => K (.exit 0) (mkS 35 [1] [vi z1] [ro z2] [true]))) ?_
  funext u1 u2 u3
  exact ofC_enc enc0I _ (u1, u2, u3)
theorem e : atomsL [] 0 (bodyOf Try.f13) = [(0, 0, .loop c0)] := by kernel_rfl
theorem acc (t : Int × (Vec (ByteArray × Int × Int))) (x : Int × (Vec (ByteArray × Int × Int))) (h : F t.1 t.2 = some x) : ACc Try.prog 13 (encA t).1 (encA t).2 true [true] fun rv obs => (rv, obs) = encR x := by
  refine fun_okc (L := (L V0)) (jn := []) (cmds := []) (ks := [true]) (hin := (encA t).2) (fn := Try.f13) (body := (bodyOf Try.f13)) Gok hm Try.func13 (by kernel_rfl) (by kernel_rfl) (by rw [e]; exact Lor.ok_cons ok0 (Lor.ok_nil _ _)) ?_ h
  refine (main laws_markText.Q V0 _ t.1 t.2).trans ?_
  rw [V0_enc]
  refine congrArg (fun K => B (F0 fuelN) t.1 t.2 K) ?_
  funext x1 x2
  exact ofC_enc encRI some (x1, x2)
theorem ac0 (t : Int × (Vec (ByteArray × Int × Int))) (x : Int × (Vec (ByteArray × Int × Int))) (h : F t.1 t.2 = some x) : AC Try.prog 13 (encA t).1 (encA t).2 true [true] fun rv obs => (rv, obs) = encR x := ACc.ac (body := bodyOf Try.f13) Try.func13 (by kernel_rfl) (by kernel_rfl) (acc t x h)
theorem ac (args : List AV) (hin : List Ob) (x : Int × (Vec (ByteArray × Int × Int))) (h : Q args hin = some x) : AC Try.prog 13 args hin false [true] fun rv obs => (rv, obs) = encR x := by
  obtain ⟨t, he, h2⟩ := ofC_some h
  obtain rfl : args = (encA t).1 := (congrArg Prod.fst he).symm
  obtain rfl : hin = (encA t).2 := (congrArg Prod.snd he).symm
  refine (ac0 t x h2).flat fun rv obs e => ?_
  obtain rfl : rv = (encR x).1 := congrArg Prod.fst e
  obtain rfl : obs = (encR x).2 := congrArg Prod.snd e
  refine ⟨by simp [encR, AV.Flat, K.Flat, C.Flat], ?_⟩
  intro o ho
  simp only [encR, List.mem_cons, List.not_mem_nil, or_false] at ho
  subst ho
  exact flat_rw rfl _
end laws_markNameS_s0773
/-! loop.example/g00073/laws.heldNameS -/
namespace laws_heldNameS
noncomputable def B0 {ρ : Type} (C0 : Int → Option ByteArray) (v1 : Vec (ByteArray × Int × Int)) (v2 : Int) (v3 : Int) (W : (Vec (ByteArray × Int × Int)) → Int → Int → Option ρ) (K0 : Int → Option ρ) (Kr : Int → Option ρ) : Option ρ :=
  sel (decide (v3 < (v1.n : Int))) (chk (decide (0 ≤ v3 ∧ v3 < (v1.n : Int))) ((C0 v2).bind fun r1 => sel ((!decide ((v1.g v3.toNat).1 = r1))) (Kr (-1 : Int)) (chk (decide (0 ≤ v3 ∧ v3 < (v1.n : Int))) (sel ((!decide ((v1.g v3.toNat).2.1 = (wr (v2 + (1 : Int)))))) (Kr (-1 : Int)) (chk (decide (0 ≤ v3 ∧ v3 < (v1.n : Int))) (sel ((!decide ((v1.g v3.toNat).2.2 = (wr ((wr (v2 + (1 : Int))) + (1 : Int)))))) (Kr (-1 : Int)) (W v1 (wr ((wr ((wr (v2 + (1 : Int))) + (1 : Int))) + (1 : Int))) (wr (v3 + (1 : Int)))))))))) (K0 v2)
noncomputable def F0 {ρ : Type} : Nat → (Vec (ByteArray × Int × Int)) → Int → Int → (Int → Option ρ) → (Int → Option ρ) → Option ρ
  | 0, _, _, _, _, _ => none
  | k + 1, v1, v2, v3, K0, Kr => B0 laws_markText.F v1 v2 v3 (fun v1' v2' v3' => F0 k v1' v2' v3' K0 Kr) K0 Kr
noncomputable def B {ρ : Type} (L0 : (Vec (ByteArray × Int × Int)) → Int → Int → (Int → Option ρ) → (Int → Option ρ) → Option ρ) (a1 : Vec (ByteArray × Int × Int)) (a2 : Int) (K : Int → Option ρ) : Option ρ :=
  L0 a1 a2 (0 : Int) (fun e01 => K e01) (fun x01 => K x01)
noncomputable def F (a1 : Vec (ByteArray × Int × Int)) (a2 : Int) : Option Int := B (F0 fuelN) a1 a2 (fun x1 => some (x1))
def encA (t : (Vec (ByteArray × Int × Int)) × Int) : List AV := [vl t.1, vi t.2]
def encR (x : Int) : AV × List Ob := (vi x, [])
theorem encAI : ∀ a b, encA a = encA b → a = b := by
  intro a b h
  obtain ⟨a0, a1⟩ := a
  obtain ⟨b0, b1⟩ := b
  simp [encA, encRw_iff] at h
  simp_all
theorem encRI : ∀ a b, encR a = encR b → a = b := by
  intro a b h
  simp [encR, encRw_iff] at h
  simp_all
noncomputable def Q (args : List AV) : Option Int := ofC encA (fun t => F t.1 t.2) args
theorem wrap : (fun (y1 : Vec (ByteArray × Int × Int)) (y2 : Int) => Q [vl y1, vi y2]) = F := by
  funext y1 y2
  exact ofC_enc encAI _ (y1, y2)
noncomputable def G (Q0 : List AV → Option ByteArray) : Orc := ⟨fun f => sel (Nat.beq f 49) 0 (9), fun ρ f args K => sel (Nat.beq f 49) (qEntry laws_markText.encR Q0 args K) (Option.none), noE, false⟩
noncomputable def L (W0 : (ρ : Type) → List AV → List Ob → (Int → Option ρ) → (Int → Option ρ) → Option ρ) : Lor := fun ρ j st K => sel (Nat.beq j 0) (cutO Try.prog 41 [0, 1, 5] 0 [] [] st fun avs obs => W0 ρ avs obs (fun z1 => K (.exit 0) (mkS 41 [1] [vi z1] [] [])) (fun z1 => K .ret (mkS 41 [4] [vi z1] [] []))) (Option.none)
noncomputable def c0 : Code := loopC (atomN [] 0 (bodyOf Try.f14) 0)
def ct0 : Cut := ⟨[0, 1, 5], []⟩
def lv0 : Exit → Cut
  | .exit 0 => ⟨[1], []⟩
  | .ret => ⟨[4], []⟩
  | _ => ⟨[], []⟩
theorem step0 (Q0) (W0) {ρ : Type} (K : Exit → St → Option ρ) (W : List AV → List Ob → Option ρ) (v1 v2 v3) : exC Try.prog (G Q0) (L W0) [] 1 c0 (mkS 41 [0, 1, 5] [vl v1, vi v2, vi v3] [] []) (bodyK Try.prog 41 0 [] ct0 W lv0 K) =
    B0 (fun y1 => Q0 [vi y1]) v1 v2 v3 (fun u1 u2 u3 => W [vl u1, vi u2, vi u3] []) (fun z1 => K (.exit 0) (mkS 41 [1] [vi z1] [] [])) (fun z1 => K .ret (mkS 41 [4] [vi z1] [] [])) := by kernel_rfl
def enc0 (t : (Vec (ByteArray × Int × Int)) × Int × Int) : List AV × List Ob := ([vl t.1, vi t.2.1, vi t.2.2], [])
theorem enc0I : ∀ a b, enc0 a = enc0 b → a = b := by
  intro a b h
  obtain ⟨a0, a1, a2⟩ := a
  obtain ⟨b0, b1, b2⟩ := b
  simp [enc0, encRw_iff] at h
  simp_all
noncomputable def V0 : (ρ : Type) → List AV → List Ob → (Int → Option ρ) → (Int → Option ρ) → Option ρ := fun ρ avs obs k0 kr => ofC enc0 (fun t => F0 fuelN t.1 t.2.1 t.2.2 k0 kr) (avs, obs)
theorem V0_enc (ρ : Type) : (fun w1 w2 w3 k0 kr => V0 ρ [vl w1, vi w2, vi w3] [] k0 kr) = F0 fuelN := by
  funext w1 w2 w3 k0 kr
  exact ofC_enc enc0I _ (w1, w2, w3)
theorem main (Q0) (W0) {ρ : Type} (K : AV → List Ob → Option ρ) (a1 a2) : exC Try.prog (G Q0) (L W0) [] 0 (bodyOf Try.f14) (entry 41 [vl a1, vi a2] [] []) (finO Try.prog Try.f14.results.toList 0 [] [] K) =
    B (fun w1 w2 w3 k0 kr => W0 ρ [vl w1, vi w2, vi w3] [] k0 kr) a1 a2 (fun x1 => K (vi x1) []) := by kernel_rfl
theorem Gok : (G laws_markText.Q).ok Try.prog := ⟨(by
    intro ρ f args K r h
    rcases sel_cases h with ⟨hb, h⟩ | ⟨-, h⟩
    · obtain rfl := beq_nat hb
      exact qEntry_ok laws_markText.ac h
    cases h),
  (by
    intro ρ f args K
    simp only [G]
    cases Nat.beq f 49 with
    | true => exact qEntry_nat args K
    | false =>
    simp only [sel]
    rfl),
  (fun ρ f st caps args dst K r h => (by cases h))⟩
theorem hm : Try.prog.follows .mixedOrders = true := by kernel_rfl
theorem e0 : atomsL [] 1 c0 = [] := by kernel_rfl
theorem ok0 (ρ : Type) (st : St) (K : Exit → St → Option ρ) (r : ρ) (h : (L V0) ρ 0 st K = some r) : AW Try.prog (.loop c0) st fun e st' => K e st' = some r := by
  refine loop_ok (ct := ct0) (lv := lv0) (n := 41) (m := 0) (ks := []) (j := 0) (jn := []) (L := (L V0)) Gok hm (by rw [e0]; exact Lor.ok_nil _ _) enc0I (fun k t => F0 k t.1 t.2.1 t.2.2 (fun z1 => K (.exit 0) (mkS 41 [1] [vi z1] [] [])) (fun z1 => K .ret (mkS 41 [4] [vi z1] [] []))) (fun t => rfl) (fun k t => ?_) (fun _ => fuelN) h
  refine (step0 laws_markText.Q V0 K _ t.1 t.2.1 t.2.2).trans ?_
  rw [laws_markText.wrap]
  refine congrArg (fun W => B0 laws_markText.F t.1 t.2.1 t.2.2 W (fun z1 => K (.exit 0) (mkS 41 [1] [vi z1] [] [])) (fun z1 => K .ret (mkS 41 [4] [vi z1] [] []))) ?_
  funext u1 u2 u3
  exact ofC_enc enc0I _ (u1, u2, u3)
theorem e : atomsL [] 0 (bodyOf Try.f14) = [(0, 0, .loop c0)] := by kernel_rfl
theorem acc (t : (Vec (ByteArray × Int × Int)) × Int) (x : Int) (h : F t.1 t.2 = some x) : ACc Try.prog 14 (encA t) [] true [] fun rv obs => (rv, obs) = encR x := by
  refine fun_okc (L := (L V0)) (jn := []) (cmds := []) (ks := []) (hin := []) (fn := Try.f14) (body := (bodyOf Try.f14)) Gok hm Try.func14 (by kernel_rfl) (by kernel_rfl) (by rw [e]; exact Lor.ok_cons ok0 (Lor.ok_nil _ _)) ?_ h
  refine (main laws_markText.Q V0 _ t.1 t.2).trans ?_
  rw [V0_enc]
  refine congrArg (fun K => B (F0 fuelN) t.1 t.2 K) ?_
  funext x1
  exact ofC_enc encRI some (x1)
theorem ac0 (t : (Vec (ByteArray × Int × Int)) × Int) (x : Int) (h : F t.1 t.2 = some x) : AC Try.prog 14 (encA t) [] true [] fun rv obs => (rv, obs) = encR x := ACc.ac (body := bodyOf Try.f14) Try.func14 (by kernel_rfl) (by kernel_rfl) (acc t x h)
theorem ac (args : List AV) (x : Int) (h : Q args = some x) : AC Try.prog 14 args [] false [] fun rv obs => (rv, obs) = encR x := by
  obtain ⟨t, rfl, h2⟩ := ofC_some h
  refine (ac0 t x h2).flat fun rv obs e => ?_
  obtain rfl : rv = (encR x).1 := congrArg Prod.fst e
  obtain rfl : obs = (encR x).2 := congrArg Prod.snd e
  refine ⟨by simp [encR, AV.Flat, K.Flat, C.Flat], ?_⟩
  simp [encR]
end laws_heldNameS
/-! loop.example/g00073/laws.FnExactMoveName -/
namespace laws_FnExactMoveName
noncomputable def B {ρ : Type} (C0 : (Vec (ByteArray × Int × Int)) → Int → Option Int) (C1 : (Vec (ByteArray × Int × Int)) → Option (Vec (ByteArray × Int × Int))) (C2 : (Vec (ByteArray × Int × Int)) → ByteArray → ByteArray → Option (Bool × (Vec (ByteArray × Int × Int)))) (C3 : (Vec (ByteArray × Int × Int)) → ByteArray → ByteArray → Option (Bool × (Vec (ByteArray × Int × Int)))) (C4 : (Vec (ByteArray × Int × Int)) → (Vec (ByteArray × Int × Int)) → Option Bool) (C5 : Int → (Vec (ByteArray × Int × Int)) → Option (Int × (Vec (ByteArray × Int × Int)))) (C6 : (Vec (ByteArray × Int × Int)) → Int → Option Int) (a1 : Vec (ByteArray × Int × Int)) (a2 : ByteArray) (a3 : ByteArray) (K : Bool → Option ρ) : Option ρ :=
  sel (decide ((1048576 : Int) < (a2.size : Int))) (K true) (sel (decide ((1048576 : Int) < (a3.size : Int))) (K true) ((C0 a1 (1048576 : Int)).bind fun r1 => sel (decide (r1 < (0 : Int))) (K true) ((C1 a1).bind fun r2 => (C2 r2 a2 a3).bind fun r3 => (C1 a1).bind fun r4 => (C3 r4 a2 a3).bind fun r5 => (C4 r5.2 r3.2).bind fun r6 => sel ((!r6)) (K false) (sel ((!(r5.1 == r3.1))) (K false) ((C1 a1).bind fun r7 => (C4 r4 r7).bind fun r8 => sel ((!r8)) (K false) ((C5 (1 : Int) r4).bind fun r9 => sel (decide (r9.1 < (0 : Int))) (K false) ((C4 r5.2 r3.2).bind fun r10 => sel ((!r10)) (K false) (sel ((!(r5.1 == r3.1))) (K false) ((C5 (1 : Int) r5.2).bind fun r11 => (C6 r11.2 (1 : Int)).bind fun r12 => sel (decide (r12 < (0 : Int))) (K false) (sel ((!decide (r12 = r11.1))) (K false) ((C1 a1).bind fun r13 => (C3 r13 a2 a3).bind fun r14 => (C4 r14.2 r3.2).bind fun r15 => sel ((!r15)) (K false) (sel ((!(r14.1 == r3.1))) (K false) ((C6 r11.2 (1 : Int)).bind fun r16 => sel (decide (r16 < (0 : Int))) (K false) (sel ((!decide (r16 = r11.1))) (K false) (K true)))))))))))))))
noncomputable def F (a1 : Vec (ByteArray × Int × Int)) (a2 : ByteArray) (a3 : ByteArray) : Option Bool := B laws_szNameS.F laws_toNameS.F spec_MoveName.F impl_MoveName.F laws_eqNameS.F laws_markNameS_s0773.F laws_heldNameS.F a1 a2 a3 (fun x1 => some (x1))
def encA (t : (Vec (ByteArray × Int × Int)) × ByteArray × ByteArray) : List AV := [vl t.1, vs t.2.1, vs t.2.2]
def encR (x : Bool) : AV × List Ob := (vb x, [])
theorem encAI : ∀ a b, encA a = encA b → a = b := by
  intro a b h
  obtain ⟨a0, a1, a2⟩ := a
  obtain ⟨b0, b1, b2⟩ := b
  simp [encA, encRw_iff] at h
  simp_all
theorem encRI : ∀ a b, encR a = encR b → a = b := by
  intro a b h
  simp [encR, encRw_iff] at h
  simp_all
noncomputable def Q (args : List AV) : Option Bool := ofC encA (fun t => F t.1 t.2.1 t.2.2) args
theorem wrap : (fun (y1 : Vec (ByteArray × Int × Int)) (y2 : ByteArray) (y3 : ByteArray) => Q [vl y1, vs y2, vs y3]) = F := by
  funext y1 y2 y3
  exact ofC_enc encAI _ (y1, y2, y3)
noncomputable def G (Q0 : List AV → Option Int) (Q1 : List AV → Option (Vec (ByteArray × Int × Int))) (Q2 : List AV → Option (Bool × (Vec (ByteArray × Int × Int)))) (Q3 : List AV → Option (Bool × (Vec (ByteArray × Int × Int)))) (Q4 : List AV → Option Bool) (Q5 : List AV → List Ob → Option (Int × (Vec (ByteArray × Int × Int)))) (Q6 : List AV → Option Int) : Orc := ⟨fun f => sel (Nat.beq f 8) 0 (sel (Nat.beq f 10) 0 (sel (Nat.beq f 9) 0 (sel (Nat.beq f 11) 0 (sel (Nat.beq f 12) 0 (sel (Nat.beq f 14) 0 (9)))))), fun ρ f args K => sel (Nat.beq f 8) (qEntry laws_szNameS.encR Q0 args K) (sel (Nat.beq f 10) (qEntry laws_toNameS.encR Q1 args K) (sel (Nat.beq f 9) (qEntry spec_MoveName.encR Q2 args K) (sel (Nat.beq f 11) (qEntry impl_MoveName.encR Q3 args K) (sel (Nat.beq f 12) (qEntry laws_eqNameS.encR Q4 args K) (sel (Nat.beq f 14) (qEntry laws_heldNameS.encR Q6 args K) (Option.none)))))), fun ρ f st args dst K => sel (Nat.beq f 13) (callE Try.prog 13 [true, false] false [true] laws_markNameS_s0773.encR Q5 st args dst K) (Option.none), false⟩
noncomputable def L : Lor := fun ρ j st K => Option.none
theorem main (Q0 Q1 Q2 Q3 Q4 Q5 Q6) {ρ : Type} (K : AV → List Ob → Option ρ) (a1 a2 a3) : exC Try.prog (G Q0 Q1 Q2 Q3 Q4 Q5 Q6) (L) [] 0 (bodyOf Try.f3) (entry 112 [vl a1, vs a2, vs a3] [] []) (finO Try.prog Try.f3.results.toList 0 [] [] K) =
    B (fun y1 y2 => Q0 [vl y1, vi y2]) (fun y1 => Q1 [vl y1]) (fun y1 y2 y3 => Q2 [vl y1, vs y2, vs y3]) (fun y1 y2 y3 => Q3 [vl y1, vs y2, vs y3]) (fun y1 y2 => Q4 [vl y1, vl y2]) (fun y1 y2 => Q5 [.c (.h 0), vi y1] [ro y2]) (fun y1 y2 => Q6 [vl y1, vi y2]) a1 a2 a3 (fun x1 => K (vb x1) []) := by kernel_rfl
theorem Gok : (G laws_szNameS.Q laws_toNameS.Q spec_MoveName.Q impl_MoveName.Q laws_eqNameS.Q laws_markNameS_s0773.Q laws_heldNameS.Q).ok Try.prog := ⟨(by
    intro ρ f args K r h
    rcases sel_cases h with ⟨hb, h⟩ | ⟨-, h⟩
    · obtain rfl := beq_nat hb
      exact qEntry_ok laws_szNameS.ac h
    rcases sel_cases h with ⟨hb, h⟩ | ⟨-, h⟩
    · obtain rfl := beq_nat hb
      exact qEntry_ok laws_toNameS.ac h
    rcases sel_cases h with ⟨hb, h⟩ | ⟨-, h⟩
    · obtain rfl := beq_nat hb
      exact qEntry_ok spec_MoveName.ac h
    rcases sel_cases h with ⟨hb, h⟩ | ⟨-, h⟩
    · obtain rfl := beq_nat hb
      exact qEntry_ok impl_MoveName.ac h
    rcases sel_cases h with ⟨hb, h⟩ | ⟨-, h⟩
    · obtain rfl := beq_nat hb
      exact qEntry_ok laws_eqNameS.ac h
    rcases sel_cases h with ⟨hb, h⟩ | ⟨-, h⟩
    · obtain rfl := beq_nat hb
      exact qEntry_ok laws_heldNameS.ac h
    cases h),
  (by
    intro ρ f args K
    simp only [G]
    cases Nat.beq f 8 with
    | true => exact qEntry_nat args K
    | false =>
    simp only [sel]
    cases Nat.beq f 10 with
    | true => exact qEntry_nat args K
    | false =>
    simp only [sel]
    cases Nat.beq f 9 with
    | true => exact qEntry_nat args K
    | false =>
    simp only [sel]
    cases Nat.beq f 11 with
    | true => exact qEntry_nat args K
    | false =>
    simp only [sel]
    cases Nat.beq f 12 with
    | true => exact qEntry_nat args K
    | false =>
    simp only [sel]
    cases Nat.beq f 14 with
    | true => exact qEntry_nat args K
    | false =>
    simp only [sel]
    rfl),
  (by
    intro ρ f st caps args dst K r h
    rcases sel_cases h with ⟨hb, h⟩ | ⟨-, h⟩
    · obtain rfl := beq_nat hb
      exact callE_ok (fun h => by cases h) laws_markNameS_s0773.ac h
    cases h)⟩
theorem hm : Try.prog.follows .mixedOrders = true := by kernel_rfl
theorem e : atomsL [] 0 (bodyOf Try.f3) = [] := by kernel_rfl
theorem acc (t : (Vec (ByteArray × Int × Int)) × ByteArray × ByteArray) (x : Bool) (h : F t.1 t.2.1 t.2.2 = some x) : ACc Try.prog 3 (encA t) [] true [] fun rv obs => (rv, obs) = encR x := by
  refine fun_okc (L := (L)) (jn := []) (cmds := []) (ks := []) (hin := []) (fn := Try.f3) (body := (bodyOf Try.f3)) Gok hm Try.func3 (by kernel_rfl) (by kernel_rfl) (by rw [e]; exact Lor.ok_nil _ _) ?_ h
  refine (main laws_szNameS.Q laws_toNameS.Q spec_MoveName.Q impl_MoveName.Q laws_eqNameS.Q laws_markNameS_s0773.Q laws_heldNameS.Q _ t.1 t.2.1 t.2.2).trans ?_
  rw [laws_szNameS.wrap, laws_toNameS.wrap, spec_MoveName.wrap, impl_MoveName.wrap, laws_eqNameS.wrap, laws_markNameS_s0773.wrap, laws_heldNameS.wrap]
  refine congrArg (fun K => B laws_szNameS.F laws_toNameS.F spec_MoveName.F impl_MoveName.F laws_eqNameS.F laws_markNameS_s0773.F laws_heldNameS.F t.1 t.2.1 t.2.2 K) ?_
  funext x1
  exact ofC_enc encRI some (x1)
theorem ac0 (t : (Vec (ByteArray × Int × Int)) × ByteArray × ByteArray) (x : Bool) (h : F t.1 t.2.1 t.2.2 = some x) : AC Try.prog 3 (encA t) [] true [] fun rv obs => (rv, obs) = encR x := ACc.ac (body := bodyOf Try.f3) Try.func3 (by kernel_rfl) (by kernel_rfl) (acc t x h)
theorem ac (args : List AV) (x : Bool) (h : Q args = some x) : AC Try.prog 3 args [] false [] fun rv obs => (rv, obs) = encR x := by
  obtain ⟨t, rfl, h2⟩ := ofC_some h
  refine (ac0 t x h2).flat fun rv obs e => ?_
  obtain rfl : rv = (encR x).1 := congrArg Prod.fst e
  obtain rfl : obs = (encR x).2 := congrArg Prod.snd e
  refine ⟨by simp [encR, AV.Flat, K.Flat, C.Flat], ?_⟩
  simp [encR]
end laws_FnExactMoveName
end Go.Al
