import Derived.Test.YtfghfdjecfkibaaAlF
import Derived.Test.YtfghfdjecfkibaaSC
set_option linter.unusedVariables false
set_option linter.unusedSimpArgs false
set_option linter.constructorNameAsVariable false
set_option linter.unusedSectionVars false
set_option maxRecDepth 100000
namespace Go.Al
open Go.Proofs

/-! loop.example/g00073/laws.szName -/
namespace laws_szName
noncomputable def B {ρ : Type} (a1 : ByteArray) (a2 : Int) (a3 : Int) (a4 : Int) (K : Int → Option ρ) : Option ρ :=
  sel (decide ((wr (a4 - (a1.size : Int))) < (0 : Int))) (K (-1 : Int)) (K (wr (a4 - (a1.size : Int))))
noncomputable def F (a1 : ByteArray) (a2 : Int) (a3 : Int) (a4 : Int) : Option Int := B a1 a2 a3 a4 (fun x1 => some (x1))
def encA (t : ByteArray × Int × Int × Int) : List AV := [.a [.n (.v (.string t.1)), .n (.v (.int .i64 t.2.1)), .n (.v (.int .i64 t.2.2.1))], .c (.n (.v (.int .i64 t.2.2.2)))]
def encR (x : Int) : AV × List Ob := (.c (.n (.v (.int .i64 x))), [])
theorem encAI : ∀ a b, encA a = encA b → a = b := by
  intro a b h
  obtain ⟨a0, a1, a2, a3⟩ := a
  obtain ⟨b0, b1, b2, b3⟩ := b
  simp [encA, encRw_iff] at h
  simp_all
theorem encRI : ∀ a b, encR a = encR b → a = b := by
  intro a b h
  simp [encR, encRw_iff] at h
  simp_all
noncomputable def Q (args : List AV) : Option Int := ofC encA (fun t => F t.1 t.2.1 t.2.2.1 t.2.2.2) args
theorem wrap : (fun (y1 : ByteArray) (y2 : Int) (y3 : Int) (y4 : Int) => Q [.a [.n (.v (.string y1)), .n (.v (.int .i64 y2)), .n (.v (.int .i64 y3))], .c (.n (.v (.int .i64 y4)))]) = F := by
  funext y1 y2 y3 y4
  exact ofC_enc encAI _ (y1, y2, y3, y4)
noncomputable def G : Orc := ⟨fun f => 9, fun ρ f args K => Option.none, noE⟩
noncomputable def L : Lor := fun ρ j st K => Option.none
theorem main {ρ : Type} (K : AV → List Ob → Option ρ) (a1 : ByteArray) (a2 : Int) (a3 : Int) (a4 : Int) : exC Try.prog (G) (L) [] 0 (bodyOf Try.f25) (entry 13 [.a [.n (.v (.string a1)), .n (.v (.int .i64 a2)), .n (.v (.int .i64 a3))], .c (.n (.v (.int .i64 a4)))] [] []) (finO Try.prog Try.f25.results.toList 0 [] [] K) =
    B a1 a2 a3 a4 (fun x1 => K (.c (.n (.v (.int .i64 x1)))) []) := by kernel_rfl
theorem Gok : (G).ok Try.prog := ⟨(fun ρ f args K r h => (by cases h)),
  (fun ρ f args K => rfl),
  (fun ρ f st caps args dst K r h => (by cases h))⟩
theorem hm : Try.prog.follows .mixedOrders = true := by kernel_rfl
theorem e : atomsL [] 0 (bodyOf Try.f25) = [] := by kernel_rfl
theorem acc (t : ByteArray × Int × Int × Int) (x : Int) (h : F t.1 t.2.1 t.2.2.1 t.2.2.2 = some x) : ACc Try.prog 25 (encA t) [] true [] fun rv obs => (rv, obs) = encR x := by
  refine fun_okc (L := (L)) (jn := []) (cmds := []) (ks := []) (hin := []) (fn := Try.f25) (body := (bodyOf Try.f25)) Gok hm Try.func25 (by kernel_rfl) (by kernel_rfl) (by rw [e]; exact Lor.ok_nil _ _) ?_ h
  refine (main _ t.1 t.2.1 t.2.2.1 t.2.2.2).trans ?_
  refine congrArg (fun K => B t.1 t.2.1 t.2.2.1 t.2.2.2 K) ?_
  funext x1
  exact ofC_enc encRI some (x1)
theorem ac0 (t : ByteArray × Int × Int × Int) (x : Int) (h : F t.1 t.2.1 t.2.2.1 t.2.2.2 = some x) : AC Try.prog 25 (encA t) [] true [] fun rv obs => (rv, obs) = encR x := ACc.ac (body := bodyOf Try.f25) Try.func25 (by kernel_rfl) (by kernel_rfl) (acc t x h)
theorem ac (args : List AV) (x : Int) (h : Q args = some x) : AC Try.prog 25 args [] false [] fun rv obs => (rv, obs) = encR x := by
  obtain ⟨t, rfl, h2⟩ := ofC_some h
  refine (ac0 t x h2).flat fun rv obs e => ?_
  obtain rfl : rv = (encR x).1 := congrArg Prod.fst e
  obtain rfl : obs = (encR x).2 := congrArg Prod.snd e
  refine ⟨by simp [encR, AV.Flat, K.Flat, C.Flat], ?_⟩
  simp [encR]
end laws_szName
/-! loop.example/g00073/laws.szNameS -/
namespace laws_szNameS
noncomputable def B0 {ρ : Type} (C_laws_szName : ByteArray → Int → Int → Int → Option Int) (v1 : Vec (ByteArray × Int × Int)) (v2 : Int) (v3 : Int) (W : (Vec (ByteArray × Int × Int)) → Int → Int → Option ρ) (K0 : Int → Option ρ) (Kr : Int → Option ρ) : Option ρ :=
  sel (decide (v3 < (v1.n : Int))) (chk (decide (0 ≤ v3 ∧ v3 < (v1.n : Int))) ((C_laws_szName ((v1.g v3.toNat).1) ((v1.g v3.toNat).2.1) ((v1.g v3.toNat).2.2) v2).bind fun r1 => sel (decide (r1 < (0 : Int))) (Kr (-1 : Int)) (W v1 r1 (wr (v3 + (1 : Int)))))) (K0 v2)
noncomputable def F0 {ρ : Type} : Nat → (Vec (ByteArray × Int × Int)) → Int → Int → (Int → Option ρ) → (Int → Option ρ) → Option ρ
  | 0, _, _, _, _, _ => none
  | k + 1, v1, v2, v3, K0, Kr => B0 laws_szName.F v1 v2 v3 (fun v1' v2' v3' => F0 k v1' v2' v3' K0 Kr) K0 Kr
noncomputable def B {ρ : Type} (L0 : (Vec (ByteArray × Int × Int)) → Int → Int → (Int → Option ρ) → (Int → Option ρ) → Option ρ) (a1 : Vec (ByteArray × Int × Int)) (a2 : Int) (K : Int → Option ρ) : Option ρ :=
  sel (decide ((wr (a2 - (a1.n : Int))) < (0 : Int))) (K (-1 : Int)) (L0 a1 (wr (a2 - (a1.n : Int))) (0 : Int) (fun e01 => K e01) (fun x01 => K x01))
noncomputable def F (a1 : Vec (ByteArray × Int × Int)) (a2 : Int) : Option Int := B (F0 fuelN) a1 a2 (fun x1 => some (x1))
def encA (t : (Vec (ByteArray × Int × Int)) × Int) : List AV := [.c (.n (.sl 3 (encRw t.1))), .c (.n (.v (.int .i64 t.2)))]
def encR (x : Int) : AV × List Ob := (.c (.n (.v (.int .i64 x))), [])
theorem encAI : ∀ a b, encA a = encA b → a = b := by
  intro a b h
  obtain ⟨a0, a1⟩ := a
  obtain ⟨b0, b1⟩ := b
  simp [encA, encRw_iff] at h
  simp_all
theorem encRI : ∀ a b, encR a = encR b → a = b := by
  intro a b h
  simp [encR, encRw_iff] at h
  simp_all
noncomputable def Q (args : List AV) : Option Int := ofC encA (fun t => F t.1 t.2) args
theorem wrap : (fun (y1 : Vec (ByteArray × Int × Int)) (y2 : Int) => Q [.c (.n (.sl 3 (encRw y1))), .c (.n (.v (.int .i64 y2)))]) = F := by
  funext y1 y2
  exact ofC_enc encAI _ (y1, y2)
noncomputable def G (q_laws_szName : List AV → Option Int) : Orc := ⟨fun f => sel (Nat.beq f 25) 0 (9), fun ρ f args K => sel (Nat.beq f 25) (qEntry laws_szName.encR q_laws_szName args K) (Option.none), noE⟩
noncomputable def L (W0 : (ρ : Type) → List AV → List Ob → (Int → Option ρ) → (Int → Option ρ) → Option ρ) : Lor := fun ρ j st K => sel (Nat.beq j 0) (cutO Try.prog 27 [0, 1, 5] 0 [] [] st fun avs obs => W0 ρ avs obs (fun z1 => K (.exit 0) (mkS 27 [1] [.c (.n (.v (.int .i64 z1)))] [] [])) (fun z1 => K .ret (mkS 27 [4] [.c (.n (.v (.int .i64 z1)))] [] []))) (Option.none)
noncomputable def c0 : Code := loopC (atomN [] 0 (bodyOf Try.f9) 0)
def ct0 : Cut := ⟨[0, 1, 5], []⟩
def lv0 : Exit → Cut
  | .exit 0 => ⟨[1], []⟩
  | .ret => ⟨[4], []⟩
  | _ => ⟨[], []⟩
theorem step0 (q_laws_szName : List AV → Option Int) (W0 : (ρ : Type) → List AV → List Ob → (Int → Option ρ) → (Int → Option ρ) → Option ρ) {ρ : Type} (K : Exit → St → Option ρ) (W : List AV → List Ob → Option ρ) (v1 : Vec (ByteArray × Int × Int)) (v2 : Int) (v3 : Int) : exC Try.prog (G q_laws_szName) (L W0) [] 1 c0 (mkS 27 [0, 1, 5] [.c (.n (.sl 3 (encRw v1))), .c (.n (.v (.int .i64 v2))), .c (.n (.v (.int .i64 v3)))] [] []) (bodyK Try.prog 27 0 [] ct0 W lv0 K) =
    B0 (fun y1 y2 y3 y4 => q_laws_szName [.a [.n (.v (.string y1)), .n (.v (.int .i64 y2)), .n (.v (.int .i64 y3))], .c (.n (.v (.int .i64 y4)))]) v1 v2 v3 (fun u1 u2 u3 => W [.c (.n (.sl 3 (encRw u1))), .c (.n (.v (.int .i64 u2))), .c (.n (.v (.int .i64 u3)))] []) (fun z1 => K (.exit 0) (mkS 27 [1] [.c (.n (.v (.int .i64 z1)))] [] [])) (fun z1 => K .ret (mkS 27 [4] [.c (.n (.v (.int .i64 z1)))] [] [])) := by kernel_rfl
def enc0 (t : (Vec (ByteArray × Int × Int)) × Int × Int) : List AV × List Ob := ([.c (.n (.sl 3 (encRw t.1))), .c (.n (.v (.int .i64 t.2.1))), .c (.n (.v (.int .i64 t.2.2)))], [])
theorem enc0I : ∀ a b, enc0 a = enc0 b → a = b := by
  intro a b h
  obtain ⟨a0, a1, a2⟩ := a
  obtain ⟨b0, b1, b2⟩ := b
  simp [enc0, encRw_iff] at h
  simp_all
noncomputable def V0 : (ρ : Type) → List AV → List Ob → (Int → Option ρ) → (Int → Option ρ) → Option ρ := fun ρ avs obs k0 kr => ofC enc0 (fun t => F0 fuelN t.1 t.2.1 t.2.2 k0 kr) (avs, obs)
theorem V0_enc (ρ : Type) : (fun w1 w2 w3 k0 kr => V0 ρ [.c (.n (.sl 3 (encRw w1))), .c (.n (.v (.int .i64 w2))), .c (.n (.v (.int .i64 w3)))] [] k0 kr) = F0 fuelN := by
  funext w1 w2 w3 k0 kr
  exact ofC_enc enc0I _ (w1, w2, w3)
theorem main (q_laws_szName : List AV → Option Int) (W0 : (ρ : Type) → List AV → List Ob → (Int → Option ρ) → (Int → Option ρ) → Option ρ) {ρ : Type} (K : AV → List Ob → Option ρ) (a1 : Vec (ByteArray × Int × Int)) (a2 : Int) : exC Try.prog (G q_laws_szName) (L W0) [] 0 (bodyOf Try.f9) (entry 27 [.c (.n (.sl 3 (encRw a1))), .c (.n (.v (.int .i64 a2)))] [] []) (finO Try.prog Try.f9.results.toList 0 [] [] K) =
    B (fun w1 w2 w3 k0 kr => W0 ρ [.c (.n (.sl 3 (encRw w1))), .c (.n (.v (.int .i64 w2))), .c (.n (.v (.int .i64 w3)))] [] k0 kr) a1 a2 (fun x1 => K (.c (.n (.v (.int .i64 x1)))) []) := by kernel_rfl
theorem Gok : (G laws_szName.Q).ok Try.prog := ⟨(by
    intro ρ f args K r h
    rcases sel_cases h with ⟨hb, h⟩ | ⟨-, h⟩
    · obtain rfl := beq_nat hb
      exact qEntry_ok laws_szName.ac h
    cases h),
  (by
    intro ρ f args K
    simp only [G]
    cases Nat.beq f 25 with
    | true => exact qEntry_nat args K
    | false =>
    simp only [sel]
    rfl),
  (fun ρ f st caps args dst K r h => (by cases h))⟩
theorem hm : Try.prog.follows .mixedOrders = true := by kernel_rfl
theorem e0 : atomsL [] 1 c0 = [] := by kernel_rfl
theorem ok0 (ρ : Type) (st : St) (K : Exit → St → Option ρ) (r : ρ) (h : (L V0) ρ 0 st K = some r) : AW Try.prog (.loop c0) st fun e st' => K e st' = some r := by
  refine loop_ok (ct := ct0) (lv := lv0) (n := 27) (m := 0) (ks := []) (j := 0) (jn := []) (L := (L V0)) Gok hm (by rw [e0]; exact Lor.ok_nil _ _) enc0I (fun k t => F0 k t.1 t.2.1 t.2.2 (fun z1 => K (.exit 0) (mkS 27 [1] [.c (.n (.v (.int .i64 z1)))] [] [])) (fun z1 => K .ret (mkS 27 [4] [.c (.n (.v (.int .i64 z1)))] [] []))) (fun t => rfl) (fun k t => ?_) (fun _ => fuelN) h
  refine (step0 laws_szName.Q V0 K _ t.1 t.2.1 t.2.2).trans ?_
  rw [laws_szName.wrap]
  refine congrArg (fun W => B0 laws_szName.F t.1 t.2.1 t.2.2 W (fun z1 => K (.exit 0) (mkS 27 [1] [.c (.n (.v (.int .i64 z1)))] [] [])) (fun z1 => K .ret (mkS 27 [4] [.c (.n (.v (.int .i64 z1)))] [] []))) ?_
  funext u1 u2 u3
  exact ofC_enc enc0I _ (u1, u2, u3)
theorem e : atomsL [] 0 (bodyOf Try.f9) = [(0, 0, .loop c0)] := by kernel_rfl
theorem acc (t : (Vec (ByteArray × Int × Int)) × Int) (x : Int) (h : F t.1 t.2 = some x) : ACc Try.prog 9 (encA t) [] true [] fun rv obs => (rv, obs) = encR x := by
  refine fun_okc (L := (L V0)) (jn := []) (cmds := []) (ks := []) (hin := []) (fn := Try.f9) (body := (bodyOf Try.f9)) Gok hm Try.func9 (by kernel_rfl) (by kernel_rfl) (by rw [e]; exact Lor.ok_cons ok0 (Lor.ok_nil _ _)) ?_ h
  refine (main laws_szName.Q V0 _ t.1 t.2).trans ?_
  rw [V0_enc]
  refine congrArg (fun K => B (F0 fuelN) t.1 t.2 K) ?_
  funext x1
  exact ofC_enc encRI some (x1)
theorem ac0 (t : (Vec (ByteArray × Int × Int)) × Int) (x : Int) (h : F t.1 t.2 = some x) : AC Try.prog 9 (encA t) [] true [] fun rv obs => (rv, obs) = encR x := ACc.ac (body := bodyOf Try.f9) Try.func9 (by kernel_rfl) (by kernel_rfl) (acc t x h)
theorem ac (args : List AV) (x : Int) (h : Q args = some x) : AC Try.prog 9 args [] false [] fun rv obs => (rv, obs) = encR x := by
  obtain ⟨t, rfl, h2⟩ := ofC_some h
  refine (ac0 t x h2).flat fun rv obs e => ?_
  obtain rfl : rv = (encR x).1 := congrArg Prod.fst e
  obtain rfl : obs = (encR x).2 := congrArg Prod.snd e
  refine ⟨by simp [encR, AV.Flat, K.Flat, C.Flat], ?_⟩
  simp [encR]
end laws_szNameS
/-! loop.example/g00073/laws.toName -/
namespace laws_toName
noncomputable def B {ρ : Type} (a1 : ByteArray) (a2 : Int) (a3 : Int) (K : ByteArray → Int → Int → Option ρ) : Option ρ :=
  K a1 a2 a3
noncomputable def F (a1 : ByteArray) (a2 : Int) (a3 : Int) : Option (ByteArray × Int × Int) := B a1 a2 a3 (fun x1 x2 x3 => some (x1, x2, x3))
def encA (t : ByteArray × Int × Int) : List AV := [.a [.n (.v (.string t.1)), .n (.v (.int .i64 t.2.1)), .n (.v (.int .i64 t.2.2))]]
def encR (x : ByteArray × Int × Int) : AV × List Ob := (.a [.n (.v (.string x.1)), .n (.v (.int .i64 x.2.1)), .n (.v (.int .i64 x.2.2))], [])
theorem encAI : ∀ a b, encA a = encA b → a = b := by
  intro a b h
  obtain ⟨a0, a1, a2⟩ := a
  obtain ⟨b0, b1, b2⟩ := b
  simp [encA, encRw_iff] at h
  simp_all
theorem encRI : ∀ a b, encR a = encR b → a = b := by
  intro a b h
  obtain ⟨a0, a1, a2⟩ := a
  obtain ⟨b0, b1, b2⟩ := b
  simp [encR, encRw_iff] at h
  simp_all
noncomputable def Q (args : List AV) : Option (ByteArray × Int × Int) := ofC encA (fun t => F t.1 t.2.1 t.2.2) args
theorem wrap : (fun (y1 : ByteArray) (y2 : Int) (y3 : Int) => Q [.a [.n (.v (.string y1)), .n (.v (.int .i64 y2)), .n (.v (.int .i64 y3))]]) = F := by
  funext y1 y2 y3
  exact ofC_enc encAI _ (y1, y2, y3)
noncomputable def G : Orc := ⟨fun f => 9, fun ρ f args K => Option.none, noE⟩
noncomputable def L : Lor := fun ρ j st K => Option.none
theorem main {ρ : Type} (K : AV → List Ob → Option ρ) (a1 : ByteArray) (a2 : Int) (a3 : Int) : exC Try.prog (G) (L) [] 0 (bodyOf Try.f27) (entry 14 [.a [.n (.v (.string a1)), .n (.v (.int .i64 a2)), .n (.v (.int .i64 a3))]] [] []) (finO Try.prog Try.f27.results.toList 0 [] [] K) =
    B a1 a2 a3 (fun x1 x2 x3 => K (.a [.n (.v (.string x1)), .n (.v (.int .i64 x2)), .n (.v (.int .i64 x3))]) []) := by kernel_rfl
theorem Gok : (G).ok Try.prog := ⟨(fun ρ f args K r h => (by cases h)),
  (fun ρ f args K => rfl),
  (fun ρ f st caps args dst K r h => (by cases h))⟩
theorem hm : Try.prog.follows .mixedOrders = true := by kernel_rfl
theorem e : atomsL [] 0 (bodyOf Try.f27) = [] := by kernel_rfl
theorem acc (t : ByteArray × Int × Int) (x : ByteArray × Int × Int) (h : F t.1 t.2.1 t.2.2 = some x) : ACc Try.prog 27 (encA t) [] true [] fun rv obs => (rv, obs) = encR x := by
  refine fun_okc (L := (L)) (jn := []) (cmds := []) (ks := []) (hin := []) (fn := Try.f27) (body := (bodyOf Try.f27)) Gok hm Try.func27 (by kernel_rfl) (by kernel_rfl) (by rw [e]; exact Lor.ok_nil _ _) ?_ h
  refine (main _ t.1 t.2.1 t.2.2).trans ?_
  refine congrArg (fun K => B t.1 t.2.1 t.2.2 K) ?_
  funext x1 x2 x3
  exact ofC_enc encRI some (x1, x2, x3)
theorem ac0 (t : ByteArray × Int × Int) (x : ByteArray × Int × Int) (h : F t.1 t.2.1 t.2.2 = some x) : AC Try.prog 27 (encA t) [] true [] fun rv obs => (rv, obs) = encR x := ACc.ac (body := bodyOf Try.f27) Try.func27 (by kernel_rfl) (by kernel_rfl) (acc t x h)
theorem ac (args : List AV) (x : ByteArray × Int × Int) (h : Q args = some x) : AC Try.prog 27 args [] false [] fun rv obs => (rv, obs) = encR x := by
  obtain ⟨t, rfl, h2⟩ := ofC_some h
  refine (ac0 t x h2).flat fun rv obs e => ?_
  obtain rfl : rv = (encR x).1 := congrArg Prod.fst e
  obtain rfl : obs = (encR x).2 := congrArg Prod.snd e
  refine ⟨by simp [encR, AV.Flat, K.Flat, C.Flat], ?_⟩
  simp [encR]
end laws_toName
/-! loop.example/g00073/laws.toNameS -/
namespace laws_toNameS
noncomputable def B0 {ρ : Type} (C_laws_toName : ByteArray → Int → Int → Option (ByteArray × Int × Int)) (v1 : Vec (ByteArray × Int × Int)) (v2 : Int) (v3 : Vec (ByteArray × Int × Int)) (W : (Vec (ByteArray × Int × Int)) → Int → (Vec (ByteArray × Int × Int)) → Option ρ) (K0 : (Vec (ByteArray × Int × Int)) → Option ρ) : Option ρ :=
  sel (decide (v2 < (v1.n : Int))) (chk (decide (0 ≤ v2 ∧ v2 < (v1.n : Int))) ((C_laws_toName ((v1.g v2.toNat).1) ((v1.g v2.toNat).2.1) ((v1.g v2.toNat).2.2)).bind fun r1 => chk (decide (0 ≤ v2 ∧ v2 < (v3.n : Int))) (chk (decide (v2.toNat < v3.n)) (W v1 (wr (v2 + (1 : Int))) (Vec.set v3 v2.toNat (r1.1, r1.2.1, r1.2.2)))))) (K0 v3)
noncomputable def F0 {ρ : Type} : Nat → (Vec (ByteArray × Int × Int)) → Int → (Vec (ByteArray × Int × Int)) → ((Vec (ByteArray × Int × Int)) → Option ρ) → Option ρ
  | 0, _, _, _, _ => none
  | k + 1, v1, v2, v3, K0 => B0 laws_toName.F v1 v2 v3 (fun v1' v2' v3' => F0 k v1' v2' v3' K0) K0
noncomputable def B {ρ : Type} (L0 : (Vec (ByteArray × Int × Int)) → Int → (Vec (ByteArray × Int × Int)) → ((Vec (ByteArray × Int × Int)) → Option ρ) → Option ρ) (a1 : Vec (ByteArray × Int × Int)) (K : (Vec (ByteArray × Int × Int)) → Option ρ) : Option ρ :=
  chk (decide ((a1.n : Int) = (a1.n : Int) ∧ 0 ≤ (a1.n : Int))) (chk (mkOk (a1.n : Int) 32) (L0 a1 (0 : Int) (Vec.rep ((a1.n : Int).toNat) (ByteArray.empty, (0 : Int), (0 : Int)) : Vec (ByteArray × Int × Int)) (fun e01 => K e01)))
noncomputable def F (a1 : Vec (ByteArray × Int × Int)) : Option (Vec (ByteArray × Int × Int)) := B (F0 fuelN) a1 (fun x1 => some (x1))
def encA (t : Vec (ByteArray × Int × Int)) : List AV := [.c (.n (.sl 3 (encRw t)))]
def encR (x : Vec (ByteArray × Int × Int)) : AV × List Ob := (.c (.h 0), [.row 3 (encRw x) []])
theorem encAI : ∀ a b, encA a = encA b → a = b := by
  intro a b h
  simp [encA, encRw_iff] at h
  simp_all
theorem encRI : ∀ a b, encR a = encR b → a = b := by
  intro a b h
  simp [encR, encRw_iff] at h
  simp_all
noncomputable def Q (args : List AV) : Option (Vec (ByteArray × Int × Int)) := ofC encA (fun t => F t) args
theorem wrap : (fun (y1 : Vec (ByteArray × Int × Int)) => Q [.c (.n (.sl 3 (encRw y1)))]) = F := by
  funext y1
  exact ofC_enc encAI _ (y1)
noncomputable def G (q_laws_toName : List AV → Option (ByteArray × Int × Int)) : Orc := ⟨fun f => sel (Nat.beq f 27) 0 (9), fun ρ f args K => sel (Nat.beq f 27) (qEntry laws_toName.encR q_laws_toName args K) (Option.none), noE⟩
noncomputable def L (W0 : (ρ : Type) → List AV → List Ob → ((Vec (ByteArray × Int × Int)) → Option ρ) → Option ρ) : Lor := fun ρ j st K => sel (Nat.beq j 0) (cutO Try.prog 23 [0, 3, 4] 0 [] [] st fun avs obs => W0 ρ avs obs (fun z1 => K (.exit 0) (mkS 23 [3] [.c (.h 0)] [.row 3 (encRw z1) []] []))) (Option.none)
noncomputable def c0 : Code := loopC (atomN [] 0 (bodyOf Try.f11) 0)
def ct0 : Cut := ⟨[0, 3, 4], []⟩
def lv0 : Exit → Cut
  | .exit 0 => ⟨[3], []⟩
  | _ => ⟨[], []⟩
theorem step0 (q_laws_toName : List AV → Option (ByteArray × Int × Int)) (W0 : (ρ : Type) → List AV → List Ob → ((Vec (ByteArray × Int × Int)) → Option ρ) → Option ρ) {ρ : Type} (K : Exit → St → Option ρ) (W : List AV → List Ob → Option ρ) (v1 : Vec (ByteArray × Int × Int)) (v2 : Int) (v3 : Vec (ByteArray × Int × Int)) : exC Try.prog (G q_laws_toName) (L W0) [] 1 c0 (mkS 23 [0, 3, 4] [.c (.n (.sl 3 (encRw v1))), .c (.h 0), .c (.n (.v (.int .i64 v2)))] [.row 3 (encRw v3) []] []) (bodyK Try.prog 23 0 [] ct0 W lv0 K) =
    B0 (fun y1 y2 y3 => q_laws_toName [.a [.n (.v (.string y1)), .n (.v (.int .i64 y2)), .n (.v (.int .i64 y3))]]) v1 v2 v3 (fun u1 u2 u3 => W [.c (.n (.sl 3 (encRw u1))), .c (.h 0), .c (.n (.v (.int .i64 u2)))] [.row 3 (encRw u3) []]) (fun z1 => K (.exit 0) (mkS 23 [3] [.c (.h 0)] [.row 3 (encRw z1) []] [])) := by kernel_rfl
def enc0 (t : (Vec (ByteArray × Int × Int)) × Int × (Vec (ByteArray × Int × Int))) : List AV × List Ob := ([.c (.n (.sl 3 (encRw t.1))), .c (.h 0), .c (.n (.v (.int .i64 t.2.1)))], [.row 3 (encRw t.2.2) []])
theorem enc0I : ∀ a b, enc0 a = enc0 b → a = b := by
  intro a b h
  obtain ⟨a0, a1, a2⟩ := a
  obtain ⟨b0, b1, b2⟩ := b
  simp [enc0, encRw_iff] at h
  simp_all
noncomputable def V0 : (ρ : Type) → List AV → List Ob → ((Vec (ByteArray × Int × Int)) → Option ρ) → Option ρ := fun ρ avs obs k0 => ofC enc0 (fun t => F0 fuelN t.1 t.2.1 t.2.2 k0) (avs, obs)
theorem V0_enc (ρ : Type) : (fun w1 w2 w3 k0 => V0 ρ [.c (.n (.sl 3 (encRw w1))), .c (.h 0), .c (.n (.v (.int .i64 w2)))] [.row 3 (encRw w3) []] k0) = F0 fuelN := by
  funext w1 w2 w3 k0
  exact ofC_enc enc0I _ (w1, w2, w3)
theorem main (q_laws_toName : List AV → Option (ByteArray × Int × Int)) (W0 : (ρ : Type) → List AV → List Ob → ((Vec (ByteArray × Int × Int)) → Option ρ) → Option ρ) {ρ : Type} (K : AV → List Ob → Option ρ) (a1 : Vec (ByteArray × Int × Int)) : exC Try.prog (G q_laws_toName) (L W0) [] 0 (bodyOf Try.f11) (entry 23 [.c (.n (.sl 3 (encRw a1)))] [] []) (finO Try.prog Try.f11.results.toList 0 [] [] K) =
    B (fun w1 w2 w3 k0 => W0 ρ [.c (.n (.sl 3 (encRw w1))), .c (.h 0), .c (.n (.v (.int .i64 w2)))] [.row 3 (encRw w3) []] k0) a1 (fun x1 => K (.c (.h 0)) [.row 3 (encRw x1) []]) := by kernel_rfl
theorem Gok : (G laws_toName.Q).ok Try.prog := ⟨(by
    intro ρ f args K r h
    rcases sel_cases h with ⟨hb, h⟩ | ⟨-, h⟩
    · obtain rfl := beq_nat hb
      exact qEntry_ok laws_toName.ac h
    cases h),
  (by
    intro ρ f args K
    simp only [G]
    cases Nat.beq f 27 with
    | true => exact qEntry_nat args K
    | false =>
    simp only [sel]
    rfl),
  (fun ρ f st caps args dst K r h => (by cases h))⟩
theorem hm : Try.prog.follows .mixedOrders = true := by kernel_rfl
theorem e0 : atomsL [] 1 c0 = [] := by kernel_rfl
theorem ok0 (ρ : Type) (st : St) (K : Exit → St → Option ρ) (r : ρ) (h : (L V0) ρ 0 st K = some r) : AW Try.prog (.loop c0) st fun e st' => K e st' = some r := by
  refine loop_ok (ct := ct0) (lv := lv0) (n := 23) (m := 0) (ks := []) (j := 0) (jn := []) (L := (L V0)) Gok hm (by rw [e0]; exact Lor.ok_nil _ _) enc0I (fun k t => F0 k t.1 t.2.1 t.2.2 (fun z1 => K (.exit 0) (mkS 23 [3] [.c (.h 0)] [.row 3 (encRw z1) []] []))) (fun t => rfl) (fun k t => ?_) (fun _ => fuelN) h
  refine (step0 laws_toName.Q V0 K _ t.1 t.2.1 t.2.2).trans ?_
  rw [laws_toName.wrap]
  refine congrArg (fun W => B0 laws_toName.F t.1 t.2.1 t.2.2 W (fun z1 => K (.exit 0) (mkS 23 [3] [.c (.h 0)] [.row 3 (encRw z1) []] []))) ?_
  funext u1 u2 u3
  exact ofC_enc enc0I _ (u1, u2, u3)
theorem e : atomsL [] 0 (bodyOf Try.f11) = [(0, 0, .loop c0)] := by kernel_rfl
theorem acc (t : Vec (ByteArray × Int × Int)) (x : Vec (ByteArray × Int × Int)) (h : F t = some x) : ACc Try.prog 11 (encA t) [] true [] fun rv obs => (rv, obs) = encR x := by
  refine fun_okc (L := (L V0)) (jn := []) (cmds := []) (ks := []) (hin := []) (fn := Try.f11) (body := (bodyOf Try.f11)) Gok hm Try.func11 (by kernel_rfl) (by kernel_rfl) (by rw [e]; exact Lor.ok_cons ok0 (Lor.ok_nil _ _)) ?_ h
  refine (main laws_toName.Q V0 _ t).trans ?_
  rw [V0_enc]
  refine congrArg (fun K => B (F0 fuelN) t K) ?_
  funext x1
  exact ofC_enc encRI some (x1)
theorem ac0 (t : Vec (ByteArray × Int × Int)) (x : Vec (ByteArray × Int × Int)) (h : F t = some x) : AC Try.prog 11 (encA t) [] true [] fun rv obs => (rv, obs) = encR x := ACc.ac (body := bodyOf Try.f11) Try.func11 (by kernel_rfl) (by kernel_rfl) (acc t x h)
theorem ac (args : List AV) (x : Vec (ByteArray × Int × Int)) (h : Q args = some x) : AC Try.prog 11 args [] false [] fun rv obs => (rv, obs) = encR x := by
  obtain ⟨t, rfl, h2⟩ := ofC_some h
  refine (ac0 t x h2).flat fun rv obs e => ?_
  obtain rfl : rv = (encR x).1 := congrArg Prod.fst e
  obtain rfl : obs = (encR x).2 := congrArg Prod.snd e
  refine ⟨by simp [encR, AV.Flat, K.Flat, C.Flat], ?_⟩
  intro o ho
  simp only [encR, List.mem_cons, List.not_mem_nil, or_false] at ho
  subst ho
  exact flat_rw rfl _
end laws_toNameS
/-! loop.example/g00073/spec.l01In -/
namespace spec_l01In
noncomputable def B {ρ : Type} (a1 : Int) (a2 : Int) (a3 : Int) (K : Bool → Option ρ) : Option ρ :=
  sel (decide (a2 ≤ a1)) (K (decide (a1 ≤ a3))) (K false)
noncomputable def F (a1 : Int) (a2 : Int) (a3 : Int) : Option Bool := B a1 a2 a3 (fun x1 => some (x1))
def encA (t : Int × Int × Int) : List AV := [.c (.n (.v (.int .i64 t.1))), .c (.n (.v (.int .i64 t.2.1))), .c (.n (.v (.int .i64 t.2.2)))]
def encR (x : Bool) : AV × List Ob := (.c (.n (.v (.bool x))), [])
theorem encAI : ∀ a b, encA a = encA b → a = b := by
  intro a b h
  obtain ⟨a0, a1, a2⟩ := a
  obtain ⟨b0, b1, b2⟩ := b
  simp [encA, encRw_iff] at h
  simp_all
theorem encRI : ∀ a b, encR a = encR b → a = b := by
  intro a b h
  simp [encR, encRw_iff] at h
  simp_all
noncomputable def Q (args : List AV) : Option Bool := ofC encA (fun t => F t.1 t.2.1 t.2.2) args
theorem wrap : (fun (y1 : Int) (y2 : Int) (y3 : Int) => Q [.c (.n (.v (.int .i64 y1))), .c (.n (.v (.int .i64 y2))), .c (.n (.v (.int .i64 y3)))]) = F := by
  funext y1 y2 y3
  exact ofC_enc encAI _ (y1, y2, y3)
noncomputable def G : Orc := ⟨fun f => 9, fun ρ f args K => Option.none, noE⟩
noncomputable def L : Lor := fun ρ j st K => Option.none
theorem main {ρ : Type} (K : AV → List Ob → Option ρ) (a1 : Int) (a2 : Int) (a3 : Int) : exC Try.prog (G) (L) [] 0 (bodyOf Try.f48) (entry 15 [.c (.n (.v (.int .i64 a1))), .c (.n (.v (.int .i64 a2))), .c (.n (.v (.int .i64 a3)))] [] []) (finO Try.prog Try.f48.results.toList 0 [] [] K) =
    B a1 a2 a3 (fun x1 => K (.c (.n (.v (.bool x1)))) []) := by kernel_rfl
theorem Gok : (G).ok Try.prog := ⟨(fun ρ f args K r h => (by cases h)),
  (fun ρ f args K => rfl),
  (fun ρ f st caps args dst K r h => (by cases h))⟩
theorem hm : Try.prog.follows .mixedOrders = true := by kernel_rfl
theorem e : atomsL [] 0 (bodyOf Try.f48) = [] := by kernel_rfl
theorem acc (t : Int × Int × Int) (x : Bool) (h : F t.1 t.2.1 t.2.2 = some x) : ACc Try.prog 48 (encA t) [] true [] fun rv obs => (rv, obs) = encR x := by
  refine fun_okc (L := (L)) (jn := []) (cmds := []) (ks := []) (hin := []) (fn := Try.f48) (body := (bodyOf Try.f48)) Gok hm Try.func48 (by kernel_rfl) (by kernel_rfl) (by rw [e]; exact Lor.ok_nil _ _) ?_ h
  refine (main _ t.1 t.2.1 t.2.2).trans ?_
  refine congrArg (fun K => B t.1 t.2.1 t.2.2 K) ?_
  funext x1
  exact ofC_enc encRI some (x1)
theorem ac0 (t : Int × Int × Int) (x : Bool) (h : F t.1 t.2.1 t.2.2 = some x) : AC Try.prog 48 (encA t) [] true [] fun rv obs => (rv, obs) = encR x := ACc.ac (body := bodyOf Try.f48) Try.func48 (by kernel_rfl) (by kernel_rfl) (acc t x h)
theorem ac (args : List AV) (x : Bool) (h : Q args = some x) : AC Try.prog 48 args [] false [] fun rv obs => (rv, obs) = encR x := by
  obtain ⟨t, rfl, h2⟩ := ofC_some h
  refine (ac0 t x h2).flat fun rv obs e => ?_
  obtain rfl : rv = (encR x).1 := congrArg Prod.fst e
  obtain rfl : obs = (encR x).2 := congrArg Prod.snd e
  refine ⟨by simp [encR, AV.Flat, K.Flat, C.Flat], ?_⟩
  simp [encR]
end spec_l01In
/-! loop.example/g00073/spec.PathOk -/
namespace spec_PathOk
noncomputable def B0 {ρ : Type} (v1 : ByteArray) (v2 : Int) (v3 : Int) (W : ByteArray → Int → Int → Option ρ) (K0 : Unit → Option ρ) (Kr : Bool → Option ρ) : Option ρ :=
  sel (decide (v3 < v2)) (chk (decide (0 ≤ v3 ∧ v3 < (v1.size : Int))) (sel (decide ((97 : Int) ≤ (byteAt v1 v3.toNat))) (sel (decide ((byteAt v1 v3.toNat) ≤ (122 : Int))) (sel (decide ((0 : Int) < v3)) (sel (decide ((byteAt v1 v3.toNat) = (47 : Int))) (chk (decide (0 ≤ (wr (v3 - (1 : Int))) ∧ (wr (v3 - (1 : Int))) < (v1.size : Int))) (sel (decide ((byteAt v1 ((wr (v3 - (1 : Int))).toNat)) = (47 : Int))) (Kr false) (W v1 v2 (wr (v3 + (1 : Int)))))) (W v1 v2 (wr (v3 + (1 : Int))))) (W v1 v2 (wr (v3 + (1 : Int))))) (sel (decide ((48 : Int) ≤ (byteAt v1 v3.toNat))) (sel (decide ((byteAt v1 v3.toNat) ≤ (57 : Int))) (sel (decide ((0 : Int) < v3)) (sel (decide ((byteAt v1 v3.toNat) = (47 : Int))) (chk (decide (0 ≤ (wr (v3 - (1 : Int))) ∧ (wr (v3 - (1 : Int))) < (v1.size : Int))) (sel (decide ((byteAt v1 ((wr (v3 - (1 : Int))).toNat)) = (47 : Int))) (Kr false) (W v1 v2 (wr (v3 + (1 : Int)))))) (W v1 v2 (wr (v3 + (1 : Int))))) (W v1 v2 (wr (v3 + (1 : Int))))) (sel (decide ((byteAt v1 v3.toNat) = (46 : Int))) (sel (decide ((0 : Int) < v3)) (sel (decide ((byteAt v1 v3.toNat) = (47 : Int))) (chk (decide (0 ≤ (wr (v3 - (1 : Int))) ∧ (wr (v3 - (1 : Int))) < (v1.size : Int))) (sel (decide ((byteAt v1 ((wr (v3 - (1 : Int))).toNat)) = (47 : Int))) (Kr false) (W v1 v2 (wr (v3 + (1 : Int)))))) (W v1 v2 (wr (v3 + (1 : Int))))) (W v1 v2 (wr (v3 + (1 : Int))))) (sel (decide ((byteAt v1 v3.toNat) = (45 : Int))) (sel (decide ((0 : Int) < v3)) (sel (decide ((byteAt v1 v3.toNat) = (47 : Int))) (chk (decide (0 ≤ (wr (v3 - (1 : Int))) ∧ (wr (v3 - (1 : Int))) < (v1.size : Int))) (sel (decide ((byteAt v1 ((wr (v3 - (1 : Int))).toNat)) = (47 : Int))) (Kr false) (W v1 v2 (wr (v3 + (1 : Int)))))) (W v1 v2 (wr (v3 + (1 : Int))))) (W v1 v2 (wr (v3 + (1 : Int))))) (sel ((!decide ((byteAt v1 v3.toNat) = (47 : Int)))) (Kr false) (sel (decide ((0 : Int) < v3)) (sel (decide ((byteAt v1 v3.toNat) = (47 : Int))) (chk (decide (0 ≤ (wr (v3 - (1 : Int))) ∧ (wr (v3 - (1 : Int))) < (v1.size : Int))) (sel (decide ((byteAt v1 ((wr (v3 - (1 : Int))).toNat)) = (47 : Int))) (Kr false) (W v1 v2 (wr (v3 + (1 : Int)))))) (W v1 v2 (wr (v3 + (1 : Int))))) (W v1 v2 (wr (v3 + (1 : Int))))))))) (sel (decide ((byteAt v1 v3.toNat) = (46 : Int))) (sel (decide ((0 : Int) < v3)) (sel (decide ((byteAt v1 v3.toNat) = (47 : Int))) (chk (decide (0 ≤ (wr (v3 - (1 : Int))) ∧ (wr (v3 - (1 : Int))) < (v1.size : Int))) (sel (decide ((byteAt v1 ((wr (v3 - (1 : Int))).toNat)) = (47 : Int))) (Kr false) (W v1 v2 (wr (v3 + (1 : Int)))))) (W v1 v2 (wr (v3 + (1 : Int))))) (W v1 v2 (wr (v3 + (1 : Int))))) (sel (decide ((byteAt v1 v3.toNat) = (45 : Int))) (sel (decide ((0 : Int) < v3)) (sel (decide ((byteAt v1 v3.toNat) = (47 : Int))) (chk (decide (0 ≤ (wr (v3 - (1 : Int))) ∧ (wr (v3 - (1 : Int))) < (v1.size : Int))) (sel (decide ((byteAt v1 ((wr (v3 - (1 : Int))).toNat)) = (47 : Int))) (Kr false) (W v1 v2 (wr (v3 + (1 : Int)))))) (W v1 v2 (wr (v3 + (1 : Int))))) (W v1 v2 (wr (v3 + (1 : Int))))) (sel ((!decide ((byteAt v1 v3.toNat) = (47 : Int)))) (Kr false) (sel (decide ((0 : Int) < v3)) (sel (decide ((byteAt v1 v3.toNat) = (47 : Int))) (chk (decide (0 ≤ (wr (v3 - (1 : Int))) ∧ (wr (v3 - (1 : Int))) < (v1.size : Int))) (sel (decide ((byteAt v1 ((wr (v3 - (1 : Int))).toNat)) = (47 : Int))) (Kr false) (W v1 v2 (wr (v3 + (1 : Int)))))) (W v1 v2 (wr (v3 + (1 : Int))))) (W v1 v2 (wr (v3 + (1 : Int)))))))))) (sel (decide ((48 : Int) ≤ (byteAt v1 v3.toNat))) (sel (decide ((byteAt v1 v3.toNat) ≤ (57 : Int))) (sel (decide ((0 : Int) < v3)) (sel (decide ((byteAt v1 v3.toNat) = (47 : Int))) (chk (decide (0 ≤ (wr (v3 - (1 : Int))) ∧ (wr (v3 - (1 : Int))) < (v1.size : Int))) (sel (decide ((byteAt v1 ((wr (v3 - (1 : Int))).toNat)) = (47 : Int))) (Kr false) (W v1 v2 (wr (v3 + (1 : Int)))))) (W v1 v2 (wr (v3 + (1 : Int))))) (W v1 v2 (wr (v3 + (1 : Int))))) (sel (decide ((byteAt v1 v3.toNat) = (46 : Int))) (sel (decide ((0 : Int) < v3)) (sel (decide ((byteAt v1 v3.toNat) = (47 : Int))) (chk (decide (0 ≤ (wr (v3 - (1 : Int))) ∧ (wr (v3 - (1 : Int))) < (v1.size : Int))) (sel (decide ((byteAt v1 ((wr (v3 - (1 : Int))).toNat)) = (47 : Int))) (Kr false) (W v1 v2 (wr (v3 + (1 : Int)))))) (W v1 v2 (wr (v3 + (1 : Int))))) (W v1 v2 (wr (v3 + (1 : Int))))) (sel (decide ((byteAt v1 v3.toNat) = (45 : Int))) (sel (decide ((0 : Int) < v3)) (sel (decide ((byteAt v1 v3.toNat) = (47 : Int))) (chk (decide (0 ≤ (wr (v3 - (1 : Int))) ∧ (wr (v3 - (1 : Int))) < (v1.size : Int))) (sel (decide ((byteAt v1 ((wr (v3 - (1 : Int))).toNat)) = (47 : Int))) (Kr false) (W v1 v2 (wr (v3 + (1 : Int)))))) (W v1 v2 (wr (v3 + (1 : Int))))) (W v1 v2 (wr (v3 + (1 : Int))))) (sel ((!decide ((byteAt v1 v3.toNat) = (47 : Int)))) (Kr false) (sel (decide ((0 : Int) < v3)) (sel (decide ((byteAt v1 v3.toNat) = (47 : Int))) (chk (decide (0 ≤ (wr (v3 - (1 : Int))) ∧ (wr (v3 - (1 : Int))) < (v1.size : Int))) (sel (decide ((byteAt v1 ((wr (v3 - (1 : Int))).toNat)) = (47 : Int))) (Kr false) (W v1 v2 (wr (v3 + (1 : Int)))))) (W v1 v2 (wr (v3 + (1 : Int))))) (W v1 v2 (wr (v3 + (1 : Int))))))))) (sel (decide ((byteAt v1 v3.toNat) = (46 : Int))) (sel (decide ((0 : Int) < v3)) (sel (decide ((byteAt v1 v3.toNat) = (47 : Int))) (chk (decide (0 ≤ (wr (v3 - (1 : Int))) ∧ (wr (v3 - (1 : Int))) < (v1.size : Int))) (sel (decide ((byteAt v1 ((wr (v3 - (1 : Int))).toNat)) = (47 : Int))) (Kr false) (W v1 v2 (wr (v3 + (1 : Int)))))) (W v1 v2 (wr (v3 + (1 : Int))))) (W v1 v2 (wr (v3 + (1 : Int))))) (sel (decide ((byteAt v1 v3.toNat) = (45 : Int))) (sel (decide ((0 : Int) < v3)) (sel (decide ((byteAt v1 v3.toNat) = (47 : Int))) (chk (decide (0 ≤ (wr (v3 - (1 : Int))) ∧ (wr (v3 - (1 : Int))) < (v1.size : Int))) (sel (decide ((byteAt v1 ((wr (v3 - (1 : Int))).toNat)) = (47 : Int))) (Kr false) (W v1 v2 (wr (v3 + (1 : Int)))))) (W v1 v2 (wr (v3 + (1 : Int))))) (W v1 v2 (wr (v3 + (1 : Int))))) (sel ((!decide ((byteAt v1 v3.toNat) = (47 : Int)))) (Kr false) (sel (decide ((0 : Int) < v3)) (sel (decide ((byteAt v1 v3.toNat) = (47 : Int))) (chk (decide (0 ≤ (wr (v3 - (1 : Int))) ∧ (wr (v3 - (1 : Int))) < (v1.size : Int))) (sel (decide ((byteAt v1 ((wr (v3 - (1 : Int))).toNat)) = (47 : Int))) (Kr false) (W v1 v2 (wr (v3 + (1 : Int)))))) (W v1 v2 (wr (v3 + (1 : Int))))) (W v1 v2 (wr (v3 + (1 : Int))))))))))) (K0 ())
noncomputable def F0 {ρ : Type} : Nat → ByteArray → Int → Int → (Unit → Option ρ) → (Bool → Option ρ) → Option ρ
  | 0, _, _, _, _, _ => none
  | k + 1, v1, v2, v3, K0, Kr => B0 v1 v2 v3 (fun v1' v2' v3' => F0 k v1' v2' v3' K0 Kr) K0 Kr
noncomputable def B {ρ : Type} (C_spec_l01In : Int → Int → Int → Option Bool) (L0 : ByteArray → Int → Int → (Unit → Option ρ) → (Bool → Option ρ) → Option ρ) (a1 : ByteArray) (K : Bool → Option ρ) : Option ρ :=
  (C_spec_l01In (a1.size : Int) (1 : Int) (24 : Int)).bind fun r1 => sel ((!r1)) (K false) (chk (decide (0 ≤ (0 : Int) ∧ (0 : Int) < (a1.size : Int))) (sel (decide ((byteAt a1 ((0 : Int).toNat)) = (47 : Int))) (K false) (chk (decide (0 ≤ (wr ((a1.size : Int) - (1 : Int))) ∧ (wr ((a1.size : Int) - (1 : Int))) < (a1.size : Int))) (sel (decide ((byteAt a1 ((wr ((a1.size : Int) - (1 : Int))).toNat)) = (47 : Int))) (K false) (L0 a1 (a1.size : Int) (0 : Int) (fun _ => K true) (fun x01 => K x01))))))
noncomputable def F (a1 : ByteArray) : Option Bool := B spec_l01In.F (F0 fuelN) a1 (fun x1 => some (x1))
def encA (t : ByteArray) : List AV := [.c (.n (.v (.string t)))]
def encR (x : Bool) : AV × List Ob := (.c (.n (.v (.bool x))), [])
theorem encAI : ∀ a b, encA a = encA b → a = b := by
  intro a b h
  simp [encA, encRw_iff] at h
  simp_all
theorem encRI : ∀ a b, encR a = encR b → a = b := by
  intro a b h
  simp [encR, encRw_iff] at h
  simp_all
noncomputable def Q (args : List AV) : Option Bool := ofC encA (fun t => F t) args
theorem wrap : (fun (y1 : ByteArray) => Q [.c (.n (.v (.string y1)))]) = F := by
  funext y1
  exact ofC_enc encAI _ (y1)
noncomputable def G (q_spec_l01In : List AV → Option Bool) : Orc := ⟨fun f => sel (Nat.beq f 48) 0 (9), fun ρ f args K => sel (Nat.beq f 48) (qEntry spec_l01In.encR q_spec_l01In args K) (Option.none), noE⟩
noncomputable def L (W0 : (ρ : Type) → List AV → List Ob → (Unit → Option ρ) → (Bool → Option ρ) → Option ρ) : Lor := fun ρ j st K => sel (Nat.beq j 0) (cutO Try.prog 73 [0, 3, 4] 0 [] [] st fun avs obs => W0 ρ avs obs (fun _ => K (.exit 0) (mkS 73 [] [] [] [])) (fun z1 => K .ret (mkS 73 [2] [.c (.n (.v (.bool z1)))] [] []))) (Option.none)
noncomputable def c0 : Code := loopC (atomN [] 0 (bodyOf Try.f78) 0)
def ct0 : Cut := ⟨[0, 3, 4], []⟩
def lv0 : Exit → Cut
  | .exit 0 => ⟨[], []⟩
  | .ret => ⟨[2], []⟩
  | _ => ⟨[], []⟩
theorem step0 (q_spec_l01In : List AV → Option Bool) (W0 : (ρ : Type) → List AV → List Ob → (Unit → Option ρ) → (Bool → Option ρ) → Option ρ) {ρ : Type} (K : Exit → St → Option ρ) (W : List AV → List Ob → Option ρ) (v1 : ByteArray) (v2 : Int) (v3 : Int) : exC Try.prog (G q_spec_l01In) (L W0) [] 1 c0 (mkS 73 [0, 3, 4] [.c (.n (.v (.string v1))), .c (.n (.v (.int .i64 v2))), .c (.n (.v (.int .i64 v3)))] [] []) (bodyK Try.prog 73 0 [] ct0 W lv0 K) =
    B0 v1 v2 v3 (fun u1 u2 u3 => W [.c (.n (.v (.string u1))), .c (.n (.v (.int .i64 u2))), .c (.n (.v (.int .i64 u3)))] []) (fun _ => K (.exit 0) (mkS 73 [] [] [] [])) (fun z1 => K .ret (mkS 73 [2] [.c (.n (.v (.bool z1)))] [] [])) := by kernel_rfl
def enc0 (t : ByteArray × Int × Int) : List AV × List Ob := ([.c (.n (.v (.string t.1))), .c (.n (.v (.int .i64 t.2.1))), .c (.n (.v (.int .i64 t.2.2)))], [])
theorem enc0I : ∀ a b, enc0 a = enc0 b → a = b := by
  intro a b h
  obtain ⟨a0, a1, a2⟩ := a
  obtain ⟨b0, b1, b2⟩ := b
  simp [enc0, encRw_iff] at h
  simp_all
noncomputable def V0 : (ρ : Type) → List AV → List Ob → (Unit → Option ρ) → (Bool → Option ρ) → Option ρ := fun ρ avs obs k0 kr => ofC enc0 (fun t => F0 fuelN t.1 t.2.1 t.2.2 k0 kr) (avs, obs)
theorem V0_enc (ρ : Type) : (fun w1 w2 w3 k0 kr => V0 ρ [.c (.n (.v (.string w1))), .c (.n (.v (.int .i64 w2))), .c (.n (.v (.int .i64 w3)))] [] k0 kr) = F0 fuelN := by
  funext w1 w2 w3 k0 kr
  exact ofC_enc enc0I _ (w1, w2, w3)
theorem main (q_spec_l01In : List AV → Option Bool) (W0 : (ρ : Type) → List AV → List Ob → (Unit → Option ρ) → (Bool → Option ρ) → Option ρ) {ρ : Type} (K : AV → List Ob → Option ρ) (a1 : ByteArray) : exC Try.prog (G q_spec_l01In) (L W0) [] 0 (bodyOf Try.f78) (entry 73 [.c (.n (.v (.string a1)))] [] []) (finO Try.prog Try.f78.results.toList 0 [] [] K) =
    B (fun y1 y2 y3 => q_spec_l01In [.c (.n (.v (.int .i64 y1))), .c (.n (.v (.int .i64 y2))), .c (.n (.v (.int .i64 y3)))]) (fun w1 w2 w3 k0 kr => W0 ρ [.c (.n (.v (.string w1))), .c (.n (.v (.int .i64 w2))), .c (.n (.v (.int .i64 w3)))] [] k0 kr) a1 (fun x1 => K (.c (.n (.v (.bool x1)))) []) := by kernel_rfl
theorem Gok : (G spec_l01In.Q).ok Try.prog := ⟨(by
    intro ρ f args K r h
    rcases sel_cases h with ⟨hb, h⟩ | ⟨-, h⟩
    · obtain rfl := beq_nat hb
      exact qEntry_ok spec_l01In.ac h
    cases h),
  (by
    intro ρ f args K
    simp only [G]
    cases Nat.beq f 48 with
    | true => exact qEntry_nat args K
    | false =>
    simp only [sel]
    rfl),
  (fun ρ f st caps args dst K r h => (by cases h))⟩
theorem hm : Try.prog.follows .mixedOrders = true := by kernel_rfl
theorem e0 : atomsL [] 1 c0 = [] := by kernel_rfl
theorem ok0 (ρ : Type) (st : St) (K : Exit → St → Option ρ) (r : ρ) (h : (L V0) ρ 0 st K = some r) : AW Try.prog (.loop c0) st fun e st' => K e st' = some r := by
  refine loop_ok (ct := ct0) (lv := lv0) (n := 73) (m := 0) (ks := []) (j := 0) (jn := []) (L := (L V0)) Gok hm (by rw [e0]; exact Lor.ok_nil _ _) enc0I (fun k t => F0 k t.1 t.2.1 t.2.2 (fun _ => K (.exit 0) (mkS 73 [] [] [] [])) (fun z1 => K .ret (mkS 73 [2] [.c (.n (.v (.bool z1)))] [] []))) (fun t => rfl) (fun k t => ?_) (fun _ => fuelN) h
  refine (step0 spec_l01In.Q V0 K _ t.1 t.2.1 t.2.2).trans ?_
  refine congrArg (fun W => B0 t.1 t.2.1 t.2.2 W (fun _ => K (.exit 0) (mkS 73 [] [] [] [])) (fun z1 => K .ret (mkS 73 [2] [.c (.n (.v (.bool z1)))] [] []))) ?_
  funext u1 u2 u3
  exact ofC_enc enc0I _ (u1, u2, u3)
theorem e : atomsL [] 0 (bodyOf Try.f78) = [(0, 0, .loop c0)] := by kernel_rfl
theorem acc (t : ByteArray) (x : Bool) (h : F t = some x) : ACc Try.prog 78 (encA t) [] true [] fun rv obs => (rv, obs) = encR x := by
  refine fun_okc (L := (L V0)) (jn := []) (cmds := []) (ks := []) (hin := []) (fn := Try.f78) (body := (bodyOf Try.f78)) Gok hm Try.func78 (by kernel_rfl) (by kernel_rfl) (by rw [e]; exact Lor.ok_cons ok0 (Lor.ok_nil _ _)) ?_ h
  refine (main spec_l01In.Q V0 _ t).trans ?_
  rw [spec_l01In.wrap, V0_enc]
  refine congrArg (fun K => B spec_l01In.F (F0 fuelN) t K) ?_
  funext x1
  exact ofC_enc encRI some (x1)
theorem ac0 (t : ByteArray) (x : Bool) (h : F t = some x) : AC Try.prog 78 (encA t) [] true [] fun rv obs => (rv, obs) = encR x := ACc.ac (body := bodyOf Try.f78) Try.func78 (by kernel_rfl) (by kernel_rfl) (acc t x h)
theorem ac (args : List AV) (x : Bool) (h : Q args = some x) : AC Try.prog 78 args [] false [] fun rv obs => (rv, obs) = encR x := by
  obtain ⟨t, rfl, h2⟩ := ofC_some h
  refine (ac0 t x h2).flat fun rv obs e => ?_
  obtain rfl : rv = (encR x).1 := congrArg Prod.fst e
  obtain rfl : obs = (encR x).2 := congrArg Prod.snd e
  refine ⟨by simp [encR, AV.Flat, K.Flat, C.Flat], ?_⟩
  simp [encR]
end spec_PathOk
/-! loop.example/g00073/spec.NamesOk -/
namespace spec_NamesOk
noncomputable def B1 {ρ : Type} (v1 : Vec (ByteArray × Int × Int)) (v2 : Int) (v3 : Int) (v4 : ByteArray) (v5 : Int) (v6 : Int) (W : (Vec (ByteArray × Int × Int)) → Int → Int → ByteArray → Int → Int → Option ρ) (K2 : (Vec (ByteArray × Int × Int)) → Int → Option ρ) (Kr : Bool → Option ρ) : Option ρ :=
  sel (decide (v3 < v2)) (chk (decide (0 ≤ v3 ∧ v3 < (v1.n : Int))) (sel (decide ((v1.g v3.toNat).2.1 = v5)) (Kr false) (W v1 v2 (wr (v3 + (1 : Int))) v4 v5 v6))) (K2 v1 v2)
noncomputable def F1 {ρ : Type} : Nat → (Vec (ByteArray × Int × Int)) → Int → Int → ByteArray → Int → Int → ((Vec (ByteArray × Int × Int)) → Int → Option ρ) → (Bool → Option ρ) → Option ρ
  | 0, _, _, _, _, _, _, _, _ => none
  | k + 1, v1, v2, v3, v4, v5, v6, K2, Kr => B1 v1 v2 v3 v4 v5 v6 (fun v1' v2' v3' v4' v5' v6' => F1 k v1' v2' v3' v4' v5' v6' K2 Kr) K2 Kr
noncomputable def B0 {ρ : Type} (C_spec_PathOk : ByteArray → Option Bool) (C_spec_l01In : Int → Int → Int → Option Bool) (L1 : (Vec (ByteArray × Int × Int)) → Int → Int → ByteArray → Int → Int → ((Vec (ByteArray × Int × Int)) → Int → Option ρ) → (Bool → Option ρ) → Option ρ) (v1 : Vec (ByteArray × Int × Int)) (v2 : Int) (W : (Vec (ByteArray × Int × Int)) → Int → Option ρ) (K0 : Unit → Option ρ) (Kr : Bool → Option ρ) : Option ρ :=
  sel (decide (v2 < (v1.n : Int))) (chk (decide (0 ≤ v2 ∧ v2 < (v1.n : Int))) ((C_spec_PathOk ((v1.g v2.toNat).1)).bind fun r1 => sel ((!r1)) (Kr false) (sel (decide ((0 : Int) < v2)) (chk (decide (0 ≤ (wr (v2 - (1 : Int))) ∧ (wr (v2 - (1 : Int))) < (v1.n : Int))) (sel ((!decide (((v1.g (wr (v2 - (1 : Int))).toNat).1).toList < ((v1.g v2.toNat).1).toList))) (Kr false) ((C_spec_l01In ((v1.g v2.toNat).2.1) (0 : Int) (11 : Int)).bind fun r2 => sel ((!r2)) (Kr false) ((C_spec_l01In ((v1.g v2.toNat).2.2) (0 : Int) (39 : Int)).bind fun r3 => sel ((!r3)) (Kr false) (L1 v1 v2 (0 : Int) ((v1.g v2.toNat).1) ((v1.g v2.toNat).2.1) ((v1.g v2.toNat).2.2) (fun e11 e12 => W e11 (wr (e12 + (1 : Int)))) (fun x11 => Kr x11)))))) ((C_spec_l01In ((v1.g v2.toNat).2.1) (0 : Int) (11 : Int)).bind fun r4 => sel ((!r4)) (Kr false) ((C_spec_l01In ((v1.g v2.toNat).2.2) (0 : Int) (39 : Int)).bind fun r5 => sel ((!r5)) (Kr false) (L1 v1 v2 (0 : Int) ((v1.g v2.toNat).1) ((v1.g v2.toNat).2.1) ((v1.g v2.toNat).2.2) (fun e11 e12 => W e11 (wr (e12 + (1 : Int)))) (fun x11 => Kr x11))))))) (K0 ())
noncomputable def F0 {ρ : Type} : Nat → (Vec (ByteArray × Int × Int)) → Int → (Unit → Option ρ) → (Bool → Option ρ) → Option ρ
  | 0, _, _, _, _ => none
  | k + 1, v1, v2, K0, Kr => B0 spec_PathOk.F spec_l01In.F (F1 fuelN) v1 v2 (fun v1' v2' => F0 k v1' v2' K0 Kr) K0 Kr
noncomputable def B {ρ : Type} (L0 : (Vec (ByteArray × Int × Int)) → Int → (Unit → Option ρ) → (Bool → Option ρ) → Option ρ) (a1 : Vec (ByteArray × Int × Int)) (K : Bool → Option ρ) : Option ρ :=
  sel (decide ((12 : Int) < (a1.n : Int))) (K false) (L0 a1 (0 : Int) (fun _ => K true) (fun x01 => K x01))
noncomputable def F (a1 : Vec (ByteArray × Int × Int)) : Option Bool := B (F0 fuelN) a1 (fun x1 => some (x1))
def encA (t : Vec (ByteArray × Int × Int)) : List AV := [.c (.n (.sl 3 (encRw t)))]
def encR (x : Bool) : AV × List Ob := (.c (.n (.v (.bool x))), [])
theorem encAI : ∀ a b, encA a = encA b → a = b := by
  intro a b h
  simp [encA, encRw_iff] at h
  simp_all
theorem encRI : ∀ a b, encR a = encR b → a = b := by
  intro a b h
  simp [encR, encRw_iff] at h
  simp_all
noncomputable def Q (args : List AV) : Option Bool := ofC encA (fun t => F t) args
theorem wrap : (fun (y1 : Vec (ByteArray × Int × Int)) => Q [.c (.n (.sl 3 (encRw y1)))]) = F := by
  funext y1
  exact ofC_enc encAI _ (y1)
noncomputable def G (q_spec_PathOk : List AV → Option Bool) (q_spec_l01In : List AV → Option Bool) : Orc := ⟨fun f => sel (Nat.beq f 78) 0 (sel (Nat.beq f 48) 0 (9)), fun ρ f args K => sel (Nat.beq f 78) (qEntry spec_PathOk.encR q_spec_PathOk args K) (sel (Nat.beq f 48) (qEntry spec_l01In.encR q_spec_l01In args K) (Option.none)), noE⟩
noncomputable def L (W1 : (ρ : Type) → List AV → List Ob → ((Vec (ByteArray × Int × Int)) → Int → Option ρ) → (Bool → Option ρ) → Option ρ) (W0 : (ρ : Type) → List AV → List Ob → (Unit → Option ρ) → (Bool → Option ρ) → Option ρ) : Lor := fun ρ j st K => sel (Nat.beq j 0) (cutO Try.prog 63 [0, 3] 0 [] [] st fun avs obs => W0 ρ avs obs (fun _ => K (.exit 0) (mkS 63 [] [] [] [])) (fun z1 => K .ret (mkS 63 [2] [.c (.n (.v (.bool z1)))] [] []))) (sel (Nat.beq j 1) (cutO Try.prog 63 [0, 3, 4, 5] 0 [] [] st fun avs obs => W1 ρ avs obs (fun z1 z2 => K (.exit 2) (mkS 63 [0, 3] [.c (.n (.sl 3 (encRw z1))), .c (.n (.v (.int .i64 z2)))] [] [])) (fun z1 => K .ret (mkS 63 [2] [.c (.n (.v (.bool z1)))] [] []))) (Option.none))
noncomputable def c0 : Code := loopC (atomN [] 0 (bodyOf Try.f58) 0)
noncomputable def c1 : Code := loopC (atomN [] 1 c0 0)
def ct0 : Cut := ⟨[0, 3], []⟩
def lv0 : Exit → Cut
  | .exit 0 => ⟨[], []⟩
  | .ret => ⟨[2], []⟩
  | _ => ⟨[], []⟩
theorem step0 (q_spec_PathOk : List AV → Option Bool) (q_spec_l01In : List AV → Option Bool) (W1 : (ρ : Type) → List AV → List Ob → ((Vec (ByteArray × Int × Int)) → Int → Option ρ) → (Bool → Option ρ) → Option ρ) (W0 : (ρ : Type) → List AV → List Ob → (Unit → Option ρ) → (Bool → Option ρ) → Option ρ) {ρ : Type} (K : Exit → St → Option ρ) (W : List AV → List Ob → Option ρ) (v1 : Vec (ByteArray × Int × Int)) (v2 : Int) : exC Try.prog (G q_spec_PathOk q_spec_l01In) (L W1 W0) [] 1 c0 (mkS 63 [0, 3] [.c (.n (.sl 3 (encRw v1))), .c (.n (.v (.int .i64 v2)))] [] []) (bodyK Try.prog 63 0 [] ct0 W lv0 K) =
    B0 (fun y1 => q_spec_PathOk [.c (.n (.v (.string y1)))]) (fun y1 y2 y3 => q_spec_l01In [.c (.n (.v (.int .i64 y1))), .c (.n (.v (.int .i64 y2))), .c (.n (.v (.int .i64 y3)))]) (fun w1 w2 w3 w4 w5 w6 k2 kr => W1 ρ [.c (.n (.sl 3 (encRw w1))), .c (.n (.v (.int .i64 w2))), .c (.p 0 0), .c (.n (.v (.int .i64 w3)))] [.box [.n (.v (.string w4)), .n (.v (.int .i64 w5)), .n (.v (.int .i64 w6))]] k2 kr) v1 v2 (fun u1 u2 => W [.c (.n (.sl 3 (encRw u1))), .c (.n (.v (.int .i64 u2)))] []) (fun _ => K (.exit 0) (mkS 63 [] [] [] [])) (fun z1 => K .ret (mkS 63 [2] [.c (.n (.v (.bool z1)))] [] [])) := by kernel_rfl
def enc0 (t : (Vec (ByteArray × Int × Int)) × Int) : List AV × List Ob := ([.c (.n (.sl 3 (encRw t.1))), .c (.n (.v (.int .i64 t.2)))], [])
theorem enc0I : ∀ a b, enc0 a = enc0 b → a = b := by
  intro a b h
  obtain ⟨a0, a1⟩ := a
  obtain ⟨b0, b1⟩ := b
  simp [enc0, encRw_iff] at h
  simp_all
noncomputable def V0 : (ρ : Type) → List AV → List Ob → (Unit → Option ρ) → (Bool → Option ρ) → Option ρ := fun ρ avs obs k0 kr => ofC enc0 (fun t => F0 fuelN t.1 t.2 k0 kr) (avs, obs)
theorem V0_enc (ρ : Type) : (fun w1 w2 k0 kr => V0 ρ [.c (.n (.sl 3 (encRw w1))), .c (.n (.v (.int .i64 w2)))] [] k0 kr) = F0 fuelN := by
  funext w1 w2 k0 kr
  exact ofC_enc enc0I _ (w1, w2)
def ct1 : Cut := ⟨[0, 3, 4, 5], []⟩
def lv1 : Exit → Cut
  | .exit 2 => ⟨[0, 3], []⟩
  | .ret => ⟨[2], []⟩
  | _ => ⟨[], []⟩
theorem step1 (q_spec_PathOk : List AV → Option Bool) (q_spec_l01In : List AV → Option Bool) (W1 : (ρ : Type) → List AV → List Ob → ((Vec (ByteArray × Int × Int)) → Int → Option ρ) → (Bool → Option ρ) → Option ρ) (W0 : (ρ : Type) → List AV → List Ob → (Unit → Option ρ) → (Bool → Option ρ) → Option ρ) {ρ : Type} (K : Exit → St → Option ρ) (W : List AV → List Ob → Option ρ) (v1 : Vec (ByteArray × Int × Int)) (v2 : Int) (v3 : Int) (v4 : ByteArray) (v5 : Int) (v6 : Int) : exC Try.prog (G q_spec_PathOk q_spec_l01In) (L W1 W0) [] 2 c1 (mkS 63 [0, 3, 4, 5] [.c (.n (.sl 3 (encRw v1))), .c (.n (.v (.int .i64 v2))), .c (.p 0 0), .c (.n (.v (.int .i64 v3)))] [.box [.n (.v (.string v4)), .n (.v (.int .i64 v5)), .n (.v (.int .i64 v6))]] []) (bodyK Try.prog 63 0 [] ct1 W lv1 K) =
    B1 v1 v2 v3 v4 v5 v6 (fun u1 u2 u3 u4 u5 u6 => W [.c (.n (.sl 3 (encRw u1))), .c (.n (.v (.int .i64 u2))), .c (.p 0 0), .c (.n (.v (.int .i64 u3)))] [.box [.n (.v (.string u4)), .n (.v (.int .i64 u5)), .n (.v (.int .i64 u6))]]) (fun z1 z2 => K (.exit 2) (mkS 63 [0, 3] [.c (.n (.sl 3 (encRw z1))), .c (.n (.v (.int .i64 z2)))] [] [])) (fun z1 => K .ret (mkS 63 [2] [.c (.n (.v (.bool z1)))] [] [])) := by kernel_rfl
def enc1 (t : (Vec (ByteArray × Int × Int)) × Int × Int × ByteArray × Int × Int) : List AV × List Ob := ([.c (.n (.sl 3 (encRw t.1))), .c (.n (.v (.int .i64 t.2.1))), .c (.p 0 0), .c (.n (.v (.int .i64 t.2.2.1)))], [.box [.n (.v (.string t.2.2.2.1)), .n (.v (.int .i64 t.2.2.2.2.1)), .n (.v (.int .i64 t.2.2.2.2.2))]])
theorem enc1I : ∀ a b, enc1 a = enc1 b → a = b := by
  intro a b h
  obtain ⟨a0, a1, a2, a3, a4, a5⟩ := a
  obtain ⟨b0, b1, b2, b3, b4, b5⟩ := b
  simp [enc1, encRw_iff] at h
  simp_all
noncomputable def V1 : (ρ : Type) → List AV → List Ob → ((Vec (ByteArray × Int × Int)) → Int → Option ρ) → (Bool → Option ρ) → Option ρ := fun ρ avs obs k2 kr => ofC enc1 (fun t => F1 fuelN t.1 t.2.1 t.2.2.1 t.2.2.2.1 t.2.2.2.2.1 t.2.2.2.2.2 k2 kr) (avs, obs)
theorem V1_enc (ρ : Type) : (fun w1 w2 w3 w4 w5 w6 k2 kr => V1 ρ [.c (.n (.sl 3 (encRw w1))), .c (.n (.v (.int .i64 w2))), .c (.p 0 0), .c (.n (.v (.int .i64 w3)))] [.box [.n (.v (.string w4)), .n (.v (.int .i64 w5)), .n (.v (.int .i64 w6))]] k2 kr) = F1 fuelN := by
  funext w1 w2 w3 w4 w5 w6 k2 kr
  exact ofC_enc enc1I _ (w1, w2, w3, w4, w5, w6)
theorem main (q_spec_PathOk : List AV → Option Bool) (q_spec_l01In : List AV → Option Bool) (W1 : (ρ : Type) → List AV → List Ob → ((Vec (ByteArray × Int × Int)) → Int → Option ρ) → (Bool → Option ρ) → Option ρ) (W0 : (ρ : Type) → List AV → List Ob → (Unit → Option ρ) → (Bool → Option ρ) → Option ρ) {ρ : Type} (K : AV → List Ob → Option ρ) (a1 : Vec (ByteArray × Int × Int)) : exC Try.prog (G q_spec_PathOk q_spec_l01In) (L W1 W0) [] 0 (bodyOf Try.f58) (entry 63 [.c (.n (.sl 3 (encRw a1)))] [] []) (finO Try.prog Try.f58.results.toList 0 [] [] K) =
    B (fun w1 w2 k0 kr => W0 ρ [.c (.n (.sl 3 (encRw w1))), .c (.n (.v (.int .i64 w2)))] [] k0 kr) a1 (fun x1 => K (.c (.n (.v (.bool x1)))) []) := by kernel_rfl
theorem Gok : (G spec_PathOk.Q spec_l01In.Q).ok Try.prog := ⟨(by
    intro ρ f args K r h
    rcases sel_cases h with ⟨hb, h⟩ | ⟨-, h⟩
    · obtain rfl := beq_nat hb
      exact qEntry_ok spec_PathOk.ac h
    rcases sel_cases h with ⟨hb, h⟩ | ⟨-, h⟩
    · obtain rfl := beq_nat hb
      exact qEntry_ok spec_l01In.ac h
    cases h),
  (by
    intro ρ f args K
    simp only [G]
    cases Nat.beq f 78 with
    | true => exact qEntry_nat args K
    | false =>
    simp only [sel]
    cases Nat.beq f 48 with
    | true => exact qEntry_nat args K
    | false =>
    simp only [sel]
    rfl),
  (fun ρ f st caps args dst K r h => (by cases h))⟩
theorem hm : Try.prog.follows .mixedOrders = true := by kernel_rfl
theorem e1 : atomsL [] 2 c1 = [] := by kernel_rfl
theorem ok1 (ρ : Type) (st : St) (K : Exit → St → Option ρ) (r : ρ) (h : (L V1 V0) ρ 1 st K = some r) : AW Try.prog (.loop c1) st fun e st' => K e st' = some r := by
  refine loop_ok (ct := ct1) (lv := lv1) (n := 63) (m := 0) (ks := []) (j := 1) (jn := []) (L := (L V1 V0)) Gok hm (by rw [e1]; exact Lor.ok_nil _ _) enc1I (fun k t => F1 k t.1 t.2.1 t.2.2.1 t.2.2.2.1 t.2.2.2.2.1 t.2.2.2.2.2 (fun z1 z2 => K (.exit 2) (mkS 63 [0, 3] [.c (.n (.sl 3 (encRw z1))), .c (.n (.v (.int .i64 z2)))] [] [])) (fun z1 => K .ret (mkS 63 [2] [.c (.n (.v (.bool z1)))] [] []))) (fun t => rfl) (fun k t => ?_) (fun _ => fuelN) h
  refine (step1 spec_PathOk.Q spec_l01In.Q V1 V0 K _ t.1 t.2.1 t.2.2.1 t.2.2.2.1 t.2.2.2.2.1 t.2.2.2.2.2).trans ?_
  refine congrArg (fun W => B1 t.1 t.2.1 t.2.2.1 t.2.2.2.1 t.2.2.2.2.1 t.2.2.2.2.2 W (fun z1 z2 => K (.exit 2) (mkS 63 [0, 3] [.c (.n (.sl 3 (encRw z1))), .c (.n (.v (.int .i64 z2)))] [] [])) (fun z1 => K .ret (mkS 63 [2] [.c (.n (.v (.bool z1)))] [] []))) ?_
  funext u1 u2 u3 u4 u5 u6
  exact ofC_enc enc1I _ (u1, u2, u3, u4, u5, u6)
theorem e0 : atomsL [] 1 c0 = [(1, 1, .loop c1)] := by kernel_rfl
theorem ok0 (ρ : Type) (st : St) (K : Exit → St → Option ρ) (r : ρ) (h : (L V1 V0) ρ 0 st K = some r) : AW Try.prog (.loop c0) st fun e st' => K e st' = some r := by
  refine loop_ok (ct := ct0) (lv := lv0) (n := 63) (m := 0) (ks := []) (j := 0) (jn := []) (L := (L V1 V0)) Gok hm (by rw [e0]; exact Lor.ok_cons ok1 (Lor.ok_nil _ _)) enc0I (fun k t => F0 k t.1 t.2 (fun _ => K (.exit 0) (mkS 63 [] [] [] [])) (fun z1 => K .ret (mkS 63 [2] [.c (.n (.v (.bool z1)))] [] []))) (fun t => rfl) (fun k t => ?_) (fun _ => fuelN) h
  refine (step0 spec_PathOk.Q spec_l01In.Q V1 V0 K _ t.1 t.2).trans ?_
  rw [spec_PathOk.wrap, spec_l01In.wrap, V1_enc]
  refine congrArg (fun W => B0 spec_PathOk.F spec_l01In.F (F1 fuelN) t.1 t.2 W (fun _ => K (.exit 0) (mkS 63 [] [] [] [])) (fun z1 => K .ret (mkS 63 [2] [.c (.n (.v (.bool z1)))] [] []))) ?_
  funext u1 u2
  exact ofC_enc enc0I _ (u1, u2)
theorem e : atomsL [] 0 (bodyOf Try.f58) = [(0, 0, .loop c0)] := by kernel_rfl
theorem acc (t : Vec (ByteArray × Int × Int)) (x : Bool) (h : F t = some x) : ACc Try.prog 58 (encA t) [] true [] fun rv obs => (rv, obs) = encR x := by
  refine fun_okc (L := (L V1 V0)) (jn := []) (cmds := []) (ks := []) (hin := []) (fn := Try.f58) (body := (bodyOf Try.f58)) Gok hm Try.func58 (by kernel_rfl) (by kernel_rfl) (by rw [e]; exact Lor.ok_cons ok0 (Lor.ok_nil _ _)) ?_ h
  refine (main spec_PathOk.Q spec_l01In.Q V1 V0 _ t).trans ?_
  rw [V0_enc]
  refine congrArg (fun K => B (F0 fuelN) t K) ?_
  funext x1
  exact ofC_enc encRI some (x1)
theorem ac0 (t : Vec (ByteArray × Int × Int)) (x : Bool) (h : F t = some x) : AC Try.prog 58 (encA t) [] true [] fun rv obs => (rv, obs) = encR x := ACc.ac (body := bodyOf Try.f58) Try.func58 (by kernel_rfl) (by kernel_rfl) (acc t x h)
theorem ac (args : List AV) (x : Bool) (h : Q args = some x) : AC Try.prog 58 args [] false [] fun rv obs => (rv, obs) = encR x := by
  obtain ⟨t, rfl, h2⟩ := ofC_some h
  refine (ac0 t x h2).flat fun rv obs e => ?_
  obtain rfl : rv = (encR x).1 := congrArg Prod.fst e
  obtain rfl : obs = (encR x).2 := congrArg Prod.snd e
  refine ⟨by simp [encR, AV.Flat, K.Flat, C.Flat], ?_⟩
  simp [encR]
end spec_NamesOk
/-! loop.example/g00073/spec.l13Path -/
namespace spec_l13Path
noncomputable def B0 {ρ : Type} (v1 : Vec (ByteArray × Int × Int)) (v2 : ByteArray) (v3 : Int) (W : (Vec (ByteArray × Int × Int)) → ByteArray → Int → Option ρ) (K0 : Unit → Option ρ) (Kr : Int → Option ρ) : Option ρ :=
  sel (decide (v3 < (v1.n : Int))) (chk (decide (0 ≤ v3 ∧ v3 < (v1.n : Int))) (sel (decide ((v1.g v3.toNat).1 = v2)) (Kr v3) (W v1 v2 (wr (v3 + (1 : Int)))))) (K0 ())
noncomputable def F0 {ρ : Type} : Nat → (Vec (ByteArray × Int × Int)) → ByteArray → Int → (Unit → Option ρ) → (Int → Option ρ) → Option ρ
  | 0, _, _, _, _, _ => none
  | k + 1, v1, v2, v3, K0, Kr => B0 v1 v2 v3 (fun v1' v2' v3' => F0 k v1' v2' v3' K0 Kr) K0 Kr
noncomputable def B {ρ : Type} (L0 : (Vec (ByteArray × Int × Int)) → ByteArray → Int → (Unit → Option ρ) → (Int → Option ρ) → Option ρ) (a1 : Vec (ByteArray × Int × Int)) (a2 : ByteArray) (K : Int → Option ρ) : Option ρ :=
  L0 a1 a2 (0 : Int) (fun _ => K (-1 : Int)) (fun x01 => K x01)
noncomputable def F (a1 : Vec (ByteArray × Int × Int)) (a2 : ByteArray) : Option Int := B (F0 fuelN) a1 a2 (fun x1 => some (x1))
def encA (t : (Vec (ByteArray × Int × Int)) × ByteArray) : List AV := [.c (.n (.sl 3 (encRw t.1))), .c (.n (.v (.string t.2)))]
def encR (x : Int) : AV × List Ob := (.c (.n (.v (.int .i64 x))), [])
theorem encAI : ∀ a b, encA a = encA b → a = b := by
  intro a b h
  obtain ⟨a0, a1⟩ := a
  obtain ⟨b0, b1⟩ := b
  simp [encA, encRw_iff] at h
  simp_all
theorem encRI : ∀ a b, encR a = encR b → a = b := by
  intro a b h
  simp [encR, encRw_iff] at h
  simp_all
noncomputable def Q (args : List AV) : Option Int := ofC encA (fun t => F t.1 t.2) args
theorem wrap : (fun (y1 : Vec (ByteArray × Int × Int)) (y2 : ByteArray) => Q [.c (.n (.sl 3 (encRw y1))), .c (.n (.v (.string y2)))]) = F := by
  funext y1 y2
  exact ofC_enc encAI _ (y1, y2)
noncomputable def G : Orc := ⟨fun f => 9, fun ρ f args K => Option.none, noE⟩
noncomputable def L (W0 : (ρ : Type) → List AV → List Ob → (Unit → Option ρ) → (Int → Option ρ) → Option ρ) : Lor := fun ρ j st K => sel (Nat.beq j 0) (cutO Try.prog 20 [0, 1, 5] 0 [] [] st fun avs obs => W0 ρ avs obs (fun _ => K (.exit 0) (mkS 20 [] [] [] [])) (fun z1 => K .ret (mkS 20 [4] [.c (.n (.v (.int .i64 z1)))] [] []))) (Option.none)
noncomputable def c0 : Code := loopC (atomN [] 0 (bodyOf Try.f67) 0)
def ct0 : Cut := ⟨[0, 1, 5], []⟩
def lv0 : Exit → Cut
  | .exit 0 => ⟨[], []⟩
  | .ret => ⟨[4], []⟩
  | _ => ⟨[], []⟩
theorem step0 (W0 : (ρ : Type) → List AV → List Ob → (Unit → Option ρ) → (Int → Option ρ) → Option ρ) {ρ : Type} (K : Exit → St → Option ρ) (W : List AV → List Ob → Option ρ) (v1 : Vec (ByteArray × Int × Int)) (v2 : ByteArray) (v3 : Int) : exC Try.prog (G) (L W0) [] 1 c0 (mkS 20 [0, 1, 5] [.c (.n (.sl 3 (encRw v1))), .c (.n (.v (.string v2))), .c (.n (.v (.int .i64 v3)))] [] []) (bodyK Try.prog 20 0 [] ct0 W lv0 K) =
    B0 v1 v2 v3 (fun u1 u2 u3 => W [.c (.n (.sl 3 (encRw u1))), .c (.n (.v (.string u2))), .c (.n (.v (.int .i64 u3)))] []) (fun _ => K (.exit 0) (mkS 20 [] [] [] [])) (fun z1 => K .ret (mkS 20 [4] [.c (.n (.v (.int .i64 z1)))] [] [])) := by kernel_rfl
def enc0 (t : (Vec (ByteArray × Int × Int)) × ByteArray × Int) : List AV × List Ob := ([.c (.n (.sl 3 (encRw t.1))), .c (.n (.v (.string t.2.1))), .c (.n (.v (.int .i64 t.2.2)))], [])
theorem enc0I : ∀ a b, enc0 a = enc0 b → a = b := by
  intro a b h
  obtain ⟨a0, a1, a2⟩ := a
  obtain ⟨b0, b1, b2⟩ := b
  simp [enc0, encRw_iff] at h
  simp_all
noncomputable def V0 : (ρ : Type) → List AV → List Ob → (Unit → Option ρ) → (Int → Option ρ) → Option ρ := fun ρ avs obs k0 kr => ofC enc0 (fun t => F0 fuelN t.1 t.2.1 t.2.2 k0 kr) (avs, obs)
theorem V0_enc (ρ : Type) : (fun w1 w2 w3 k0 kr => V0 ρ [.c (.n (.sl 3 (encRw w1))), .c (.n (.v (.string w2))), .c (.n (.v (.int .i64 w3)))] [] k0 kr) = F0 fuelN := by
  funext w1 w2 w3 k0 kr
  exact ofC_enc enc0I _ (w1, w2, w3)
theorem main (W0 : (ρ : Type) → List AV → List Ob → (Unit → Option ρ) → (Int → Option ρ) → Option ρ) {ρ : Type} (K : AV → List Ob → Option ρ) (a1 : Vec (ByteArray × Int × Int)) (a2 : ByteArray) : exC Try.prog (G) (L W0) [] 0 (bodyOf Try.f67) (entry 20 [.c (.n (.sl 3 (encRw a1))), .c (.n (.v (.string a2)))] [] []) (finO Try.prog Try.f67.results.toList 0 [] [] K) =
    B (fun w1 w2 w3 k0 kr => W0 ρ [.c (.n (.sl 3 (encRw w1))), .c (.n (.v (.string w2))), .c (.n (.v (.int .i64 w3)))] [] k0 kr) a1 a2 (fun x1 => K (.c (.n (.v (.int .i64 x1)))) []) := by kernel_rfl
theorem Gok : (G).ok Try.prog := ⟨(fun ρ f args K r h => (by cases h)),
  (fun ρ f args K => rfl),
  (fun ρ f st caps args dst K r h => (by cases h))⟩
theorem hm : Try.prog.follows .mixedOrders = true := by kernel_rfl
theorem e0 : atomsL [] 1 c0 = [] := by kernel_rfl
theorem ok0 (ρ : Type) (st : St) (K : Exit → St → Option ρ) (r : ρ) (h : (L V0) ρ 0 st K = some r) : AW Try.prog (.loop c0) st fun e st' => K e st' = some r := by
  refine loop_ok (ct := ct0) (lv := lv0) (n := 20) (m := 0) (ks := []) (j := 0) (jn := []) (L := (L V0)) Gok hm (by rw [e0]; exact Lor.ok_nil _ _) enc0I (fun k t => F0 k t.1 t.2.1 t.2.2 (fun _ => K (.exit 0) (mkS 20 [] [] [] [])) (fun z1 => K .ret (mkS 20 [4] [.c (.n (.v (.int .i64 z1)))] [] []))) (fun t => rfl) (fun k t => ?_) (fun _ => fuelN) h
  refine (step0 V0 K _ t.1 t.2.1 t.2.2).trans ?_
  refine congrArg (fun W => B0 t.1 t.2.1 t.2.2 W (fun _ => K (.exit 0) (mkS 20 [] [] [] [])) (fun z1 => K .ret (mkS 20 [4] [.c (.n (.v (.int .i64 z1)))] [] []))) ?_
  funext u1 u2 u3
  exact ofC_enc enc0I _ (u1, u2, u3)
theorem e : atomsL [] 0 (bodyOf Try.f67) = [(0, 0, .loop c0)] := by kernel_rfl
theorem acc (t : (Vec (ByteArray × Int × Int)) × ByteArray) (x : Int) (h : F t.1 t.2 = some x) : ACc Try.prog 67 (encA t) [] true [] fun rv obs => (rv, obs) = encR x := by
  refine fun_okc (L := (L V0)) (jn := []) (cmds := []) (ks := []) (hin := []) (fn := Try.f67) (body := (bodyOf Try.f67)) Gok hm Try.func67 (by kernel_rfl) (by kernel_rfl) (by rw [e]; exact Lor.ok_cons ok0 (Lor.ok_nil _ _)) ?_ h
  refine (main V0 _ t.1 t.2).trans ?_
  rw [V0_enc]
  refine congrArg (fun K => B (F0 fuelN) t.1 t.2 K) ?_
  funext x1
  exact ofC_enc encRI some (x1)
theorem ac0 (t : (Vec (ByteArray × Int × Int)) × ByteArray) (x : Int) (h : F t.1 t.2 = some x) : AC Try.prog 67 (encA t) [] true [] fun rv obs => (rv, obs) = encR x := ACc.ac (body := bodyOf Try.f67) Try.func67 (by kernel_rfl) (by kernel_rfl) (acc t x h)
theorem ac (args : List AV) (x : Int) (h : Q args = some x) : AC Try.prog 67 args [] false [] fun rv obs => (rv, obs) = encR x := by
  obtain ⟨t, rfl, h2⟩ := ofC_some h
  refine (ac0 t x h2).flat fun rv obs e => ?_
  obtain rfl : rv = (encR x).1 := congrArg Prod.fst e
  obtain rfl : obs = (encR x).2 := congrArg Prod.snd e
  refine ⟨by simp [encR, AV.Flat, K.Flat, C.Flat], ?_⟩
  simp [encR]
end spec_l13Path
/-! loop.example/g00073/spec.ByPath -/
namespace spec_ByPath
noncomputable def B {ρ : Type} (C_spec_NamesOk : (Vec (ByteArray × Int × Int)) → Option Bool) (C_spec_l13Path : (Vec (ByteArray × Int × Int)) → ByteArray → Option Int) (a1 : Vec (ByteArray × Int × Int)) (a2 : ByteArray) (K : Int → Option ρ) : Option ρ :=
  (C_spec_NamesOk a1).bind fun r1 => sel ((!r1)) (K (-1 : Int)) ((C_spec_l13Path a1 a2).bind fun r2 => K r2)
noncomputable def F (a1 : Vec (ByteArray × Int × Int)) (a2 : ByteArray) : Option Int := B spec_NamesOk.F spec_l13Path.F a1 a2 (fun x1 => some (x1))
def encA (t : (Vec (ByteArray × Int × Int)) × ByteArray) : List AV := [.c (.n (.sl 3 (encRw t.1))), .c (.n (.v (.string t.2)))]
def encR (x : Int) : AV × List Ob := (.c (.n (.v (.int .i64 x))), [])
theorem encAI : ∀ a b, encA a = encA b → a = b := by
  intro a b h
  obtain ⟨a0, a1⟩ := a
  obtain ⟨b0, b1⟩ := b
  simp [encA, encRw_iff] at h
  simp_all
theorem encRI : ∀ a b, encR a = encR b → a = b := by
  intro a b h
  simp [encR, encRw_iff] at h
  simp_all
noncomputable def Q (args : List AV) : Option Int := ofC encA (fun t => F t.1 t.2) args
theorem wrap : (fun (y1 : Vec (ByteArray × Int × Int)) (y2 : ByteArray) => Q [.c (.n (.sl 3 (encRw y1))), .c (.n (.v (.string y2)))]) = F := by
  funext y1 y2
  exact ofC_enc encAI _ (y1, y2)
noncomputable def G (q_spec_NamesOk : List AV → Option Bool) (q_spec_l13Path : List AV → Option Int) : Orc := ⟨fun f => sel (Nat.beq f 58) 0 (sel (Nat.beq f 67) 0 (9)), fun ρ f args K => sel (Nat.beq f 58) (qEntry spec_NamesOk.encR q_spec_NamesOk args K) (sel (Nat.beq f 67) (qEntry spec_l13Path.encR q_spec_l13Path args K) (Option.none)), noE⟩
noncomputable def L : Lor := fun ρ j st K => Option.none
theorem main (q_spec_NamesOk : List AV → Option Bool) (q_spec_l13Path : List AV → Option Int) {ρ : Type} (K : AV → List Ob → Option ρ) (a1 : Vec (ByteArray × Int × Int)) (a2 : ByteArray) : exC Try.prog (G q_spec_NamesOk q_spec_l13Path) (L) [] 0 (bodyOf Try.f39) (entry 11 [.c (.n (.sl 3 (encRw a1))), .c (.n (.v (.string a2)))] [] []) (finO Try.prog Try.f39.results.toList 0 [] [] K) =
    B (fun y1 => q_spec_NamesOk [.c (.n (.sl 3 (encRw y1)))]) (fun y1 y2 => q_spec_l13Path [.c (.n (.sl 3 (encRw y1))), .c (.n (.v (.string y2)))]) a1 a2 (fun x1 => K (.c (.n (.v (.int .i64 x1)))) []) := by kernel_rfl
theorem Gok : (G spec_NamesOk.Q spec_l13Path.Q).ok Try.prog := ⟨(by
    intro ρ f args K r h
    rcases sel_cases h with ⟨hb, h⟩ | ⟨-, h⟩
    · obtain rfl := beq_nat hb
      exact qEntry_ok spec_NamesOk.ac h
    rcases sel_cases h with ⟨hb, h⟩ | ⟨-, h⟩
    · obtain rfl := beq_nat hb
      exact qEntry_ok spec_l13Path.ac h
    cases h),
  (by
    intro ρ f args K
    simp only [G]
    cases Nat.beq f 58 with
    | true => exact qEntry_nat args K
    | false =>
    simp only [sel]
    cases Nat.beq f 67 with
    | true => exact qEntry_nat args K
    | false =>
    simp only [sel]
    rfl),
  (fun ρ f st caps args dst K r h => (by cases h))⟩
theorem hm : Try.prog.follows .mixedOrders = true := by kernel_rfl
theorem e : atomsL [] 0 (bodyOf Try.f39) = [] := by kernel_rfl
theorem acc (t : (Vec (ByteArray × Int × Int)) × ByteArray) (x : Int) (h : F t.1 t.2 = some x) : ACc Try.prog 39 (encA t) [] true [] fun rv obs => (rv, obs) = encR x := by
  refine fun_okc (L := (L)) (jn := []) (cmds := []) (ks := []) (hin := []) (fn := Try.f39) (body := (bodyOf Try.f39)) Gok hm Try.func39 (by kernel_rfl) (by kernel_rfl) (by rw [e]; exact Lor.ok_nil _ _) ?_ h
  refine (main spec_NamesOk.Q spec_l13Path.Q _ t.1 t.2).trans ?_
  rw [spec_NamesOk.wrap, spec_l13Path.wrap]
  refine congrArg (fun K => B spec_NamesOk.F spec_l13Path.F t.1 t.2 K) ?_
  funext x1
  exact ofC_enc encRI some (x1)
theorem ac0 (t : (Vec (ByteArray × Int × Int)) × ByteArray) (x : Int) (h : F t.1 t.2 = some x) : AC Try.prog 39 (encA t) [] true [] fun rv obs => (rv, obs) = encR x := ACc.ac (body := bodyOf Try.f39) Try.func39 (by kernel_rfl) (by kernel_rfl) (acc t x h)
theorem ac (args : List AV) (x : Int) (h : Q args = some x) : AC Try.prog 39 args [] false [] fun rv obs => (rv, obs) = encR x := by
  obtain ⟨t, rfl, h2⟩ := ofC_some h
  refine (ac0 t x h2).flat fun rv obs e => ?_
  obtain rfl : rv = (encR x).1 := congrArg Prod.fst e
  obtain rfl : obs = (encR x).2 := congrArg Prod.snd e
  refine ⟨by simp [encR, AV.Flat, K.Flat, C.Flat], ?_⟩
  simp [encR]
end spec_ByPath
/-! loop.example/g00073/spec.CutName -/
namespace spec_CutName
noncomputable def B {ρ : Type} (C_spec_ByPath : (Vec (ByteArray × Int × Int)) → ByteArray → Option Int) (a1 : Vec (ByteArray × Int × Int)) (a2 : ByteArray) (K : Bool → (Vec (ByteArray × Int × Int)) → Option ρ) : Option ρ :=
  (C_spec_ByPath a1 a2).bind fun r1 => sel (decide (r1 < (0 : Int))) (K false (Vec.nil : Vec (ByteArray × Int × Int))) (chk (decide (0 ≤ (0 : Int) ∧ (0 : Int) ≤ r1 ∧ r1 ≤ (a1.n : Int))) (chk (decide ((Vec.sub a1 ((0 : Int).toNat) r1.toNat).n * 33 ≤ maxN)) (chk (decide (0 ≤ (wr (r1 + (1 : Int))) ∧ (wr (r1 + (1 : Int))) ≤ (a1.n : Int) ∧ (a1.n : Int) ≤ (a1.n : Int))) (chk (decide (((Vec.sub a1 ((0 : Int).toNat) r1.toNat).n + (Vec.sub a1 ((wr (r1 + (1 : Int))).toNat) ((a1.n : Int).toNat)).n) * 33 ≤ maxN)) (K true (Vec.app (Vec.sub a1 ((0 : Int).toNat) r1.toNat) (Vec.sub a1 ((wr (r1 + (1 : Int))).toNat) ((a1.n : Int).toNat))))))))
noncomputable def F (a1 : Vec (ByteArray × Int × Int)) (a2 : ByteArray) : Option (Bool × (Vec (ByteArray × Int × Int))) := B spec_ByPath.F a1 a2 (fun x1 x2 => some (x1, x2))
def encA (t : (Vec (ByteArray × Int × Int)) × ByteArray) : List AV := [.c (.n (.sl 3 (encRw t.1))), .c (.n (.v (.string t.2)))]
def encR (x : Bool × (Vec (ByteArray × Int × Int))) : AV × List Ob := (.tup [.c (.h 0), .c (.n (.v (.bool x.1)))], [.row 3 (encRw x.2) []])
theorem encAI : ∀ a b, encA a = encA b → a = b := by
  intro a b h
  obtain ⟨a0, a1⟩ := a
  obtain ⟨b0, b1⟩ := b
  simp [encA, encRw_iff] at h
  simp_all
theorem encRI : ∀ a b, encR a = encR b → a = b := by
  intro a b h
  obtain ⟨a0, a1⟩ := a
  obtain ⟨b0, b1⟩ := b
  simp [encR, encRw_iff] at h
  simp_all
noncomputable def Q (args : List AV) : Option (Bool × (Vec (ByteArray × Int × Int))) := ofC encA (fun t => F t.1 t.2) args
theorem wrap : (fun (y1 : Vec (ByteArray × Int × Int)) (y2 : ByteArray) => Q [.c (.n (.sl 3 (encRw y1))), .c (.n (.v (.string y2)))]) = F := by
  funext y1 y2
  exact ofC_enc encAI _ (y1, y2)
noncomputable def G (q_spec_ByPath : List AV → Option Int) : Orc := ⟨fun f => sel (Nat.beq f 39) 0 (9), fun ρ f args K => sel (Nat.beq f 39) (qEntry spec_ByPath.encR q_spec_ByPath args K) (Option.none), noE⟩
noncomputable def L : Lor := fun ρ j st K => Option.none
theorem main (q_spec_ByPath : List AV → Option Int) {ρ : Type} (K : AV → List Ob → Option ρ) (a1 : Vec (ByteArray × Int × Int)) (a2 : ByteArray) : exC Try.prog (G q_spec_ByPath) (L) [] 0 (bodyOf Try.f10) (entry 23 [.c (.n (.sl 3 (encRw a1))), .c (.n (.v (.string a2)))] [] []) (finO Try.prog Try.f10.results.toList 0 [] [.ad (.s 4) 24] K) =
    B (fun y1 y2 => q_spec_ByPath [.c (.n (.sl 3 (encRw y1))), .c (.n (.v (.string y2)))]) a1 a2 (fun x1 x2 => K (.tup [.c (.h 0), .c (.n (.v (.bool x1)))]) [.row 3 (encRw x2) []]) := by kernel_rfl
theorem Gok : (G spec_ByPath.Q).ok Try.prog := ⟨(by
    intro ρ f args K r h
    rcases sel_cases h with ⟨hb, h⟩ | ⟨-, h⟩
    · obtain rfl := beq_nat hb
      exact qEntry_ok spec_ByPath.ac h
    cases h),
  (by
    intro ρ f args K
    simp only [G]
    cases Nat.beq f 39 with
    | true => exact qEntry_nat args K
    | false =>
    simp only [sel]
    rfl),
  (fun ρ f st caps args dst K r h => (by cases h))⟩
theorem hm : Try.prog.follows .mixedOrders = true := by kernel_rfl
theorem e : atomsL [] 0 (bodyOf Try.f10) = [] := by kernel_rfl
theorem acc (t : (Vec (ByteArray × Int × Int)) × ByteArray) (x : Bool × (Vec (ByteArray × Int × Int))) (h : F t.1 t.2 = some x) : ACc Try.prog 10 (encA t) [] true [] fun rv obs => (rv, obs) = encR x := by
  refine fun_okc (L := (L)) (jn := []) (cmds := [.ad (.s 4) 24]) (ks := []) (hin := []) (fn := Try.f10) (body := (bodyOf Try.f10)) Gok hm Try.func10 (by kernel_rfl) (by kernel_rfl) (by rw [e]; exact Lor.ok_nil _ _) ?_ h
  refine (main spec_ByPath.Q _ t.1 t.2).trans ?_
  rw [spec_ByPath.wrap]
  refine congrArg (fun K => B spec_ByPath.F t.1 t.2 K) ?_
  funext x1 x2
  exact ofC_enc encRI some (x1, x2)
theorem ac0 (t : (Vec (ByteArray × Int × Int)) × ByteArray) (x : Bool × (Vec (ByteArray × Int × Int))) (h : F t.1 t.2 = some x) : AC Try.prog 10 (encA t) [] true [] fun rv obs => (rv, obs) = encR x := ACc.ac (body := bodyOf Try.f10) Try.func10 (by kernel_rfl) (by kernel_rfl) (acc t x h)
theorem ac (args : List AV) (x : Bool × (Vec (ByteArray × Int × Int))) (h : Q args = some x) : AC Try.prog 10 args [] false [] fun rv obs => (rv, obs) = encR x := by
  obtain ⟨t, rfl, h2⟩ := ofC_some h
  refine (ac0 t x h2).flat fun rv obs e => ?_
  obtain rfl : rv = (encR x).1 := congrArg Prod.fst e
  obtain rfl : obs = (encR x).2 := congrArg Prod.snd e
  refine ⟨by simp [encR, AV.Flat, K.Flat, C.Flat], ?_⟩
  intro o ho
  simp only [encR, List.mem_cons, List.not_mem_nil, or_false] at ho
  subst ho
  exact flat_rw rfl _
end spec_CutName
/-! loop.example/g00073/impl.inRange -/
namespace impl_inRange
noncomputable def B {ρ : Type} (a1 : Int) (a2 : Int) (a3 : Int) (K : Bool → Option ρ) : Option ρ :=
  sel (decide (a2 ≤ a1)) (K (decide (a1 ≤ a3))) (K false)
noncomputable def F (a1 : Int) (a2 : Int) (a3 : Int) : Option Bool := B a1 a2 a3 (fun x1 => some (x1))
def encA (t : Int × Int × Int) : List AV := [.c (.n (.v (.int .i64 t.1))), .c (.n (.v (.int .i64 t.2.1))), .c (.n (.v (.int .i64 t.2.2)))]
def encR (x : Bool) : AV × List Ob := (.c (.n (.v (.bool x))), [])
theorem encAI : ∀ a b, encA a = encA b → a = b := by
  intro a b h
  obtain ⟨a0, a1, a2⟩ := a
  obtain ⟨b0, b1, b2⟩ := b
  simp [encA, encRw_iff] at h
  simp_all
theorem encRI : ∀ a b, encR a = encR b → a = b := by
  intro a b h
  simp [encR, encRw_iff] at h
  simp_all
noncomputable def Q (args : List AV) : Option Bool := ofC encA (fun t => F t.1 t.2.1 t.2.2) args
theorem wrap : (fun (y1 : Int) (y2 : Int) (y3 : Int) => Q [.c (.n (.v (.int .i64 y1))), .c (.n (.v (.int .i64 y2))), .c (.n (.v (.int .i64 y3)))]) = F := by
  funext y1 y2 y3
  exact ofC_enc encAI _ (y1, y2, y3)
noncomputable def G : Orc := ⟨fun f => 9, fun ρ f args K => Option.none, noE⟩
noncomputable def L : Lor := fun ρ j st K => Option.none
theorem main {ρ : Type} (K : AV → List Ob → Option ρ) (a1 : Int) (a2 : Int) (a3 : Int) : exC Try.prog (G) (L) [] 0 (bodyOf Try.f65) (entry 15 [.c (.n (.v (.int .i64 a1))), .c (.n (.v (.int .i64 a2))), .c (.n (.v (.int .i64 a3)))] [] []) (finO Try.prog Try.f65.results.toList 0 [] [] K) =
    B a1 a2 a3 (fun x1 => K (.c (.n (.v (.bool x1)))) []) := by kernel_rfl
theorem Gok : (G).ok Try.prog := ⟨(fun ρ f args K r h => (by cases h)),
  (fun ρ f args K => rfl),
  (fun ρ f st caps args dst K r h => (by cases h))⟩
theorem hm : Try.prog.follows .mixedOrders = true := by kernel_rfl
theorem e : atomsL [] 0 (bodyOf Try.f65) = [] := by kernel_rfl
theorem acc (t : Int × Int × Int) (x : Bool) (h : F t.1 t.2.1 t.2.2 = some x) : ACc Try.prog 65 (encA t) [] true [] fun rv obs => (rv, obs) = encR x := by
  refine fun_okc (L := (L)) (jn := []) (cmds := []) (ks := []) (hin := []) (fn := Try.f65) (body := (bodyOf Try.f65)) Gok hm Try.func65 (by kernel_rfl) (by kernel_rfl) (by rw [e]; exact Lor.ok_nil _ _) ?_ h
  refine (main _ t.1 t.2.1 t.2.2).trans ?_
  refine congrArg (fun K => B t.1 t.2.1 t.2.2 K) ?_
  funext x1
  exact ofC_enc encRI some (x1)
theorem ac0 (t : Int × Int × Int) (x : Bool) (h : F t.1 t.2.1 t.2.2 = some x) : AC Try.prog 65 (encA t) [] true [] fun rv obs => (rv, obs) = encR x := ACc.ac (body := bodyOf Try.f65) Try.func65 (by kernel_rfl) (by kernel_rfl) (acc t x h)
theorem ac (args : List AV) (x : Bool) (h : Q args = some x) : AC Try.prog 65 args [] false [] fun rv obs => (rv, obs) = encR x := by
  obtain ⟨t, rfl, h2⟩ := ofC_some h
  refine (ac0 t x h2).flat fun rv obs e => ?_
  obtain rfl : rv = (encR x).1 := congrArg Prod.fst e
  obtain rfl : obs = (encR x).2 := congrArg Prod.snd e
  refine ⟨by simp [encR, AV.Flat, K.Flat, C.Flat], ?_⟩
  simp [encR]
end impl_inRange
/-! internal/stringslite.HasPrefix -/
namespace stringslite_HasPrefix
noncomputable def B {ρ : Type} (a1 : ByteArray) (a2 : ByteArray) (K : Bool → Option ρ) : Option ρ :=
  sel (decide ((a2.size : Int) ≤ (a1.size : Int))) (chk (decide (0 ≤ (0 : Int) ∧ (0 : Int) ≤ (a2.size : Int) ∧ (a2.size : Int) ≤ (a1.size : Int))) (K (decide ((a1.extract (0 : Int).toNat (a2.size : Int).toNat) = a2)))) (K false)
noncomputable def F (a1 : ByteArray) (a2 : ByteArray) : Option Bool := B a1 a2 (fun x1 => some (x1))
def encA (t : ByteArray × ByteArray) : List AV := [.c (.n (.v (.string t.1))), .c (.n (.v (.string t.2)))]
def encR (x : Bool) : AV × List Ob := (.c (.n (.v (.bool x))), [])
theorem encAI : ∀ a b, encA a = encA b → a = b := by
  intro a b h
  obtain ⟨a0, a1⟩ := a
  obtain ⟨b0, b1⟩ := b
  simp [encA, encRw_iff] at h
  simp_all
theorem encRI : ∀ a b, encR a = encR b → a = b := by
  intro a b h
  simp [encR, encRw_iff] at h
  simp_all
noncomputable def Q (args : List AV) : Option Bool := ofC encA (fun t => F t.1 t.2) args
theorem wrap : (fun (y1 : ByteArray) (y2 : ByteArray) => Q [.c (.n (.v (.string y1))), .c (.n (.v (.string y2)))]) = F := by
  funext y1 y2
  exact ofC_enc encAI _ (y1, y2)
noncomputable def G : Orc := ⟨fun f => 9, fun ρ f args K => Option.none, noE⟩
noncomputable def L : Lor := fun ρ j st K => Option.none
theorem main {ρ : Type} (K : AV → List Ob → Option ρ) (a1 : ByteArray) (a2 : ByteArray) : exC Try.prog (G) (L) [] 0 (bodyOf Try.f92) (entry 18 [.c (.n (.v (.string a1))), .c (.n (.v (.string a2)))] [] []) (finO Try.prog Try.f92.results.toList 0 [] [] K) =
    B a1 a2 (fun x1 => K (.c (.n (.v (.bool x1)))) []) := by kernel_rfl
theorem Gok : (G).ok Try.prog := ⟨(fun ρ f args K r h => (by cases h)),
  (fun ρ f args K => rfl),
  (fun ρ f st caps args dst K r h => (by cases h))⟩
theorem hm : Try.prog.follows .mixedOrders = true := by kernel_rfl
theorem e : atomsL [] 0 (bodyOf Try.f92) = [] := by kernel_rfl
theorem acc (t : ByteArray × ByteArray) (x : Bool) (h : F t.1 t.2 = some x) : ACc Try.prog 92 (encA t) [] true [] fun rv obs => (rv, obs) = encR x := by
  refine fun_okc (L := (L)) (jn := []) (cmds := []) (ks := []) (hin := []) (fn := Try.f92) (body := (bodyOf Try.f92)) Gok hm Try.func92 (by kernel_rfl) (by kernel_rfl) (by rw [e]; exact Lor.ok_nil _ _) ?_ h
  refine (main _ t.1 t.2).trans ?_
  refine congrArg (fun K => B t.1 t.2 K) ?_
  funext x1
  exact ofC_enc encRI some (x1)
theorem ac0 (t : ByteArray × ByteArray) (x : Bool) (h : F t.1 t.2 = some x) : AC Try.prog 92 (encA t) [] true [] fun rv obs => (rv, obs) = encR x := ACc.ac (body := bodyOf Try.f92) Try.func92 (by kernel_rfl) (by kernel_rfl) (acc t x h)
theorem ac (args : List AV) (x : Bool) (h : Q args = some x) : AC Try.prog 92 args [] false [] fun rv obs => (rv, obs) = encR x := by
  obtain ⟨t, rfl, h2⟩ := ofC_some h
  refine (ac0 t x h2).flat fun rv obs e => ?_
  obtain rfl : rv = (encR x).1 := congrArg Prod.fst e
  obtain rfl : obs = (encR x).2 := congrArg Prod.snd e
  refine ⟨by simp [encR, AV.Flat, K.Flat, C.Flat], ?_⟩
  simp [encR]
end stringslite_HasPrefix
/-! strings.HasPrefix -/
namespace strings_HasPrefix
noncomputable def B {ρ : Type} (C_stringslite_HasPrefix : ByteArray → ByteArray → Option Bool) (a1 : ByteArray) (a2 : ByteArray) (K : Bool → Option ρ) : Option ρ :=
  (C_stringslite_HasPrefix a1 a2).bind fun r1 => K r1
noncomputable def F (a1 : ByteArray) (a2 : ByteArray) : Option Bool := B stringslite_HasPrefix.F a1 a2 (fun x1 => some (x1))
def encA (t : ByteArray × ByteArray) : List AV := [.c (.n (.v (.string t.1))), .c (.n (.v (.string t.2)))]
def encR (x : Bool) : AV × List Ob := (.c (.n (.v (.bool x))), [])
theorem encAI : ∀ a b, encA a = encA b → a = b := by
  intro a b h
  obtain ⟨a0, a1⟩ := a
  obtain ⟨b0, b1⟩ := b
  simp [encA, encRw_iff] at h
  simp_all
theorem encRI : ∀ a b, encR a = encR b → a = b := by
  intro a b h
  simp [encR, encRw_iff] at h
  simp_all
noncomputable def Q (args : List AV) : Option Bool := ofC encA (fun t => F t.1 t.2) args
theorem wrap : (fun (y1 : ByteArray) (y2 : ByteArray) => Q [.c (.n (.v (.string y1))), .c (.n (.v (.string y2)))]) = F := by
  funext y1 y2
  exact ofC_enc encAI _ (y1, y2)
noncomputable def G (q_stringslite_HasPrefix : List AV → Option Bool) : Orc := ⟨fun f => sel (Nat.beq f 92) 0 (9), fun ρ f args K => sel (Nat.beq f 92) (qEntry stringslite_HasPrefix.encR q_stringslite_HasPrefix args K) (Option.none), noE⟩
noncomputable def L : Lor := fun ρ j st K => Option.none
theorem main (q_stringslite_HasPrefix : List AV → Option Bool) {ρ : Type} (K : AV → List Ob → Option ρ) (a1 : ByteArray) (a2 : ByteArray) : exC Try.prog (G q_stringslite_HasPrefix) (L) [] 0 (bodyOf Try.f85) (entry 8 [.c (.n (.v (.string a1))), .c (.n (.v (.string a2)))] [] []) (finO Try.prog Try.f85.results.toList 0 [] [] K) =
    B (fun y1 y2 => q_stringslite_HasPrefix [.c (.n (.v (.string y1))), .c (.n (.v (.string y2)))]) a1 a2 (fun x1 => K (.c (.n (.v (.bool x1)))) []) := by kernel_rfl
theorem Gok : (G stringslite_HasPrefix.Q).ok Try.prog := ⟨(by
    intro ρ f args K r h
    rcases sel_cases h with ⟨hb, h⟩ | ⟨-, h⟩
    · obtain rfl := beq_nat hb
      exact qEntry_ok stringslite_HasPrefix.ac h
    cases h),
  (by
    intro ρ f args K
    simp only [G]
    cases Nat.beq f 92 with
    | true => exact qEntry_nat args K
    | false =>
    simp only [sel]
    rfl),
  (fun ρ f st caps args dst K r h => (by cases h))⟩
theorem hm : Try.prog.follows .mixedOrders = true := by kernel_rfl
theorem e : atomsL [] 0 (bodyOf Try.f85) = [] := by kernel_rfl
theorem acc (t : ByteArray × ByteArray) (x : Bool) (h : F t.1 t.2 = some x) : ACc Try.prog 85 (encA t) [] true [] fun rv obs => (rv, obs) = encR x := by
  refine fun_okc (L := (L)) (jn := []) (cmds := []) (ks := []) (hin := []) (fn := Try.f85) (body := (bodyOf Try.f85)) Gok hm Try.func85 (by kernel_rfl) (by kernel_rfl) (by rw [e]; exact Lor.ok_nil _ _) ?_ h
  refine (main stringslite_HasPrefix.Q _ t.1 t.2).trans ?_
  rw [stringslite_HasPrefix.wrap]
  refine congrArg (fun K => B stringslite_HasPrefix.F t.1 t.2 K) ?_
  funext x1
  exact ofC_enc encRI some (x1)
theorem ac0 (t : ByteArray × ByteArray) (x : Bool) (h : F t.1 t.2 = some x) : AC Try.prog 85 (encA t) [] true [] fun rv obs => (rv, obs) = encR x := ACc.ac (body := bodyOf Try.f85) Try.func85 (by kernel_rfl) (by kernel_rfl) (acc t x h)
theorem ac (args : List AV) (x : Bool) (h : Q args = some x) : AC Try.prog 85 args [] false [] fun rv obs => (rv, obs) = encR x := by
  obtain ⟨t, rfl, h2⟩ := ofC_some h
  refine (ac0 t x h2).flat fun rv obs e => ?_
  obtain rfl : rv = (encR x).1 := congrArg Prod.fst e
  obtain rfl : obs = (encR x).2 := congrArg Prod.snd e
  refine ⟨by simp [encR, AV.Flat, K.Flat, C.Flat], ?_⟩
  simp [encR]
end strings_HasPrefix
/-! internal/stringslite.HasSuffix -/
namespace stringslite_HasSuffix
noncomputable def B {ρ : Type} (a1 : ByteArray) (a2 : ByteArray) (K : Bool → Option ρ) : Option ρ :=
  sel (decide ((a2.size : Int) ≤ (a1.size : Int))) (chk (decide (0 ≤ (wr ((a1.size : Int) - (a2.size : Int))) ∧ (wr ((a1.size : Int) - (a2.size : Int))) ≤ (a1.size : Int) ∧ (a1.size : Int) ≤ (a1.size : Int))) (K (decide ((a1.extract (wr ((a1.size : Int) - (a2.size : Int))).toNat (a1.size : Int).toNat) = a2)))) (K false)
noncomputable def F (a1 : ByteArray) (a2 : ByteArray) : Option Bool := B a1 a2 (fun x1 => some (x1))
def encA (t : ByteArray × ByteArray) : List AV := [.c (.n (.v (.string t.1))), .c (.n (.v (.string t.2)))]
def encR (x : Bool) : AV × List Ob := (.c (.n (.v (.bool x))), [])
theorem encAI : ∀ a b, encA a = encA b → a = b := by
  intro a b h
  obtain ⟨a0, a1⟩ := a
  obtain ⟨b0, b1⟩ := b
  simp [encA, encRw_iff] at h
  simp_all
theorem encRI : ∀ a b, encR a = encR b → a = b := by
  intro a b h
  simp [encR, encRw_iff] at h
  simp_all
noncomputable def Q (args : List AV) : Option Bool := ofC encA (fun t => F t.1 t.2) args
theorem wrap : (fun (y1 : ByteArray) (y2 : ByteArray) => Q [.c (.n (.v (.string y1))), .c (.n (.v (.string y2)))]) = F := by
  funext y1 y2
  exact ofC_enc encAI _ (y1, y2)
noncomputable def G : Orc := ⟨fun f => 9, fun ρ f args K => Option.none, noE⟩
noncomputable def L : Lor := fun ρ j st K => Option.none
theorem main {ρ : Type} (K : AV → List Ob → Option ρ) (a1 : ByteArray) (a2 : ByteArray) : exC Try.prog (G) (L) [] 0 (bodyOf Try.f93) (entry 21 [.c (.n (.v (.string a1))), .c (.n (.v (.string a2)))] [] []) (finO Try.prog Try.f93.results.toList 0 [] [] K) =
    B a1 a2 (fun x1 => K (.c (.n (.v (.bool x1)))) []) := by kernel_rfl
theorem Gok : (G).ok Try.prog := ⟨(fun ρ f args K r h => (by cases h)),
  (fun ρ f args K => rfl),
  (fun ρ f st caps args dst K r h => (by cases h))⟩
theorem hm : Try.prog.follows .mixedOrders = true := by kernel_rfl
theorem e : atomsL [] 0 (bodyOf Try.f93) = [] := by kernel_rfl
theorem acc (t : ByteArray × ByteArray) (x : Bool) (h : F t.1 t.2 = some x) : ACc Try.prog 93 (encA t) [] true [] fun rv obs => (rv, obs) = encR x := by
  refine fun_okc (L := (L)) (jn := []) (cmds := []) (ks := []) (hin := []) (fn := Try.f93) (body := (bodyOf Try.f93)) Gok hm Try.func93 (by kernel_rfl) (by kernel_rfl) (by rw [e]; exact Lor.ok_nil _ _) ?_ h
  refine (main _ t.1 t.2).trans ?_
  refine congrArg (fun K => B t.1 t.2 K) ?_
  funext x1
  exact ofC_enc encRI some (x1)
theorem ac0 (t : ByteArray × ByteArray) (x : Bool) (h : F t.1 t.2 = some x) : AC Try.prog 93 (encA t) [] true [] fun rv obs => (rv, obs) = encR x := ACc.ac (body := bodyOf Try.f93) Try.func93 (by kernel_rfl) (by kernel_rfl) (acc t x h)
theorem ac (args : List AV) (x : Bool) (h : Q args = some x) : AC Try.prog 93 args [] false [] fun rv obs => (rv, obs) = encR x := by
  obtain ⟨t, rfl, h2⟩ := ofC_some h
  refine (ac0 t x h2).flat fun rv obs e => ?_
  obtain rfl : rv = (encR x).1 := congrArg Prod.fst e
  obtain rfl : obs = (encR x).2 := congrArg Prod.snd e
  refine ⟨by simp [encR, AV.Flat, K.Flat, C.Flat], ?_⟩
  simp [encR]
end stringslite_HasSuffix
/-! strings.HasSuffix -/
namespace strings_HasSuffix
noncomputable def B {ρ : Type} (C_stringslite_HasSuffix : ByteArray → ByteArray → Option Bool) (a1 : ByteArray) (a2 : ByteArray) (K : Bool → Option ρ) : Option ρ :=
  (C_stringslite_HasSuffix a1 a2).bind fun r1 => K r1
noncomputable def F (a1 : ByteArray) (a2 : ByteArray) : Option Bool := B stringslite_HasSuffix.F a1 a2 (fun x1 => some (x1))
def encA (t : ByteArray × ByteArray) : List AV := [.c (.n (.v (.string t.1))), .c (.n (.v (.string t.2)))]
def encR (x : Bool) : AV × List Ob := (.c (.n (.v (.bool x))), [])
theorem encAI : ∀ a b, encA a = encA b → a = b := by
  intro a b h
  obtain ⟨a0, a1⟩ := a
  obtain ⟨b0, b1⟩ := b
  simp [encA, encRw_iff] at h
  simp_all
theorem encRI : ∀ a b, encR a = encR b → a = b := by
  intro a b h
  simp [encR, encRw_iff] at h
  simp_all
noncomputable def Q (args : List AV) : Option Bool := ofC encA (fun t => F t.1 t.2) args
theorem wrap : (fun (y1 : ByteArray) (y2 : ByteArray) => Q [.c (.n (.v (.string y1))), .c (.n (.v (.string y2)))]) = F := by
  funext y1 y2
  exact ofC_enc encAI _ (y1, y2)
noncomputable def G (q_stringslite_HasSuffix : List AV → Option Bool) : Orc := ⟨fun f => sel (Nat.beq f 93) 0 (9), fun ρ f args K => sel (Nat.beq f 93) (qEntry stringslite_HasSuffix.encR q_stringslite_HasSuffix args K) (Option.none), noE⟩
noncomputable def L : Lor := fun ρ j st K => Option.none
theorem main (q_stringslite_HasSuffix : List AV → Option Bool) {ρ : Type} (K : AV → List Ob → Option ρ) (a1 : ByteArray) (a2 : ByteArray) : exC Try.prog (G q_stringslite_HasSuffix) (L) [] 0 (bodyOf Try.f86) (entry 8 [.c (.n (.v (.string a1))), .c (.n (.v (.string a2)))] [] []) (finO Try.prog Try.f86.results.toList 0 [] [] K) =
    B (fun y1 y2 => q_stringslite_HasSuffix [.c (.n (.v (.string y1))), .c (.n (.v (.string y2)))]) a1 a2 (fun x1 => K (.c (.n (.v (.bool x1)))) []) := by kernel_rfl
theorem Gok : (G stringslite_HasSuffix.Q).ok Try.prog := ⟨(by
    intro ρ f args K r h
    rcases sel_cases h with ⟨hb, h⟩ | ⟨-, h⟩
    · obtain rfl := beq_nat hb
      exact qEntry_ok stringslite_HasSuffix.ac h
    cases h),
  (by
    intro ρ f args K
    simp only [G]
    cases Nat.beq f 93 with
    | true => exact qEntry_nat args K
    | false =>
    simp only [sel]
    rfl),
  (fun ρ f st caps args dst K r h => (by cases h))⟩
theorem hm : Try.prog.follows .mixedOrders = true := by kernel_rfl
theorem e : atomsL [] 0 (bodyOf Try.f86) = [] := by kernel_rfl
theorem acc (t : ByteArray × ByteArray) (x : Bool) (h : F t.1 t.2 = some x) : ACc Try.prog 86 (encA t) [] true [] fun rv obs => (rv, obs) = encR x := by
  refine fun_okc (L := (L)) (jn := []) (cmds := []) (ks := []) (hin := []) (fn := Try.f86) (body := (bodyOf Try.f86)) Gok hm Try.func86 (by kernel_rfl) (by kernel_rfl) (by rw [e]; exact Lor.ok_nil _ _) ?_ h
  refine (main stringslite_HasSuffix.Q _ t.1 t.2).trans ?_
  rw [stringslite_HasSuffix.wrap]
  refine congrArg (fun K => B stringslite_HasSuffix.F t.1 t.2 K) ?_
  funext x1
  exact ofC_enc encRI some (x1)
theorem ac0 (t : ByteArray × ByteArray) (x : Bool) (h : F t.1 t.2 = some x) : AC Try.prog 86 (encA t) [] true [] fun rv obs => (rv, obs) = encR x := ACc.ac (body := bodyOf Try.f86) Try.func86 (by kernel_rfl) (by kernel_rfl) (acc t x h)
theorem ac (args : List AV) (x : Bool) (h : Q args = some x) : AC Try.prog 86 args [] false [] fun rv obs => (rv, obs) = encR x := by
  obtain ⟨t, rfl, h2⟩ := ofC_some h
  refine (ac0 t x h2).flat fun rv obs e => ?_
  obtain rfl : rv = (encR x).1 := congrArg Prod.fst e
  obtain rfl : obs = (encR x).2 := congrArg Prod.snd e
  refine ⟨by simp [encR, AV.Flat, K.Flat, C.Flat], ?_⟩
  simp [encR]
end strings_HasSuffix
/-! loop.example/g00073/impl.PathOk -/
namespace impl_PathOk
noncomputable def B0 {ρ : Type} (v1 : ByteArray) (v2 : Int) (W : ByteArray → Int → Option ρ) (K0 : ByteArray → Option ρ) (Kr : Bool → Option ρ) : Option ρ :=
  sel (decide (v2 < (v1.size : Int))) (chk (decide (0 ≤ v2 ∧ v2 < (v1.size : Int))) (sel (decide ((97 : Int) ≤ (byteAt v1 v2.toNat))) (sel (decide ((byteAt v1 v2.toNat) ≤ (122 : Int))) (W v1 (wr (v2 + (1 : Int)))) (sel (decide ((48 : Int) ≤ (byteAt v1 v2.toNat))) (sel (decide ((byteAt v1 v2.toNat) ≤ (57 : Int))) (W v1 (wr (v2 + (1 : Int)))) (sel (decide ((byteAt v1 v2.toNat) = (46 : Int))) (W v1 (wr (v2 + (1 : Int)))) (sel (decide ((byteAt v1 v2.toNat) = (45 : Int))) (W v1 (wr (v2 + (1 : Int)))) (sel ((!decide ((byteAt v1 v2.toNat) = (47 : Int)))) (Kr false) (W v1 (wr (v2 + (1 : Int)))))))) (sel (decide ((byteAt v1 v2.toNat) = (46 : Int))) (W v1 (wr (v2 + (1 : Int)))) (sel (decide ((byteAt v1 v2.toNat) = (45 : Int))) (W v1 (wr (v2 + (1 : Int)))) (sel ((!decide ((byteAt v1 v2.toNat) = (47 : Int)))) (Kr false) (W v1 (wr (v2 + (1 : Int))))))))) (sel (decide ((48 : Int) ≤ (byteAt v1 v2.toNat))) (sel (decide ((byteAt v1 v2.toNat) ≤ (57 : Int))) (W v1 (wr (v2 + (1 : Int)))) (sel (decide ((byteAt v1 v2.toNat) = (46 : Int))) (W v1 (wr (v2 + (1 : Int)))) (sel (decide ((byteAt v1 v2.toNat) = (45 : Int))) (W v1 (wr (v2 + (1 : Int)))) (sel ((!decide ((byteAt v1 v2.toNat) = (47 : Int)))) (Kr false) (W v1 (wr (v2 + (1 : Int)))))))) (sel (decide ((byteAt v1 v2.toNat) = (46 : Int))) (W v1 (wr (v2 + (1 : Int)))) (sel (decide ((byteAt v1 v2.toNat) = (45 : Int))) (W v1 (wr (v2 + (1 : Int)))) (sel ((!decide ((byteAt v1 v2.toNat) = (47 : Int)))) (Kr false) (W v1 (wr (v2 + (1 : Int)))))))))) (K0 v1)
noncomputable def F0 {ρ : Type} : Nat → ByteArray → Int → (ByteArray → Option ρ) → (Bool → Option ρ) → Option ρ
  | 0, _, _, _, _ => none
  | k + 1, v1, v2, K0, Kr => B0 v1 v2 (fun v1' v2' => F0 k v1' v2' K0 Kr) K0 Kr
noncomputable def B {ρ : Type} (C_impl_inRange : Int → Int → Int → Option Bool) (C_strings_HasPrefix : ByteArray → ByteArray → Option Bool) (C_strings_HasSuffix : ByteArray → ByteArray → Option Bool) (C_strings_Contains : ByteArray → ByteArray → Option Bool) (L0 : ByteArray → Int → (ByteArray → Option ρ) → (Bool → Option ρ) → Option ρ) (a1 : ByteArray) (K : Bool → Option ρ) : Option ρ :=
  L0 a1 (0 : Int) (fun e01 => (C_impl_inRange (e01.size : Int) (1 : Int) (24 : Int)).bind fun r1 => sel ((!r1)) (K false) ((C_strings_HasPrefix e01 (ByteArray.mk #[47])).bind fun r2 => sel ((!r2)) ((C_strings_HasSuffix e01 (ByteArray.mk #[47])).bind fun r3 => sel ((!r3)) ((C_strings_Contains e01 (ByteArray.mk #[47, 47])).bind fun r4 => K (!r4)) (K false)) (K false))) (fun x01 => K x01)
noncomputable def F (a1 : ByteArray) : Option Bool := B impl_inRange.F strings_HasPrefix.F strings_HasSuffix.F strings_Contains.F (F0 fuelN) a1 (fun x1 => some (x1))
def encA (t : ByteArray) : List AV := [.c (.n (.v (.string t)))]
def encR (x : Bool) : AV × List Ob := (.c (.n (.v (.bool x))), [])
theorem encAI : ∀ a b, encA a = encA b → a = b := by
  intro a b h
  simp [encA, encRw_iff] at h
  simp_all
theorem encRI : ∀ a b, encR a = encR b → a = b := by
  intro a b h
  simp [encR, encRw_iff] at h
  simp_all
noncomputable def Q (args : List AV) : Option Bool := ofC encA (fun t => F t) args
theorem wrap : (fun (y1 : ByteArray) => Q [.c (.n (.v (.string y1)))]) = F := by
  funext y1
  exact ofC_enc encAI _ (y1)
noncomputable def G (q_impl_inRange : List AV → Option Bool) (q_strings_HasPrefix : List AV → Option Bool) (q_strings_HasSuffix : List AV → Option Bool) (q_strings_Contains : List AV → Option Bool) : Orc := ⟨fun f => sel (Nat.beq f 65) 0 (sel (Nat.beq f 85) 0 (sel (Nat.beq f 86) 0 (sel (Nat.beq f 87) 0 (9)))), fun ρ f args K => sel (Nat.beq f 65) (qEntry impl_inRange.encR q_impl_inRange args K) (sel (Nat.beq f 85) (qEntry strings_HasPrefix.encR q_strings_HasPrefix args K) (sel (Nat.beq f 86) (qEntry strings_HasSuffix.encR q_strings_HasSuffix args K) (sel (Nat.beq f 87) (qEntry strings_Contains.encR q_strings_Contains args K) (Option.none)))), noE⟩
noncomputable def L (W0 : (ρ : Type) → List AV → List Ob → (ByteArray → Option ρ) → (Bool → Option ρ) → Option ρ) : Lor := fun ρ j st K => sel (Nat.beq j 0) (cutO Try.prog 58 [0, 3] 0 [] [] st fun avs obs => W0 ρ avs obs (fun z1 => K (.exit 0) (mkS 58 [0] [.c (.n (.v (.string z1)))] [] [])) (fun z1 => K .ret (mkS 58 [2] [.c (.n (.v (.bool z1)))] [] []))) (Option.none)
noncomputable def c0 : Code := loopC (atomN [] 0 (bodyOf Try.f79) 0)
def ct0 : Cut := ⟨[0, 3], []⟩
def lv0 : Exit → Cut
  | .exit 0 => ⟨[0], []⟩
  | .ret => ⟨[2], []⟩
  | _ => ⟨[], []⟩
theorem step0 (q_impl_inRange : List AV → Option Bool) (q_strings_HasPrefix : List AV → Option Bool) (q_strings_HasSuffix : List AV → Option Bool) (q_strings_Contains : List AV → Option Bool) (W0 : (ρ : Type) → List AV → List Ob → (ByteArray → Option ρ) → (Bool → Option ρ) → Option ρ) {ρ : Type} (K : Exit → St → Option ρ) (W : List AV → List Ob → Option ρ) (v1 : ByteArray) (v2 : Int) : exC Try.prog (G q_impl_inRange q_strings_HasPrefix q_strings_HasSuffix q_strings_Contains) (L W0) [] 1 c0 (mkS 58 [0, 3] [.c (.n (.v (.string v1))), .c (.n (.v (.int .i64 v2)))] [] []) (bodyK Try.prog 58 0 [] ct0 W lv0 K) =
    B0 v1 v2 (fun u1 u2 => W [.c (.n (.v (.string u1))), .c (.n (.v (.int .i64 u2)))] []) (fun z1 => K (.exit 0) (mkS 58 [0] [.c (.n (.v (.string z1)))] [] [])) (fun z1 => K .ret (mkS 58 [2] [.c (.n (.v (.bool z1)))] [] [])) := by kernel_rfl
def enc0 (t : ByteArray × Int) : List AV × List Ob := ([.c (.n (.v (.string t.1))), .c (.n (.v (.int .i64 t.2)))], [])
theorem enc0I : ∀ a b, enc0 a = enc0 b → a = b := by
  intro a b h
  obtain ⟨a0, a1⟩ := a
  obtain ⟨b0, b1⟩ := b
  simp [enc0, encRw_iff] at h
  simp_all
noncomputable def V0 : (ρ : Type) → List AV → List Ob → (ByteArray → Option ρ) → (Bool → Option ρ) → Option ρ := fun ρ avs obs k0 kr => ofC enc0 (fun t => F0 fuelN t.1 t.2 k0 kr) (avs, obs)
theorem V0_enc (ρ : Type) : (fun w1 w2 k0 kr => V0 ρ [.c (.n (.v (.string w1))), .c (.n (.v (.int .i64 w2)))] [] k0 kr) = F0 fuelN := by
  funext w1 w2 k0 kr
  exact ofC_enc enc0I _ (w1, w2)
theorem main (q_impl_inRange : List AV → Option Bool) (q_strings_HasPrefix : List AV → Option Bool) (q_strings_HasSuffix : List AV → Option Bool) (q_strings_Contains : List AV → Option Bool) (W0 : (ρ : Type) → List AV → List Ob → (ByteArray → Option ρ) → (Bool → Option ρ) → Option ρ) {ρ : Type} (K : AV → List Ob → Option ρ) (a1 : ByteArray) : exC Try.prog (G q_impl_inRange q_strings_HasPrefix q_strings_HasSuffix q_strings_Contains) (L W0) [] 0 (bodyOf Try.f79) (entry 58 [.c (.n (.v (.string a1)))] [] []) (finO Try.prog Try.f79.results.toList 0 [] [] K) =
    B (fun y1 y2 y3 => q_impl_inRange [.c (.n (.v (.int .i64 y1))), .c (.n (.v (.int .i64 y2))), .c (.n (.v (.int .i64 y3)))]) (fun y1 y2 => q_strings_HasPrefix [.c (.n (.v (.string y1))), .c (.n (.v (.string y2)))]) (fun y1 y2 => q_strings_HasSuffix [.c (.n (.v (.string y1))), .c (.n (.v (.string y2)))]) (fun y1 y2 => q_strings_Contains [.c (.n (.v (.string y1))), .c (.n (.v (.string y2)))]) (fun w1 w2 k0 kr => W0 ρ [.c (.n (.v (.string w1))), .c (.n (.v (.int .i64 w2)))] [] k0 kr) a1 (fun x1 => K (.c (.n (.v (.bool x1)))) []) := by kernel_rfl
theorem Gok : (G impl_inRange.Q strings_HasPrefix.Q strings_HasSuffix.Q strings_Contains.Q).ok Try.prog := ⟨(by
    intro ρ f args K r h
    rcases sel_cases h with ⟨hb, h⟩ | ⟨-, h⟩
    · obtain rfl := beq_nat hb
      exact qEntry_ok impl_inRange.ac h
    rcases sel_cases h with ⟨hb, h⟩ | ⟨-, h⟩
    · obtain rfl := beq_nat hb
      exact qEntry_ok strings_HasPrefix.ac h
    rcases sel_cases h with ⟨hb, h⟩ | ⟨-, h⟩
    · obtain rfl := beq_nat hb
      exact qEntry_ok strings_HasSuffix.ac h
    rcases sel_cases h with ⟨hb, h⟩ | ⟨-, h⟩
    · obtain rfl := beq_nat hb
      exact qEntry_ok strings_Contains.ac h
    cases h),
  (by
    intro ρ f args K
    simp only [G]
    cases Nat.beq f 65 with
    | true => exact qEntry_nat args K
    | false =>
    simp only [sel]
    cases Nat.beq f 85 with
    | true => exact qEntry_nat args K
    | false =>
    simp only [sel]
    cases Nat.beq f 86 with
    | true => exact qEntry_nat args K
    | false =>
    simp only [sel]
    cases Nat.beq f 87 with
    | true => exact qEntry_nat args K
    | false =>
    simp only [sel]
    rfl),
  (fun ρ f st caps args dst K r h => (by cases h))⟩
theorem hm : Try.prog.follows .mixedOrders = true := by kernel_rfl
theorem e0 : atomsL [] 1 c0 = [] := by kernel_rfl
theorem ok0 (ρ : Type) (st : St) (K : Exit → St → Option ρ) (r : ρ) (h : (L V0) ρ 0 st K = some r) : AW Try.prog (.loop c0) st fun e st' => K e st' = some r := by
  refine loop_ok (ct := ct0) (lv := lv0) (n := 58) (m := 0) (ks := []) (j := 0) (jn := []) (L := (L V0)) Gok hm (by rw [e0]; exact Lor.ok_nil _ _) enc0I (fun k t => F0 k t.1 t.2 (fun z1 => K (.exit 0) (mkS 58 [0] [.c (.n (.v (.string z1)))] [] [])) (fun z1 => K .ret (mkS 58 [2] [.c (.n (.v (.bool z1)))] [] []))) (fun t => rfl) (fun k t => ?_) (fun _ => fuelN) h
  refine (step0 impl_inRange.Q strings_HasPrefix.Q strings_HasSuffix.Q strings_Contains.Q V0 K _ t.1 t.2).trans ?_
  refine congrArg (fun W => B0 t.1 t.2 W (fun z1 => K (.exit 0) (mkS 58 [0] [.c (.n (.v (.string z1)))] [] [])) (fun z1 => K .ret (mkS 58 [2] [.c (.n (.v (.bool z1)))] [] []))) ?_
  funext u1 u2
  exact ofC_enc enc0I _ (u1, u2)
theorem e : atomsL [] 0 (bodyOf Try.f79) = [(0, 0, .loop c0)] := by kernel_rfl
theorem acc (t : ByteArray) (x : Bool) (h : F t = some x) : ACc Try.prog 79 (encA t) [] true [] fun rv obs => (rv, obs) = encR x := by
  refine fun_okc (L := (L V0)) (jn := []) (cmds := []) (ks := []) (hin := []) (fn := Try.f79) (body := (bodyOf Try.f79)) Gok hm Try.func79 (by kernel_rfl) (by kernel_rfl) (by rw [e]; exact Lor.ok_cons ok0 (Lor.ok_nil _ _)) ?_ h
  refine (main impl_inRange.Q strings_HasPrefix.Q strings_HasSuffix.Q strings_Contains.Q V0 _ t).trans ?_
  rw [impl_inRange.wrap, strings_HasPrefix.wrap, strings_HasSuffix.wrap, strings_Contains.wrap, V0_enc]
  refine congrArg (fun K => B impl_inRange.F strings_HasPrefix.F strings_HasSuffix.F strings_Contains.F (F0 fuelN) t K) ?_
  funext x1
  exact ofC_enc encRI some (x1)
theorem ac0 (t : ByteArray) (x : Bool) (h : F t = some x) : AC Try.prog 79 (encA t) [] true [] fun rv obs => (rv, obs) = encR x := ACc.ac (body := bodyOf Try.f79) Try.func79 (by kernel_rfl) (by kernel_rfl) (acc t x h)
theorem ac (args : List AV) (x : Bool) (h : Q args = some x) : AC Try.prog 79 args [] false [] fun rv obs => (rv, obs) = encR x := by
  obtain ⟨t, rfl, h2⟩ := ofC_some h
  refine (ac0 t x h2).flat fun rv obs e => ?_
  obtain rfl : rv = (encR x).1 := congrArg Prod.fst e
  obtain rfl : obs = (encR x).2 := congrArg Prod.snd e
  refine ⟨by simp [encR, AV.Flat, K.Flat, C.Flat], ?_⟩
  simp [encR]
end impl_PathOk
/-! loop.example/g00073/impl.idAt$1 -/
namespace impl_idAt_1_s0fda
noncomputable def B {ρ : Type} (a1 : ByteArray) (a2 : Int) (a3 : Int) (a4 : Int) (K : Bool → Option ρ) : Option ρ :=
  K (decide (a2 = a4))
noncomputable def F (a1 : ByteArray) (a2 : Int) (a3 : Int) (a4 : Int) : Option Bool := B a1 a2 a3 a4 (fun x1 => some (x1))
def encA (t : ByteArray × Int × Int × Int) : List AV := [.a [.n (.v (.string t.1)), .n (.v (.int .i64 t.2.1)), .n (.v (.int .i64 t.2.2.1))], .ra [.v (.int .i64 t.2.2.2)]]
def encR (x : Bool) : AV × List Ob := (.c (.n (.v (.bool x))), [])
theorem encAI : ∀ a b, encA a = encA b → a = b := by
  intro a b h
  obtain ⟨a0, a1, a2, a3⟩ := a
  obtain ⟨b0, b1, b2, b3⟩ := b
  simp [encA, encRw_iff] at h
  simp_all
theorem encRI : ∀ a b, encR a = encR b → a = b := by
  intro a b h
  simp [encR, encRw_iff] at h
  simp_all
noncomputable def Q (args : List AV) : Option Bool := ofC encA (fun t => F t.1 t.2.1 t.2.2.1 t.2.2.2) args
theorem wrap : (fun (y1 : ByteArray) (y2 : Int) (y3 : Int) (y4 : Int) => Q [.a [.n (.v (.string y1)), .n (.v (.int .i64 y2)), .n (.v (.int .i64 y3))], .ra [.v (.int .i64 y4)]]) = F := by
  funext y1 y2 y3 y4
  exact ofC_enc encAI _ (y1, y2, y3, y4)
noncomputable def G : Orc := ⟨fun f => 9, fun ρ f args K => Option.none, noE⟩
noncomputable def L : Lor := fun ρ j st K => Option.none
theorem main {ρ : Type} (K : AV → List Ob → Option ρ) (a1 : ByteArray) (a2 : Int) (a3 : Int) (a4 : Int) : exC Try.prog (G) (L) [] 0 (bodyOf Try.f81) (entry 8 [.a [.n (.v (.string a1)), .n (.v (.int .i64 a2)), .n (.v (.int .i64 a3))], .ra [.v (.int .i64 a4)]] [] []) (finO Try.prog Try.f81.results.toList 0 [] [] K) =
    B a1 a2 a3 a4 (fun x1 => K (.c (.n (.v (.bool x1)))) []) := by kernel_rfl
theorem Gok : (G).ok Try.prog := ⟨(fun ρ f args K r h => (by cases h)),
  (fun ρ f args K => rfl),
  (fun ρ f st caps args dst K r h => (by cases h))⟩
theorem hm : Try.prog.follows .mixedOrders = true := by kernel_rfl
theorem e : atomsL [] 0 (bodyOf Try.f81) = [] := by kernel_rfl
theorem acc (t : ByteArray × Int × Int × Int) (x : Bool) (h : F t.1 t.2.1 t.2.2.1 t.2.2.2 = some x) : ACc Try.prog 81 (encA t) [] true [] fun rv obs => (rv, obs) = encR x := by
  refine fun_okc (L := (L)) (jn := []) (cmds := []) (ks := []) (hin := []) (fn := Try.f81) (body := (bodyOf Try.f81)) Gok hm Try.func81 (by kernel_rfl) (by kernel_rfl) (by rw [e]; exact Lor.ok_nil _ _) ?_ h
  refine (main _ t.1 t.2.1 t.2.2.1 t.2.2.2).trans ?_
  refine congrArg (fun K => B t.1 t.2.1 t.2.2.1 t.2.2.2 K) ?_
  funext x1
  exact ofC_enc encRI some (x1)
theorem ac0 (t : ByteArray × Int × Int × Int) (x : Bool) (h : F t.1 t.2.1 t.2.2.1 t.2.2.2 = some x) : AC Try.prog 81 (encA t) [] true [] fun rv obs => (rv, obs) = encR x := ACc.ac (body := bodyOf Try.f81) Try.func81 (by kernel_rfl) (by kernel_rfl) (acc t x h)
theorem ac (args : List AV) (x : Bool) (h : Q args = some x) : AC Try.prog 81 args [] false [] fun rv obs => (rv, obs) = encR x := by
  obtain ⟨t, rfl, h2⟩ := ofC_some h
  refine (ac0 t x h2).flat fun rv obs e => ?_
  obtain rfl : rv = (encR x).1 := congrArg Prod.fst e
  obtain rfl : obs = (encR x).2 := congrArg Prod.snd e
  refine ⟨by simp [encR, AV.Flat, K.Flat, C.Flat], ?_⟩
  simp [encR]
end impl_idAt_1_s0fda
/-! slices.IndexFunc(()loop.example/g00073/impl.Name,loop.example/g00073/impl.Name) -/
namespace slices_IndexFunc_impl_Name_sf709
noncomputable def B0 {ρ : Type} (C_impl_idAt_1_s0fda : ByteArray → Int → Int → Int → Option Bool) (v1 : Vec (ByteArray × Int × Int)) (v2 : Int) (v3 : Int) (v4 : Int) (W : (Vec (ByteArray × Int × Int)) → Int → Int → Int → Option ρ) (K0 : Int → Option ρ) (Kr : Int → Int → Option ρ) : Option ρ :=
  sel (decide (v3 < v2)) (chk (decide (0 ≤ v3 ∧ v3 < (v1.n : Int))) ((C_impl_idAt_1_s0fda ((v1.g v3.toNat).1) ((v1.g v3.toNat).2.1) ((v1.g v3.toNat).2.2) v4).bind fun r1 => sel (r1) (Kr v3 v4) (W v1 v2 (wr (v3 + (1 : Int))) v4))) (K0 v4)
noncomputable def F0 {ρ : Type} : Nat → (Vec (ByteArray × Int × Int)) → Int → Int → Int → (Int → Option ρ) → (Int → Int → Option ρ) → Option ρ
  | 0, _, _, _, _, _, _ => none
  | k + 1, v1, v2, v3, v4, K0, Kr => B0 impl_idAt_1_s0fda.F v1 v2 v3 v4 (fun v1' v2' v3' v4' => F0 k v1' v2' v3' v4' K0 Kr) K0 Kr
noncomputable def B {ρ : Type} (L0 : (Vec (ByteArray × Int × Int)) → Int → Int → Int → (Int → Option ρ) → (Int → Int → Option ρ) → Option ρ) (a1 : Vec (ByteArray × Int × Int)) (a2 : Int) (K : Int → Int → Option ρ) : Option ρ :=
  L0 a1 (a1.n : Int) (0 : Int) a2 (fun e01 => K (-1 : Int) e01) (fun x01 x02 => K x01 x02)
noncomputable def F (a1 : Vec (ByteArray × Int × Int)) (a2 : Int) : Option (Int × Int) := B (F0 fuelN) a1 a2 (fun x1 x2 => some (x1, x2))
def encA (t : (Vec (ByteArray × Int × Int)) × Int) : List AV × List Ob := ([.c (.n (.sl 3 (encRw t.1))), .fn 81 [.p 0 0]], [.box [.n (.v (.int .i64 t.2))]])
def encR (x : Int × Int) : AV × List Ob := (.c (.n (.v (.int .i64 x.1))), [.box [.n (.v (.int .i64 x.2))]])
theorem encAI : ∀ a b, encA a = encA b → a = b := by
  intro a b h
  obtain ⟨a0, a1⟩ := a
  obtain ⟨b0, b1⟩ := b
  simp [encA, encRw_iff] at h
  simp_all
theorem encRI : ∀ a b, encR a = encR b → a = b := by
  intro a b h
  obtain ⟨a0, a1⟩ := a
  obtain ⟨b0, b1⟩ := b
  simp [encR, encRw_iff] at h
  simp_all
noncomputable def Q (args : List AV) (hin : List Ob) : Option (Int × Int) := ofC encA (fun t => F t.1 t.2) (args, hin)
theorem wrap : (fun (y1 : Vec (ByteArray × Int × Int)) (y2 : Int) => Q [.c (.n (.sl 3 (encRw y1))), .fn 81 [.p 0 0]] [.box [.n (.v (.int .i64 y2))]]) = F := by
  funext y1 y2
  exact ofC_enc encAI _ (y1, y2)
noncomputable def G (q_impl_idAt_1_s0fda : List AV → Option Bool) : Orc := ⟨fun f => sel (Nat.beq f 81) 0 (9), fun ρ f args K => sel (Nat.beq f 81) (qEntry impl_idAt_1_s0fda.encR q_impl_idAt_1_s0fda args K) (Option.none), noE⟩
noncomputable def L (W0 : (ρ : Type) → List AV → List Ob → (Int → Option ρ) → (Int → Int → Option ρ) → Option ρ) : Lor := fun ρ j st K => sel (Nat.beq j 0) (cutO Try.prog 19 [0, 1, 7, 8] 1 [true] [] st fun avs obs => W0 ρ avs obs (fun z1 => K (.exit 0) (mkS 19 [] [] [.box [.n (.v (.int .i64 z1))]] [true])) (fun z1 z2 => K .ret (mkS 19 [4] [.c (.n (.v (.int .i64 z1)))] [.box [.n (.v (.int .i64 z2))]] [true]))) (Option.none)
noncomputable def c0 : Code := loopC (atomN [] 0 (bodyOf Try.f80) 0)
def ct0 : Cut := ⟨[0, 1, 7, 8], []⟩
def lv0 : Exit → Cut
  | .exit 0 => ⟨[], []⟩
  | .ret => ⟨[4], []⟩
  | _ => ⟨[], []⟩
theorem step0 (q_impl_idAt_1_s0fda : List AV → Option Bool) (W0 : (ρ : Type) → List AV → List Ob → (Int → Option ρ) → (Int → Int → Option ρ) → Option ρ) {ρ : Type} (K : Exit → St → Option ρ) (W : List AV → List Ob → Option ρ) (v1 : Vec (ByteArray × Int × Int)) (v2 : Int) (v3 : Int) (v4 : Int) : exC Try.prog (G q_impl_idAt_1_s0fda) (L W0) [] 1 c0 (mkS 19 [0, 1, 7, 8] [.c (.n (.sl 3 (encRw v1))), .fn 81 [.p 0 0], .c (.n (.v (.int .i64 v2))), .c (.n (.v (.int .i64 v3)))] [.box [.n (.v (.int .i64 v4))]] [true]) (bodyK Try.prog 19 1 [true] ct0 W lv0 K) =
    B0 (fun y1 y2 y3 y4 => q_impl_idAt_1_s0fda [.a [.n (.v (.string y1)), .n (.v (.int .i64 y2)), .n (.v (.int .i64 y3))], .ra [.v (.int .i64 y4)]]) v1 v2 v3 v4 (fun u1 u2 u3 u4 => W [.c (.n (.sl 3 (encRw u1))), .fn 81 [.p 0 0], .c (.n (.v (.int .i64 u2))), .c (.n (.v (.int .i64 u3)))] [.box [.n (.v (.int .i64 u4))]]) (fun z1 => K (.exit 0) (mkS 19 [] [] [.box [.n (.v (.int .i64 z1))]] [true])) (fun z1 z2 => K .ret (mkS 19 [4] [.c (.n (.v (.int .i64 z1)))] [.box [.n (.v (.int .i64 z2))]] [true])) := by kernel_rfl
def enc0 (t : (Vec (ByteArray × Int × Int)) × Int × Int × Int) : List AV × List Ob := ([.c (.n (.sl 3 (encRw t.1))), .fn 81 [.p 0 0], .c (.n (.v (.int .i64 t.2.1))), .c (.n (.v (.int .i64 t.2.2.1)))], [.box [.n (.v (.int .i64 t.2.2.2))]])
theorem enc0I : ∀ a b, enc0 a = enc0 b → a = b := by
  intro a b h
  obtain ⟨a0, a1, a2, a3⟩ := a
  obtain ⟨b0, b1, b2, b3⟩ := b
  simp [enc0, encRw_iff] at h
  simp_all
noncomputable def V0 : (ρ : Type) → List AV → List Ob → (Int → Option ρ) → (Int → Int → Option ρ) → Option ρ := fun ρ avs obs k0 kr => ofC enc0 (fun t => F0 fuelN t.1 t.2.1 t.2.2.1 t.2.2.2 k0 kr) (avs, obs)
theorem V0_enc (ρ : Type) : (fun w1 w2 w3 w4 k0 kr => V0 ρ [.c (.n (.sl 3 (encRw w1))), .fn 81 [.p 0 0], .c (.n (.v (.int .i64 w2))), .c (.n (.v (.int .i64 w3)))] [.box [.n (.v (.int .i64 w4))]] k0 kr) = F0 fuelN := by
  funext w1 w2 w3 w4 k0 kr
  exact ofC_enc enc0I _ (w1, w2, w3, w4)
theorem main (q_impl_idAt_1_s0fda : List AV → Option Bool) (W0 : (ρ : Type) → List AV → List Ob → (Int → Option ρ) → (Int → Int → Option ρ) → Option ρ) {ρ : Type} (K : AV → List Ob → Option ρ) (a1 : Vec (ByteArray × Int × Int)) (a2 : Int) : exC Try.prog (G q_impl_idAt_1_s0fda) (L W0) [] 0 (bodyOf Try.f80) (entry 19 [.c (.n (.sl 3 (encRw a1))), .fn 81 [.p 0 0]] [.box [.n (.v (.int .i64 a2))]] [true]) (finO Try.prog Try.f80.results.toList 1 [true] [] K) =
    B (fun w1 w2 w3 w4 k0 kr => W0 ρ [.c (.n (.sl 3 (encRw w1))), .fn 81 [.p 0 0], .c (.n (.v (.int .i64 w2))), .c (.n (.v (.int .i64 w3)))] [.box [.n (.v (.int .i64 w4))]] k0 kr) a1 a2 (fun x1 x2 => K (.c (.n (.v (.int .i64 x1)))) [.box [.n (.v (.int .i64 x2))]]) := by kernel_rfl
theorem Gok : (G impl_idAt_1_s0fda.Q).ok Try.prog := ⟨(by
    intro ρ f args K r h
    rcases sel_cases h with ⟨hb, h⟩ | ⟨-, h⟩
    · obtain rfl := beq_nat hb
      exact qEntry_ok impl_idAt_1_s0fda.ac h
    cases h),
  (by
    intro ρ f args K
    simp only [G]
    cases Nat.beq f 81 with
    | true => exact qEntry_nat args K
    | false =>
    simp only [sel]
    rfl),
  (fun ρ f st caps args dst K r h => (by cases h))⟩
theorem hm : Try.prog.follows .mixedOrders = true := by kernel_rfl
theorem e0 : atomsL [] 1 c0 = [] := by kernel_rfl
theorem ok0 (ρ : Type) (st : St) (K : Exit → St → Option ρ) (r : ρ) (h : (L V0) ρ 0 st K = some r) : AW Try.prog (.loop c0) st fun e st' => K e st' = some r := by
  refine loop_ok (ct := ct0) (lv := lv0) (n := 19) (m := 1) (ks := [true]) (j := 0) (jn := []) (L := (L V0)) Gok hm (by rw [e0]; exact Lor.ok_nil _ _) enc0I (fun k t => F0 k t.1 t.2.1 t.2.2.1 t.2.2.2 (fun z1 => K (.exit 0) (mkS 19 [] [] [.box [.n (.v (.int .i64 z1))]] [true])) (fun z1 z2 => K .ret (mkS 19 [4] [.c (.n (.v (.int .i64 z1)))] [.box [.n (.v (.int .i64 z2))]] [true]))) (fun t => rfl) (fun k t => ?_) (fun _ => fuelN) h
  refine (step0 impl_idAt_1_s0fda.Q V0 K _ t.1 t.2.1 t.2.2.1 t.2.2.2).trans ?_
  rw [impl_idAt_1_s0fda.wrap]
  refine congrArg (fun W => B0 impl_idAt_1_s0fda.F t.1 t.2.1 t.2.2.1 t.2.2.2 W (fun z1 => K (.exit 0) (mkS 19 [] [] [.box [.n (.v (.int .i64 z1))]] [true])) (fun z1 z2 => K .ret (mkS 19 [4] [.c (.n (.v (.int .i64 z1)))] [.box [.n (.v (.int .i64 z2))]] [true]))) ?_
  funext u1 u2 u3 u4
  exact ofC_enc enc0I _ (u1, u2, u3, u4)
theorem e : atomsL [] 0 (bodyOf Try.f80) = [(0, 0, .loop c0)] := by kernel_rfl
theorem acc (t : (Vec (ByteArray × Int × Int)) × Int) (x : Int × Int) (h : F t.1 t.2 = some x) : ACc Try.prog 80 (encA t).1 (encA t).2 true [true] fun rv obs => (rv, obs) = encR x := by
  refine fun_okc (L := (L V0)) (jn := []) (cmds := []) (ks := [true]) (hin := (encA t).2) (fn := Try.f80) (body := (bodyOf Try.f80)) Gok hm Try.func80 (by kernel_rfl) (by kernel_rfl) (by rw [e]; exact Lor.ok_cons ok0 (Lor.ok_nil _ _)) ?_ h
  refine (main impl_idAt_1_s0fda.Q V0 _ t.1 t.2).trans ?_
  rw [V0_enc]
  refine congrArg (fun K => B (F0 fuelN) t.1 t.2 K) ?_
  funext x1 x2
  exact ofC_enc encRI some (x1, x2)
theorem ac0 (t : (Vec (ByteArray × Int × Int)) × Int) (x : Int × Int) (h : F t.1 t.2 = some x) : AC Try.prog 80 (encA t).1 (encA t).2 true [true] fun rv obs => (rv, obs) = encR x := ACc.ac (body := bodyOf Try.f80) Try.func80 (by kernel_rfl) (by kernel_rfl) (acc t x h)
theorem ac (args : List AV) (hin : List Ob) (x : Int × Int) (h : Q args hin = some x) : AC Try.prog 80 args hin false [true] fun rv obs => (rv, obs) = encR x := by
  obtain ⟨t, he, h2⟩ := ofC_some h
  obtain rfl : args = (encA t).1 := (congrArg Prod.fst he).symm
  obtain rfl : hin = (encA t).2 := (congrArg Prod.snd he).symm
  refine (ac0 t x h2).flat fun rv obs e => ?_
  obtain rfl : rv = (encR x).1 := congrArg Prod.fst e
  obtain rfl : obs = (encR x).2 := congrArg Prod.snd e
  refine ⟨by simp [encR, AV.Flat, K.Flat, C.Flat], ?_⟩
  intro o ho
  simp only [encR, List.mem_cons, List.not_mem_nil, or_false] at ho
  subst ho
  simp [Ob.Flat, C.Flat, N.Flat]
end slices_IndexFunc_impl_Name_sf709
/-! loop.example/g00073/impl.idAt -/
namespace impl_idAt
noncomputable def B {ρ : Type} (C_slices_IndexFunc_impl_Name_sf709 : (Vec (ByteArray × Int × Int)) → Int → Option (Int × Int)) (a1 : Vec (ByteArray × Int × Int)) (a2 : Int) (K : Int → Option ρ) : Option ρ :=
  (C_slices_IndexFunc_impl_Name_sf709 a1 a2).bind fun r1 => K r1.1
noncomputable def F (a1 : Vec (ByteArray × Int × Int)) (a2 : Int) : Option Int := B slices_IndexFunc_impl_Name_sf709.F a1 a2 (fun x1 => some (x1))
def encA (t : (Vec (ByteArray × Int × Int)) × Int) : List AV := [.c (.n (.sl 3 (encRw t.1))), .c (.n (.v (.int .i64 t.2)))]
def encR (x : Int) : AV × List Ob := (.c (.n (.v (.int .i64 x))), [])
theorem encAI : ∀ a b, encA a = encA b → a = b := by
  intro a b h
  obtain ⟨a0, a1⟩ := a
  obtain ⟨b0, b1⟩ := b
  simp [encA, encRw_iff] at h
  simp_all
theorem encRI : ∀ a b, encR a = encR b → a = b := by
  intro a b h
  simp [encR, encRw_iff] at h
  simp_all
noncomputable def Q (args : List AV) : Option Int := ofC encA (fun t => F t.1 t.2) args
theorem wrap : (fun (y1 : Vec (ByteArray × Int × Int)) (y2 : Int) => Q [.c (.n (.sl 3 (encRw y1))), .c (.n (.v (.int .i64 y2)))]) = F := by
  funext y1 y2
  exact ofC_enc encAI _ (y1, y2)
noncomputable def G (q_slices_IndexFunc_impl_Name_sf709 : List AV → List Ob → Option (Int × Int)) : Orc := ⟨fun f => 9, fun ρ f args K => Option.none, fun ρ f st args dst K => sel (Nat.beq f 80) (callE Try.prog 80 [false, true] false [true] slices_IndexFunc_impl_Name_sf709.encR q_slices_IndexFunc_impl_Name_sf709 st args dst K) (Option.none)⟩
noncomputable def L : Lor := fun ρ j st K => Option.none
theorem main (q_slices_IndexFunc_impl_Name_sf709 : List AV → List Ob → Option (Int × Int)) {ρ : Type} (K : AV → List Ob → Option ρ) (a1 : Vec (ByteArray × Int × Int)) (a2 : Int) : exC Try.prog (G q_slices_IndexFunc_impl_Name_sf709) (L) [] 0 (bodyOf Try.f61) (entry 8 [.c (.n (.sl 3 (encRw a1))), .c (.n (.v (.int .i64 a2)))] [] []) (finO Try.prog Try.f61.results.toList 0 [] [] K) =
    B (fun y1 y2 => q_slices_IndexFunc_impl_Name_sf709 [.c (.n (.sl 3 (encRw y1))), .fn 81 [.p 0 0]] [.box [.n (.v (.int .i64 y2))]]) a1 a2 (fun x1 => K (.c (.n (.v (.int .i64 x1)))) []) := by kernel_rfl
theorem Gok : (G slices_IndexFunc_impl_Name_sf709.Q).ok Try.prog := ⟨(fun ρ f args K r h => (by cases h)),
  (fun ρ f args K => rfl),
  (by
    intro ρ f st caps args dst K r h
    rcases sel_cases h with ⟨hb, h⟩ | ⟨-, h⟩
    · obtain rfl := beq_nat hb
      exact callE_ok (fun h => by cases h) slices_IndexFunc_impl_Name_sf709.ac h
    cases h)⟩
theorem hm : Try.prog.follows .mixedOrders = true := by kernel_rfl
theorem e : atomsL [] 0 (bodyOf Try.f61) = [] := by kernel_rfl
theorem acc (t : (Vec (ByteArray × Int × Int)) × Int) (x : Int) (h : F t.1 t.2 = some x) : ACc Try.prog 61 (encA t) [] true [] fun rv obs => (rv, obs) = encR x := by
  refine fun_okc (L := (L)) (jn := []) (cmds := []) (ks := []) (hin := []) (fn := Try.f61) (body := (bodyOf Try.f61)) Gok hm Try.func61 (by kernel_rfl) (by kernel_rfl) (by rw [e]; exact Lor.ok_nil _ _) ?_ h
  refine (main slices_IndexFunc_impl_Name_sf709.Q _ t.1 t.2).trans ?_
  rw [slices_IndexFunc_impl_Name_sf709.wrap]
  refine congrArg (fun K => B slices_IndexFunc_impl_Name_sf709.F t.1 t.2 K) ?_
  funext x1
  exact ofC_enc encRI some (x1)
theorem ac0 (t : (Vec (ByteArray × Int × Int)) × Int) (x : Int) (h : F t.1 t.2 = some x) : AC Try.prog 61 (encA t) [] true [] fun rv obs => (rv, obs) = encR x := ACc.ac (body := bodyOf Try.f61) Try.func61 (by kernel_rfl) (by kernel_rfl) (acc t x h)
theorem ac (args : List AV) (x : Int) (h : Q args = some x) : AC Try.prog 61 args [] false [] fun rv obs => (rv, obs) = encR x := by
  obtain ⟨t, rfl, h2⟩ := ofC_some h
  refine (ac0 t x h2).flat fun rv obs e => ?_
  obtain rfl : rv = (encR x).1 := congrArg Prod.fst e
  obtain rfl : obs = (encR x).2 := congrArg Prod.snd e
  refine ⟨by simp [encR, AV.Flat, K.Flat, C.Flat], ?_⟩
  simp [encR]
end impl_idAt
/-! loop.example/g00073/impl.NamesOk -/
namespace impl_NamesOk
noncomputable def B0 {ρ : Type} (C_impl_PathOk : ByteArray → Option Bool) (C_impl_inRange : Int → Int → Int → Option Bool) (C_impl_idAt : (Vec (ByteArray × Int × Int)) → Int → Option Int) (v1 : Vec (ByteArray × Int × Int)) (v2 : Vec (ByteArray × Int × Int)) (v3 : Int) (v4 : Int) (W : (Vec (ByteArray × Int × Int)) → (Vec (ByteArray × Int × Int)) → Int → Int → Option ρ) (K0 : Unit → Option ρ) (Kr : Bool → Option ρ) : Option ρ :=
  sel (decide (v4 < v3)) (chk (decide (0 ≤ v4 ∧ v4 < (v2.n : Int))) ((C_impl_PathOk ((v2.g v4.toNat).1)).bind fun r1 => sel ((!r1)) (Kr false) ((C_impl_inRange ((v2.g v4.toNat).2.1) (0 : Int) (11 : Int)).bind fun r2 => sel ((!r2)) (Kr false) ((C_impl_inRange ((v2.g v4.toNat).2.2) (0 : Int) (39 : Int)).bind fun r3 => sel ((!r3)) (Kr false) (sel (decide ((0 : Int) < v4)) (chk (decide (0 ≤ (wr (v4 - (1 : Int))) ∧ (wr (v4 - (1 : Int))) < (v1.n : Int))) (sel ((!decide (((v1.g (wr (v4 - (1 : Int))).toNat).1).toList < ((v2.g v4.toNat).1).toList))) (Kr false) ((C_impl_idAt v1 ((v2.g v4.toNat).2.1)).bind fun r4 => sel ((!decide (r4 = v4))) (Kr false) (W v1 v2 v3 (wr (v4 + (1 : Int))))))) ((C_impl_idAt v1 ((v2.g v4.toNat).2.1)).bind fun r5 => sel ((!decide (r5 = v4))) (Kr false) (W v1 v2 v3 (wr (v4 + (1 : Int)))))))))) (K0 ())
noncomputable def F0 {ρ : Type} : Nat → (Vec (ByteArray × Int × Int)) → (Vec (ByteArray × Int × Int)) → Int → Int → (Unit → Option ρ) → (Bool → Option ρ) → Option ρ
  | 0, _, _, _, _, _, _ => none
  | k + 1, v1, v2, v3, v4, K0, Kr => B0 impl_PathOk.F impl_inRange.F impl_idAt.F v1 v2 v3 v4 (fun v1' v2' v3' v4' => F0 k v1' v2' v3' v4' K0 Kr) K0 Kr
noncomputable def B {ρ : Type} (L0 : (Vec (ByteArray × Int × Int)) → (Vec (ByteArray × Int × Int)) → Int → Int → (Unit → Option ρ) → (Bool → Option ρ) → Option ρ) (a1 : Vec (ByteArray × Int × Int)) (K : Bool → Option ρ) : Option ρ :=
  sel (decide ((12 : Int) < (a1.n : Int))) (K false) (L0 a1 a1 (a1.n : Int) (0 : Int) (fun _ => K true) (fun x01 => K x01))
noncomputable def F (a1 : Vec (ByteArray × Int × Int)) : Option Bool := B (F0 fuelN) a1 (fun x1 => some (x1))
def encA (t : Vec (ByteArray × Int × Int)) : List AV := [.c (.n (.sl 3 (encRw t)))]
def encR (x : Bool) : AV × List Ob := (.c (.n (.v (.bool x))), [])
theorem encAI : ∀ a b, encA a = encA b → a = b := by
  intro a b h
  simp [encA, encRw_iff] at h
  simp_all
theorem encRI : ∀ a b, encR a = encR b → a = b := by
  intro a b h
  simp [encR, encRw_iff] at h
  simp_all
noncomputable def Q (args : List AV) : Option Bool := ofC encA (fun t => F t) args
theorem wrap : (fun (y1 : Vec (ByteArray × Int × Int)) => Q [.c (.n (.sl 3 (encRw y1)))]) = F := by
  funext y1
  exact ofC_enc encAI _ (y1)
noncomputable def G (q_impl_PathOk : List AV → Option Bool) (q_impl_inRange : List AV → Option Bool) (q_impl_idAt : List AV → Option Int) : Orc := ⟨fun f => sel (Nat.beq f 79) 0 (sel (Nat.beq f 65) 0 (sel (Nat.beq f 61) 0 (9))), fun ρ f args K => sel (Nat.beq f 79) (qEntry impl_PathOk.encR q_impl_PathOk args K) (sel (Nat.beq f 65) (qEntry impl_inRange.encR q_impl_inRange args K) (sel (Nat.beq f 61) (qEntry impl_idAt.encR q_impl_idAt args K) (Option.none))), noE⟩
noncomputable def L (W0 : (ρ : Type) → List AV → List Ob → (Unit → Option ρ) → (Bool → Option ρ) → Option ρ) : Lor := fun ρ j st K => sel (Nat.beq j 0) (cutO Try.prog 53 [0, 8, 9, 10] 0 [] [] st fun avs obs => W0 ρ avs obs (fun _ => K (.exit 0) (mkS 53 [] [] [] [])) (fun z1 => K .ret (mkS 53 [2] [.c (.n (.v (.bool z1)))] [] []))) (Option.none)
noncomputable def c0 : Code := loopC (atomN [] 0 (bodyOf Try.f60) 0)
def ct0 : Cut := ⟨[0, 8, 9, 10], []⟩
def lv0 : Exit → Cut
  | .exit 0 => ⟨[], []⟩
  | .ret => ⟨[2], []⟩
  | _ => ⟨[], []⟩
theorem step0 (q_impl_PathOk : List AV → Option Bool) (q_impl_inRange : List AV → Option Bool) (q_impl_idAt : List AV → Option Int) (W0 : (ρ : Type) → List AV → List Ob → (Unit → Option ρ) → (Bool → Option ρ) → Option ρ) {ρ : Type} (K : Exit → St → Option ρ) (W : List AV → List Ob → Option ρ) (v1 : Vec (ByteArray × Int × Int)) (v2 : Vec (ByteArray × Int × Int)) (v3 : Int) (v4 : Int) : exC Try.prog (G q_impl_PathOk q_impl_inRange q_impl_idAt) (L W0) [] 1 c0 (mkS 53 [0, 8, 9, 10] [.c (.n (.sl 3 (encRw v1))), .c (.n (.sl 3 (encRw v2))), .c (.n (.v (.int .i64 v3))), .c (.n (.v (.int .i64 v4)))] [] []) (bodyK Try.prog 53 0 [] ct0 W lv0 K) =
    B0 (fun y1 => q_impl_PathOk [.c (.n (.v (.string y1)))]) (fun y1 y2 y3 => q_impl_inRange [.c (.n (.v (.int .i64 y1))), .c (.n (.v (.int .i64 y2))), .c (.n (.v (.int .i64 y3)))]) (fun y1 y2 => q_impl_idAt [.c (.n (.sl 3 (encRw y1))), .c (.n (.v (.int .i64 y2)))]) v1 v2 v3 v4 (fun u1 u2 u3 u4 => W [.c (.n (.sl 3 (encRw u1))), .c (.n (.sl 3 (encRw u2))), .c (.n (.v (.int .i64 u3))), .c (.n (.v (.int .i64 u4)))] []) (fun _ => K (.exit 0) (mkS 53 [] [] [] [])) (fun z1 => K .ret (mkS 53 [2] [.c (.n (.v (.bool z1)))] [] [])) := by kernel_rfl
def enc0 (t : (Vec (ByteArray × Int × Int)) × (Vec (ByteArray × Int × Int)) × Int × Int) : List AV × List Ob := ([.c (.n (.sl 3 (encRw t.1))), .c (.n (.sl 3 (encRw t.2.1))), .c (.n (.v (.int .i64 t.2.2.1))), .c (.n (.v (.int .i64 t.2.2.2)))], [])
theorem enc0I : ∀ a b, enc0 a = enc0 b → a = b := by
  intro a b h
  obtain ⟨a0, a1, a2, a3⟩ := a
  obtain ⟨b0, b1, b2, b3⟩ := b
  simp [enc0, encRw_iff] at h
  simp_all
noncomputable def V0 : (ρ : Type) → List AV → List Ob → (Unit → Option ρ) → (Bool → Option ρ) → Option ρ := fun ρ avs obs k0 kr => ofC enc0 (fun t => F0 fuelN t.1 t.2.1 t.2.2.1 t.2.2.2 k0 kr) (avs, obs)
theorem V0_enc (ρ : Type) : (fun w1 w2 w3 w4 k0 kr => V0 ρ [.c (.n (.sl 3 (encRw w1))), .c (.n (.sl 3 (encRw w2))), .c (.n (.v (.int .i64 w3))), .c (.n (.v (.int .i64 w4)))] [] k0 kr) = F0 fuelN := by
  funext w1 w2 w3 w4 k0 kr
  exact ofC_enc enc0I _ (w1, w2, w3, w4)
theorem main (q_impl_PathOk : List AV → Option Bool) (q_impl_inRange : List AV → Option Bool) (q_impl_idAt : List AV → Option Int) (W0 : (ρ : Type) → List AV → List Ob → (Unit → Option ρ) → (Bool → Option ρ) → Option ρ) {ρ : Type} (K : AV → List Ob → Option ρ) (a1 : Vec (ByteArray × Int × Int)) : exC Try.prog (G q_impl_PathOk q_impl_inRange q_impl_idAt) (L W0) [] 0 (bodyOf Try.f60) (entry 53 [.c (.n (.sl 3 (encRw a1)))] [] []) (finO Try.prog Try.f60.results.toList 0 [] [] K) =
    B (fun w1 w2 w3 w4 k0 kr => W0 ρ [.c (.n (.sl 3 (encRw w1))), .c (.n (.sl 3 (encRw w2))), .c (.n (.v (.int .i64 w3))), .c (.n (.v (.int .i64 w4)))] [] k0 kr) a1 (fun x1 => K (.c (.n (.v (.bool x1)))) []) := by kernel_rfl
theorem Gok : (G impl_PathOk.Q impl_inRange.Q impl_idAt.Q).ok Try.prog := ⟨(by
    intro ρ f args K r h
    rcases sel_cases h with ⟨hb, h⟩ | ⟨-, h⟩
    · obtain rfl := beq_nat hb
      exact qEntry_ok impl_PathOk.ac h
    rcases sel_cases h with ⟨hb, h⟩ | ⟨-, h⟩
    · obtain rfl := beq_nat hb
      exact qEntry_ok impl_inRange.ac h
    rcases sel_cases h with ⟨hb, h⟩ | ⟨-, h⟩
    · obtain rfl := beq_nat hb
      exact qEntry_ok impl_idAt.ac h
    cases h),
  (by
    intro ρ f args K
    simp only [G]
    cases Nat.beq f 79 with
    | true => exact qEntry_nat args K
    | false =>
    simp only [sel]
    cases Nat.beq f 65 with
    | true => exact qEntry_nat args K
    | false =>
    simp only [sel]
    cases Nat.beq f 61 with
    | true => exact qEntry_nat args K
    | false =>
    simp only [sel]
    rfl),
  (fun ρ f st caps args dst K r h => (by cases h))⟩
theorem hm : Try.prog.follows .mixedOrders = true := by kernel_rfl
theorem e0 : atomsL [] 1 c0 = [] := by kernel_rfl
theorem ok0 (ρ : Type) (st : St) (K : Exit → St → Option ρ) (r : ρ) (h : (L V0) ρ 0 st K = some r) : AW Try.prog (.loop c0) st fun e st' => K e st' = some r := by
  refine loop_ok (ct := ct0) (lv := lv0) (n := 53) (m := 0) (ks := []) (j := 0) (jn := []) (L := (L V0)) Gok hm (by rw [e0]; exact Lor.ok_nil _ _) enc0I (fun k t => F0 k t.1 t.2.1 t.2.2.1 t.2.2.2 (fun _ => K (.exit 0) (mkS 53 [] [] [] [])) (fun z1 => K .ret (mkS 53 [2] [.c (.n (.v (.bool z1)))] [] []))) (fun t => rfl) (fun k t => ?_) (fun _ => fuelN) h
  refine (step0 impl_PathOk.Q impl_inRange.Q impl_idAt.Q V0 K _ t.1 t.2.1 t.2.2.1 t.2.2.2).trans ?_
  rw [impl_PathOk.wrap, impl_inRange.wrap, impl_idAt.wrap]
  refine congrArg (fun W => B0 impl_PathOk.F impl_inRange.F impl_idAt.F t.1 t.2.1 t.2.2.1 t.2.2.2 W (fun _ => K (.exit 0) (mkS 53 [] [] [] [])) (fun z1 => K .ret (mkS 53 [2] [.c (.n (.v (.bool z1)))] [] []))) ?_
  funext u1 u2 u3 u4
  exact ofC_enc enc0I _ (u1, u2, u3, u4)
theorem e : atomsL [] 0 (bodyOf Try.f60) = [(0, 0, .loop c0)] := by kernel_rfl
theorem acc (t : Vec (ByteArray × Int × Int)) (x : Bool) (h : F t = some x) : ACc Try.prog 60 (encA t) [] true [] fun rv obs => (rv, obs) = encR x := by
  refine fun_okc (L := (L V0)) (jn := []) (cmds := []) (ks := []) (hin := []) (fn := Try.f60) (body := (bodyOf Try.f60)) Gok hm Try.func60 (by kernel_rfl) (by kernel_rfl) (by rw [e]; exact Lor.ok_cons ok0 (Lor.ok_nil _ _)) ?_ h
  refine (main impl_PathOk.Q impl_inRange.Q impl_idAt.Q V0 _ t).trans ?_
  rw [V0_enc]
  refine congrArg (fun K => B (F0 fuelN) t K) ?_
  funext x1
  exact ofC_enc encRI some (x1)
theorem ac0 (t : Vec (ByteArray × Int × Int)) (x : Bool) (h : F t = some x) : AC Try.prog 60 (encA t) [] true [] fun rv obs => (rv, obs) = encR x := ACc.ac (body := bodyOf Try.f60) Try.func60 (by kernel_rfl) (by kernel_rfl) (acc t x h)
theorem ac (args : List AV) (x : Bool) (h : Q args = some x) : AC Try.prog 60 args [] false [] fun rv obs => (rv, obs) = encR x := by
  obtain ⟨t, rfl, h2⟩ := ofC_some h
  refine (ac0 t x h2).flat fun rv obs e => ?_
  obtain rfl : rv = (encR x).1 := congrArg Prod.fst e
  obtain rfl : obs = (encR x).2 := congrArg Prod.snd e
  refine ⟨by simp [encR, AV.Flat, K.Flat, C.Flat], ?_⟩
  simp [encR]
end impl_NamesOk
/-! loop.example/g00073/impl.pathAt$1 -/
namespace impl_pathAt_1_sbb22
noncomputable def B {ρ : Type} (a1 : ByteArray) (a2 : Int) (a3 : Int) (a4 : ByteArray) (K : Bool → Option ρ) : Option ρ :=
  K (decide (a1 = a4))
noncomputable def F (a1 : ByteArray) (a2 : Int) (a3 : Int) (a4 : ByteArray) : Option Bool := B a1 a2 a3 a4 (fun x1 => some (x1))
def encA (t : ByteArray × Int × Int × ByteArray) : List AV := [.a [.n (.v (.string t.1)), .n (.v (.int .i64 t.2.1)), .n (.v (.int .i64 t.2.2.1))], .ra [.v (.string t.2.2.2)]]
def encR (x : Bool) : AV × List Ob := (.c (.n (.v (.bool x))), [])
theorem encAI : ∀ a b, encA a = encA b → a = b := by
  intro a b h
  obtain ⟨a0, a1, a2, a3⟩ := a
  obtain ⟨b0, b1, b2, b3⟩ := b
  simp [encA, encRw_iff] at h
  simp_all
theorem encRI : ∀ a b, encR a = encR b → a = b := by
  intro a b h
  simp [encR, encRw_iff] at h
  simp_all
noncomputable def Q (args : List AV) : Option Bool := ofC encA (fun t => F t.1 t.2.1 t.2.2.1 t.2.2.2) args
theorem wrap : (fun (y1 : ByteArray) (y2 : Int) (y3 : Int) (y4 : ByteArray) => Q [.a [.n (.v (.string y1)), .n (.v (.int .i64 y2)), .n (.v (.int .i64 y3))], .ra [.v (.string y4)]]) = F := by
  funext y1 y2 y3 y4
  exact ofC_enc encAI _ (y1, y2, y3, y4)
noncomputable def G : Orc := ⟨fun f => 9, fun ρ f args K => Option.none, noE⟩
noncomputable def L : Lor := fun ρ j st K => Option.none
theorem main {ρ : Type} (K : AV → List Ob → Option ρ) (a1 : ByteArray) (a2 : Int) (a3 : Int) (a4 : ByteArray) : exC Try.prog (G) (L) [] 0 (bodyOf Try.f83) (entry 8 [.a [.n (.v (.string a1)), .n (.v (.int .i64 a2)), .n (.v (.int .i64 a3))], .ra [.v (.string a4)]] [] []) (finO Try.prog Try.f83.results.toList 0 [] [] K) =
    B a1 a2 a3 a4 (fun x1 => K (.c (.n (.v (.bool x1)))) []) := by kernel_rfl
theorem Gok : (G).ok Try.prog := ⟨(fun ρ f args K r h => (by cases h)),
  (fun ρ f args K => rfl),
  (fun ρ f st caps args dst K r h => (by cases h))⟩
theorem hm : Try.prog.follows .mixedOrders = true := by kernel_rfl
theorem e : atomsL [] 0 (bodyOf Try.f83) = [] := by kernel_rfl
theorem acc (t : ByteArray × Int × Int × ByteArray) (x : Bool) (h : F t.1 t.2.1 t.2.2.1 t.2.2.2 = some x) : ACc Try.prog 83 (encA t) [] true [] fun rv obs => (rv, obs) = encR x := by
  refine fun_okc (L := (L)) (jn := []) (cmds := []) (ks := []) (hin := []) (fn := Try.f83) (body := (bodyOf Try.f83)) Gok hm Try.func83 (by kernel_rfl) (by kernel_rfl) (by rw [e]; exact Lor.ok_nil _ _) ?_ h
  refine (main _ t.1 t.2.1 t.2.2.1 t.2.2.2).trans ?_
  refine congrArg (fun K => B t.1 t.2.1 t.2.2.1 t.2.2.2 K) ?_
  funext x1
  exact ofC_enc encRI some (x1)
theorem ac0 (t : ByteArray × Int × Int × ByteArray) (x : Bool) (h : F t.1 t.2.1 t.2.2.1 t.2.2.2 = some x) : AC Try.prog 83 (encA t) [] true [] fun rv obs => (rv, obs) = encR x := ACc.ac (body := bodyOf Try.f83) Try.func83 (by kernel_rfl) (by kernel_rfl) (acc t x h)
theorem ac (args : List AV) (x : Bool) (h : Q args = some x) : AC Try.prog 83 args [] false [] fun rv obs => (rv, obs) = encR x := by
  obtain ⟨t, rfl, h2⟩ := ofC_some h
  refine (ac0 t x h2).flat fun rv obs e => ?_
  obtain rfl : rv = (encR x).1 := congrArg Prod.fst e
  obtain rfl : obs = (encR x).2 := congrArg Prod.snd e
  refine ⟨by simp [encR, AV.Flat, K.Flat, C.Flat], ?_⟩
  simp [encR]
end impl_pathAt_1_sbb22
/-! slices.IndexFunc(()loop.example/g00073/impl.Name,loop.example/g00073/impl.Name) -/
namespace slices_IndexFunc_impl_Name_sb609
noncomputable def B0 {ρ : Type} (C_impl_pathAt_1_sbb22 : ByteArray → Int → Int → ByteArray → Option Bool) (v1 : Vec (ByteArray × Int × Int)) (v2 : Int) (v3 : Int) (v4 : ByteArray) (W : (Vec (ByteArray × Int × Int)) → Int → Int → ByteArray → Option ρ) (K0 : ByteArray → Option ρ) (Kr : Int → ByteArray → Option ρ) : Option ρ :=
  sel (decide (v3 < v2)) (chk (decide (0 ≤ v3 ∧ v3 < (v1.n : Int))) ((C_impl_pathAt_1_sbb22 ((v1.g v3.toNat).1) ((v1.g v3.toNat).2.1) ((v1.g v3.toNat).2.2) v4).bind fun r1 => sel (r1) (Kr v3 v4) (W v1 v2 (wr (v3 + (1 : Int))) v4))) (K0 v4)
noncomputable def F0 {ρ : Type} : Nat → (Vec (ByteArray × Int × Int)) → Int → Int → ByteArray → (ByteArray → Option ρ) → (Int → ByteArray → Option ρ) → Option ρ
  | 0, _, _, _, _, _, _ => none
  | k + 1, v1, v2, v3, v4, K0, Kr => B0 impl_pathAt_1_sbb22.F v1 v2 v3 v4 (fun v1' v2' v3' v4' => F0 k v1' v2' v3' v4' K0 Kr) K0 Kr
noncomputable def B {ρ : Type} (L0 : (Vec (ByteArray × Int × Int)) → Int → Int → ByteArray → (ByteArray → Option ρ) → (Int → ByteArray → Option ρ) → Option ρ) (a1 : Vec (ByteArray × Int × Int)) (a2 : ByteArray) (K : Int → ByteArray → Option ρ) : Option ρ :=
  L0 a1 (a1.n : Int) (0 : Int) a2 (fun e01 => K (-1 : Int) e01) (fun x01 x02 => K x01 x02)
noncomputable def F (a1 : Vec (ByteArray × Int × Int)) (a2 : ByteArray) : Option (Int × ByteArray) := B (F0 fuelN) a1 a2 (fun x1 x2 => some (x1, x2))
def encA (t : (Vec (ByteArray × Int × Int)) × ByteArray) : List AV × List Ob := ([.c (.n (.sl 3 (encRw t.1))), .fn 83 [.p 0 0]], [.box [.n (.v (.string t.2))]])
def encR (x : Int × ByteArray) : AV × List Ob := (.c (.n (.v (.int .i64 x.1))), [.box [.n (.v (.string x.2))]])
theorem encAI : ∀ a b, encA a = encA b → a = b := by
  intro a b h
  obtain ⟨a0, a1⟩ := a
  obtain ⟨b0, b1⟩ := b
  simp [encA, encRw_iff] at h
  simp_all
theorem encRI : ∀ a b, encR a = encR b → a = b := by
  intro a b h
  obtain ⟨a0, a1⟩ := a
  obtain ⟨b0, b1⟩ := b
  simp [encR, encRw_iff] at h
  simp_all
noncomputable def Q (args : List AV) (hin : List Ob) : Option (Int × ByteArray) := ofC encA (fun t => F t.1 t.2) (args, hin)
theorem wrap : (fun (y1 : Vec (ByteArray × Int × Int)) (y2 : ByteArray) => Q [.c (.n (.sl 3 (encRw y1))), .fn 83 [.p 0 0]] [.box [.n (.v (.string y2))]]) = F := by
  funext y1 y2
  exact ofC_enc encAI _ (y1, y2)
noncomputable def G (q_impl_pathAt_1_sbb22 : List AV → Option Bool) : Orc := ⟨fun f => sel (Nat.beq f 83) 0 (9), fun ρ f args K => sel (Nat.beq f 83) (qEntry impl_pathAt_1_sbb22.encR q_impl_pathAt_1_sbb22 args K) (Option.none), noE⟩
noncomputable def L (W0 : (ρ : Type) → List AV → List Ob → (ByteArray → Option ρ) → (Int → ByteArray → Option ρ) → Option ρ) : Lor := fun ρ j st K => sel (Nat.beq j 0) (cutO Try.prog 19 [0, 1, 7, 8] 1 [true] [] st fun avs obs => W0 ρ avs obs (fun z1 => K (.exit 0) (mkS 19 [] [] [.box [.n (.v (.string z1))]] [true])) (fun z1 z2 => K .ret (mkS 19 [4] [.c (.n (.v (.int .i64 z1)))] [.box [.n (.v (.string z2))]] [true]))) (Option.none)
noncomputable def c0 : Code := loopC (atomN [] 0 (bodyOf Try.f80) 0)
def ct0 : Cut := ⟨[0, 1, 7, 8], []⟩
def lv0 : Exit → Cut
  | .exit 0 => ⟨[], []⟩
  | .ret => ⟨[4], []⟩
  | _ => ⟨[], []⟩
theorem step0 (q_impl_pathAt_1_sbb22 : List AV → Option Bool) (W0 : (ρ : Type) → List AV → List Ob → (ByteArray → Option ρ) → (Int → ByteArray → Option ρ) → Option ρ) {ρ : Type} (K : Exit → St → Option ρ) (W : List AV → List Ob → Option ρ) (v1 : Vec (ByteArray × Int × Int)) (v2 : Int) (v3 : Int) (v4 : ByteArray) : exC Try.prog (G q_impl_pathAt_1_sbb22) (L W0) [] 1 c0 (mkS 19 [0, 1, 7, 8] [.c (.n (.sl 3 (encRw v1))), .fn 83 [.p 0 0], .c (.n (.v (.int .i64 v2))), .c (.n (.v (.int .i64 v3)))] [.box [.n (.v (.string v4))]] [true]) (bodyK Try.prog 19 1 [true] ct0 W lv0 K) =
    B0 (fun y1 y2 y3 y4 => q_impl_pathAt_1_sbb22 [.a [.n (.v (.string y1)), .n (.v (.int .i64 y2)), .n (.v (.int .i64 y3))], .ra [.v (.string y4)]]) v1 v2 v3 v4 (fun u1 u2 u3 u4 => W [.c (.n (.sl 3 (encRw u1))), .fn 83 [.p 0 0], .c (.n (.v (.int .i64 u2))), .c (.n (.v (.int .i64 u3)))] [.box [.n (.v (.string u4))]]) (fun z1 => K (.exit 0) (mkS 19 [] [] [.box [.n (.v (.string z1))]] [true])) (fun z1 z2 => K .ret (mkS 19 [4] [.c (.n (.v (.int .i64 z1)))] [.box [.n (.v (.string z2))]] [true])) := by kernel_rfl
def enc0 (t : (Vec (ByteArray × Int × Int)) × Int × Int × ByteArray) : List AV × List Ob := ([.c (.n (.sl 3 (encRw t.1))), .fn 83 [.p 0 0], .c (.n (.v (.int .i64 t.2.1))), .c (.n (.v (.int .i64 t.2.2.1)))], [.box [.n (.v (.string t.2.2.2))]])
theorem enc0I : ∀ a b, enc0 a = enc0 b → a = b := by
  intro a b h
  obtain ⟨a0, a1, a2, a3⟩ := a
  obtain ⟨b0, b1, b2, b3⟩ := b
  simp [enc0, encRw_iff] at h
  simp_all
noncomputable def V0 : (ρ : Type) → List AV → List Ob → (ByteArray → Option ρ) → (Int → ByteArray → Option ρ) → Option ρ := fun ρ avs obs k0 kr => ofC enc0 (fun t => F0 fuelN t.1 t.2.1 t.2.2.1 t.2.2.2 k0 kr) (avs, obs)
theorem V0_enc (ρ : Type) : (fun w1 w2 w3 w4 k0 kr => V0 ρ [.c (.n (.sl 3 (encRw w1))), .fn 83 [.p 0 0], .c (.n (.v (.int .i64 w2))), .c (.n (.v (.int .i64 w3)))] [.box [.n (.v (.string w4))]] k0 kr) = F0 fuelN := by
  funext w1 w2 w3 w4 k0 kr
  exact ofC_enc enc0I _ (w1, w2, w3, w4)
theorem main (q_impl_pathAt_1_sbb22 : List AV → Option Bool) (W0 : (ρ : Type) → List AV → List Ob → (ByteArray → Option ρ) → (Int → ByteArray → Option ρ) → Option ρ) {ρ : Type} (K : AV → List Ob → Option ρ) (a1 : Vec (ByteArray × Int × Int)) (a2 : ByteArray) : exC Try.prog (G q_impl_pathAt_1_sbb22) (L W0) [] 0 (bodyOf Try.f80) (entry 19 [.c (.n (.sl 3 (encRw a1))), .fn 83 [.p 0 0]] [.box [.n (.v (.string a2))]] [true]) (finO Try.prog Try.f80.results.toList 1 [true] [] K) =
    B (fun w1 w2 w3 w4 k0 kr => W0 ρ [.c (.n (.sl 3 (encRw w1))), .fn 83 [.p 0 0], .c (.n (.v (.int .i64 w2))), .c (.n (.v (.int .i64 w3)))] [.box [.n (.v (.string w4))]] k0 kr) a1 a2 (fun x1 x2 => K (.c (.n (.v (.int .i64 x1)))) [.box [.n (.v (.string x2))]]) := by kernel_rfl
theorem Gok : (G impl_pathAt_1_sbb22.Q).ok Try.prog := ⟨(by
    intro ρ f args K r h
    rcases sel_cases h with ⟨hb, h⟩ | ⟨-, h⟩
    · obtain rfl := beq_nat hb
      exact qEntry_ok impl_pathAt_1_sbb22.ac h
    cases h),
  (by
    intro ρ f args K
    simp only [G]
    cases Nat.beq f 83 with
    | true => exact qEntry_nat args K
    | false =>
    simp only [sel]
    rfl),
  (fun ρ f st caps args dst K r h => (by cases h))⟩
theorem hm : Try.prog.follows .mixedOrders = true := by kernel_rfl
theorem e0 : atomsL [] 1 c0 = [] := by kernel_rfl
theorem ok0 (ρ : Type) (st : St) (K : Exit → St → Option ρ) (r : ρ) (h : (L V0) ρ 0 st K = some r) : AW Try.prog (.loop c0) st fun e st' => K e st' = some r := by
  refine loop_ok (ct := ct0) (lv := lv0) (n := 19) (m := 1) (ks := [true]) (j := 0) (jn := []) (L := (L V0)) Gok hm (by rw [e0]; exact Lor.ok_nil _ _) enc0I (fun k t => F0 k t.1 t.2.1 t.2.2.1 t.2.2.2 (fun z1 => K (.exit 0) (mkS 19 [] [] [.box [.n (.v (.string z1))]] [true])) (fun z1 z2 => K .ret (mkS 19 [4] [.c (.n (.v (.int .i64 z1)))] [.box [.n (.v (.string z2))]] [true]))) (fun t => rfl) (fun k t => ?_) (fun _ => fuelN) h
  refine (step0 impl_pathAt_1_sbb22.Q V0 K _ t.1 t.2.1 t.2.2.1 t.2.2.2).trans ?_
  rw [impl_pathAt_1_sbb22.wrap]
  refine congrArg (fun W => B0 impl_pathAt_1_sbb22.F t.1 t.2.1 t.2.2.1 t.2.2.2 W (fun z1 => K (.exit 0) (mkS 19 [] [] [.box [.n (.v (.string z1))]] [true])) (fun z1 z2 => K .ret (mkS 19 [4] [.c (.n (.v (.int .i64 z1)))] [.box [.n (.v (.string z2))]] [true]))) ?_
  funext u1 u2 u3 u4
  exact ofC_enc enc0I _ (u1, u2, u3, u4)
theorem e : atomsL [] 0 (bodyOf Try.f80) = [(0, 0, .loop c0)] := by kernel_rfl
theorem acc (t : (Vec (ByteArray × Int × Int)) × ByteArray) (x : Int × ByteArray) (h : F t.1 t.2 = some x) : ACc Try.prog 80 (encA t).1 (encA t).2 true [true] fun rv obs => (rv, obs) = encR x := by
  refine fun_okc (L := (L V0)) (jn := []) (cmds := []) (ks := [true]) (hin := (encA t).2) (fn := Try.f80) (body := (bodyOf Try.f80)) Gok hm Try.func80 (by kernel_rfl) (by kernel_rfl) (by rw [e]; exact Lor.ok_cons ok0 (Lor.ok_nil _ _)) ?_ h
  refine (main impl_pathAt_1_sbb22.Q V0 _ t.1 t.2).trans ?_
  rw [V0_enc]
  refine congrArg (fun K => B (F0 fuelN) t.1 t.2 K) ?_
  funext x1 x2
  exact ofC_enc encRI some (x1, x2)
theorem ac0 (t : (Vec (ByteArray × Int × Int)) × ByteArray) (x : Int × ByteArray) (h : F t.1 t.2 = some x) : AC Try.prog 80 (encA t).1 (encA t).2 true [true] fun rv obs => (rv, obs) = encR x := ACc.ac (body := bodyOf Try.f80) Try.func80 (by kernel_rfl) (by kernel_rfl) (acc t x h)
theorem ac (args : List AV) (hin : List Ob) (x : Int × ByteArray) (h : Q args hin = some x) : AC Try.prog 80 args hin false [true] fun rv obs => (rv, obs) = encR x := by
  obtain ⟨t, he, h2⟩ := ofC_some h
  obtain rfl : args = (encA t).1 := (congrArg Prod.fst he).symm
  obtain rfl : hin = (encA t).2 := (congrArg Prod.snd he).symm
  refine (ac0 t x h2).flat fun rv obs e => ?_
  obtain rfl : rv = (encR x).1 := congrArg Prod.fst e
  obtain rfl : obs = (encR x).2 := congrArg Prod.snd e
  refine ⟨by simp [encR, AV.Flat, K.Flat, C.Flat], ?_⟩
  intro o ho
  simp only [encR, List.mem_cons, List.not_mem_nil, or_false] at ho
  subst ho
  simp [Ob.Flat, C.Flat, N.Flat]
end slices_IndexFunc_impl_Name_sb609
/-! loop.example/g00073/impl.pathAt -/
namespace impl_pathAt
noncomputable def B {ρ : Type} (C_slices_IndexFunc_impl_Name_sb609 : (Vec (ByteArray × Int × Int)) → ByteArray → Option (Int × ByteArray)) (a1 : Vec (ByteArray × Int × Int)) (a2 : ByteArray) (K : Int → Option ρ) : Option ρ :=
  (C_slices_IndexFunc_impl_Name_sb609 a1 a2).bind fun r1 => K r1.1
noncomputable def F (a1 : Vec (ByteArray × Int × Int)) (a2 : ByteArray) : Option Int := B slices_IndexFunc_impl_Name_sb609.F a1 a2 (fun x1 => some (x1))
def encA (t : (Vec (ByteArray × Int × Int)) × ByteArray) : List AV := [.c (.n (.sl 3 (encRw t.1))), .c (.n (.v (.string t.2)))]
def encR (x : Int) : AV × List Ob := (.c (.n (.v (.int .i64 x))), [])
theorem encAI : ∀ a b, encA a = encA b → a = b := by
  intro a b h
  obtain ⟨a0, a1⟩ := a
  obtain ⟨b0, b1⟩ := b
  simp [encA, encRw_iff] at h
  simp_all
theorem encRI : ∀ a b, encR a = encR b → a = b := by
  intro a b h
  simp [encR, encRw_iff] at h
  simp_all
noncomputable def Q (args : List AV) : Option Int := ofC encA (fun t => F t.1 t.2) args
theorem wrap : (fun (y1 : Vec (ByteArray × Int × Int)) (y2 : ByteArray) => Q [.c (.n (.sl 3 (encRw y1))), .c (.n (.v (.string y2)))]) = F := by
  funext y1 y2
  exact ofC_enc encAI _ (y1, y2)
noncomputable def G (q_slices_IndexFunc_impl_Name_sb609 : List AV → List Ob → Option (Int × ByteArray)) : Orc := ⟨fun f => 9, fun ρ f args K => Option.none, fun ρ f st args dst K => sel (Nat.beq f 80) (callE Try.prog 80 [false, true] false [true] slices_IndexFunc_impl_Name_sb609.encR q_slices_IndexFunc_impl_Name_sb609 st args dst K) (Option.none)⟩
noncomputable def L : Lor := fun ρ j st K => Option.none
theorem main (q_slices_IndexFunc_impl_Name_sb609 : List AV → List Ob → Option (Int × ByteArray)) {ρ : Type} (K : AV → List Ob → Option ρ) (a1 : Vec (ByteArray × Int × Int)) (a2 : ByteArray) : exC Try.prog (G q_slices_IndexFunc_impl_Name_sb609) (L) [] 0 (bodyOf Try.f68) (entry 8 [.c (.n (.sl 3 (encRw a1))), .c (.n (.v (.string a2)))] [] []) (finO Try.prog Try.f68.results.toList 0 [] [] K) =
    B (fun y1 y2 => q_slices_IndexFunc_impl_Name_sb609 [.c (.n (.sl 3 (encRw y1))), .fn 83 [.p 0 0]] [.box [.n (.v (.string y2))]]) a1 a2 (fun x1 => K (.c (.n (.v (.int .i64 x1)))) []) := by kernel_rfl
theorem Gok : (G slices_IndexFunc_impl_Name_sb609.Q).ok Try.prog := ⟨(fun ρ f args K r h => (by cases h)),
  (fun ρ f args K => rfl),
  (by
    intro ρ f st caps args dst K r h
    rcases sel_cases h with ⟨hb, h⟩ | ⟨-, h⟩
    · obtain rfl := beq_nat hb
      exact callE_ok (fun h => by cases h) slices_IndexFunc_impl_Name_sb609.ac h
    cases h)⟩
theorem hm : Try.prog.follows .mixedOrders = true := by kernel_rfl
theorem e : atomsL [] 0 (bodyOf Try.f68) = [] := by kernel_rfl
theorem acc (t : (Vec (ByteArray × Int × Int)) × ByteArray) (x : Int) (h : F t.1 t.2 = some x) : ACc Try.prog 68 (encA t) [] true [] fun rv obs => (rv, obs) = encR x := by
  refine fun_okc (L := (L)) (jn := []) (cmds := []) (ks := []) (hin := []) (fn := Try.f68) (body := (bodyOf Try.f68)) Gok hm Try.func68 (by kernel_rfl) (by kernel_rfl) (by rw [e]; exact Lor.ok_nil _ _) ?_ h
  refine (main slices_IndexFunc_impl_Name_sb609.Q _ t.1 t.2).trans ?_
  rw [slices_IndexFunc_impl_Name_sb609.wrap]
  refine congrArg (fun K => B slices_IndexFunc_impl_Name_sb609.F t.1 t.2 K) ?_
  funext x1
  exact ofC_enc encRI some (x1)
theorem ac0 (t : (Vec (ByteArray × Int × Int)) × ByteArray) (x : Int) (h : F t.1 t.2 = some x) : AC Try.prog 68 (encA t) [] true [] fun rv obs => (rv, obs) = encR x := ACc.ac (body := bodyOf Try.f68) Try.func68 (by kernel_rfl) (by kernel_rfl) (acc t x h)
theorem ac (args : List AV) (x : Int) (h : Q args = some x) : AC Try.prog 68 args [] false [] fun rv obs => (rv, obs) = encR x := by
  obtain ⟨t, rfl, h2⟩ := ofC_some h
  refine (ac0 t x h2).flat fun rv obs e => ?_
  obtain rfl : rv = (encR x).1 := congrArg Prod.fst e
  obtain rfl : obs = (encR x).2 := congrArg Prod.snd e
  refine ⟨by simp [encR, AV.Flat, K.Flat, C.Flat], ?_⟩
  simp [encR]
end impl_pathAt
/-! loop.example/g00073/impl.ByPath -/
namespace impl_ByPath
noncomputable def B {ρ : Type} (C_impl_NamesOk : (Vec (ByteArray × Int × Int)) → Option Bool) (C_impl_pathAt : (Vec (ByteArray × Int × Int)) → ByteArray → Option Int) (a1 : Vec (ByteArray × Int × Int)) (a2 : ByteArray) (K : Int → Option ρ) : Option ρ :=
  (C_impl_NamesOk a1).bind fun r1 => sel ((!r1)) (K (-1 : Int)) ((C_impl_pathAt a1 a2).bind fun r2 => K r2)
noncomputable def F (a1 : Vec (ByteArray × Int × Int)) (a2 : ByteArray) : Option Int := B impl_NamesOk.F impl_pathAt.F a1 a2 (fun x1 => some (x1))
def encA (t : (Vec (ByteArray × Int × Int)) × ByteArray) : List AV := [.c (.n (.sl 3 (encRw t.1))), .c (.n (.v (.string t.2)))]
def encR (x : Int) : AV × List Ob := (.c (.n (.v (.int .i64 x))), [])
theorem encAI : ∀ a b, encA a = encA b → a = b := by
  intro a b h
  obtain ⟨a0, a1⟩ := a
  obtain ⟨b0, b1⟩ := b
  simp [encA, encRw_iff] at h
  simp_all
theorem encRI : ∀ a b, encR a = encR b → a = b := by
  intro a b h
  simp [encR, encRw_iff] at h
  simp_all
noncomputable def Q (args : List AV) : Option Int := ofC encA (fun t => F t.1 t.2) args
theorem wrap : (fun (y1 : Vec (ByteArray × Int × Int)) (y2 : ByteArray) => Q [.c (.n (.sl 3 (encRw y1))), .c (.n (.v (.string y2)))]) = F := by
  funext y1 y2
  exact ofC_enc encAI _ (y1, y2)
noncomputable def G (q_impl_NamesOk : List AV → Option Bool) (q_impl_pathAt : List AV → Option Int) : Orc := ⟨fun f => sel (Nat.beq f 60) 0 (sel (Nat.beq f 68) 0 (9)), fun ρ f args K => sel (Nat.beq f 60) (qEntry impl_NamesOk.encR q_impl_NamesOk args K) (sel (Nat.beq f 68) (qEntry impl_pathAt.encR q_impl_pathAt args K) (Option.none)), noE⟩
noncomputable def L : Lor := fun ρ j st K => Option.none
theorem main (q_impl_NamesOk : List AV → Option Bool) (q_impl_pathAt : List AV → Option Int) {ρ : Type} (K : AV → List Ob → Option ρ) (a1 : Vec (ByteArray × Int × Int)) (a2 : ByteArray) : exC Try.prog (G q_impl_NamesOk q_impl_pathAt) (L) [] 0 (bodyOf Try.f40) (entry 11 [.c (.n (.sl 3 (encRw a1))), .c (.n (.v (.string a2)))] [] []) (finO Try.prog Try.f40.results.toList 0 [] [] K) =
    B (fun y1 => q_impl_NamesOk [.c (.n (.sl 3 (encRw y1)))]) (fun y1 y2 => q_impl_pathAt [.c (.n (.sl 3 (encRw y1))), .c (.n (.v (.string y2)))]) a1 a2 (fun x1 => K (.c (.n (.v (.int .i64 x1)))) []) := by kernel_rfl
theorem Gok : (G impl_NamesOk.Q impl_pathAt.Q).ok Try.prog := ⟨(by
    intro ρ f args K r h
    rcases sel_cases h with ⟨hb, h⟩ | ⟨-, h⟩
    · obtain rfl := beq_nat hb
      exact qEntry_ok impl_NamesOk.ac h
    rcases sel_cases h with ⟨hb, h⟩ | ⟨-, h⟩
    · obtain rfl := beq_nat hb
      exact qEntry_ok impl_pathAt.ac h
    cases h),
  (by
    intro ρ f args K
    simp only [G]
    cases Nat.beq f 60 with
    | true => exact qEntry_nat args K
    | false =>
    simp only [sel]
    cases Nat.beq f 68 with
    | true => exact qEntry_nat args K
    | false =>
    simp only [sel]
    rfl),
  (fun ρ f st caps args dst K r h => (by cases h))⟩
theorem hm : Try.prog.follows .mixedOrders = true := by kernel_rfl
theorem e : atomsL [] 0 (bodyOf Try.f40) = [] := by kernel_rfl
theorem acc (t : (Vec (ByteArray × Int × Int)) × ByteArray) (x : Int) (h : F t.1 t.2 = some x) : ACc Try.prog 40 (encA t) [] true [] fun rv obs => (rv, obs) = encR x := by
  refine fun_okc (L := (L)) (jn := []) (cmds := []) (ks := []) (hin := []) (fn := Try.f40) (body := (bodyOf Try.f40)) Gok hm Try.func40 (by kernel_rfl) (by kernel_rfl) (by rw [e]; exact Lor.ok_nil _ _) ?_ h
  refine (main impl_NamesOk.Q impl_pathAt.Q _ t.1 t.2).trans ?_
  rw [impl_NamesOk.wrap, impl_pathAt.wrap]
  refine congrArg (fun K => B impl_NamesOk.F impl_pathAt.F t.1 t.2 K) ?_
  funext x1
  exact ofC_enc encRI some (x1)
theorem ac0 (t : (Vec (ByteArray × Int × Int)) × ByteArray) (x : Int) (h : F t.1 t.2 = some x) : AC Try.prog 40 (encA t) [] true [] fun rv obs => (rv, obs) = encR x := ACc.ac (body := bodyOf Try.f40) Try.func40 (by kernel_rfl) (by kernel_rfl) (acc t x h)
theorem ac (args : List AV) (x : Int) (h : Q args = some x) : AC Try.prog 40 args [] false [] fun rv obs => (rv, obs) = encR x := by
  obtain ⟨t, rfl, h2⟩ := ofC_some h
  refine (ac0 t x h2).flat fun rv obs e => ?_
  obtain rfl : rv = (encR x).1 := congrArg Prod.fst e
  obtain rfl : obs = (encR x).2 := congrArg Prod.snd e
  refine ⟨by simp [encR, AV.Flat, K.Flat, C.Flat], ?_⟩
  simp [encR]
end impl_ByPath
/-! slices.Clone -/
namespace slices_Clone_impl_Name
noncomputable def F (a1 : Vec (ByteArray × Int × Int)) : Option (Vec (ByteArray × Int × Int)) := sel (decide (a1.n * 33 ≤ maxN)) (some a1) none
def encA (t : Vec (ByteArray × Int × Int)) : List AV := [vl t]
def encR (x : Vec (ByteArray × Int × Int)) : AV × List Ob := (.c (.h 0), [.row 3 (encRw x) []])
theorem encAI : ∀ a b, encA a = encA b → a = b := by
  intro a b h
  simp [encA, encRw_iff] at h
  simp_all
noncomputable def Q (args : List AV) : Option (Vec (ByteArray × Int × Int)) := ofC encA (fun t => F t) args
theorem wrap : (fun (y1 : Vec (ByteArray × Int × Int)) => Q [.c (.n (.sl 3 (encRw y1)))]) = F := by
  funext y1
  exact ofC_enc encAI _ y1
theorem ac0 (a : Vec (ByteArray × Int × Int)) (h : a.n * 33 ≤ maxN) : AC Try.prog 42 [vl a] [] true [] fun rv obs => rv = .c (.h 0) ∧ ∃ u : Vec (ByteArray × Int × Int), obs = [Go.Al.rw u] ∧ Vec.Same u a := by
  refine ACc.ac (body := bodyOf Try.f42) Try.func42 (by kernel_rfl) (by kernel_rfl) (ACc_intro (body := bodyOf Try.f42) Try.func42 (by kernel_rfl) (by kernel_rfl) ?_)
  refine AW.post (Φ := fun e st' => e = .ret ∧ ∃ (cmds : List Cmd) (u : Vec (ByteArray × Int × Int)), retO Try.prog Try.f42.results.toList 0 [] cmds st' (fun rv obs => some (rv, obs)) = some (.c (.h 0), [Go.Al.rw u]) ∧ Vec.Same u a) ?_ ?_
  · refine vcC_sound _ _ _ ?_
    refine ⟨by kernel_rfl, fun b hb => ?_⟩
    cases b with
    | true =>
      have h0 := hb rfl
      exact ⟨rfl, [.ad (.s 2) 24], Vec.nil, by kernel_rfl, h0.symm, fun i hi => absurd hi (Nat.not_lt_zero i)⟩
    | false =>
      repeat (refine ⟨by first | kernel_rfl | decide +kernel, ?_⟩)
      refine (show (3 = 3) ∧ (a.n * 33 ≤ maxN) ∧ _ from ⟨rfl, h, ?_⟩)
      exact ⟨rfl, [], a, by kernel_rfl, rfl, fun i hi => rfl⟩
  · rintro e st' ⟨rfl, cmds, u, h1, h2⟩
    obtain ⟨st'', q1, q2⟩ := retO_vc h1
    refine ⟨st'', q1, q2.1, is_mono q2.2 ?_⟩
    rintro rv0 ⟨ids, rv, obs, p1, p2, p3, p4, p5, p6, p7⟩
    simp only [Option.some.injEq, Prod.mk.injEq] at p7
    exact ⟨ids, rv, obs, p1, p2, p3, p4, p5, p6, p7.1, u, p7.2, h2⟩
theorem ac (args : List AV) (x : Vec (ByteArray × Int × Int)) (h : Q args = some x) : AC Try.prog 42 args [] false [] fun rv obs => (rv, obs) = encR x := by
  obtain ⟨t, rfl, h2⟩ := ofC_some h
  rcases sel_cases h2 with ⟨hb, h3⟩ | ⟨-, h3⟩
  · simp only [Option.some.injEq] at h3
    subst h3
    refine (AC.row (ac0 t (by simpa using hb))).flat fun rv obs e => ?_
    obtain rfl : rv = (encR t).1 := congrArg Prod.fst e
    obtain rfl : obs = (encR t).2 := congrArg Prod.snd e
    refine ⟨by simp [encR, AV.Flat, K.Flat, C.Flat], ?_⟩
    intro o ho
    simp only [encR, List.mem_cons, List.not_mem_nil, or_false] at ho
    subst ho
    exact flat_rw rfl _
  · cases h3
end slices_Clone_impl_Name
/-! slices.Delete(()loop.example/g00073/impl.Name,loop.example/g00073/impl.Name) -/
end Go.Al
namespace Go.AlW.slices_Delete_impl_Name_safb9
open Go.Proofs Go.Shelf Go.RowKit Go.Lib
set_option maxHeartbeats 4000000 in
set_option maxRecDepth 1000000 in
theorem delW : Al.DelSpec Try.prog 69 3 := by
  intro w g n cap i j cur e fr hb hfr hs hn hm hij hj h1
  obtain ⟨news, hnews⟩ : ∃ news, news = (cur.toList.drop (j * 3)).take ((n - j) * 3) := ⟨_, rfl⟩
  have hm' : cap ≤ 9223372036854775807 := by unfold maxLen at hm; omega
  have hlen : news.length = (n - j) * 3 := by rw [hnews]; simp; omega
  have hcell : ∀ k, k < cur.size → w.cell? ⟨g, k, none⟩ = some cur[k]! := fun k hk => by rw [Al.cells_at hb, getElem!_pos cur k hk]; simp [hk]
  have hfz : ∀ k, k < cur.size → w.frozen? ⟨g, k, none⟩ = false := fun k hk => Al.not_frozen hb hfr hk
  have hget : ∀ t u, news[t]? = some u → t < (n - j) * 3 ∧ cur[j * 3 + t]? = some u := fun t u hu => by
    have ht : t < news.length := (List.getElem?_eq_some_iff.1 hu).1
    rw [hlen] at ht
    refine ⟨ht, ?_⟩
    rw [hnews, List.getElem?_take, if_pos ht, List.getElem?_drop] at hu
    simpa using hu
  obtain ⟨A, hA, hsrc⟩ : ∃ A : Addr, (if cap = j then (some ⟨g, 0, none⟩ : Option Addr) else some ⟨g, j * 3, none⟩) = some A ∧ Hid (∀ t u, news[t]? = some u → w.drew.cell? (A.add t) = some u) := by
    by_cases h : cap = j
    · refine ⟨⟨g, 0, none⟩, by simp [h], fun t u hu => ?_⟩
      have := (hget t u hu).1
      omega
    · refine ⟨⟨g, j * 3, none⟩, by simp [h], fun t u hu => ?_⟩
      obtain ⟨ht, hu⟩ := hget t u hu
      rw [Al.add00]
      show w.cell? _ = _
      rw [Al.cells_at hb]
      exact hu
  have s1 : Hid (news.length = (n - j) * 3) := hlen
  have s2 : Hid (∀ u ∈ news, u.oneCell' = true) := by
    intro u hu
    obtain ⟨t, ht⟩ := List.mem_iff_getElem?.1 hu
    obtain ⟨h3, h4⟩ := hget t u ht
    exact h1 _ u (by omega) h4
  have s3 : Hid (∀ t, t < news.length → (w.drew.cell? ⟨g, 0 + i * 3 + t, none⟩).isSome = true ∧ w.drew.frozen? ⟨g, 0 + i * 3 + t, none⟩ = false) := by
    intro t ht
    rw [hlen] at ht
    exact ⟨by show (w.cell? _).isSome = true; rw [hcell _ (by omega)]; rfl, hfz _ (by omega)⟩
  obtain ⟨W1, hW1⟩ : ∃ W1, W1 = w.drew.setCells g (i * 3) news := ⟨_, rfl⟩
  have hbW : W1.heap[g]? = some (.cells (Al.putCells cur (i * 3) news) e fr) := by rw [hW1]; exact Al.setCells_heap news (i * 3) w.drew cur hb
  obtain ⟨zv, hzv⟩ : ∃ zv : Value, ∀ w, (zeroValue 53).run Try.prog w = .ok zv w := ⟨_, Try.zeroValue53⟩
  have hz12 : zv.cells.size = 3 ∧ zv.cells.toList.all (·.oneCell') = true := by
    have h := hzv w
    rw [Try.zeroValue53] at h
    cases h
    exact ⟨by kernel_rfl, by kernel_rfl⟩
  have hz2 : zv.cells.size = 3 := hz12.1
  have hz1 : ∀ u ∈ zv.cells.toList, u.oneCell' = true := fun u hu => List.all_eq_true.1 hz12.2 u hu
  have hcl : ∀ ty, (Builtin.clear_ #[24] ty #[.slice (some ⟨g, (i + (n - j)) * 3, none⟩) (n - (i + (n - j))) (cap - (i + (n - j)))]).run Try.prog W1 = .ok (.tuple #[]) (W1.setCells g ((i + (n - j)) * 3) (Builtin.zeroCells zv.cells (n - (i + (n - j)))).toList) :=
    fun ty => Al.run_clear_z W1 24 53 ty zv Try.underlying24 hzv hz1 g _ _ _ (by omega) (fun t ht => by
      rw [hz2] at ht
      rw [Al.cells_at hbW]
      have : (i + (n - j)) * 3 + t < (Al.putCells cur (i * 3) news).size := by rw [Al.putCells_size]; omega
      simp [this]) (fun t ht => by
      rw [hz2] at ht
      exact Al.not_frozen hbW (by rw [Al.putCells_size]; exact hfr) (by rw [Al.putCells_size]; omega))
  have hW : Hid (W1 = w.drew.setCells g (0 + i * 3) news) := by rw [Nat.zero_add]; exact hW1
  have hX : Hid (W1 = w.drew.setCells g (i * 3) ((cur.toList.drop (j * 3)).take ((n - j) * 3))) := by rw [← hnews]; exact hW1
  have hZ : Hid ((Builtin.zeroCells zv.cells (n - (i + (n - j)))).toList.length = (j - i) * 3) := by rw [Al.zeroCells_length, hz2]; congr 1; omega
  obtain ⟨i0, hi0⟩ : ∃ i0, Try.prog.info? 53 = some i0 := ⟨_, rfl⟩
  have his : i0.size = 3 := by
    have : (Try.prog.info? 53).map (·.size) = some 3 := by kernel_rfl
    rw [hi0] at this
    simpa using this
  obtain ⟨zs, hzs⟩ : ∃ zs, zs = (Builtin.zeroCells zv.cells (n - (i + (n - j)))).toList := ⟨_, rfl⟩
  rw [← hzs] at hcl hZ
  have hic : i ≤ cap := by omega
  have hjc : j ≤ cap := by omega
  have hin : i ≤ n := by omega
  have hne : ¬ i = j := by omega
  clear hW1 hget hnews hlen hbW hcell hfz hb hfr hs h1 hzs hz12 hz1 hz2 hzv
  have mixed : Try.prog.follows .mixedOrders = true := by kernel_rfl
  go_enter Try.func69, Try.ntmps69
  go_wp2_with fail
  go_region_law_o (refine step_append_room rfl (.tmp 22) (.tmp 25) 24 rfl 53 i0 3 Try.underlying24 hi0 his g 0 i cap (by simp [Act.eval, Act.put]) A (n - j) (cap - j) news (by simp [Act.eval, Act.put, hA]) s1.out hsrc.out s2.out (by omega) s3.out ?_; rw [← hW.out])
  go_wp2
  go_ret
  refine ⟨by rw [show n - (j - i) = i + (n - j) by omega]; rfl, zs, hZ.out, by rw [← hX.out]⟩
end Go.AlW.slices_Delete_impl_Name_safb9
namespace Go.Al
open Go.Proofs
namespace slices_Delete_impl_Name_safb9
noncomputable def F (a1 a2 : Int) (a3 : Vec (ByteArray × Int × Int)) : Option (Vec (ByteArray × Int × Int)) := sel (decide (0 ≤ a1 ∧ a1 < a2 ∧ a2 ≤ (a3.n : Int))) (some (Vec.del a3 a1 a2)) none
def encA (t : Int × Int × (Vec (ByteArray × Int × Int))) : List AV × List Ob := ([.c (.h 0), .c (.n (.v (.int .i64 t.1))), .c (.n (.v (.int .i64 t.2.1)))], [.row 3 (encRw t.2.2) []])
def encR (x : Vec (ByteArray × Int × Int)) : AV × List Ob := (.c (.h 0), [.row 3 (encRw x) []])
theorem encAI : ∀ a b, encA a = encA b → a = b := by
  intro a b h
  obtain ⟨a0, a1, a2⟩ := a
  obtain ⟨b0, b1, b2⟩ := b
  simp [encA, encRw_iff] at h
  simp_all
noncomputable def Q (args : List AV) (hin : List Ob) : Option (Vec (ByteArray × Int × Int)) := ofC encA (fun t => F t.1 t.2.1 t.2.2) (args, hin)
theorem wrap : (fun (y1 : Int) (y2 : Int) (y3 : Vec (ByteArray × Int × Int)) => Q [.c (.h 0), .c (.n (.v (.int .i64 y1))), .c (.n (.v (.int .i64 y2)))] [.row 3 (encRw y3) []]) = F := by
  funext y1 y2 y3
  exact ofC_enc encAI _ (y1, y2, y3)
theorem ac (args : List AV) (hin : List Ob) (x : Vec (ByteArray × Int × Int)) (h : Q args hin = some x) : AC Try.prog 69 args hin false [false] fun rv obs => (rv, obs) = encR x := by
  obtain ⟨t, he, h2⟩ := ofC_some h
  obtain rfl : args = (encA t).1 := (congrArg Prod.fst he).symm
  obtain rfl : hin = (encA t).2 := (congrArg Prod.snd he).symm
  rcases sel_cases h2 with ⟨hb, h3⟩ | ⟨-, h3⟩
  · simp only [Option.some.injEq] at h3
    subst h3
    have hb := of_decide_eq_true hb
    have hm := AC.del Try.func69 (by kernel_rfl) (by kernel_rfl) (show DelSpec Try.prog 69 (Enc.sz (ByteArray × Int × Int)) from AlW.slices_Delete_impl_Name_safb9.delW) hb
    refine AC.flat hm fun rv obs e => ?_
    obtain rfl : rv = .c (.h 0) := congrArg Prod.fst e
    obtain rfl : obs = [Go.Al.rw (Vec.del t.2.2 t.1 t.2.1)] := congrArg Prod.snd e
    refine ⟨by simp [AV.Flat, K.Flat, C.Flat], ?_⟩
    intro o ho
    simp only [List.mem_cons, List.not_mem_nil, or_false] at ho
    subst ho
    exact flat_rw rfl _
  · cases h3
end slices_Delete_impl_Name_safb9
/-! loop.example/g00073/impl.dropName -/
namespace impl_dropName_s0773
noncomputable def B {ρ : Type} (C_slices_Delete_impl_Name_safb9 : Int → Int → (Vec (ByteArray × Int × Int)) → Option (Vec (ByteArray × Int × Int))) (a1 : Int) (a2 : Vec (ByteArray × Int × Int)) (K : (Vec (ByteArray × Int × Int)) → Option ρ) : Option ρ :=
  (C_slices_Delete_impl_Name_safb9 a1 (wr (a1 + (1 : Int))) a2).bind fun r1 => K r1
noncomputable def F (a1 : Int) (a2 : Vec (ByteArray × Int × Int)) : Option (Vec (ByteArray × Int × Int)) := B slices_Delete_impl_Name_safb9.F a1 a2 (fun x1 => some (x1))
def encA (t : Int × (Vec (ByteArray × Int × Int))) : List AV × List Ob := ([.c (.h 0), .c (.n (.v (.int .i64 t.1)))], [.row 3 (encRw t.2) []])
def encR (x : Vec (ByteArray × Int × Int)) : AV × List Ob := (.c (.h 0), [.row 3 (encRw x) []])
theorem encAI : ∀ a b, encA a = encA b → a = b := by
  intro a b h
  obtain ⟨a0, a1⟩ := a
  obtain ⟨b0, b1⟩ := b
  simp [encA, encRw_iff] at h
  simp_all
theorem encRI : ∀ a b, encR a = encR b → a = b := by
  intro a b h
  simp [encR, encRw_iff] at h
  simp_all
noncomputable def Q (args : List AV) (hin : List Ob) : Option (Vec (ByteArray × Int × Int)) := ofC encA (fun t => F t.1 t.2) (args, hin)
theorem wrap : (fun (y1 : Int) (y2 : Vec (ByteArray × Int × Int)) => Q [.c (.h 0), .c (.n (.v (.int .i64 y1)))] [.row 3 (encRw y2) []]) = F := by
  funext y1 y2
  exact ofC_enc encAI _ (y1, y2)
noncomputable def G (q_slices_Delete_impl_Name_safb9 : List AV → List Ob → Option (Vec (ByteArray × Int × Int))) : Orc := ⟨fun f => 9, fun ρ f args K => Option.none, fun ρ f st args dst K => sel (Nat.beq f 69) (callE Try.prog 69 [true, false, false] false [false] slices_Delete_impl_Name_safb9.encR q_slices_Delete_impl_Name_safb9 st args dst K) (Option.none)⟩
noncomputable def L : Lor := fun ρ j st K => Option.none
theorem main (q_slices_Delete_impl_Name_safb9 : List AV → List Ob → Option (Vec (ByteArray × Int × Int))) {ρ : Type} (K : AV → List Ob → Option ρ) (a1 : Int) (a2 : Vec (ByteArray × Int × Int)) : exC Try.prog (G q_slices_Delete_impl_Name_safb9) (L) [] 0 (bodyOf Try.f41) (entry 10 [.c (.h 0), .c (.n (.v (.int .i64 a1)))] [.row 3 (encRw a2) []] [false]) (finO Try.prog Try.f41.results.toList 1 [false] [] K) =
    B (fun y1 y2 y3 => q_slices_Delete_impl_Name_safb9 [.c (.h 0), .c (.n (.v (.int .i64 y1))), .c (.n (.v (.int .i64 y2)))] [.row 3 (encRw y3) []]) a1 a2 (fun x1 => K (.c (.h 0)) [.row 3 (encRw x1) []]) := by kernel_rfl
theorem Gok : (G slices_Delete_impl_Name_safb9.Q).ok Try.prog := ⟨(fun ρ f args K r h => (by cases h)),
  (fun ρ f args K => rfl),
  (by
    intro ρ f st caps args dst K r h
    rcases sel_cases h with ⟨hb, h⟩ | ⟨-, h⟩
    · obtain rfl := beq_nat hb
      exact callE_ok (fun h => by cases h) slices_Delete_impl_Name_safb9.ac h
    cases h)⟩
theorem hm : Try.prog.follows .mixedOrders = true := by kernel_rfl
theorem e : atomsL [] 0 (bodyOf Try.f41) = [] := by kernel_rfl
theorem acc (t : Int × (Vec (ByteArray × Int × Int))) (x : Vec (ByteArray × Int × Int)) (h : F t.1 t.2 = some x) : ACc Try.prog 41 (encA t).1 (encA t).2 true [false] fun rv obs => (rv, obs) = encR x := by
  refine fun_okc (L := (L)) (jn := []) (cmds := []) (ks := [false]) (hin := (encA t).2) (fn := Try.f41) (body := (bodyOf Try.f41)) Gok hm Try.func41 (by kernel_rfl) (by kernel_rfl) (by rw [e]; exact Lor.ok_nil _ _) ?_ h
  refine (main slices_Delete_impl_Name_safb9.Q _ t.1 t.2).trans ?_
  rw [slices_Delete_impl_Name_safb9.wrap]
  refine congrArg (fun K => B slices_Delete_impl_Name_safb9.F t.1 t.2 K) ?_
  funext x1
  exact ofC_enc encRI some (x1)
theorem ac0 (t : Int × (Vec (ByteArray × Int × Int))) (x : Vec (ByteArray × Int × Int)) (h : F t.1 t.2 = some x) : AC Try.prog 41 (encA t).1 (encA t).2 true [false] fun rv obs => (rv, obs) = encR x := ACc.ac (body := bodyOf Try.f41) Try.func41 (by kernel_rfl) (by kernel_rfl) (acc t x h)
theorem ac (args : List AV) (hin : List Ob) (x : Vec (ByteArray × Int × Int)) (h : Q args hin = some x) : AC Try.prog 41 args hin false [false] fun rv obs => (rv, obs) = encR x := by
  obtain ⟨t, he, h2⟩ := ofC_some h
  obtain rfl : args = (encA t).1 := (congrArg Prod.fst he).symm
  obtain rfl : hin = (encA t).2 := (congrArg Prod.snd he).symm
  refine (ac0 t x h2).flat fun rv obs e => ?_
  obtain rfl : rv = (encR x).1 := congrArg Prod.fst e
  obtain rfl : obs = (encR x).2 := congrArg Prod.snd e
  refine ⟨by simp [encR, AV.Flat, K.Flat, C.Flat], ?_⟩
  intro o ho
  simp only [encR, List.mem_cons, List.not_mem_nil, or_false] at ho
  subst ho
  exact flat_rw rfl _
end impl_dropName_s0773
/-! loop.example/g00073/impl.CutName -/
namespace impl_CutName
noncomputable def B {ρ : Type} (C_impl_ByPath : (Vec (ByteArray × Int × Int)) → ByteArray → Option Int) (C_slices_Clone_impl_Name : (Vec (ByteArray × Int × Int)) → Option (Vec (ByteArray × Int × Int))) (C_impl_dropName_s0773 : Int → (Vec (ByteArray × Int × Int)) → Option (Vec (ByteArray × Int × Int))) (a1 : Vec (ByteArray × Int × Int)) (a2 : ByteArray) (K : Bool → (Vec (ByteArray × Int × Int)) → Option ρ) : Option ρ :=
  (C_impl_ByPath a1 a2).bind fun r1 => sel (decide (r1 < (0 : Int))) (K false (Vec.nil : Vec (ByteArray × Int × Int))) ((C_slices_Clone_impl_Name a1).bind fun r2 => (C_impl_dropName_s0773 r1 r2).bind fun r3 => K true r3)
noncomputable def F (a1 : Vec (ByteArray × Int × Int)) (a2 : ByteArray) : Option (Bool × (Vec (ByteArray × Int × Int))) := B impl_ByPath.F slices_Clone_impl_Name.F impl_dropName_s0773.F a1 a2 (fun x1 x2 => some (x1, x2))
def encA (t : (Vec (ByteArray × Int × Int)) × ByteArray) : List AV := [.c (.n (.sl 3 (encRw t.1))), .c (.n (.v (.string t.2)))]
def encR (x : Bool × (Vec (ByteArray × Int × Int))) : AV × List Ob := (.tup [.c (.h 0), .c (.n (.v (.bool x.1)))], [.row 3 (encRw x.2) []])
theorem encAI : ∀ a b, encA a = encA b → a = b := by
  intro a b h
  obtain ⟨a0, a1⟩ := a
  obtain ⟨b0, b1⟩ := b
  simp [encA, encRw_iff] at h
  simp_all
theorem encRI : ∀ a b, encR a = encR b → a = b := by
  intro a b h
  obtain ⟨a0, a1⟩ := a
  obtain ⟨b0, b1⟩ := b
  simp [encR, encRw_iff] at h
  simp_all
noncomputable def Q (args : List AV) : Option (Bool × (Vec (ByteArray × Int × Int))) := ofC encA (fun t => F t.1 t.2) args
theorem wrap : (fun (y1 : Vec (ByteArray × Int × Int)) (y2 : ByteArray) => Q [.c (.n (.sl 3 (encRw y1))), .c (.n (.v (.string y2)))]) = F := by
  funext y1 y2
  exact ofC_enc encAI _ (y1, y2)
noncomputable def G (q_impl_ByPath : List AV → Option Int) (q_slices_Clone_impl_Name : List AV → Option (Vec (ByteArray × Int × Int))) (q_impl_dropName_s0773 : List AV → List Ob → Option (Vec (ByteArray × Int × Int))) : Orc := ⟨fun f => sel (Nat.beq f 40) 0 (sel (Nat.beq f 42) 0 (9)), fun ρ f args K => sel (Nat.beq f 40) (qEntry impl_ByPath.encR q_impl_ByPath args K) (sel (Nat.beq f 42) (qEntry slices_Clone_impl_Name.encR q_slices_Clone_impl_Name args K) (Option.none)), fun ρ f st args dst K => sel (Nat.beq f 41) (callE Try.prog 41 [true, false] false [false] impl_dropName_s0773.encR q_impl_dropName_s0773 st args dst K) (Option.none)⟩
noncomputable def L : Lor := fun ρ j st K => Option.none
theorem main (q_impl_ByPath : List AV → Option Int) (q_slices_Clone_impl_Name : List AV → Option (Vec (ByteArray × Int × Int))) (q_impl_dropName_s0773 : List AV → List Ob → Option (Vec (ByteArray × Int × Int))) {ρ : Type} (K : AV → List Ob → Option ρ) (a1 : Vec (ByteArray × Int × Int)) (a2 : ByteArray) : exC Try.prog (G q_impl_ByPath q_slices_Clone_impl_Name q_impl_dropName_s0773) (L) [] 0 (bodyOf Try.f12) (entry 16 [.c (.n (.sl 3 (encRw a1))), .c (.n (.v (.string a2)))] [] []) (finO Try.prog Try.f12.results.toList 0 [] [.ad (.s 4) 24] K) =
    B (fun y1 y2 => q_impl_ByPath [.c (.n (.sl 3 (encRw y1))), .c (.n (.v (.string y2)))]) (fun y1 => q_slices_Clone_impl_Name [.c (.n (.sl 3 (encRw y1)))]) (fun y1 y2 => q_impl_dropName_s0773 [.c (.h 0), .c (.n (.v (.int .i64 y1)))] [.row 3 (encRw y2) []]) a1 a2 (fun x1 x2 => K (.tup [.c (.h 0), .c (.n (.v (.bool x1)))]) [.row 3 (encRw x2) []]) := by kernel_rfl
theorem Gok : (G impl_ByPath.Q slices_Clone_impl_Name.Q impl_dropName_s0773.Q).ok Try.prog := ⟨(by
    intro ρ f args K r h
    rcases sel_cases h with ⟨hb, h⟩ | ⟨-, h⟩
    · obtain rfl := beq_nat hb
      exact qEntry_ok impl_ByPath.ac h
    rcases sel_cases h with ⟨hb, h⟩ | ⟨-, h⟩
    · obtain rfl := beq_nat hb
      exact qEntry_ok slices_Clone_impl_Name.ac h
    cases h),
  (by
    intro ρ f args K
    simp only [G]
    cases Nat.beq f 40 with
    | true => exact qEntry_nat args K
    | false =>
    simp only [sel]
    cases Nat.beq f 42 with
    | true => exact qEntry_nat args K
    | false =>
    simp only [sel]
    rfl),
  (by
    intro ρ f st caps args dst K r h
    rcases sel_cases h with ⟨hb, h⟩ | ⟨-, h⟩
    · obtain rfl := beq_nat hb
      exact callE_ok (fun h => by cases h) impl_dropName_s0773.ac h
    cases h)⟩
theorem hm : Try.prog.follows .mixedOrders = true := by kernel_rfl
theorem e : atomsL [] 0 (bodyOf Try.f12) = [] := by kernel_rfl
theorem acc (t : (Vec (ByteArray × Int × Int)) × ByteArray) (x : Bool × (Vec (ByteArray × Int × Int))) (h : F t.1 t.2 = some x) : ACc Try.prog 12 (encA t) [] true [] fun rv obs => (rv, obs) = encR x := by
  refine fun_okc (L := (L)) (jn := []) (cmds := [.ad (.s 4) 24]) (ks := []) (hin := []) (fn := Try.f12) (body := (bodyOf Try.f12)) Gok hm Try.func12 (by kernel_rfl) (by kernel_rfl) (by rw [e]; exact Lor.ok_nil _ _) ?_ h
  refine (main impl_ByPath.Q slices_Clone_impl_Name.Q impl_dropName_s0773.Q _ t.1 t.2).trans ?_
  rw [impl_ByPath.wrap, slices_Clone_impl_Name.wrap, impl_dropName_s0773.wrap]
  refine congrArg (fun K => B impl_ByPath.F slices_Clone_impl_Name.F impl_dropName_s0773.F t.1 t.2 K) ?_
  funext x1 x2
  exact ofC_enc encRI some (x1, x2)
theorem ac0 (t : (Vec (ByteArray × Int × Int)) × ByteArray) (x : Bool × (Vec (ByteArray × Int × Int))) (h : F t.1 t.2 = some x) : AC Try.prog 12 (encA t) [] true [] fun rv obs => (rv, obs) = encR x := ACc.ac (body := bodyOf Try.f12) Try.func12 (by kernel_rfl) (by kernel_rfl) (acc t x h)
theorem ac (args : List AV) (x : Bool × (Vec (ByteArray × Int × Int))) (h : Q args = some x) : AC Try.prog 12 args [] false [] fun rv obs => (rv, obs) = encR x := by
  obtain ⟨t, rfl, h2⟩ := ofC_some h
  refine (ac0 t x h2).flat fun rv obs e => ?_
  obtain rfl : rv = (encR x).1 := congrArg Prod.fst e
  obtain rfl : obs = (encR x).2 := congrArg Prod.snd e
  refine ⟨by simp [encR, AV.Flat, K.Flat, C.Flat], ?_⟩
  intro o ho
  simp only [encR, List.mem_cons, List.not_mem_nil, or_false] at ho
  subst ho
  exact flat_rw rfl _
end impl_CutName
/-! loop.example/g00073/laws.eqName -/
namespace laws_eqName
noncomputable def B {ρ : Type} (a1 : ByteArray) (a2 : Int) (a3 : Int) (a4 : ByteArray) (a5 : Int) (a6 : Int) (K : Bool → Option ρ) : Option ρ :=
  sel ((!decide (a1 = a4))) (K false) (sel ((!decide (a2 = a5))) (K false) (sel ((!decide (a3 = a6))) (K false) (K true)))
noncomputable def F (a1 : ByteArray) (a2 : Int) (a3 : Int) (a4 : ByteArray) (a5 : Int) (a6 : Int) : Option Bool := B a1 a2 a3 a4 a5 a6 (fun x1 => some (x1))
def encA (t : ByteArray × Int × Int × ByteArray × Int × Int) : List AV := [.a [.n (.v (.string t.1)), .n (.v (.int .i64 t.2.1)), .n (.v (.int .i64 t.2.2.1))], .a [.n (.v (.string t.2.2.2.1)), .n (.v (.int .i64 t.2.2.2.2.1)), .n (.v (.int .i64 t.2.2.2.2.2))]]
def encR (x : Bool) : AV × List Ob := (.c (.n (.v (.bool x))), [])
theorem encAI : ∀ a b, encA a = encA b → a = b := by
  intro a b h
  obtain ⟨a0, a1, a2, a3, a4, a5⟩ := a
  obtain ⟨b0, b1, b2, b3, b4, b5⟩ := b
  simp [encA, encRw_iff] at h
  simp_all
theorem encRI : ∀ a b, encR a = encR b → a = b := by
  intro a b h
  simp [encR, encRw_iff] at h
  simp_all
noncomputable def Q (args : List AV) : Option Bool := ofC encA (fun t => F t.1 t.2.1 t.2.2.1 t.2.2.2.1 t.2.2.2.2.1 t.2.2.2.2.2) args
theorem wrap : (fun (y1 : ByteArray) (y2 : Int) (y3 : Int) (y4 : ByteArray) (y5 : Int) (y6 : Int) => Q [.a [.n (.v (.string y1)), .n (.v (.int .i64 y2)), .n (.v (.int .i64 y3))], .a [.n (.v (.string y4)), .n (.v (.int .i64 y5)), .n (.v (.int .i64 y6))]]) = F := by
  funext y1 y2 y3 y4 y5 y6
  exact ofC_enc encAI _ (y1, y2, y3, y4, y5, y6)
noncomputable def G : Orc := ⟨fun f => 9, fun ρ f args K => Option.none, noE⟩
noncomputable def L : Lor := fun ρ j st K => Option.none
theorem main {ρ : Type} (K : AV → List Ob → Option ρ) (a1 : ByteArray) (a2 : Int) (a3 : Int) (a4 : ByteArray) (a5 : Int) (a6 : Int) : exC Try.prog (G) (L) [] 0 (bodyOf Try.f43) (entry 20 [.a [.n (.v (.string a1)), .n (.v (.int .i64 a2)), .n (.v (.int .i64 a3))], .a [.n (.v (.string a4)), .n (.v (.int .i64 a5)), .n (.v (.int .i64 a6))]] [] []) (finO Try.prog Try.f43.results.toList 0 [] [] K) =
    B a1 a2 a3 a4 a5 a6 (fun x1 => K (.c (.n (.v (.bool x1)))) []) := by kernel_rfl
theorem Gok : (G).ok Try.prog := ⟨(fun ρ f args K r h => (by cases h)),
  (fun ρ f args K => rfl),
  (fun ρ f st caps args dst K r h => (by cases h))⟩
theorem hm : Try.prog.follows .mixedOrders = true := by kernel_rfl
theorem e : atomsL [] 0 (bodyOf Try.f43) = [] := by kernel_rfl
theorem acc (t : ByteArray × Int × Int × ByteArray × Int × Int) (x : Bool) (h : F t.1 t.2.1 t.2.2.1 t.2.2.2.1 t.2.2.2.2.1 t.2.2.2.2.2 = some x) : ACc Try.prog 43 (encA t) [] true [] fun rv obs => (rv, obs) = encR x := by
  refine fun_okc (L := (L)) (jn := []) (cmds := []) (ks := []) (hin := []) (fn := Try.f43) (body := (bodyOf Try.f43)) Gok hm Try.func43 (by kernel_rfl) (by kernel_rfl) (by rw [e]; exact Lor.ok_nil _ _) ?_ h
  refine (main _ t.1 t.2.1 t.2.2.1 t.2.2.2.1 t.2.2.2.2.1 t.2.2.2.2.2).trans ?_
  refine congrArg (fun K => B t.1 t.2.1 t.2.2.1 t.2.2.2.1 t.2.2.2.2.1 t.2.2.2.2.2 K) ?_
  funext x1
  exact ofC_enc encRI some (x1)
theorem ac0 (t : ByteArray × Int × Int × ByteArray × Int × Int) (x : Bool) (h : F t.1 t.2.1 t.2.2.1 t.2.2.2.1 t.2.2.2.2.1 t.2.2.2.2.2 = some x) : AC Try.prog 43 (encA t) [] true [] fun rv obs => (rv, obs) = encR x := ACc.ac (body := bodyOf Try.f43) Try.func43 (by kernel_rfl) (by kernel_rfl) (acc t x h)
theorem ac (args : List AV) (x : Bool) (h : Q args = some x) : AC Try.prog 43 args [] false [] fun rv obs => (rv, obs) = encR x := by
  obtain ⟨t, rfl, h2⟩ := ofC_some h
  refine (ac0 t x h2).flat fun rv obs e => ?_
  obtain rfl : rv = (encR x).1 := congrArg Prod.fst e
  obtain rfl : obs = (encR x).2 := congrArg Prod.snd e
  refine ⟨by simp [encR, AV.Flat, K.Flat, C.Flat], ?_⟩
  simp [encR]
end laws_eqName
/-! loop.example/g00073/laws.eqNameS -/
namespace laws_eqNameS
noncomputable def B0 {ρ : Type} (C_laws_eqName : ByteArray → Int → Int → ByteArray → Int → Int → Option Bool) (v1 : Vec (ByteArray × Int × Int)) (v2 : Vec (ByteArray × Int × Int)) (v3 : Int) (W : (Vec (ByteArray × Int × Int)) → (Vec (ByteArray × Int × Int)) → Int → Option ρ) (K0 : Unit → Option ρ) (Kr : Bool → Option ρ) : Option ρ :=
  sel (decide (v3 < (v1.n : Int))) (chk (decide (0 ≤ v3 ∧ v3 < (v1.n : Int))) (chk (decide (0 ≤ v3 ∧ v3 < (v2.n : Int))) ((C_laws_eqName ((v1.g v3.toNat).1) ((v1.g v3.toNat).2.1) ((v1.g v3.toNat).2.2) ((v2.g v3.toNat).1) ((v2.g v3.toNat).2.1) ((v2.g v3.toNat).2.2)).bind fun r1 => sel ((!r1)) (Kr false) (W v1 v2 (wr (v3 + (1 : Int))))))) (K0 ())
noncomputable def F0 {ρ : Type} : Nat → (Vec (ByteArray × Int × Int)) → (Vec (ByteArray × Int × Int)) → Int → (Unit → Option ρ) → (Bool → Option ρ) → Option ρ
  | 0, _, _, _, _, _ => none
  | k + 1, v1, v2, v3, K0, Kr => B0 laws_eqName.F v1 v2 v3 (fun v1' v2' v3' => F0 k v1' v2' v3' K0 Kr) K0 Kr
noncomputable def B {ρ : Type} (L0 : (Vec (ByteArray × Int × Int)) → (Vec (ByteArray × Int × Int)) → Int → (Unit → Option ρ) → (Bool → Option ρ) → Option ρ) (a1 : Vec (ByteArray × Int × Int)) (a2 : Vec (ByteArray × Int × Int)) (K : Bool → Option ρ) : Option ρ :=
  sel ((!decide ((a1.n : Int) = (a2.n : Int)))) (K false) (L0 a1 a2 (0 : Int) (fun _ => K true) (fun x01 => K x01))
noncomputable def F (a1 : Vec (ByteArray × Int × Int)) (a2 : Vec (ByteArray × Int × Int)) : Option Bool := B (F0 fuelN) a1 a2 (fun x1 => some (x1))
def encA (t : (Vec (ByteArray × Int × Int)) × (Vec (ByteArray × Int × Int))) : List AV := [.c (.n (.sl 3 (encRw t.1))), .c (.n (.sl 3 (encRw t.2)))]
def encR (x : Bool) : AV × List Ob := (.c (.n (.v (.bool x))), [])
theorem encAI : ∀ a b, encA a = encA b → a = b := by
  intro a b h
  obtain ⟨a0, a1⟩ := a
  obtain ⟨b0, b1⟩ := b
  simp [encA, encRw_iff] at h
  simp_all
theorem encRI : ∀ a b, encR a = encR b → a = b := by
  intro a b h
  simp [encR, encRw_iff] at h
  simp_all
noncomputable def Q (args : List AV) : Option Bool := ofC encA (fun t => F t.1 t.2) args
theorem wrap : (fun (y1 : Vec (ByteArray × Int × Int)) (y2 : Vec (ByteArray × Int × Int)) => Q [.c (.n (.sl 3 (encRw y1))), .c (.n (.sl 3 (encRw y2)))]) = F := by
  funext y1 y2
  exact ofC_enc encAI _ (y1, y2)
noncomputable def G (q_laws_eqName : List AV → Option Bool) : Orc := ⟨fun f => sel (Nat.beq f 43) 0 (9), fun ρ f args K => sel (Nat.beq f 43) (qEntry laws_eqName.encR q_laws_eqName args K) (Option.none), noE⟩
noncomputable def L (W0 : (ρ : Type) → List AV → List Ob → (Unit → Option ρ) → (Bool → Option ρ) → Option ρ) : Lor := fun ρ j st K => sel (Nat.beq j 0) (cutO Try.prog 27 [0, 1, 5] 0 [] [] st fun avs obs => W0 ρ avs obs (fun _ => K (.exit 0) (mkS 27 [] [] [] [])) (fun z1 => K .ret (mkS 27 [4] [.c (.n (.v (.bool z1)))] [] []))) (Option.none)
noncomputable def c0 : Code := loopC (atomN [] 0 (bodyOf Try.f13) 0)
def ct0 : Cut := ⟨[0, 1, 5], []⟩
def lv0 : Exit → Cut
  | .exit 0 => ⟨[], []⟩
  | .ret => ⟨[4], []⟩
  | _ => ⟨[], []⟩
theorem step0 (q_laws_eqName : List AV → Option Bool) (W0 : (ρ : Type) → List AV → List Ob → (Unit → Option ρ) → (Bool → Option ρ) → Option ρ) {ρ : Type} (K : Exit → St → Option ρ) (W : List AV → List Ob → Option ρ) (v1 : Vec (ByteArray × Int × Int)) (v2 : Vec (ByteArray × Int × Int)) (v3 : Int) : exC Try.prog (G q_laws_eqName) (L W0) [] 1 c0 (mkS 27 [0, 1, 5] [.c (.n (.sl 3 (encRw v1))), .c (.n (.sl 3 (encRw v2))), .c (.n (.v (.int .i64 v3)))] [] []) (bodyK Try.prog 27 0 [] ct0 W lv0 K) =
    B0 (fun y1 y2 y3 y4 y5 y6 => q_laws_eqName [.a [.n (.v (.string y1)), .n (.v (.int .i64 y2)), .n (.v (.int .i64 y3))], .a [.n (.v (.string y4)), .n (.v (.int .i64 y5)), .n (.v (.int .i64 y6))]]) v1 v2 v3 (fun u1 u2 u3 => W [.c (.n (.sl 3 (encRw u1))), .c (.n (.sl 3 (encRw u2))), .c (.n (.v (.int .i64 u3)))] []) (fun _ => K (.exit 0) (mkS 27 [] [] [] [])) (fun z1 => K .ret (mkS 27 [4] [.c (.n (.v (.bool z1)))] [] [])) := by kernel_rfl
def enc0 (t : (Vec (ByteArray × Int × Int)) × (Vec (ByteArray × Int × Int)) × Int) : List AV × List Ob := ([.c (.n (.sl 3 (encRw t.1))), .c (.n (.sl 3 (encRw t.2.1))), .c (.n (.v (.int .i64 t.2.2)))], [])
theorem enc0I : ∀ a b, enc0 a = enc0 b → a = b := by
  intro a b h
  obtain ⟨a0, a1, a2⟩ := a
  obtain ⟨b0, b1, b2⟩ := b
  simp [enc0, encRw_iff] at h
  simp_all
noncomputable def V0 : (ρ : Type) → List AV → List Ob → (Unit → Option ρ) → (Bool → Option ρ) → Option ρ := fun ρ avs obs k0 kr => ofC enc0 (fun t => F0 fuelN t.1 t.2.1 t.2.2 k0 kr) (avs, obs)
theorem V0_enc (ρ : Type) : (fun w1 w2 w3 k0 kr => V0 ρ [.c (.n (.sl 3 (encRw w1))), .c (.n (.sl 3 (encRw w2))), .c (.n (.v (.int .i64 w3)))] [] k0 kr) = F0 fuelN := by
  funext w1 w2 w3 k0 kr
  exact ofC_enc enc0I _ (w1, w2, w3)
theorem main (q_laws_eqName : List AV → Option Bool) (W0 : (ρ : Type) → List AV → List Ob → (Unit → Option ρ) → (Bool → Option ρ) → Option ρ) {ρ : Type} (K : AV → List Ob → Option ρ) (a1 : Vec (ByteArray × Int × Int)) (a2 : Vec (ByteArray × Int × Int)) : exC Try.prog (G q_laws_eqName) (L W0) [] 0 (bodyOf Try.f13) (entry 27 [.c (.n (.sl 3 (encRw a1))), .c (.n (.sl 3 (encRw a2)))] [] []) (finO Try.prog Try.f13.results.toList 0 [] [] K) =
    B (fun w1 w2 w3 k0 kr => W0 ρ [.c (.n (.sl 3 (encRw w1))), .c (.n (.sl 3 (encRw w2))), .c (.n (.v (.int .i64 w3)))] [] k0 kr) a1 a2 (fun x1 => K (.c (.n (.v (.bool x1)))) []) := by kernel_rfl
theorem Gok : (G laws_eqName.Q).ok Try.prog := ⟨(by
    intro ρ f args K r h
    rcases sel_cases h with ⟨hb, h⟩ | ⟨-, h⟩
    · obtain rfl := beq_nat hb
      exact qEntry_ok laws_eqName.ac h
    cases h),
  (by
    intro ρ f args K
    simp only [G]
    cases Nat.beq f 43 with
    | true => exact qEntry_nat args K
    | false =>
    simp only [sel]
    rfl),
  (fun ρ f st caps args dst K r h => (by cases h))⟩
theorem hm : Try.prog.follows .mixedOrders = true := by kernel_rfl
theorem e0 : atomsL [] 1 c0 = [] := by kernel_rfl
theorem ok0 (ρ : Type) (st : St) (K : Exit → St → Option ρ) (r : ρ) (h : (L V0) ρ 0 st K = some r) : AW Try.prog (.loop c0) st fun e st' => K e st' = some r := by
  refine loop_ok (ct := ct0) (lv := lv0) (n := 27) (m := 0) (ks := []) (j := 0) (jn := []) (L := (L V0)) Gok hm (by rw [e0]; exact Lor.ok_nil _ _) enc0I (fun k t => F0 k t.1 t.2.1 t.2.2 (fun _ => K (.exit 0) (mkS 27 [] [] [] [])) (fun z1 => K .ret (mkS 27 [4] [.c (.n (.v (.bool z1)))] [] []))) (fun t => rfl) (fun k t => ?_) (fun _ => fuelN) h
  refine (step0 laws_eqName.Q V0 K _ t.1 t.2.1 t.2.2).trans ?_
  rw [laws_eqName.wrap]
  refine congrArg (fun W => B0 laws_eqName.F t.1 t.2.1 t.2.2 W (fun _ => K (.exit 0) (mkS 27 [] [] [] [])) (fun z1 => K .ret (mkS 27 [4] [.c (.n (.v (.bool z1)))] [] []))) ?_
  funext u1 u2 u3
  exact ofC_enc enc0I _ (u1, u2, u3)
theorem e : atomsL [] 0 (bodyOf Try.f13) = [(0, 0, .loop c0)] := by kernel_rfl
theorem acc (t : (Vec (ByteArray × Int × Int)) × (Vec (ByteArray × Int × Int))) (x : Bool) (h : F t.1 t.2 = some x) : ACc Try.prog 13 (encA t) [] true [] fun rv obs => (rv, obs) = encR x := by
  refine fun_okc (L := (L V0)) (jn := []) (cmds := []) (ks := []) (hin := []) (fn := Try.f13) (body := (bodyOf Try.f13)) Gok hm Try.func13 (by kernel_rfl) (by kernel_rfl) (by rw [e]; exact Lor.ok_cons ok0 (Lor.ok_nil _ _)) ?_ h
  refine (main laws_eqName.Q V0 _ t.1 t.2).trans ?_
  rw [V0_enc]
  refine congrArg (fun K => B (F0 fuelN) t.1 t.2 K) ?_
  funext x1
  exact ofC_enc encRI some (x1)
theorem ac0 (t : (Vec (ByteArray × Int × Int)) × (Vec (ByteArray × Int × Int))) (x : Bool) (h : F t.1 t.2 = some x) : AC Try.prog 13 (encA t) [] true [] fun rv obs => (rv, obs) = encR x := ACc.ac (body := bodyOf Try.f13) Try.func13 (by kernel_rfl) (by kernel_rfl) (acc t x h)
theorem ac (args : List AV) (x : Bool) (h : Q args = some x) : AC Try.prog 13 args [] false [] fun rv obs => (rv, obs) = encR x := by
  obtain ⟨t, rfl, h2⟩ := ofC_some h
  refine (ac0 t x h2).flat fun rv obs e => ?_
  obtain rfl : rv = (encR x).1 := congrArg Prod.fst e
  obtain rfl : obs = (encR x).2 := congrArg Prod.snd e
  refine ⟨by simp [encR, AV.Flat, K.Flat, C.Flat], ?_⟩
  simp [encR]
end laws_eqNameS
/-! loop.example/g00073/laws.markText -/
namespace laws_markText
noncomputable def B0 {ρ : Type} (v1 : Int) (v2 : ByteArray) (W : Int → ByteArray → Option ρ) (K0 : ByteArray → Option ρ) : Option ρ :=
  sel (decide ((0 : Int) < v1)) (chk (okBytes (Vec.lit [⟨(IntKind.wrap .u8 (wr ((48 : Int) + (Int.tmod v1 (10 : Int)))))⟩] : Vec (IK .u8))) (chk (decide ((toBytes (Vec.lit [⟨(IntKind.wrap .u8 (wr ((48 : Int) + (Int.tmod v1 (10 : Int)))))⟩] : Vec (IK .u8))).size + v2.size ≤ maxN)) (W (wr (Int.tdiv v1 (10 : Int))) ((toBytes (Vec.lit [⟨(IntKind.wrap .u8 (wr ((48 : Int) + (Int.tmod v1 (10 : Int)))))⟩] : Vec (IK .u8))) ++ v2)))) (K0 v2)
noncomputable def F0 {ρ : Type} : Nat → Int → ByteArray → (ByteArray → Option ρ) → Option ρ
  | 0, _, _, _ => none
  | k + 1, v1, v2, K0 => B0 v1 v2 (fun v1' v2' => F0 k v1' v2' K0) K0
noncomputable def B {ρ : Type} (L0 : Int → ByteArray → (ByteArray → Option ρ) → Option ρ) (a1 : Int) (K : ByteArray → Option ρ) : Option ρ :=
  sel (decide (a1 ≤ (0 : Int))) (K (ByteArray.mk #[109, 48])) (L0 a1 ByteArray.empty (fun e01 => chk (decide ((ByteArray.mk #[109]).size + e01.size ≤ maxN)) (K ((ByteArray.mk #[109]) ++ e01))))
noncomputable def F (a1 : Int) : Option ByteArray := B (F0 fuelN) a1 (fun x1 => some (x1))
def encA (t : Int) : List AV := [.c (.n (.v (.int .i64 t)))]
def encR (x : ByteArray) : AV × List Ob := (.c (.n (.v (.string x))), [])
theorem encAI : ∀ a b, encA a = encA b → a = b := by
  intro a b h
  simp [encA, encRw_iff] at h
  simp_all
theorem encRI : ∀ a b, encR a = encR b → a = b := by
  intro a b h
  simp [encR, encRw_iff] at h
  simp_all
noncomputable def Q (args : List AV) : Option ByteArray := ofC encA (fun t => F t) args
theorem wrap : (fun (y1 : Int) => Q [.c (.n (.v (.int .i64 y1)))]) = F := by
  funext y1
  exact ofC_enc encAI _ (y1)
noncomputable def G : Orc := ⟨fun f => 9, fun ρ f args K => Option.none, noE⟩
noncomputable def L (W0 : (ρ : Type) → List AV → List Ob → (ByteArray → Option ρ) → Option ρ) : Lor := fun ρ j st K => sel (Nat.beq j 0) (cutO Try.prog 20 [0, 3] 0 [] [] st fun avs obs => W0 ρ avs obs (fun z1 => K (.exit 0) (mkS 20 [3] [.c (.n (.v (.string z1)))] [] []))) (Option.none)
noncomputable def c0 : Code := loopC (atomN [] 0 (bodyOf Try.f44) 0)
def ct0 : Cut := ⟨[0, 3], []⟩
def lv0 : Exit → Cut
  | .exit 0 => ⟨[3], []⟩
  | _ => ⟨[], []⟩
theorem step0 (W0 : (ρ : Type) → List AV → List Ob → (ByteArray → Option ρ) → Option ρ) {ρ : Type} (K : Exit → St → Option ρ) (W : List AV → List Ob → Option ρ) (v1 : Int) (v2 : ByteArray) : exC Try.prog (G) (L W0) [] 1 c0 (mkS 20 [0, 3] [.c (.n (.v (.int .i64 v1))), .c (.n (.v (.string v2)))] [] []) (bodyK Try.prog 20 0 [] ct0 W lv0 K) =
    B0 v1 v2 (fun u1 u2 => W [.c (.n (.v (.int .i64 u1))), .c (.n (.v (.string u2)))] []) (fun z1 => K (.exit 0) (mkS 20 [3] [.c (.n (.v (.string z1)))] [] [])) := by kernel_rfl
def enc0 (t : Int × ByteArray) : List AV × List Ob := ([.c (.n (.v (.int .i64 t.1))), .c (.n (.v (.string t.2)))], [])
theorem enc0I : ∀ a b, enc0 a = enc0 b → a = b := by
  intro a b h
  obtain ⟨a0, a1⟩ := a
  obtain ⟨b0, b1⟩ := b
  simp [enc0, encRw_iff] at h
  simp_all
noncomputable def V0 : (ρ : Type) → List AV → List Ob → (ByteArray → Option ρ) → Option ρ := fun ρ avs obs k0 => ofC enc0 (fun t => F0 fuelN t.1 t.2 k0) (avs, obs)
theorem V0_enc (ρ : Type) : (fun w1 w2 k0 => V0 ρ [.c (.n (.v (.int .i64 w1))), .c (.n (.v (.string w2)))] [] k0) = F0 fuelN := by
  funext w1 w2 k0
  exact ofC_enc enc0I _ (w1, w2)
theorem main (W0 : (ρ : Type) → List AV → List Ob → (ByteArray → Option ρ) → Option ρ) {ρ : Type} (K : AV → List Ob → Option ρ) (a1 : Int) : exC Try.prog (G) (L W0) [] 0 (bodyOf Try.f44) (entry 20 [.c (.n (.v (.int .i64 a1)))] [] []) (finO Try.prog Try.f44.results.toList 0 [] [] K) =
    B (fun w1 w2 k0 => W0 ρ [.c (.n (.v (.int .i64 w1))), .c (.n (.v (.string w2)))] [] k0) a1 (fun x1 => K (.c (.n (.v (.string x1)))) []) := by kernel_rfl
theorem Gok : (G).ok Try.prog := ⟨(fun ρ f args K r h => (by cases h)),
  (fun ρ f args K => rfl),
  (fun ρ f st caps args dst K r h => (by cases h))⟩
theorem hm : Try.prog.follows .mixedOrders = true := by kernel_rfl
theorem e0 : atomsL [] 1 c0 = [] := by kernel_rfl
theorem ok0 (ρ : Type) (st : St) (K : Exit → St → Option ρ) (r : ρ) (h : (L V0) ρ 0 st K = some r) : AW Try.prog (.loop c0) st fun e st' => K e st' = some r := by
  refine loop_ok (ct := ct0) (lv := lv0) (n := 20) (m := 0) (ks := []) (j := 0) (jn := []) (L := (L V0)) Gok hm (by rw [e0]; exact Lor.ok_nil _ _) enc0I (fun k t => F0 k t.1 t.2 (fun z1 => K (.exit 0) (mkS 20 [3] [.c (.n (.v (.string z1)))] [] []))) (fun t => rfl) (fun k t => ?_) (fun _ => fuelN) h
  refine (step0 V0 K _ t.1 t.2).trans ?_
  refine congrArg (fun W => B0 t.1 t.2 W (fun z1 => K (.exit 0) (mkS 20 [3] [.c (.n (.v (.string z1)))] [] []))) ?_
  funext u1 u2
  exact ofC_enc enc0I _ (u1, u2)
theorem e : atomsL [] 0 (bodyOf Try.f44) = [(0, 0, .loop c0)] := by kernel_rfl
theorem acc (t : Int) (x : ByteArray) (h : F t = some x) : ACc Try.prog 44 (encA t) [] true [] fun rv obs => (rv, obs) = encR x := by
  refine fun_okc (L := (L V0)) (jn := []) (cmds := []) (ks := []) (hin := []) (fn := Try.f44) (body := (bodyOf Try.f44)) Gok hm Try.func44 (by kernel_rfl) (by kernel_rfl) (by rw [e]; exact Lor.ok_cons ok0 (Lor.ok_nil _ _)) ?_ h
  refine (main V0 _ t).trans ?_
  rw [V0_enc]
  refine congrArg (fun K => B (F0 fuelN) t K) ?_
  funext x1
  exact ofC_enc encRI some (x1)
theorem ac0 (t : Int) (x : ByteArray) (h : F t = some x) : AC Try.prog 44 (encA t) [] true [] fun rv obs => (rv, obs) = encR x := ACc.ac (body := bodyOf Try.f44) Try.func44 (by kernel_rfl) (by kernel_rfl) (acc t x h)
theorem ac (args : List AV) (x : ByteArray) (h : Q args = some x) : AC Try.prog 44 args [] false [] fun rv obs => (rv, obs) = encR x := by
  obtain ⟨t, rfl, h2⟩ := ofC_some h
  refine (ac0 t x h2).flat fun rv obs e => ?_
  obtain rfl : rv = (encR x).1 := congrArg Prod.fst e
  obtain rfl : obs = (encR x).2 := congrArg Prod.snd e
  refine ⟨by simp [encR, AV.Flat, K.Flat, C.Flat], ?_⟩
  simp [encR]
end laws_markText
/-! loop.example/g00073/laws.markNameS -/
namespace laws_markNameS_s0773
noncomputable def B0 {ρ : Type} (C_laws_markText : Int → Option ByteArray) (v1 : Int) (v2 : Int) (v3 : Vec (ByteArray × Int × Int)) (W : Int → Int → (Vec (ByteArray × Int × Int)) → Option ρ) (K0 : Int → (Vec (ByteArray × Int × Int)) → Option ρ) : Option ρ :=
  sel (decide (v2 < (v3.n : Int))) ((C_laws_markText v1).bind fun r1 => chk (decide (0 ≤ v2 ∧ v2 < (v3.n : Int))) (chk (decide (v2.toNat < v3.n)) (chk (decide (0 ≤ v2 ∧ v2 < ((Vec.set v3 v2.toNat (r1, (v3.g v2.toNat).2.1, (v3.g v2.toNat).2.2)).n : Int))) (chk (decide (v2.toNat < (Vec.set v3 v2.toNat (r1, (v3.g v2.toNat).2.1, (v3.g v2.toNat).2.2)).n)) (chk (decide (0 ≤ v2 ∧ v2 < ((Vec.set (Vec.set v3 v2.toNat (r1, (v3.g v2.toNat).2.1, (v3.g v2.toNat).2.2)) v2.toNat (((Vec.set v3 v2.toNat (r1, (v3.g v2.toNat).2.1, (v3.g v2.toNat).2.2)).g v2.toNat).1, (wr (v1 + (1 : Int))), ((Vec.set v3 v2.toNat (r1, (v3.g v2.toNat).2.1, (v3.g v2.toNat).2.2)).g v2.toNat).2.2)).n : Int))) (chk (decide (v2.toNat < (Vec.set (Vec.set v3 v2.toNat (r1, (v3.g v2.toNat).2.1, (v3.g v2.toNat).2.2)) v2.toNat (((Vec.set v3 v2.toNat (r1, (v3.g v2.toNat).2.1, (v3.g v2.toNat).2.2)).g v2.toNat).1, (wr (v1 + (1 : Int))), ((Vec.set v3 v2.toNat (r1, (v3.g v2.toNat).2.1, (v3.g v2.toNat).2.2)).g v2.toNat).2.2)).n)) (W (wr ((wr ((wr (v1 + (1 : Int))) + (1 : Int))) + (1 : Int))) (wr (v2 + (1 : Int))) (Vec.set (Vec.set (Vec.set v3 v2.toNat (r1, (v3.g v2.toNat).2.1, (v3.g v2.toNat).2.2)) v2.toNat (((Vec.set v3 v2.toNat (r1, (v3.g v2.toNat).2.1, (v3.g v2.toNat).2.2)).g v2.toNat).1, (wr (v1 + (1 : Int))), ((Vec.set v3 v2.toNat (r1, (v3.g v2.toNat).2.1, (v3.g v2.toNat).2.2)).g v2.toNat).2.2)) v2.toNat (((Vec.set (Vec.set v3 v2.toNat (r1, (v3.g v2.toNat).2.1, (v3.g v2.toNat).2.2)) v2.toNat (((Vec.set v3 v2.toNat (r1, (v3.g v2.toNat).2.1, (v3.g v2.toNat).2.2)).g v2.toNat).1, (wr (v1 + (1 : Int))), ((Vec.set v3 v2.toNat (r1, (v3.g v2.toNat).2.1, (v3.g v2.toNat).2.2)).g v2.toNat).2.2)).g v2.toNat).1, ((Vec.set (Vec.set v3 v2.toNat (r1, (v3.g v2.toNat).2.1, (v3.g v2.toNat).2.2)) v2.toNat (((Vec.set v3 v2.toNat (r1, (v3.g v2.toNat).2.1, (v3.g v2.toNat).2.2)).g v2.toNat).1, (wr (v1 + (1 : Int))), ((Vec.set v3 v2.toNat (r1, (v3.g v2.toNat).2.1, (v3.g v2.toNat).2.2)).g v2.toNat).2.2)).g v2.toNat).2.1, (wr ((wr (v1 + (1 : Int))) + (1 : Int)))))))))))) (K0 v1 v3)
noncomputable def F0 {ρ : Type} : Nat → Int → Int → (Vec (ByteArray × Int × Int)) → (Int → (Vec (ByteArray × Int × Int)) → Option ρ) → Option ρ
  | 0, _, _, _, _ => none
  | k + 1, v1, v2, v3, K0 => B0 laws_markText.F v1 v2 v3 (fun v1' v2' v3' => F0 k v1' v2' v3' K0) K0
noncomputable def B {ρ : Type} (L0 : Int → Int → (Vec (ByteArray × Int × Int)) → (Int → (Vec (ByteArray × Int × Int)) → Option ρ) → Option ρ) (a1 : Int) (a2 : Vec (ByteArray × Int × Int)) (K : Int → (Vec (ByteArray × Int × Int)) → Option ρ) : Option ρ :=
  L0 a1 (0 : Int) a2 (fun e01 e02 => K e01 e02)
noncomputable def F (a1 : Int) (a2 : Vec (ByteArray × Int × Int)) : Option (Int × (Vec (ByteArray × Int × Int))) := B (F0 fuelN) a1 a2 (fun x1 x2 => some (x1, x2))
def encA (t : Int × (Vec (ByteArray × Int × Int))) : List AV × List Ob := ([.c (.h 0), .c (.n (.v (.int .i64 t.1)))], [.row 3 (encRw t.2) []])
def encR (x : Int × (Vec (ByteArray × Int × Int))) : AV × List Ob := (.c (.n (.v (.int .i64 x.1))), [.row 3 (encRw x.2) []])
theorem encAI : ∀ a b, encA a = encA b → a = b := by
  intro a b h
  obtain ⟨a0, a1⟩ := a
  obtain ⟨b0, b1⟩ := b
  simp [encA, encRw_iff] at h
  simp_all
theorem encRI : ∀ a b, encR a = encR b → a = b := by
  intro a b h
  obtain ⟨a0, a1⟩ := a
  obtain ⟨b0, b1⟩ := b
  simp [encR, encRw_iff] at h
  simp_all
noncomputable def Q (args : List AV) (hin : List Ob) : Option (Int × (Vec (ByteArray × Int × Int))) := ofC encA (fun t => F t.1 t.2) (args, hin)
theorem wrap : (fun (y1 : Int) (y2 : Vec (ByteArray × Int × Int)) => Q [.c (.h 0), .c (.n (.v (.int .i64 y1)))] [.row 3 (encRw y2) []]) = F := by
  funext y1 y2
  exact ofC_enc encAI _ (y1, y2)
noncomputable def G (q_laws_markText : List AV → Option ByteArray) : Orc := ⟨fun f => sel (Nat.beq f 44) 0 (9), fun ρ f args K => sel (Nat.beq f 44) (qEntry laws_markText.encR q_laws_markText args K) (Option.none), noE⟩
noncomputable def L (W0 : (ρ : Type) → List AV → List Ob → (Int → (Vec (ByteArray × Int × Int)) → Option ρ) → Option ρ) : Lor := fun ρ j st K => sel (Nat.beq j 0) (cutO Try.prog 35 [0, 1, 5] 1 [true] [] st fun avs obs => W0 ρ avs obs (fun z1 z2 => K (.exit 0) (mkS 35 [1] [.c (.n (.v (.int .i64 z1)))] [.row 3 (encRw z2) []] [true]))) (Option.none)
noncomputable def c0 : Code := loopC (atomN [] 0 (bodyOf Try.f14) 0)
def ct0 : Cut := ⟨[0, 1, 5], []⟩
def lv0 : Exit → Cut
  | .exit 0 => ⟨[1], []⟩
  | _ => ⟨[], []⟩
theorem step0 (q_laws_markText : List AV → Option ByteArray) (W0 : (ρ : Type) → List AV → List Ob → (Int → (Vec (ByteArray × Int × Int)) → Option ρ) → Option ρ) {ρ : Type} (K : Exit → St → Option ρ) (W : List AV → List Ob → Option ρ) (v1 : Int) (v2 : Int) (v3 : Vec (ByteArray × Int × Int)) : exC Try.prog (G q_laws_markText) (L W0) [] 1 c0 (mkS 35 [0, 1, 5] [.c (.h 0), .c (.n (.v (.int .i64 v1))), .c (.n (.v (.int .i64 v2)))] [.row 3 (encRw v3) []] [true]) (bodyK Try.prog 35 1 [true] ct0 W lv0 K) =
    B0 (fun y1 => q_laws_markText [.c (.n (.v (.int .i64 y1)))]) v1 v2 v3 (fun u1 u2 u3 => W [.c (.h 0), .c (.n (.v (.int .i64 u1))), .c (.n (.v (.int .i64 u2)))] [.row 3 (encRw u3) []]) (fun z1 z2 => K (.exit 0) (mkS 35 [1] [.c (.n (.v (.int .i64 z1)))] [.row 3 (encRw z2) []] [true])) := by kernel_rfl
def enc0 (t : Int × Int × (Vec (ByteArray × Int × Int))) : List AV × List Ob := ([.c (.h 0), .c (.n (.v (.int .i64 t.1))), .c (.n (.v (.int .i64 t.2.1)))], [.row 3 (encRw t.2.2) []])
theorem enc0I : ∀ a b, enc0 a = enc0 b → a = b := by
  intro a b h
  obtain ⟨a0, a1, a2⟩ := a
  obtain ⟨b0, b1, b2⟩ := b
  simp [enc0, encRw_iff] at h
  simp_all
noncomputable def V0 : (ρ : Type) → List AV → List Ob → (Int → (Vec (ByteArray × Int × Int)) → Option ρ) → Option ρ := fun ρ avs obs k0 => ofC enc0 (fun t => F0 fuelN t.1 t.2.1 t.2.2 k0) (avs, obs)
theorem V0_enc (ρ : Type) : (fun w1 w2 w3 k0 => V0 ρ [.c (.h 0), .c (.n (.v (.int .i64 w1))), .c (.n (.v (.int .i64 w2)))] [.row 3 (encRw w3) []] k0) = F0 fuelN := by
  funext w1 w2 w3 k0
  exact ofC_enc enc0I _ (w1, w2, w3)
theorem main (q_laws_markText : List AV → Option ByteArray) (W0 : (ρ : Type) → List AV → List Ob → (Int → (Vec (ByteArray × Int × Int)) → Option ρ) → Option ρ) {ρ : Type} (K : AV → List Ob → Option ρ) (a1 : Int) (a2 : Vec (ByteArray × Int × Int)) : exC Try.prog (G q_laws_markText) (L W0) [] 0 (bodyOf Try.f14) (entry 35 [.c (.h 0), .c (.n (.v (.int .i64 a1)))] [.row 3 (encRw a2) []] [true]) (finO Try.prog Try.f14.results.toList 1 [true] [] K) =
    B (fun w1 w2 w3 k0 => W0 ρ [.c (.h 0), .c (.n (.v (.int .i64 w1))), .c (.n (.v (.int .i64 w2)))] [.row 3 (encRw w3) []] k0) a1 a2 (fun x1 x2 => K (.c (.n (.v (.int .i64 x1)))) [.row 3 (encRw x2) []]) := by kernel_rfl
theorem Gok : (G laws_markText.Q).ok Try.prog := ⟨(by
    intro ρ f args K r h
    rcases sel_cases h with ⟨hb, h⟩ | ⟨-, h⟩
    · obtain rfl := beq_nat hb
      exact qEntry_ok laws_markText.ac h
    cases h),
  (by
    intro ρ f args K
    simp only [G]
    cases Nat.beq f 44 with
    | true => exact qEntry_nat args K
    | false =>
    simp only [sel]
    rfl),
  (fun ρ f st caps args dst K r h => (by cases h))⟩
theorem hm : Try.prog.follows .mixedOrders = true := by kernel_rfl
theorem e0 : atomsL [] 1 c0 = [] := by kernel_rfl
theorem ok0 (ρ : Type) (st : St) (K : Exit → St → Option ρ) (r : ρ) (h : (L V0) ρ 0 st K = some r) : AW Try.prog (.loop c0) st fun e st' => K e st' = some r := by
  refine loop_ok (ct := ct0) (lv := lv0) (n := 35) (m := 1) (ks := [true]) (j := 0) (jn := []) (L := (L V0)) Gok hm (by rw [e0]; exact Lor.ok_nil _ _) enc0I (fun k t => F0 k t.1 t.2.1 t.2.2 (fun z1 z2 => K (.exit 0) (mkS 35 [1] [.c (.n (.v (.int .i64 z1)))] [.row 3 (encRw z2) []] [true]))) (fun t => rfl) (fun k t => ?_) (fun _ => fuelN) h
  refine (step0 laws_markText.Q V0 K _ t.1 t.2.1 t.2.2).trans ?_
  rw [laws_markText.wrap]
  refine congrArg (fun W => B0 laws_markText.F t.1 t.2.1 t.2.2 W (fun z1 z2 => K (.exit 0) (mkS 35 [1] [.c (.n (.v (.int .i64 z1)))] [.row 3 (encRw z2) []] [true]))) ?_
  funext u1 u2 u3
  exact ofC_enc enc0I _ (u1, u2, u3)
theorem e : atomsL [] 0 (bodyOf Try.f14) = [(0, 0, .loop c0)] := by kernel_rfl
theorem acc (t : Int × (Vec (ByteArray × Int × Int))) (x : Int × (Vec (ByteArray × Int × Int))) (h : F t.1 t.2 = some x) : ACc Try.prog 14 (encA t).1 (encA t).2 true [true] fun rv obs => (rv, obs) = encR x := by
  refine fun_okc (L := (L V0)) (jn := []) (cmds := []) (ks := [true]) (hin := (encA t).2) (fn := Try.f14) (body := (bodyOf Try.f14)) Gok hm Try.func14 (by kernel_rfl) (by kernel_rfl) (by rw [e]; exact Lor.ok_cons ok0 (Lor.ok_nil _ _)) ?_ h
  refine (main laws_markText.Q V0 _ t.1 t.2).trans ?_
  rw [V0_enc]
  refine congrArg (fun K => B (F0 fuelN) t.1 t.2 K) ?_
  funext x1 x2
  exact ofC_enc encRI some (x1, x2)
theorem ac0 (t : Int × (Vec (ByteArray × Int × Int))) (x : Int × (Vec (ByteArray × Int × Int))) (h : F t.1 t.2 = some x) : AC Try.prog 14 (encA t).1 (encA t).2 true [true] fun rv obs => (rv, obs) = encR x := ACc.ac (body := bodyOf Try.f14) Try.func14 (by kernel_rfl) (by kernel_rfl) (acc t x h)
theorem ac (args : List AV) (hin : List Ob) (x : Int × (Vec (ByteArray × Int × Int))) (h : Q args hin = some x) : AC Try.prog 14 args hin false [true] fun rv obs => (rv, obs) = encR x := by
  obtain ⟨t, he, h2⟩ := ofC_some h
  obtain rfl : args = (encA t).1 := (congrArg Prod.fst he).symm
  obtain rfl : hin = (encA t).2 := (congrArg Prod.snd he).symm
  refine (ac0 t x h2).flat fun rv obs e => ?_
  obtain rfl : rv = (encR x).1 := congrArg Prod.fst e
  obtain rfl : obs = (encR x).2 := congrArg Prod.snd e
  refine ⟨by simp [encR, AV.Flat, K.Flat, C.Flat], ?_⟩
  intro o ho
  simp only [encR, List.mem_cons, List.not_mem_nil, or_false] at ho
  subst ho
  exact flat_rw rfl _
end laws_markNameS_s0773
/-! loop.example/g00073/laws.heldNameS -/
namespace laws_heldNameS
noncomputable def B0 {ρ : Type} (C_laws_markText : Int → Option ByteArray) (v1 : Vec (ByteArray × Int × Int)) (v2 : Int) (v3 : Int) (W : (Vec (ByteArray × Int × Int)) → Int → Int → Option ρ) (K0 : Int → Option ρ) (Kr : Int → Option ρ) : Option ρ :=
  sel (decide (v3 < (v1.n : Int))) (chk (decide (0 ≤ v3 ∧ v3 < (v1.n : Int))) ((C_laws_markText v2).bind fun r1 => sel ((!decide ((v1.g v3.toNat).1 = r1))) (Kr (-1 : Int)) (chk (decide (0 ≤ v3 ∧ v3 < (v1.n : Int))) (sel ((!decide ((v1.g v3.toNat).2.1 = (wr (v2 + (1 : Int)))))) (Kr (-1 : Int)) (chk (decide (0 ≤ v3 ∧ v3 < (v1.n : Int))) (sel ((!decide ((v1.g v3.toNat).2.2 = (wr ((wr (v2 + (1 : Int))) + (1 : Int)))))) (Kr (-1 : Int)) (W v1 (wr ((wr ((wr (v2 + (1 : Int))) + (1 : Int))) + (1 : Int))) (wr (v3 + (1 : Int)))))))))) (K0 v2)
noncomputable def F0 {ρ : Type} : Nat → (Vec (ByteArray × Int × Int)) → Int → Int → (Int → Option ρ) → (Int → Option ρ) → Option ρ
  | 0, _, _, _, _, _ => none
  | k + 1, v1, v2, v3, K0, Kr => B0 laws_markText.F v1 v2 v3 (fun v1' v2' v3' => F0 k v1' v2' v3' K0 Kr) K0 Kr
noncomputable def B {ρ : Type} (L0 : (Vec (ByteArray × Int × Int)) → Int → Int → (Int → Option ρ) → (Int → Option ρ) → Option ρ) (a1 : Vec (ByteArray × Int × Int)) (a2 : Int) (K : Int → Option ρ) : Option ρ :=
  L0 a1 a2 (0 : Int) (fun e01 => K e01) (fun x01 => K x01)
noncomputable def F (a1 : Vec (ByteArray × Int × Int)) (a2 : Int) : Option Int := B (F0 fuelN) a1 a2 (fun x1 => some (x1))
def encA (t : (Vec (ByteArray × Int × Int)) × Int) : List AV := [.c (.n (.sl 3 (encRw t.1))), .c (.n (.v (.int .i64 t.2)))]
def encR (x : Int) : AV × List Ob := (.c (.n (.v (.int .i64 x))), [])
theorem encAI : ∀ a b, encA a = encA b → a = b := by
  intro a b h
  obtain ⟨a0, a1⟩ := a
  obtain ⟨b0, b1⟩ := b
  simp [encA, encRw_iff] at h
  simp_all
theorem encRI : ∀ a b, encR a = encR b → a = b := by
  intro a b h
  simp [encR, encRw_iff] at h
  simp_all
noncomputable def Q (args : List AV) : Option Int := ofC encA (fun t => F t.1 t.2) args
theorem wrap : (fun (y1 : Vec (ByteArray × Int × Int)) (y2 : Int) => Q [.c (.n (.sl 3 (encRw y1))), .c (.n (.v (.int .i64 y2)))]) = F := by
  funext y1 y2
  exact ofC_enc encAI _ (y1, y2)
noncomputable def G (q_laws_markText : List AV → Option ByteArray) : Orc := ⟨fun f => sel (Nat.beq f 44) 0 (9), fun ρ f args K => sel (Nat.beq f 44) (qEntry laws_markText.encR q_laws_markText args K) (Option.none), noE⟩
noncomputable def L (W0 : (ρ : Type) → List AV → List Ob → (Int → Option ρ) → (Int → Option ρ) → Option ρ) : Lor := fun ρ j st K => sel (Nat.beq j 0) (cutO Try.prog 41 [0, 1, 5] 0 [] [] st fun avs obs => W0 ρ avs obs (fun z1 => K (.exit 0) (mkS 41 [1] [.c (.n (.v (.int .i64 z1)))] [] [])) (fun z1 => K .ret (mkS 41 [4] [.c (.n (.v (.int .i64 z1)))] [] []))) (Option.none)
noncomputable def c0 : Code := loopC (atomN [] 0 (bodyOf Try.f15) 0)
def ct0 : Cut := ⟨[0, 1, 5], []⟩
def lv0 : Exit → Cut
  | .exit 0 => ⟨[1], []⟩
  | .ret => ⟨[4], []⟩
  | _ => ⟨[], []⟩
theorem step0 (q_laws_markText : List AV → Option ByteArray) (W0 : (ρ : Type) → List AV → List Ob → (Int → Option ρ) → (Int → Option ρ) → Option ρ) {ρ : Type} (K : Exit → St → Option ρ) (W : List AV → List Ob → Option ρ) (v1 : Vec (ByteArray × Int × Int)) (v2 : Int) (v3 : Int) : exC Try.prog (G q_laws_markText) (L W0) [] 1 c0 (mkS 41 [0, 1, 5] [.c (.n (.sl 3 (encRw v1))), .c (.n (.v (.int .i64 v2))), .c (.n (.v (.int .i64 v3)))] [] []) (bodyK Try.prog 41 0 [] ct0 W lv0 K) =
    B0 (fun y1 => q_laws_markText [.c (.n (.v (.int .i64 y1)))]) v1 v2 v3 (fun u1 u2 u3 => W [.c (.n (.sl 3 (encRw u1))), .c (.n (.v (.int .i64 u2))), .c (.n (.v (.int .i64 u3)))] []) (fun z1 => K (.exit 0) (mkS 41 [1] [.c (.n (.v (.int .i64 z1)))] [] [])) (fun z1 => K .ret (mkS 41 [4] [.c (.n (.v (.int .i64 z1)))] [] [])) := by kernel_rfl
def enc0 (t : (Vec (ByteArray × Int × Int)) × Int × Int) : List AV × List Ob := ([.c (.n (.sl 3 (encRw t.1))), .c (.n (.v (.int .i64 t.2.1))), .c (.n (.v (.int .i64 t.2.2)))], [])
theorem enc0I : ∀ a b, enc0 a = enc0 b → a = b := by
  intro a b h
  obtain ⟨a0, a1, a2⟩ := a
  obtain ⟨b0, b1, b2⟩ := b
  simp [enc0, encRw_iff] at h
  simp_all
noncomputable def V0 : (ρ : Type) → List AV → List Ob → (Int → Option ρ) → (Int → Option ρ) → Option ρ := fun ρ avs obs k0 kr => ofC enc0 (fun t => F0 fuelN t.1 t.2.1 t.2.2 k0 kr) (avs, obs)
theorem V0_enc (ρ : Type) : (fun w1 w2 w3 k0 kr => V0 ρ [.c (.n (.sl 3 (encRw w1))), .c (.n (.v (.int .i64 w2))), .c (.n (.v (.int .i64 w3)))] [] k0 kr) = F0 fuelN := by
  funext w1 w2 w3 k0 kr
  exact ofC_enc enc0I _ (w1, w2, w3)
theorem main (q_laws_markText : List AV → Option ByteArray) (W0 : (ρ : Type) → List AV → List Ob → (Int → Option ρ) → (Int → Option ρ) → Option ρ) {ρ : Type} (K : AV → List Ob → Option ρ) (a1 : Vec (ByteArray × Int × Int)) (a2 : Int) : exC Try.prog (G q_laws_markText) (L W0) [] 0 (bodyOf Try.f15) (entry 41 [.c (.n (.sl 3 (encRw a1))), .c (.n (.v (.int .i64 a2)))] [] []) (finO Try.prog Try.f15.results.toList 0 [] [] K) =
    B (fun w1 w2 w3 k0 kr => W0 ρ [.c (.n (.sl 3 (encRw w1))), .c (.n (.v (.int .i64 w2))), .c (.n (.v (.int .i64 w3)))] [] k0 kr) a1 a2 (fun x1 => K (.c (.n (.v (.int .i64 x1)))) []) := by kernel_rfl
theorem Gok : (G laws_markText.Q).ok Try.prog := ⟨(by
    intro ρ f args K r h
    rcases sel_cases h with ⟨hb, h⟩ | ⟨-, h⟩
    · obtain rfl := beq_nat hb
      exact qEntry_ok laws_markText.ac h
    cases h),
  (by
    intro ρ f args K
    simp only [G]
    cases Nat.beq f 44 with
    | true => exact qEntry_nat args K
    | false =>
    simp only [sel]
    rfl),
  (fun ρ f st caps args dst K r h => (by cases h))⟩
theorem hm : Try.prog.follows .mixedOrders = true := by kernel_rfl
theorem e0 : atomsL [] 1 c0 = [] := by kernel_rfl
theorem ok0 (ρ : Type) (st : St) (K : Exit → St → Option ρ) (r : ρ) (h : (L V0) ρ 0 st K = some r) : AW Try.prog (.loop c0) st fun e st' => K e st' = some r := by
  refine loop_ok (ct := ct0) (lv := lv0) (n := 41) (m := 0) (ks := []) (j := 0) (jn := []) (L := (L V0)) Gok hm (by rw [e0]; exact Lor.ok_nil _ _) enc0I (fun k t => F0 k t.1 t.2.1 t.2.2 (fun z1 => K (.exit 0) (mkS 41 [1] [.c (.n (.v (.int .i64 z1)))] [] [])) (fun z1 => K .ret (mkS 41 [4] [.c (.n (.v (.int .i64 z1)))] [] []))) (fun t => rfl) (fun k t => ?_) (fun _ => fuelN) h
  refine (step0 laws_markText.Q V0 K _ t.1 t.2.1 t.2.2).trans ?_
  rw [laws_markText.wrap]
  refine congrArg (fun W => B0 laws_markText.F t.1 t.2.1 t.2.2 W (fun z1 => K (.exit 0) (mkS 41 [1] [.c (.n (.v (.int .i64 z1)))] [] [])) (fun z1 => K .ret (mkS 41 [4] [.c (.n (.v (.int .i64 z1)))] [] []))) ?_
  funext u1 u2 u3
  exact ofC_enc enc0I _ (u1, u2, u3)
theorem e : atomsL [] 0 (bodyOf Try.f15) = [(0, 0, .loop c0)] := by kernel_rfl
theorem acc (t : (Vec (ByteArray × Int × Int)) × Int) (x : Int) (h : F t.1 t.2 = some x) : ACc Try.prog 15 (encA t) [] true [] fun rv obs => (rv, obs) = encR x := by
  refine fun_okc (L := (L V0)) (jn := []) (cmds := []) (ks := []) (hin := []) (fn := Try.f15) (body := (bodyOf Try.f15)) Gok hm Try.func15 (by kernel_rfl) (by kernel_rfl) (by rw [e]; exact Lor.ok_cons ok0 (Lor.ok_nil _ _)) ?_ h
  refine (main laws_markText.Q V0 _ t.1 t.2).trans ?_
  rw [V0_enc]
  refine congrArg (fun K => B (F0 fuelN) t.1 t.2 K) ?_
  funext x1
  exact ofC_enc encRI some (x1)
theorem ac0 (t : (Vec (ByteArray × Int × Int)) × Int) (x : Int) (h : F t.1 t.2 = some x) : AC Try.prog 15 (encA t) [] true [] fun rv obs => (rv, obs) = encR x := ACc.ac (body := bodyOf Try.f15) Try.func15 (by kernel_rfl) (by kernel_rfl) (acc t x h)
theorem ac (args : List AV) (x : Int) (h : Q args = some x) : AC Try.prog 15 args [] false [] fun rv obs => (rv, obs) = encR x := by
  obtain ⟨t, rfl, h2⟩ := ofC_some h
  refine (ac0 t x h2).flat fun rv obs e => ?_
  obtain rfl : rv = (encR x).1 := congrArg Prod.fst e
  obtain rfl : obs = (encR x).2 := congrArg Prod.snd e
  refine ⟨by simp [encR, AV.Flat, K.Flat, C.Flat], ?_⟩
  simp [encR]
end laws_heldNameS
/-! loop.example/g00073/laws.FnExactCutName -/
namespace laws_FnExactCutName
noncomputable def B {ρ : Type} (C_laws_szNameS : (Vec (ByteArray × Int × Int)) → Int → Option Int) (C_laws_toNameS : (Vec (ByteArray × Int × Int)) → Option (Vec (ByteArray × Int × Int))) (C_spec_CutName : (Vec (ByteArray × Int × Int)) → ByteArray → Option (Bool × (Vec (ByteArray × Int × Int)))) (C_impl_CutName : (Vec (ByteArray × Int × Int)) → ByteArray → Option (Bool × (Vec (ByteArray × Int × Int)))) (C_laws_eqNameS : (Vec (ByteArray × Int × Int)) → (Vec (ByteArray × Int × Int)) → Option Bool) (C_laws_markNameS_s0773 : Int → (Vec (ByteArray × Int × Int)) → Option (Int × (Vec (ByteArray × Int × Int)))) (C_laws_heldNameS : (Vec (ByteArray × Int × Int)) → Int → Option Int) (a1 : Vec (ByteArray × Int × Int)) (a2 : ByteArray) (K : Bool → Option ρ) : Option ρ :=
  sel (decide ((1048576 : Int) < (a2.size : Int))) (K true) ((C_laws_szNameS a1 (1048576 : Int)).bind fun r1 => sel (decide (r1 < (0 : Int))) (K true) ((C_laws_toNameS a1).bind fun r2 => (C_spec_CutName r2 a2).bind fun r3 => (C_laws_toNameS a1).bind fun r4 => (C_impl_CutName r4 a2).bind fun r5 => (C_laws_eqNameS r5.2 r3.2).bind fun r6 => sel ((!r6)) (K false) (sel ((!(r5.1 == r3.1))) (K false) ((C_laws_toNameS a1).bind fun r7 => (C_laws_eqNameS r4 r7).bind fun r8 => sel ((!r8)) (K false) ((C_laws_markNameS_s0773 (1 : Int) r4).bind fun r9 => sel (decide (r9.1 < (0 : Int))) (K false) ((C_laws_eqNameS r5.2 r3.2).bind fun r10 => sel ((!r10)) (K false) (sel ((!(r5.1 == r3.1))) (K false) ((C_laws_markNameS_s0773 (1 : Int) r5.2).bind fun r11 => (C_laws_heldNameS r11.2 (1 : Int)).bind fun r12 => sel (decide (r12 < (0 : Int))) (K false) (sel ((!decide (r12 = r11.1))) (K false) ((C_laws_toNameS a1).bind fun r13 => (C_impl_CutName r13 a2).bind fun r14 => (C_laws_eqNameS r14.2 r3.2).bind fun r15 => sel ((!r15)) (K false) (sel ((!(r14.1 == r3.1))) (K false) ((C_laws_heldNameS r11.2 (1 : Int)).bind fun r16 => sel (decide (r16 < (0 : Int))) (K false) (sel ((!decide (r16 = r11.1))) (K false) (K true))))))))))))))
noncomputable def F (a1 : Vec (ByteArray × Int × Int)) (a2 : ByteArray) : Option Bool := B laws_szNameS.F laws_toNameS.F spec_CutName.F impl_CutName.F laws_eqNameS.F laws_markNameS_s0773.F laws_heldNameS.F a1 a2 (fun x1 => some (x1))
def encA (t : (Vec (ByteArray × Int × Int)) × ByteArray) : List AV := [.c (.n (.sl 3 (encRw t.1))), .c (.n (.v (.string t.2)))]
def encR (x : Bool) : AV × List Ob := (.c (.n (.v (.bool x))), [])
theorem encAI : ∀ a b, encA a = encA b → a = b := by
  intro a b h
  obtain ⟨a0, a1⟩ := a
  obtain ⟨b0, b1⟩ := b
  simp [encA, encRw_iff] at h
  simp_all
theorem encRI : ∀ a b, encR a = encR b → a = b := by
  intro a b h
  simp [encR, encRw_iff] at h
  simp_all
noncomputable def Q (args : List AV) : Option Bool := ofC encA (fun t => F t.1 t.2) args
theorem wrap : (fun (y1 : Vec (ByteArray × Int × Int)) (y2 : ByteArray) => Q [.c (.n (.sl 3 (encRw y1))), .c (.n (.v (.string y2)))]) = F := by
  funext y1 y2
  exact ofC_enc encAI _ (y1, y2)
noncomputable def G (q_laws_szNameS : List AV → Option Int) (q_laws_toNameS : List AV → Option (Vec (ByteArray × Int × Int))) (q_spec_CutName : List AV → Option (Bool × (Vec (ByteArray × Int × Int)))) (q_impl_CutName : List AV → Option (Bool × (Vec (ByteArray × Int × Int)))) (q_laws_eqNameS : List AV → Option Bool) (q_laws_markNameS_s0773 : List AV → List Ob → Option (Int × (Vec (ByteArray × Int × Int)))) (q_laws_heldNameS : List AV → Option Int) : Orc := ⟨fun f => sel (Nat.beq f 9) 0 (sel (Nat.beq f 11) 0 (sel (Nat.beq f 10) 0 (sel (Nat.beq f 12) 0 (sel (Nat.beq f 13) 0 (sel (Nat.beq f 15) 0 (9)))))), fun ρ f args K => sel (Nat.beq f 9) (qEntry laws_szNameS.encR q_laws_szNameS args K) (sel (Nat.beq f 11) (qEntry laws_toNameS.encR q_laws_toNameS args K) (sel (Nat.beq f 10) (qEntry spec_CutName.encR q_spec_CutName args K) (sel (Nat.beq f 12) (qEntry impl_CutName.encR q_impl_CutName args K) (sel (Nat.beq f 13) (qEntry laws_eqNameS.encR q_laws_eqNameS args K) (sel (Nat.beq f 15) (qEntry laws_heldNameS.encR q_laws_heldNameS args K) (Option.none)))))), fun ρ f st args dst K => sel (Nat.beq f 14) (callE Try.prog 14 [true, false] false [true] laws_markNameS_s0773.encR q_laws_markNameS_s0773 st args dst K) (Option.none)⟩
noncomputable def L : Lor := fun ρ j st K => Option.none
theorem main (q_laws_szNameS : List AV → Option Int) (q_laws_toNameS : List AV → Option (Vec (ByteArray × Int × Int))) (q_spec_CutName : List AV → Option (Bool × (Vec (ByteArray × Int × Int)))) (q_impl_CutName : List AV → Option (Bool × (Vec (ByteArray × Int × Int)))) (q_laws_eqNameS : List AV → Option Bool) (q_laws_markNameS_s0773 : List AV → List Ob → Option (Int × (Vec (ByteArray × Int × Int)))) (q_laws_heldNameS : List AV → Option Int) {ρ : Type} (K : AV → List Ob → Option ρ) (a1 : Vec (ByteArray × Int × Int)) (a2 : ByteArray) : exC Try.prog (G q_laws_szNameS q_laws_toNameS q_spec_CutName q_impl_CutName q_laws_eqNameS q_laws_markNameS_s0773 q_laws_heldNameS) (L) [] 0 (bodyOf Try.f3) (entry 104 [.c (.n (.sl 3 (encRw a1))), .c (.n (.v (.string a2)))] [] []) (finO Try.prog Try.f3.results.toList 0 [] [] K) =
    B (fun y1 y2 => q_laws_szNameS [.c (.n (.sl 3 (encRw y1))), .c (.n (.v (.int .i64 y2)))]) (fun y1 => q_laws_toNameS [.c (.n (.sl 3 (encRw y1)))]) (fun y1 y2 => q_spec_CutName [.c (.n (.sl 3 (encRw y1))), .c (.n (.v (.string y2)))]) (fun y1 y2 => q_impl_CutName [.c (.n (.sl 3 (encRw y1))), .c (.n (.v (.string y2)))]) (fun y1 y2 => q_laws_eqNameS [.c (.n (.sl 3 (encRw y1))), .c (.n (.sl 3 (encRw y2)))]) (fun y1 y2 => q_laws_markNameS_s0773 [.c (.h 0), .c (.n (.v (.int .i64 y1)))] [.row 3 (encRw y2) []]) (fun y1 y2 => q_laws_heldNameS [.c (.n (.sl 3 (encRw y1))), .c (.n (.v (.int .i64 y2)))]) a1 a2 (fun x1 => K (.c (.n (.v (.bool x1)))) []) := by kernel_rfl
theorem Gok : (G laws_szNameS.Q laws_toNameS.Q spec_CutName.Q impl_CutName.Q laws_eqNameS.Q laws_markNameS_s0773.Q laws_heldNameS.Q).ok Try.prog := ⟨(by
    intro ρ f args K r h
    rcases sel_cases h with ⟨hb, h⟩ | ⟨-, h⟩
    · obtain rfl := beq_nat hb
      exact qEntry_ok laws_szNameS.ac h
    rcases sel_cases h with ⟨hb, h⟩ | ⟨-, h⟩
    · obtain rfl := beq_nat hb
      exact qEntry_ok laws_toNameS.ac h
    rcases sel_cases h with ⟨hb, h⟩ | ⟨-, h⟩
    · obtain rfl := beq_nat hb
      exact qEntry_ok spec_CutName.ac h
    rcases sel_cases h with ⟨hb, h⟩ | ⟨-, h⟩
    · obtain rfl := beq_nat hb
      exact qEntry_ok impl_CutName.ac h
    rcases sel_cases h with ⟨hb, h⟩ | ⟨-, h⟩
    · obtain rfl := beq_nat hb
      exact qEntry_ok laws_eqNameS.ac h
    rcases sel_cases h with ⟨hb, h⟩ | ⟨-, h⟩
    · obtain rfl := beq_nat hb
      exact qEntry_ok laws_heldNameS.ac h
    cases h),
  (by
    intro ρ f args K
    simp only [G]
    cases Nat.beq f 9 with
    | true => exact qEntry_nat args K
    | false =>
    simp only [sel]
    cases Nat.beq f 11 with
    | true => exact qEntry_nat args K
    | false =>
    simp only [sel]
    cases Nat.beq f 10 with
    | true => exact qEntry_nat args K
    | false =>
    simp only [sel]
    cases Nat.beq f 12 with
    | true => exact qEntry_nat args K
    | false =>
    simp only [sel]
    cases Nat.beq f 13 with
    | true => exact qEntry_nat args K
    | false =>
    simp only [sel]
    cases Nat.beq f 15 with
    | true => exact qEntry_nat args K
    | false =>
    simp only [sel]
    rfl),
  (by
    intro ρ f st caps args dst K r h
    rcases sel_cases h with ⟨hb, h⟩ | ⟨-, h⟩
    · obtain rfl := beq_nat hb
      exact callE_ok (fun h => by cases h) laws_markNameS_s0773.ac h
    cases h)⟩
theorem hm : Try.prog.follows .mixedOrders = true := by kernel_rfl
theorem e : atomsL [] 0 (bodyOf Try.f3) = [] := by kernel_rfl
theorem acc (t : (Vec (ByteArray × Int × Int)) × ByteArray) (x : Bool) (h : F t.1 t.2 = some x) : ACc Try.prog 3 (encA t) [] true [] fun rv obs => (rv, obs) = encR x := by
  refine fun_okc (L := (L)) (jn := []) (cmds := []) (ks := []) (hin := []) (fn := Try.f3) (body := (bodyOf Try.f3)) Gok hm Try.func3 (by kernel_rfl) (by kernel_rfl) (by rw [e]; exact Lor.ok_nil _ _) ?_ h
  refine (main laws_szNameS.Q laws_toNameS.Q spec_CutName.Q impl_CutName.Q laws_eqNameS.Q laws_markNameS_s0773.Q laws_heldNameS.Q _ t.1 t.2).trans ?_
  rw [laws_szNameS.wrap, laws_toNameS.wrap, spec_CutName.wrap, impl_CutName.wrap, laws_eqNameS.wrap, laws_markNameS_s0773.wrap, laws_heldNameS.wrap]
  refine congrArg (fun K => B laws_szNameS.F laws_toNameS.F spec_CutName.F impl_CutName.F laws_eqNameS.F laws_markNameS_s0773.F laws_heldNameS.F t.1 t.2 K) ?_
  funext x1
  exact ofC_enc encRI some (x1)
theorem ac0 (t : (Vec (ByteArray × Int × Int)) × ByteArray) (x : Bool) (h : F t.1 t.2 = some x) : AC Try.prog 3 (encA t) [] true [] fun rv obs => (rv, obs) = encR x := ACc.ac (body := bodyOf Try.f3) Try.func3 (by kernel_rfl) (by kernel_rfl) (acc t x h)
theorem ac (args : List AV) (x : Bool) (h : Q args = some x) : AC Try.prog 3 args [] false [] fun rv obs => (rv, obs) = encR x := by
  obtain ⟨t, rfl, h2⟩ := ofC_some h
  refine (ac0 t x h2).flat fun rv obs e => ?_
  obtain rfl : rv = (encR x).1 := congrArg Prod.fst e
  obtain rfl : obs = (encR x).2 := congrArg Prod.snd e
  refine ⟨by simp [encR, AV.Flat, K.Flat, C.Flat], ?_⟩
  simp [encR]
end laws_FnExactCutName
/-! loop.example/g00073/spec.l13Put -/
namespace spec_l13Put
noncomputable def B0 {ρ : Type} (v1 : Vec (ByteArray × Int × Int)) (v2 : Bool) (v3 : Int) (v4 : ByteArray) (v5 : Int) (v6 : Int) (v7 : Vec (ByteArray × Int × Int)) (W : (Vec (ByteArray × Int × Int)) → Bool → Int → ByteArray → Int → Int → (Vec (ByteArray × Int × Int)) → Option ρ) (K0 : Bool → ByteArray → Int → Int → (Vec (ByteArray × Int × Int)) → Option ρ) : Option ρ :=
  sel (decide (v3 < (v1.n : Int))) (chk (decide (0 ≤ v3 ∧ v3 < (v1.n : Int))) (sel (decide ((v1.g v3.toNat).2.1 = v5)) (W v1 v2 (wr (v3 + (1 : Int))) v4 v5 v6 v7) (sel ((!v2)) (chk (decide (0 ≤ v3 ∧ v3 < (v1.n : Int))) (sel (decide (v4.toList < ((v1.g v3.toNat).1).toList)) (chk (decide ((v7.n + (Vec.lit [(v4, v5, v6)] : Vec (ByteArray × Int × Int)).n) * 33 ≤ maxN)) (chk (decide (0 ≤ v3 ∧ v3 < (v1.n : Int))) (chk (decide (((Vec.app v7 (Vec.lit [(v4, v5, v6)] : Vec (ByteArray × Int × Int))).n + (Vec.lit [((v1.g v3.toNat).1, (v1.g v3.toNat).2.1, (v1.g v3.toNat).2.2)] : Vec (ByteArray × Int × Int)).n) * 33 ≤ maxN)) (W v1 true (wr (v3 + (1 : Int))) v4 v5 v6 (Vec.app (Vec.app v7 (Vec.lit [(v4, v5, v6)] : Vec (ByteArray × Int × Int))) (Vec.lit [((v1.g v3.toNat).1, (v1.g v3.toNat).2.1, (v1.g v3.toNat).2.2)] : Vec (ByteArray × Int × Int))))))) (chk (decide (0 ≤ v3 ∧ v3 < (v1.n : Int))) (chk (decide ((v7.n + (Vec.lit [((v1.g v3.toNat).1, (v1.g v3.toNat).2.1, (v1.g v3.toNat).2.2)] : Vec (ByteArray × Int × Int)).n) * 33 ≤ maxN)) (W v1 v2 (wr (v3 + (1 : Int))) v4 v5 v6 (Vec.app v7 (Vec.lit [((v1.g v3.toNat).1, (v1.g v3.toNat).2.1, (v1.g v3.toNat).2.2)] : Vec (ByteArray × Int × Int)))))))) (chk (decide (0 ≤ v3 ∧ v3 < (v1.n : Int))) (chk (decide ((v7.n + (Vec.lit [((v1.g v3.toNat).1, (v1.g v3.toNat).2.1, (v1.g v3.toNat).2.2)] : Vec (ByteArray × Int × Int)).n) * 33 ≤ maxN)) (W v1 v2 (wr (v3 + (1 : Int))) v4 v5 v6 (Vec.app v7 (Vec.lit [((v1.g v3.toNat).1, (v1.g v3.toNat).2.1, (v1.g v3.toNat).2.2)] : Vec (ByteArray × Int × Int))))))))) (K0 v2 v4 v5 v6 v7)
noncomputable def F0 {ρ : Type} : Nat → (Vec (ByteArray × Int × Int)) → Bool → Int → ByteArray → Int → Int → (Vec (ByteArray × Int × Int)) → (Bool → ByteArray → Int → Int → (Vec (ByteArray × Int × Int)) → Option ρ) → Option ρ
  | 0, _, _, _, _, _, _, _, _ => none
  | k + 1, v1, v2, v3, v4, v5, v6, v7, K0 => B0 v1 v2 v3 v4 v5 v6 v7 (fun v1' v2' v3' v4' v5' v6' v7' => F0 k v1' v2' v3' v4' v5' v6' v7' K0) K0
noncomputable def B {ρ : Type} (L0 : (Vec (ByteArray × Int × Int)) → Bool → Int → ByteArray → Int → Int → (Vec (ByteArray × Int × Int)) → (Bool → ByteArray → Int → Int → (Vec (ByteArray × Int × Int)) → Option ρ) → Option ρ) (a1 : Vec (ByteArray × Int × Int)) (a2 : ByteArray) (a3 : Int) (a4 : Int) (K : (Vec (ByteArray × Int × Int)) → Option ρ) : Option ρ :=
  L0 a1 false (0 : Int) a2 a3 a4 (Vec.nil : Vec (ByteArray × Int × Int)) (fun e01 e02 e03 e04 e05 => sel ((!e01)) (chk (decide ((e05.n + (Vec.lit [(e02, e03, e04)] : Vec (ByteArray × Int × Int)).n) * 33 ≤ maxN)) (K (Vec.app e05 (Vec.lit [(e02, e03, e04)] : Vec (ByteArray × Int × Int))))) (K e05))
noncomputable def F (a1 : Vec (ByteArray × Int × Int)) (a2 : ByteArray) (a3 : Int) (a4 : Int) : Option (Vec (ByteArray × Int × Int)) := B (F0 fuelN) a1 a2 a3 a4 (fun x1 => some (x1))
def encA (t : (Vec (ByteArray × Int × Int)) × ByteArray × Int × Int) : List AV := [.c (.n (.sl 3 (encRw t.1))), .a [.n (.v (.string t.2.1)), .n (.v (.int .i64 t.2.2.1)), .n (.v (.int .i64 t.2.2.2))]]
def encR (x : Vec (ByteArray × Int × Int)) : AV × List Ob := (.c (.h 0), [.row 3 (encRw x) []])
theorem encAI : ∀ a b, encA a = encA b → a = b := by
  intro a b h
  obtain ⟨a0, a1, a2, a3⟩ := a
  obtain ⟨b0, b1, b2, b3⟩ := b
  simp [encA, encRw_iff] at h
  simp_all
theorem encRI : ∀ a b, encR a = encR b → a = b := by
  intro a b h
  simp [encR, encRw_iff] at h
  simp_all
noncomputable def Q (args : List AV) : Option (Vec (ByteArray × Int × Int)) := ofC encA (fun t => F t.1 t.2.1 t.2.2.1 t.2.2.2) args
theorem wrap : (fun (y1 : Vec (ByteArray × Int × Int)) (y2 : ByteArray) (y3 : Int) (y4 : Int) => Q [.c (.n (.sl 3 (encRw y1))), .a [.n (.v (.string y2)), .n (.v (.int .i64 y3)), .n (.v (.int .i64 y4))]]) = F := by
  funext y1 y2 y3 y4
  exact ofC_enc encAI _ (y1, y2, y3, y4)
noncomputable def G : Orc := ⟨fun f => 9, fun ρ f args K => Option.none, noE⟩
noncomputable def L (W0 : (ρ : Type) → List AV → List Ob → (Bool → ByteArray → Int → Int → (Vec (ByteArray × Int × Int)) → Option ρ) → Option ρ) : Lor := fun ρ j st K => sel (Nat.beq j 0) (cutO Try.prog 53 [0, 3, 5, 6, 7] 0 [] [.ad (.s 5) 24] st fun avs obs => W0 ρ avs obs (fun z1 z2 z3 z4 z5 => K (.exit 0) (mkS 53 [3, 5, 6] [.c (.p 0 0), .c (.h 1), .c (.n (.v (.bool z1)))] [.box [.n (.v (.string z2)), .n (.v (.int .i64 z3)), .n (.v (.int .i64 z4))], .row 3 (encRw z5) []] []))) (Option.none)
noncomputable def c0 : Code := loopC (atomN [] 0 (bodyOf Try.f59) 0)
def ct0 : Cut := ⟨[0, 3, 5, 6, 7], [.ad (.s 5) 24]⟩
def lv0 : Exit → Cut
  | .exit 0 => ⟨[3, 5, 6], []⟩
  | _ => ⟨[], []⟩
theorem step0 (W0 : (ρ : Type) → List AV → List Ob → (Bool → ByteArray → Int → Int → (Vec (ByteArray × Int × Int)) → Option ρ) → Option ρ) {ρ : Type} (K : Exit → St → Option ρ) (W : List AV → List Ob → Option ρ) (v1 : Vec (ByteArray × Int × Int)) (v2 : Bool) (v3 : Int) (v4 : ByteArray) (v5 : Int) (v6 : Int) (v7 : Vec (ByteArray × Int × Int)) : exC Try.prog (G) (L W0) [] 1 c0 (mkS 53 [0, 3, 5, 6, 7] [.c (.n (.sl 3 (encRw v1))), .c (.p 0 0), .c (.h 1), .c (.n (.v (.bool v2))), .c (.n (.v (.int .i64 v3)))] [.box [.n (.v (.string v4)), .n (.v (.int .i64 v5)), .n (.v (.int .i64 v6))], .row 3 (encRw v7) []] []) (bodyK Try.prog 53 0 [] ct0 W lv0 K) =
    B0 v1 v2 v3 v4 v5 v6 v7 (fun u1 u2 u3 u4 u5 u6 u7 => W [.c (.n (.sl 3 (encRw u1))), .c (.p 0 0), .c (.h 1), .c (.n (.v (.bool u2))), .c (.n (.v (.int .i64 u3)))] [.box [.n (.v (.string u4)), .n (.v (.int .i64 u5)), .n (.v (.int .i64 u6))], .row 3 (encRw u7) []]) (fun z1 z2 z3 z4 z5 => K (.exit 0) (mkS 53 [3, 5, 6] [.c (.p 0 0), .c (.h 1), .c (.n (.v (.bool z1)))] [.box [.n (.v (.string z2)), .n (.v (.int .i64 z3)), .n (.v (.int .i64 z4))], .row 3 (encRw z5) []] [])) := by kernel_rfl
def enc0 (t : (Vec (ByteArray × Int × Int)) × Bool × Int × ByteArray × Int × Int × (Vec (ByteArray × Int × Int))) : List AV × List Ob := ([.c (.n (.sl 3 (encRw t.1))), .c (.p 0 0), .c (.h 1), .c (.n (.v (.bool t.2.1))), .c (.n (.v (.int .i64 t.2.2.1)))], [.box [.n (.v (.string t.2.2.2.1)), .n (.v (.int .i64 t.2.2.2.2.1)), .n (.v (.int .i64 t.2.2.2.2.2.1))], .row 3 (encRw t.2.2.2.2.2.2) []])
theorem enc0I : ∀ a b, enc0 a = enc0 b → a = b := by
  intro a b h
  obtain ⟨a0, a1, a2, a3, a4, a5, a6⟩ := a
  obtain ⟨b0, b1, b2, b3, b4, b5, b6⟩ := b
  simp [enc0, encRw_iff] at h
  simp_all
noncomputable def V0 : (ρ : Type) → List AV → List Ob → (Bool → ByteArray → Int → Int → (Vec (ByteArray × Int × Int)) → Option ρ) → Option ρ := fun ρ avs obs k0 => ofC enc0 (fun t => F0 fuelN t.1 t.2.1 t.2.2.1 t.2.2.2.1 t.2.2.2.2.1 t.2.2.2.2.2.1 t.2.2.2.2.2.2 k0) (avs, obs)
theorem V0_enc (ρ : Type) : (fun w1 w2 w3 w4 w5 w6 w7 k0 => V0 ρ [.c (.n (.sl 3 (encRw w1))), .c (.p 0 0), .c (.h 1), .c (.n (.v (.bool w2))), .c (.n (.v (.int .i64 w3)))] [.box [.n (.v (.string w4)), .n (.v (.int .i64 w5)), .n (.v (.int .i64 w6))], .row 3 (encRw w7) []] k0) = F0 fuelN := by
  funext w1 w2 w3 w4 w5 w6 w7 k0
  exact ofC_enc enc0I _ (w1, w2, w3, w4, w5, w6, w7)
theorem main (W0 : (ρ : Type) → List AV → List Ob → (Bool → ByteArray → Int → Int → (Vec (ByteArray × Int × Int)) → Option ρ) → Option ρ) {ρ : Type} (K : AV → List Ob → Option ρ) (a1 : Vec (ByteArray × Int × Int)) (a2 : ByteArray) (a3 : Int) (a4 : Int) : exC Try.prog (G) (L W0) [] 0 (bodyOf Try.f59) (entry 53 [.c (.n (.sl 3 (encRw a1))), .a [.n (.v (.string a2)), .n (.v (.int .i64 a3)), .n (.v (.int .i64 a4))]] [] []) (finO Try.prog Try.f59.results.toList 0 [] [] K) =
    B (fun w1 w2 w3 w4 w5 w6 w7 k0 => W0 ρ [.c (.n (.sl 3 (encRw w1))), .c (.p 0 0), .c (.h 1), .c (.n (.v (.bool w2))), .c (.n (.v (.int .i64 w3)))] [.box [.n (.v (.string w4)), .n (.v (.int .i64 w5)), .n (.v (.int .i64 w6))], .row 3 (encRw w7) []] k0) a1 a2 a3 a4 (fun x1 => K (.c (.h 0)) [.row 3 (encRw x1) []]) := by kernel_rfl
theorem Gok : (G).ok Try.prog := ⟨(fun ρ f args K r h => (by cases h)),
  (fun ρ f args K => rfl),
  (fun ρ f st caps args dst K r h => (by cases h))⟩
theorem hm : Try.prog.follows .mixedOrders = true := by kernel_rfl
theorem e0 : atomsL [] 1 c0 = [] := by kernel_rfl
theorem ok0 (ρ : Type) (st : St) (K : Exit → St → Option ρ) (r : ρ) (h : (L V0) ρ 0 st K = some r) : AW Try.prog (.loop c0) st fun e st' => K e st' = some r := by
  refine loop_ok (ct := ct0) (lv := lv0) (n := 53) (m := 0) (ks := []) (j := 0) (jn := []) (L := (L V0)) Gok hm (by rw [e0]; exact Lor.ok_nil _ _) enc0I (fun k t => F0 k t.1 t.2.1 t.2.2.1 t.2.2.2.1 t.2.2.2.2.1 t.2.2.2.2.2.1 t.2.2.2.2.2.2 (fun z1 z2 z3 z4 z5 => K (.exit 0) (mkS 53 [3, 5, 6] [.c (.p 0 0), .c (.h 1), .c (.n (.v (.bool z1)))] [.box [.n (.v (.string z2)), .n (.v (.int .i64 z3)), .n (.v (.int .i64 z4))], .row 3 (encRw z5) []] []))) (fun t => rfl) (fun k t => ?_) (fun _ => fuelN) h
  refine (step0 V0 K _ t.1 t.2.1 t.2.2.1 t.2.2.2.1 t.2.2.2.2.1 t.2.2.2.2.2.1 t.2.2.2.2.2.2).trans ?_
  refine congrArg (fun W => B0 t.1 t.2.1 t.2.2.1 t.2.2.2.1 t.2.2.2.2.1 t.2.2.2.2.2.1 t.2.2.2.2.2.2 W (fun z1 z2 z3 z4 z5 => K (.exit 0) (mkS 53 [3, 5, 6] [.c (.p 0 0), .c (.h 1), .c (.n (.v (.bool z1)))] [.box [.n (.v (.string z2)), .n (.v (.int .i64 z3)), .n (.v (.int .i64 z4))], .row 3 (encRw z5) []] []))) ?_
  funext u1 u2 u3 u4 u5 u6 u7
  exact ofC_enc enc0I _ (u1, u2, u3, u4, u5, u6, u7)
theorem e : atomsL [] 0 (bodyOf Try.f59) = [(0, 0, .loop c0)] := by kernel_rfl
theorem acc (t : (Vec (ByteArray × Int × Int)) × ByteArray × Int × Int) (x : Vec (ByteArray × Int × Int)) (h : F t.1 t.2.1 t.2.2.1 t.2.2.2 = some x) : ACc Try.prog 59 (encA t) [] true [] fun rv obs => (rv, obs) = encR x := by
  refine fun_okc (L := (L V0)) (jn := []) (cmds := []) (ks := []) (hin := []) (fn := Try.f59) (body := (bodyOf Try.f59)) Gok hm Try.func59 (by kernel_rfl) (by kernel_rfl) (by rw [e]; exact Lor.ok_cons ok0 (Lor.ok_nil _ _)) ?_ h
  refine (main V0 _ t.1 t.2.1 t.2.2.1 t.2.2.2).trans ?_
  rw [V0_enc]
  refine congrArg (fun K => B (F0 fuelN) t.1 t.2.1 t.2.2.1 t.2.2.2 K) ?_
  funext x1
  exact ofC_enc encRI some (x1)
theorem ac0 (t : (Vec (ByteArray × Int × Int)) × ByteArray × Int × Int) (x : Vec (ByteArray × Int × Int)) (h : F t.1 t.2.1 t.2.2.1 t.2.2.2 = some x) : AC Try.prog 59 (encA t) [] true [] fun rv obs => (rv, obs) = encR x := ACc.ac (body := bodyOf Try.f59) Try.func59 (by kernel_rfl) (by kernel_rfl) (acc t x h)
theorem ac (args : List AV) (x : Vec (ByteArray × Int × Int)) (h : Q args = some x) : AC Try.prog 59 args [] false [] fun rv obs => (rv, obs) = encR x := by
  obtain ⟨t, rfl, h2⟩ := ofC_some h
  refine (ac0 t x h2).flat fun rv obs e => ?_
  obtain rfl : rv = (encR x).1 := congrArg Prod.fst e
  obtain rfl : obs = (encR x).2 := congrArg Prod.snd e
  refine ⟨by simp [encR, AV.Flat, K.Flat, C.Flat], ?_⟩
  intro o ho
  simp only [encR, List.mem_cons, List.not_mem_nil, or_false] at ho
  subst ho
  exact flat_rw rfl _
end spec_l13Put
/-! loop.example/g00073/spec.PutName -/
namespace spec_PutName
noncomputable def B {ρ : Type} (C_spec_NamesOk : (Vec (ByteArray × Int × Int)) → Option Bool) (C_spec_l13Put : (Vec (ByteArray × Int × Int)) → ByteArray → Int → Int → Option (Vec (ByteArray × Int × Int))) (a1 : Vec (ByteArray × Int × Int)) (a2 : ByteArray) (a3 : Int) (a4 : Int) (K : Bool → (Vec (ByteArray × Int × Int)) → Option ρ) : Option ρ :=
  (C_spec_NamesOk a1).bind fun r1 => sel ((!r1)) (K false (Vec.nil : Vec (ByteArray × Int × Int))) ((C_spec_l13Put a1 a2 a3 a4).bind fun r2 => (C_spec_NamesOk r2).bind fun r3 => sel ((!r3)) (K false (Vec.nil : Vec (ByteArray × Int × Int))) (K true r2))
noncomputable def F (a1 : Vec (ByteArray × Int × Int)) (a2 : ByteArray) (a3 : Int) (a4 : Int) : Option (Bool × (Vec (ByteArray × Int × Int))) := B spec_NamesOk.F spec_l13Put.F a1 a2 a3 a4 (fun x1 x2 => some (x1, x2))
def encA (t : (Vec (ByteArray × Int × Int)) × ByteArray × Int × Int) : List AV := [.c (.n (.sl 3 (encRw t.1))), .a [.n (.v (.string t.2.1)), .n (.v (.int .i64 t.2.2.1)), .n (.v (.int .i64 t.2.2.2))]]
def encR (x : Bool × (Vec (ByteArray × Int × Int))) : AV × List Ob := (.tup [.c (.h 0), .c (.n (.v (.bool x.1)))], [.row 3 (encRw x.2) []])
theorem encAI : ∀ a b, encA a = encA b → a = b := by
  intro a b h
  obtain ⟨a0, a1, a2, a3⟩ := a
  obtain ⟨b0, b1, b2, b3⟩ := b
  simp [encA, encRw_iff] at h
  simp_all
theorem encRI : ∀ a b, encR a = encR b → a = b := by
  intro a b h
  obtain ⟨a0, a1⟩ := a
  obtain ⟨b0, b1⟩ := b
  simp [encR, encRw_iff] at h
  simp_all
noncomputable def Q (args : List AV) : Option (Bool × (Vec (ByteArray × Int × Int))) := ofC encA (fun t => F t.1 t.2.1 t.2.2.1 t.2.2.2) args
theorem wrap : (fun (y1 : Vec (ByteArray × Int × Int)) (y2 : ByteArray) (y3 : Int) (y4 : Int) => Q [.c (.n (.sl 3 (encRw y1))), .a [.n (.v (.string y2)), .n (.v (.int .i64 y3)), .n (.v (.int .i64 y4))]]) = F := by
  funext y1 y2 y3 y4
  exact ofC_enc encAI _ (y1, y2, y3, y4)
noncomputable def G (q_spec_NamesOk : List AV → Option Bool) (q_spec_l13Put : List AV → Option (Vec (ByteArray × Int × Int))) : Orc := ⟨fun f => sel (Nat.beq f 58) 0 (sel (Nat.beq f 59) 0 (9)), fun ρ f args K => sel (Nat.beq f 58) (qEntry spec_NamesOk.encR q_spec_NamesOk args K) (sel (Nat.beq f 59) (qEntry spec_l13Put.encR q_spec_l13Put args K) (Option.none)), noE⟩
noncomputable def L : Lor := fun ρ j st K => Option.none
theorem main (q_spec_NamesOk : List AV → Option Bool) (q_spec_l13Put : List AV → Option (Vec (ByteArray × Int × Int))) {ρ : Type} (K : AV → List Ob → Option ρ) (a1 : Vec (ByteArray × Int × Int)) (a2 : ByteArray) (a3 : Int) (a4 : Int) : exC Try.prog (G q_spec_NamesOk q_spec_l13Put) (L) [] 0 (bodyOf Try.f26) (entry 19 [.c (.n (.sl 3 (encRw a1))), .a [.n (.v (.string a2)), .n (.v (.int .i64 a3)), .n (.v (.int .i64 a4))]] [] []) (finO Try.prog Try.f26.results.toList 0 [] [.ad (.s 4) 24] K) =
    B (fun y1 => q_spec_NamesOk [.c (.n (.sl 3 (encRw y1)))]) (fun y1 y2 y3 y4 => q_spec_l13Put [.c (.n (.sl 3 (encRw y1))), .a [.n (.v (.string y2)), .n (.v (.int .i64 y3)), .n (.v (.int .i64 y4))]]) a1 a2 a3 a4 (fun x1 x2 => K (.tup [.c (.h 0), .c (.n (.v (.bool x1)))]) [.row 3 (encRw x2) []]) := by kernel_rfl
theorem Gok : (G spec_NamesOk.Q spec_l13Put.Q).ok Try.prog := ⟨(by
    intro ρ f args K r h
    rcases sel_cases h with ⟨hb, h⟩ | ⟨-, h⟩
    · obtain rfl := beq_nat hb
      exact qEntry_ok spec_NamesOk.ac h
    rcases sel_cases h with ⟨hb, h⟩ | ⟨-, h⟩
    · obtain rfl := beq_nat hb
      exact qEntry_ok spec_l13Put.ac h
    cases h),
  (by
    intro ρ f args K
    simp only [G]
    cases Nat.beq f 58 with
    | true => exact qEntry_nat args K
    | false =>
    simp only [sel]
    cases Nat.beq f 59 with
    | true => exact qEntry_nat args K
    | false =>
    simp only [sel]
    rfl),
  (fun ρ f st caps args dst K r h => (by cases h))⟩
theorem hm : Try.prog.follows .mixedOrders = true := by kernel_rfl
theorem e : atomsL [] 0 (bodyOf Try.f26) = [] := by kernel_rfl
theorem acc (t : (Vec (ByteArray × Int × Int)) × ByteArray × Int × Int) (x : Bool × (Vec (ByteArray × Int × Int))) (h : F t.1 t.2.1 t.2.2.1 t.2.2.2 = some x) : ACc Try.prog 26 (encA t) [] true [] fun rv obs => (rv, obs) = encR x := by
  refine fun_okc (L := (L)) (jn := []) (cmds := [.ad (.s 4) 24]) (ks := []) (hin := []) (fn := Try.f26) (body := (bodyOf Try.f26)) Gok hm Try.func26 (by kernel_rfl) (by kernel_rfl) (by rw [e]; exact Lor.ok_nil _ _) ?_ h
  refine (main spec_NamesOk.Q spec_l13Put.Q _ t.1 t.2.1 t.2.2.1 t.2.2.2).trans ?_
  rw [spec_NamesOk.wrap, spec_l13Put.wrap]
  refine congrArg (fun K => B spec_NamesOk.F spec_l13Put.F t.1 t.2.1 t.2.2.1 t.2.2.2 K) ?_
  funext x1 x2
  exact ofC_enc encRI some (x1, x2)
theorem ac0 (t : (Vec (ByteArray × Int × Int)) × ByteArray × Int × Int) (x : Bool × (Vec (ByteArray × Int × Int))) (h : F t.1 t.2.1 t.2.2.1 t.2.2.2 = some x) : AC Try.prog 26 (encA t) [] true [] fun rv obs => (rv, obs) = encR x := ACc.ac (body := bodyOf Try.f26) Try.func26 (by kernel_rfl) (by kernel_rfl) (acc t x h)
theorem ac (args : List AV) (x : Bool × (Vec (ByteArray × Int × Int))) (h : Q args = some x) : AC Try.prog 26 args [] false [] fun rv obs => (rv, obs) = encR x := by
  obtain ⟨t, rfl, h2⟩ := ofC_some h
  refine (ac0 t x h2).flat fun rv obs e => ?_
  obtain rfl : rv = (encR x).1 := congrArg Prod.fst e
  obtain rfl : obs = (encR x).2 := congrArg Prod.snd e
  refine ⟨by simp [encR, AV.Flat, K.Flat, C.Flat], ?_⟩
  intro o ho
  simp only [encR, List.mem_cons, List.not_mem_nil, or_false] at ho
  subst ho
  exact flat_rw rfl _
end spec_PutName
/-! slices.Insert(()loop.example/g00073/impl.Name,loop.example/g00073/impl.Name) -/
end Go.Al
namespace Go.AlW.slices_Insert_impl_Name_s19f7
open Go.Proofs Go.Shelf Go.RowKit Go.Lib
theorem insI : (Try.prog.info? 53).map (fun i => (i.size, i.bytes, i.zero.isSome, (i.zero.map (·.cells.size)))) = some (3, 32, true, some 3) := by kernel_rfl
set_option maxHeartbeats 4000000 in
set_option maxRecDepth 100000 in
theorem insT_room (b n c vb vc : Nat) (vs : List Value) (w : World) (hroom : n + 1 ≤ c) (hc63 : c ≤ 9223372036854775807) (hvl : vs.length = 3)
    (hsp : ∀ k, k < c * 3 → (w.cell? ⟨b, k, none⟩).isSome = true) (hfz : ∀ k, k < c * 3 → w.frozen? ⟨b, k, none⟩ = false)
    (hvs : ∀ k v, vs[k]? = some v → w.cell? ⟨vb, k, none⟩ = some v) (h1v : ∀ v ∈ vs, v.oneCell' = true) :
    Calls Try.prog 82 #[.slice (some ⟨b, 0, none⟩) n c, .int .i64 n, .slice (some ⟨vb, 0, none⟩) 1 vc] w fun e w' =>
      e = .returned (.slice (some ⟨b, 0, none⟩) (n + 1) c) ∧ w' = w.setCells b (n * 3) vs := by
  obtain ⟨i0, hi0, hii⟩ := Option.map_eq_some_iff.1 insI
  simp only [Prod.mk.injEq] at hii
  have mixed : Try.prog.follows .mixedOrders = true := by kernel_rfl
  have hsrc : Src Try.prog i0.size 24 (.slice (some ⟨vb, 0, none⟩) 1 vc) 1 vs w := Src.ofSlice w Try.underlying24 ⟨vb, 0, none⟩ 1 vc vs (by rw [hii.1]; omega) (fun k u hj => by rw [Al.add0]; exact hvs k u hj) h1v
  have hsp' : ∀ k, k < vs.length → (w.cell? ⟨b, 0 + n * i0.size + k, none⟩).isSome = true := fun k hk => by rw [hii.1]; exact hsp _ (by omega)
  have hfz' : ∀ k, k < vs.length → w.frozen? ⟨b, 0 + n * i0.size + k, none⟩ = false := fun k hk => by rw [hii.1]; exact hfz _ (by omega)
  have hX : Hid (w.setCells b (0 + n * i0.size) vs = w.setCells b (n * 3) vs) := by rw [hii.1, Nat.zero_add]; rfl
  clear hsp hfz
  go_enter Try.func82, Try.ntmps82
  go_wp2_with (at_builtin; refine wpList_append_room_src _ rfl _ _ 24 24 rfl 53 i0 Try.underlying24 hi0 b 0 n c rfl _ rfl 1 vs hsrc hroom hsp' hfz' ?_)
  go_ret
  exact ⟨rfl, by first | rfl | exact hX.out⟩

set_option maxHeartbeats 4000000 in
set_option maxRecDepth 100000 in
theorem insT_end (base : Option Addr) (n c vb vc : Nat) (cs vs : List Value) (w : World) (hnc : n ≤ c) (hroom : c < n + 1) (hbig : (n + 1) * 32 ≤ 140737488355328)
    (hcl : cs.length = n * 3) (hvl : vs.length = 3) (hnil : n ≠ 0 → ∃ b, base = some ⟨b, 0, none⟩ ∧ ∀ k v, cs[k]? = some v → w.cell? ⟨b, k, none⟩ = some v)
    (hvs : ∀ k v, vs[k]? = some v → w.cell? ⟨vb, k, none⟩ = some v) (h1v : ∀ v ∈ vs, v.oneCell' = true) (zv : Value) (hzv : (Try.prog.info? 53).bind (·.zero) = some zv) :
    Calls Try.prog 82 #[.slice base n c, .int .i64 n, .slice (some ⟨vb, 0, none⟩) 1 vc] w fun e w' =>
      e = .returned (.slice (some ⟨w.heap.size, 0, none⟩) (n + 1) (grownCap w (n + 1) c 53)) ∧
      w' = w.drew.alloc (.cells ((cs ++ vs).toArray ++ Builtin.zeroCells zv.cells (grownCap w (n + 1) c 53 - (n + 1))) 53) := by
  obtain ⟨i0, hi0, hii⟩ := Option.map_eq_some_iff.1 insI
  simp only [Prod.mk.injEq] at hii
  obtain ⟨hzs, hzb, -, -⟩ := hii
  have hz0 : i0.zero = some zv := by rw [hi0] at hzv; exact hzv
  have mixed : Try.prog.follows .mixedOrders = true := by kernel_rfl
  have hsrc : Src Try.prog i0.size 24 (.slice (some ⟨vb, 0, none⟩) 1 vc) 1 vs w := Src.ofSlice w Try.underlying24 ⟨vb, 0, none⟩ 1 vc vs (by rw [hzs]; omega) (fun k u hj => by rw [Al.add0]; exact hvs k u hj) h1v
  have hold : (Builtin.firstCells i0.size n (.slice base n c)).run Try.prog w.drew = .ok cs.toArray w.drew := by
    rw [hzs]
    by_cases h0 : n = 0
    · subst h0
      rw [List.length_eq_zero_iff.1 (by omega : cs.length = 0)]
      cases base with
      | none => exact run_firstCells_none w.drew 3 0 0 c
      | some a => exact run_firstCells_some w.drew 3 0 a 0 c [] (by simp) (by simp)
    · obtain ⟨b, rfl, hcs⟩ := hnil h0
      exact run_firstCells_some w.drew 3 n ⟨b, 0, none⟩ n c cs hcl (fun k v hk => by rw [Al.add0]; exact hcs k v hk)
  have hrun : ∀ ty, (Builtin.append_ #[24, 24] ty #[.slice base n c, .slice (some ⟨vb, 0, none⟩) 1 vc]).run Try.prog w = _ := fun ty =>
    run_append_grow_src w 24 24 ty 53 i0 _ Try.underlying24 hi0 hz0 base n c cs hold _ 1 vs hsrc hroom (by omega) (by rw [hzb]; exact growslice_fits hroom hbig)
  obtain ⟨ROW, hROW⟩ : ∃ ROW, ROW = (cs ++ vs).toArray ++ Builtin.zeroCells zv.cells (grownCap w (n + 1) c 53 - (n + 1)) := ⟨_, rfl⟩
  rw [← hROW] at hrun ⊢
  clear hold hsrc hi0 hzv hz0 hzs hzb hROW
  go_enter Try.func82, Try.ntmps82
  cases base with
  | none =>
    have h0 : n = 0 := by
      apply Classical.byContradiction
      intro h0
      obtain ⟨b, hb, -⟩ := hnil h0
      cases hb
    subst h0
    clear hnil
    go_wp2_with (at_builtin; refine Lib.wpList_append_run _ rfl _ _ _ _ rfl _ _ rfl rfl _ _ (hrun _) ?_)
    go_ret
    exact ⟨rfl, rfl⟩
  | some a =>
    clear hnil
    obtain ⟨ab, ao, asp⟩ := a
    go_wp2_with (at_builtin; refine Lib.wpList_append_run _ rfl _ _ _ _ rfl _ _ rfl rfl _ _ (hrun _) ?_)
    all_goals (go_ret; exact ⟨rfl, rfl⟩)

set_option maxHeartbeats 4000000 in
set_option maxRecDepth 100000 in
theorem insT_shift (b n c i vb vc kA : Nat) (cs vs : List Value) (w : World) (hi : i < n) (hroom : n + 1 ≤ c) (hc63 : c ≤ 9223372036854775807) (hvb : vb ≠ b)
    (hcl : cs.length = n * 3) (hvl : vs.length = 3)
    (hcs : ∀ k v, cs[k]? = some v → w.cell? ⟨b, k, none⟩ = some v) (hsp : ∀ k, k < c * 3 → (w.cell? ⟨b, k, none⟩).isSome = true) (hfz : ∀ k, k < c * 3 → w.frozen? ⟨b, k, none⟩ = false)
    (hvs : ∀ k v, vs[k]? = some v → w.cell? ⟨vb, k, none⟩ = some v) (h1c : ∀ v ∈ cs, v.oneCell' = true) (h1v : ∀ v ∈ vs, v.oneCell' = true)
    (tA tB : TypeId) (hsa : w.shape? vb = some (tA, kA)) (hsb : w.shape? b = some (tB, c * 3)) (hfa : w.frozen? ⟨vb, 0, none⟩ = false) (hfe : w.frozen? ⟨vb, kA, none⟩ = false) :
    Calls Try.prog 82 #[.slice (some ⟨b, 0, none⟩) n c, .int .i64 i, .slice (some ⟨vb, 0, none⟩) 1 vc] w fun e w' =>
      e = .returned (.slice (some ⟨b, 0, none⟩) (n + 1) c) ∧ w' = (w.drew.setCells b ((i + 1) * 3) (cs.drop (i * 3))).setCells b (i * 3) vs := by
  have mixed : Try.prog.follows .mixedOrders = true := by kernel_rfl
  have hz2 : ¬ ((i : Int) = (n : Int)) := by omega
  have hsz : (Try.prog.info? 53).map (·.size) = some 3 := by kernel_rfl
  have hov : ∀ lb cb, (callFunc 88 #[.slice (some ⟨vb, 0, none⟩) 1 vc, .slice (some ⟨b, (i + 1) * 3, none⟩) lb cb]).run Try.prog w = .ok (.value (.bool false)) w := fun lb cb => by
    rw [run_callFunc_extern Try.func88 (by kernel_rfl) (by kernel_rfl) (by kernel_rfl) (e := Extern.SlicesOverlaps.overlaps #[24, 24] #[4]) (by kernel_rfl),
      Lib.run_overlaps_apart w 24 4 53 Try.underlying24 3 Try.sizeOf53 ⟨vb, 0, none⟩ ⟨b, (i + 1) * 3, none⟩ 1 vc lb cb hvb tA tB kA (c * 3) hsa hsb (by omega) hfa hfe]
    rfl
  have hdl : (cs.drop (i * 3)).length = (n - i) * 3 := by rw [List.length_drop, hcl]; omega
  have hw1 : IntKind.i64.wrap ((i : Int) + 1) = (i : Int) + 1 := by rw [IntKind.wrap_i64]; omega
  have hb1 : (0 : Int) ≤ (i : Int) + 1 := by omega
  have hin : i ≤ n := by omega
  have htn : ((i : Int) + 1).toNat = i + 1 := by omega
  have hb2 : ¬ (c = i + 1) := by omega
  have hb3 : (i : Int) ≤ (n : Int) + 1 := by omega
  have hb4 : ¬ (c = i) := by omega
  have hb5 : i + 1 ≤ c := by omega
  have hb6 : i ≤ c := by omega
  have hcp1 : ∀ ty dc sc, (Builtin.copy_ #[24, 24] ty #[.slice (some ⟨b, (i + 1) * 3, none⟩) (n - i) dc, .slice (some ⟨b, i * 3, none⟩) (n + 1 - i) sc]).run Try.prog w.drew = .ok (goInt (Nat.min (n + 1 - i) (n - i))) (w.drew.setCells b ((i + 1) * 3) (cs.drop (i * 3))) := fun ty dc sc =>
    Al.run_copy_z w.drew _ _ ty 53 3 b ((i + 1) * 3) (n - i) dc ⟨b, i * 3, none⟩ (n + 1 - i) sc (cs.drop (i * 3)) Try.underlying24 hsz (by rw [hdl]; simp only [Nat.min_def]; split <;> omega)
      (fun k v hk => by rw [Al.add00]; exact hcs (i * 3 + k) v (by rwa [List.getElem?_drop] at hk))
      (fun k hk => hsp _ (by omega)) (fun k hk => hfz _ (by omega)) (fun v hv => h1c v (List.mem_of_mem_drop hv))
  obtain ⟨W1, hW1⟩ : ∃ W1, W1 = w.drew.setCells b ((i + 1) * 3) (cs.drop (i * 3)) := ⟨_, rfl⟩
  have hsp1 : ∀ k, k < c * 3 → (W1.cell? ⟨b, k, none⟩).isSome = true := fun k hk => by
    rw [hW1]
    exact isSome_setCells b (cs.drop (i * 3)) ((i + 1) * 3) w.drew (fun j hj => hsp _ (by rw [hdl] at hj; omega)) k (hsp k hk)
  have hcp2 : ∀ (W : World), (∀ x, W.cell? x = W1.cell? x) → (∀ x, W.frozen? x = W1.frozen? x) → ∀ ty dc, (Builtin.copy_ #[24, 24] ty #[.slice (some ⟨b, i * 3, none⟩) (n + 1 - i) dc, .slice (some ⟨vb, 0, none⟩) 1 vc]).run Try.prog W = .ok (goInt (Nat.min 1 (n + 1 - i))) (W.setCells b (i * 3) vs) := fun W hWc hWf ty dc =>
    Al.run_copy_z W _ _ ty 53 3 b (i * 3) (n + 1 - i) dc ⟨vb, 0, none⟩ 1 vc vs Try.underlying24 hsz (by rw [hvl]; simp only [Nat.min_def]; split <;> omega)
      (fun k v hk => by
        rw [Al.add0, hWc, hW1, World.cell?_setCells_out b _ _ _ _ (fun h _ => absurd h hvb)]
        exact hvs k v hk)
      (fun k hk => by rw [hWc]; exact hsp1 _ (by omega)) (fun k hk => by rw [hWf, hW1, World.frozen?_setCells]; exact hfz _ (by omega)) h1v
  rw [← hW1] at hcp1
  have hX : Hid (W1 = w.drew.setCells b ((i + 1) * 3) (cs.drop (i * 3))) := hW1
  clear hW1 hsp hfz hcs hvs h1c h1v hsp1 hsa hsb hfa hfe hdl hsz
  go_enter Try.func82, Try.ntmps82
  go_wp2_with (simp only [hov])
  go_region_law_o (refine step_copy_runI rfl _ _ 24 24 rfl _ _ (by simp [Act.eval, Act.put]) (by simp [Act.eval, Act.put]) (hcp1 _ _ _) ?_)
  go_wp2_with (at_builtin; refine wpList_copy_runI _ rfl _ _ 24 24 rfl _ _ rfl rfl (hcp2 _ (fun _ => rfl) (fun _ => rfl) _ _) ?_)
  go_ret
  exact ⟨rfl, by rw [← hX.out]⟩

set_option maxHeartbeats 4000000 in
set_option maxRecDepth 100000 in
theorem insT_grow (b n c i vb vc : Nat) (cs vs : List Value) (w : World) (hi : i < n) (hnc : n ≤ c) (hroom : c < n + 1) (hbig : (n + 1) * 32 ≤ 140737488355328)
    (hcl : cs.length = n * 3) (hvl : vs.length = 3)
    (hcs : ∀ k v, cs[k]? = some v → w.cell? ⟨b, k, none⟩ = some v)
    (hvs : ∀ k v, vs[k]? = some v → w.cell? ⟨vb, k, none⟩ = some v) (h1c : ∀ v ∈ cs, v.oneCell' = true) (h1v : ∀ v ∈ vs, v.oneCell' = true) (hbw : b < w.heap.size) (hvw : vb < w.heap.size)
    (zv : Value) (hzv : (Try.prog.info? 53).bind (·.zero) = some zv) :
    Calls Try.prog 82 #[.slice (some ⟨b, 0, none⟩) n c, .int .i64 i, .slice (some ⟨vb, 0, none⟩) 1 vc] w fun e w' =>
      e = .returned (.slice (some ⟨w.heap.size, 0, none⟩) (n + 1) (grownCap w (n + 1) c 53)) ∧
      w' = (((w.alloc (.cells ((cs.take (i * 3)).toArray ++ Builtin.zeroCells zv.cells (n + 1 - i) ++ Builtin.zeroCells zv.cells (grownCap w (n + 1) c 53 - (n + 1))) 53)).drew.setCells w.heap.size (i * 3) vs).drew).setCells w.heap.size ((i + 1) * 3) (cs.drop (i * 3)) := by
  have mixed : Try.prog.follows .mixedOrders = true := by kernel_rfl
  obtain ⟨i0, hi0, hii⟩ := Option.map_eq_some_iff.1 insI
  simp only [Prod.mk.injEq] at hii
  obtain ⟨hzs, hzb, -, hzc⟩ := hii
  have hz0 : i0.zero = some zv := by rw [hi0] at hzv; exact hzv
  have hzc2 : zv.cells.size = 3 := by rw [hz0] at hzc; simpa using hzc
  have hz2 : ¬ ((i : Int) = (n : Int)) := by omega
  have hz3 : (c : Int) < (n : Int) + 1 := by omega
  have hsz : (Try.prog.info? 53).map (·.size) = some 3 := by kernel_rfl
  have hkk : (n : Int) + 1 - (i : Int) = ((n + 1 - i : Nat) : Int) := by omega
  have hik : i + (n + 1 - i) = n + 1 := by omega
  have hold : (Builtin.firstCells i0.size i (.slice (some ⟨b, 0, none⟩) i c)).run Try.prog w.drew = .ok (cs.take (i * 3)).toArray w.drew := by
    rw [hzs]
    exact run_firstCells_some w.drew 3 i ⟨b, 0, none⟩ i c (cs.take (i * 3)) (by rw [List.length_take]; omega) (fun j v hj => by
      rw [Al.add0]
      rw [List.getElem?_take] at hj
      split at hj
      · exact hcs j v hj
      · cases hj)
  have hrz : ∀ ty, (Builtin.append_ #[24, 3] ty #[.slice (some ⟨b, 0, none⟩) i c, .int .i64 ((n : Int) + 1 - (i : Int))]).run Try.prog w =
      .ok (.slice (some ⟨w.heap.size, 0, none⟩) (n + 1) (grownCap w (n + 1) c 53)) (w.drew.alloc (.cells ((cs.take (i * 3)).toArray ++ Builtin.zeroCells zv.cells (n + 1 - i) ++ Builtin.zeroCells zv.cells (grownCap w (n + 1) c 53 - (n + 1))) 53)) := fun ty => by
    have h := Lib.run_append_grow_zeros w 24 3 ty 53 i0 _ .i64 .i64 Try.underlying24 Try.underlying3 hi0 hz0 (some ⟨b, 0, none⟩) i c (cs.take (i * 3)) hold (n + 1 - i) (by omega) (by omega) (by omega) (by omega) (by rw [hzb]; omega) (by rw [hzb, hik]; exact growslice_fits hroom hbig)
    rw [hik] at h
    rw [hkk]
    exact h
  obtain ⟨G, hG⟩ : ∃ G, G = grownCap w (n + 1) c 53 := ⟨_, rfl⟩
  obtain ⟨ROW, hROW⟩ : ∃ ROW : Array Value, ROW = (cs.take (i * 3)).toArray ++ Builtin.zeroCells zv.cells (n + 1 - i) ++ Builtin.zeroCells zv.cells (G - (n + 1)) := ⟨_, rfl⟩
  rw [← hG] at hrz ⊢
  rw [← hROW] at hrz ⊢
  have hGn : n + 1 ≤ G := by rw [hG]; exact grownCap_ge w _ _ _
  have hG63 : G ≤ 9223372036854775807 := by
    have := grownCap_le_maxLen w (n + 1) c 53 (by unfold maxLen; omega)
    rw [← hG] at this
    unfold maxLen at this
    omega
  have hRl : (n + 1) * 3 ≤ ROW.size := by
    rw [hROW]
    simp only [Array.size_append, List.size_toArray, List.length_take, Builtin.zeroCells, Array.size_map, Array.size_range, hzc2, hcl]
    omega
  obtain ⟨W1, hW1⟩ : ∃ W1, W1 = w.drew.alloc (.cells ROW 53) := ⟨_, rfl⟩
  rw [← hW1] at hrz
  have hN : ∀ j, j < (n + 1) * 3 → (W1.cell? ⟨w.heap.size, j, none⟩).isSome = true := fun j hj => by
    rw [hW1, World.cell?_alloc_at (w := w.drew) ROW _ w.heap.size j rfl, Array.getElem?_eq_getElem (by omega)]; rfl
  have hNf : ∀ j, W1.frozen? ⟨w.heap.size, j, none⟩ = false := fun j => by rw [hW1]; exact World.frozen?_alloc_at (w := w.drew) ROW _ w.heap.size j rfl
  have hOb : ∀ j v, w.cell? ⟨b, j, none⟩ = some v → W1.cell? ⟨b, j, none⟩ = some v := fun j v h => by rw [hW1, World.cell?_alloc_past (w := w.drew) _ b j hbw]; exact h
  have hOv : ∀ j v, w.cell? ⟨vb, j, none⟩ = some v → W1.cell? ⟨vb, j, none⟩ = some v := fun j v h => by rw [hW1, World.cell?_alloc_past (w := w.drew) _ vb j hvw]; exact h
  have hcpA : ∀ (W : World), (∀ x, W.cell? x = W1.cell? x) → (∀ x, W.frozen? x = W1.frozen? x) → ∀ ty dc, (Builtin.copy_ #[24, 24] ty #[.slice (some ⟨w.heap.size, i * 3, none⟩) (n + 1 - i) dc, .slice (some ⟨vb, 0, none⟩) 1 vc]).run Try.prog W = .ok (goInt (Nat.min 1 (n + 1 - i))) (W.setCells w.heap.size (i * 3) vs) := fun W hWc hWf ty dc =>
    Al.run_copy_z W _ _ ty 53 3 w.heap.size (i * 3) (n + 1 - i) dc ⟨vb, 0, none⟩ 1 vc vs Try.underlying24 hsz (by rw [hvl]; simp only [Nat.min_def]; split <;> omega)
      (fun j v hj => by rw [Al.add0, hWc]; exact hOv _ v (hvs j v hj))
      (fun j hj => by rw [hWc]; exact hN _ (by omega)) (fun j hj => by rw [hWf]; exact hNf _) h1v
  have hGi : ¬ (G = i) := by omega
  have hGim : ¬ (G = i + 1) := by omega
  have hci : ¬ (c = i) := by omega
  have hbN : b ≠ w.heap.size := by omega
  have hdl : (cs.drop (i * 3)).length = (n - i) * 3 := by rw [List.length_drop, hcl]; omega
  have hcpB : ∀ (W : World), (∀ x, W.cell? x = (W1.setCells w.heap.size (i * 3) vs).cell? x) → (∀ x, W.frozen? x = (W1.setCells w.heap.size (i * 3) vs).frozen? x) → ∀ ty dc sc, (Builtin.copy_ #[24, 24] ty #[.slice (some ⟨w.heap.size, (i + 1) * 3, none⟩) (n - i) dc, .slice (some ⟨b, i * 3, none⟩) (n - i) sc]).run Try.prog W = .ok (goInt (Nat.min (n - i) (n - i))) (W.setCells w.heap.size ((i + 1) * 3) (cs.drop (i * 3))) := fun W hWc hWf ty dc sc =>
    Al.run_copy_z W _ _ ty 53 3 w.heap.size ((i + 1) * 3) (n - i) dc ⟨b, i * 3, none⟩ (n - i) sc (cs.drop (i * 3)) Try.underlying24 hsz (by rw [hdl]; simp only [Nat.min_def]; split <;> omega)
      (fun j v hj => by
        rw [Al.add00, hWc, World.cell?_setCells_out _ _ _ _ _ (fun h _ => absurd h hbN)]
        exact hOb _ v (hcs (i * 3 + j) v (by rwa [List.getElem?_drop] at hj)))
      (fun j hj => by rw [hWc]; exact isSome_setCells _ _ _ _ (fun t ht => hN _ (by omega)) _ (hN _ (by omega)))
      (fun j hj => by rw [hWf, World.frozen?_setCells]; exact hNf _) (fun v hv => h1c v (List.mem_of_mem_drop hv))
  subst hW1
  have hE1 : ∀ x, ((w.alloc (.cells ROW 53)).drew).cell? x = (w.drew.alloc (.cells ROW 53)).cell? x := fun x => rfl
  have hE2 : ∀ x, ((w.alloc (.cells ROW 53)).drew).frozen? x = (w.drew.alloc (.cells ROW 53)).frozen? x := fun x => rfl
  have hF1 : ∀ x, (((w.alloc (.cells ROW 53)).drew.setCells w.heap.size (i * 3) vs).drew).cell? x = ((w.drew.alloc (.cells ROW 53)).setCells w.heap.size (i * 3) vs).cell? x := fun x => rfl
  have hF2 : ∀ x, (((w.alloc (.cells ROW 53)).drew.setCells w.heap.size (i * 3) vs).drew).frozen? x = ((w.drew.alloc (.cells ROW 53)).setCells w.heap.size (i * 3) vs).frozen? x := fun x => rfl
  have hw1 : IntKind.i64.wrap ((i : Int) + 1) = (i : Int) + 1 := by rw [IntKind.wrap_i64]; omega
  have hb1 : (0 : Int) ≤ (i : Int) + 1 := by omega
  have hin : i ≤ n := by omega
  have htn : ((i : Int) + 1).toNat = i + 1 := by omega
  have hb3 : (i : Int) ≤ (n : Int) := by omega
  have hb4 : i ≤ c := by omega
  have hb5 : i ≤ G := by omega
  have hb6 : i + 1 ≤ G := by omega
  clear hkk hik hold hROW hG hRl hi0 hzv hz0 hzs hzb hzc hzc2 hsz hN hNf hOb hOv hcs hvs h1c h1v
  go_enter Try.func82, Try.ntmps82
  go_wp2_with (first
    | (at_builtin; refine Lib.wpList_append_run _ rfl _ _ _ _ rfl _ _ rfl rfl _ _ (hrz _) ?_)
    | (at_builtin; refine wpList_copy_runI _ rfl _ _ 24 24 rfl _ _ rfl rfl (hcpA _ hE1 hE2 _ _) ?_)
    | (at_builtin; refine wpList_copy_runI _ rfl _ _ 24 24 rfl _ _ rfl rfl (hcpB _ (fun _ => rfl) (fun _ => rfl) _ _ _) ?_))
  go_region_law_o (refine step_copy_runI rfl _ _ 24 24 rfl (.slice (some ⟨w.heap.size, (i + 1) * 3, none⟩) (n - i) (G - (i + 1))) (.slice (some ⟨b, i * 3, none⟩) (n - i) (c - i)) (by simp [Act.eval, Act.put]) (by simp [Act.eval, Act.put]) (hcpB _ hF1 hF2 3 (G - (i + 1)) (c - i)) ?_)
  go_wp2
  go_ret
  exact ⟨rfl, rfl⟩

theorem insS : ∃ zv, Al.InsSpec Try.prog 82 3 32 53 zv := by
  obtain ⟨i0, hi0, hii⟩ := Option.map_eq_some_iff.1 insI
  simp only [Prod.mk.injEq] at hii
  obtain ⟨zv, hz⟩ := Option.isSome_iff_exists.1 hii.2.2.1
  have hzv : (Try.prog.info? 53).bind (·.zero) = some zv := by rw [hi0]; exact hz
  exact ⟨zv, ⟨by have := hii.2.2.2; rw [hz] at this; simpa using this, insT_room, fun base n c vb vc cs vs w h1 h2 h3 h4 h5 h6 h7 h8 => insT_end base n c vb vc cs vs w h1 h2 h3 h4 h5 h6 h7 h8 zv hzv, insT_shift,
    fun b n c i vb vc cs vs w h1 h2 h3 h4 h5 h6 h7 h8 h9 h10 h11 h12 => insT_grow b n c i vb vc cs vs w h1 h2 h3 h4 h5 h6 h7 h8 h9 h10 h11 h12 zv hzv⟩⟩
end Go.AlW.slices_Insert_impl_Name_s19f7
namespace Go.Al
open Go.Proofs
namespace slices_Insert_impl_Name_s19f7
noncomputable def F (a1 : Int) (a2 a3 : Vec (ByteArray × Int × Int)) : Option (Vec (ByteArray × Int × Int)) := sel (decide (0 ≤ a1 ∧ a1 ≤ (a2.n : Int) ∧ a3.n = 1 ∧ (a2.n + 1) * (32 + 1) ≤ maxN)) (some (Vec.ins a2 a1 a3)) none
def encA (t : Int × (Vec (ByteArray × Int × Int)) × (Vec (ByteArray × Int × Int))) : List AV × List Ob := ([.c (.h 0), .c (.n (.v (.int .i64 t.1))), .c (.h 1)], [.row 3 (encRw t.2.1) [], .row 3 (encRw t.2.2) []])
def encR (x : Vec (ByteArray × Int × Int)) : AV × List Ob := (.c (.h 0), [.row 3 (encRw x) [], .none])
theorem encAI : ∀ a b, encA a = encA b → a = b := by
  intro a b h
  obtain ⟨a0, a1, a2⟩ := a
  obtain ⟨b0, b1, b2⟩ := b
  simp [encA, encRw_iff] at h
  simp_all
noncomputable def Q (args : List AV) (hin : List Ob) : Option (Vec (ByteArray × Int × Int)) := ofC encA (fun t => F t.1 t.2.1 t.2.2) (args, hin)
theorem wrap : (fun (y1 : Int) (y2 : Vec (ByteArray × Int × Int)) (y3 : Vec (ByteArray × Int × Int)) => Q [.c (.h 0), .c (.n (.v (.int .i64 y1))), .c (.h 1)] [.row 3 (encRw y2) [], .row 3 (encRw y3) []]) = F := by
  funext y1 y2 y3
  exact ofC_enc encAI _ (y1, y2, y3)
theorem ac (args : List AV) (hin : List Ob) (x : Vec (ByteArray × Int × Int)) (h : Q args hin = some x) : AC Try.prog 82 args hin false [false, false] fun rv obs => (rv, obs) = encR x := by
  obtain ⟨t, he, h2⟩ := ofC_some h
  obtain rfl : args = (encA t).1 := (congrArg Prod.fst he).symm
  obtain rfl : hin = (encA t).2 := (congrArg Prod.snd he).symm
  rcases sel_cases h2 with ⟨hb, h3⟩ | ⟨-, h3⟩
  · simp only [Option.some.injEq] at h3
    subst h3
    have hb := of_decide_eq_true hb
    obtain ⟨zv, hs⟩ := AlW.slices_Insert_impl_Name_s19f7.insS
    have hm := AC.ins Try.func82 (by kernel_rfl) (by kernel_rfl) (show InsSpec Try.prog 82 (Enc.sz (ByteArray × Int × Int)) 32 53 zv from hs) (by decide) hb
    refine AC.flat hm fun rv obs e => ?_
    obtain rfl : rv = .c (.h 0) := congrArg Prod.fst e
    obtain rfl : obs = [Go.Al.rw (Vec.ins t.2.1 t.1 t.2.2), .none] := congrArg Prod.snd e
    refine ⟨by simp [AV.Flat, K.Flat, C.Flat], ?_⟩
    intro o ho
    simp only [List.mem_cons, List.not_mem_nil, or_false] at ho
    rcases ho with rfl | rfl
    · exact flat_rw rfl _
    · simp [Ob.Flat, C.Flat, N.Flat]
  · cases h3
end slices_Insert_impl_Name_s19f7
/-! loop.example/g00073/impl.insertName -/
namespace impl_insertName_s2b2c
noncomputable def B0 {ρ : Type} (v1 : Int) (v2 : Vec (ByteArray × Int × Int)) (v3 : ByteArray) (v4 : Int) (v5 : Int) (W : Int → (Vec (ByteArray × Int × Int)) → ByteArray → Int → Int → Option ρ) (K0 : Int → (Vec (ByteArray × Int × Int)) → ByteArray → Int → Int → Option ρ) : Option ρ :=
  sel (decide (v1 < (v2.n : Int))) (chk (decide (0 ≤ v1 ∧ v1 < (v2.n : Int))) (chk (decide (v1.toNat < v2.n)) (sel (decide (((v2.g v1.toNat).1).toList < v3.toList)) (W (wr (v1 + (1 : Int))) v2 v3 v4 v5) (K0 v1 v2 v3 v4 v5)))) (K0 v1 v2 v3 v4 v5)
noncomputable def F0 {ρ : Type} : Nat → Int → (Vec (ByteArray × Int × Int)) → ByteArray → Int → Int → (Int → (Vec (ByteArray × Int × Int)) → ByteArray → Int → Int → Option ρ) → Option ρ
  | 0, _, _, _, _, _, _ => none
  | k + 1, v1, v2, v3, v4, v5, K0 => B0 v1 v2 v3 v4 v5 (fun v1' v2' v3' v4' v5' => F0 k v1' v2' v3' v4' v5' K0) K0
noncomputable def B {ρ : Type} (C_slices_Insert_impl_Name_s19f7 : Int → (Vec (ByteArray × Int × Int)) → (Vec (ByteArray × Int × Int)) → Option (Vec (ByteArray × Int × Int))) (L0 : Int → (Vec (ByteArray × Int × Int)) → ByteArray → Int → Int → (Int → (Vec (ByteArray × Int × Int)) → ByteArray → Int → Int → Option ρ) → Option ρ) (a1 : ByteArray) (a2 : Int) (a3 : Int) (a4 : Vec (ByteArray × Int × Int)) (K : (Vec (ByteArray × Int × Int)) → Option ρ) : Option ρ :=
  L0 (0 : Int) a4 a1 a2 a3 (fun e01 e02 e03 e04 e05 => (C_slices_Insert_impl_Name_s19f7 e01 e02 (Vec.lit [(e03, e04, e05)] : Vec (ByteArray × Int × Int))).bind fun r1 => K r1)
noncomputable def F (a1 : ByteArray) (a2 : Int) (a3 : Int) (a4 : Vec (ByteArray × Int × Int)) : Option (Vec (ByteArray × Int × Int)) := B slices_Insert_impl_Name_s19f7.F (F0 fuelN) a1 a2 a3 a4 (fun x1 => some (x1))
def encA (t : ByteArray × Int × Int × (Vec (ByteArray × Int × Int))) : List AV × List Ob := ([.c (.h 0), .a [.n (.v (.string t.1)), .n (.v (.int .i64 t.2.1)), .n (.v (.int .i64 t.2.2.1))]], [.row 3 (encRw t.2.2.2) []])
def encR (x : Vec (ByteArray × Int × Int)) : AV × List Ob := (.c (.h 0), [.row 3 (encRw x) []])
theorem encAI : ∀ a b, encA a = encA b → a = b := by
  intro a b h
  obtain ⟨a0, a1, a2, a3⟩ := a
  obtain ⟨b0, b1, b2, b3⟩ := b
  simp [encA, encRw_iff] at h
  simp_all
theorem encRI : ∀ a b, encR a = encR b → a = b := by
  intro a b h
  simp [encR, encRw_iff] at h
  simp_all
noncomputable def Q (args : List AV) (hin : List Ob) : Option (Vec (ByteArray × Int × Int)) := ofC encA (fun t => F t.1 t.2.1 t.2.2.1 t.2.2.2) (args, hin)
theorem wrap : (fun (y1 : ByteArray) (y2 : Int) (y3 : Int) (y4 : Vec (ByteArray × Int × Int)) => Q [.c (.h 0), .a [.n (.v (.string y1)), .n (.v (.int .i64 y2)), .n (.v (.int .i64 y3))]] [.row 3 (encRw y4) []]) = F := by
  funext y1 y2 y3 y4
  exact ofC_enc encAI _ (y1, y2, y3, y4)
noncomputable def G (q_slices_Insert_impl_Name_s19f7 : List AV → List Ob → Option (Vec (ByteArray × Int × Int))) : Orc := ⟨fun f => 9, fun ρ f args K => Option.none, fun ρ f st args dst K => sel (Nat.beq f 82) (callE Try.prog 82 [true, false, true] false [false, false] slices_Insert_impl_Name_s19f7.encR q_slices_Insert_impl_Name_s19f7 st args dst K) (Option.none)⟩
noncomputable def L (W0 : (ρ : Type) → List AV → List Ob → (Int → (Vec (ByteArray × Int × Int)) → ByteArray → Int → Int → Option ρ) → Option ρ) : Lor := fun ρ j st K => sel (Nat.beq j 0) (cutO Try.prog 27 [0, 3, 5] 1 [false] [] st fun avs obs => W0 ρ avs obs (fun z1 z2 z3 z4 z5 => K (.exit 0) (mkS 27 [0, 3, 5] [.c (.h 0), .c (.p 1 0), .c (.n (.v (.int .i64 z1)))] [.row 3 (encRw z2) [], .box [.n (.v (.string z3)), .n (.v (.int .i64 z4)), .n (.v (.int .i64 z5))]] [false]))) (Option.none)
noncomputable def c0 : Code := loopC (atomN [] 0 (bodyOf Try.f62) 0)
def ct0 : Cut := ⟨[0, 3, 5], []⟩
def lv0 : Exit → Cut
  | .exit 0 => ⟨[0, 3, 5], []⟩
  | _ => ⟨[], []⟩
theorem step0 (q_slices_Insert_impl_Name_s19f7 : List AV → List Ob → Option (Vec (ByteArray × Int × Int))) (W0 : (ρ : Type) → List AV → List Ob → (Int → (Vec (ByteArray × Int × Int)) → ByteArray → Int → Int → Option ρ) → Option ρ) {ρ : Type} (K : Exit → St → Option ρ) (W : List AV → List Ob → Option ρ) (v1 : Int) (v2 : Vec (ByteArray × Int × Int)) (v3 : ByteArray) (v4 : Int) (v5 : Int) : exC Try.prog (G q_slices_Insert_impl_Name_s19f7) (L W0) [] 1 c0 (mkS 27 [0, 3, 5] [.c (.h 0), .c (.p 1 0), .c (.n (.v (.int .i64 v1)))] [.row 3 (encRw v2) [], .box [.n (.v (.string v3)), .n (.v (.int .i64 v4)), .n (.v (.int .i64 v5))]] [false]) (bodyK Try.prog 27 1 [false] ct0 W lv0 K) =
    B0 v1 v2 v3 v4 v5 (fun u1 u2 u3 u4 u5 => W [.c (.h 0), .c (.p 1 0), .c (.n (.v (.int .i64 u1)))] [.row 3 (encRw u2) [], .box [.n (.v (.string u3)), .n (.v (.int .i64 u4)), .n (.v (.int .i64 u5))]]) (fun z1 z2 z3 z4 z5 => K (.exit 0) (mkS 27 [0, 3, 5] [.c (.h 0), .c (.p 1 0), .c (.n (.v (.int .i64 z1)))] [.row 3 (encRw z2) [], .box [.n (.v (.string z3)), .n (.v (.int .i64 z4)), .n (.v (.int .i64 z5))]] [false])) := by kernel_rfl
def enc0 (t : Int × (Vec (ByteArray × Int × Int)) × ByteArray × Int × Int) : List AV × List Ob := ([.c (.h 0), .c (.p 1 0), .c (.n (.v (.int .i64 t.1)))], [.row 3 (encRw t.2.1) [], .box [.n (.v (.string t.2.2.1)), .n (.v (.int .i64 t.2.2.2.1)), .n (.v (.int .i64 t.2.2.2.2))]])
theorem enc0I : ∀ a b, enc0 a = enc0 b → a = b := by
  intro a b h
  obtain ⟨a0, a1, a2, a3, a4⟩ := a
  obtain ⟨b0, b1, b2, b3, b4⟩ := b
  simp [enc0, encRw_iff] at h
  simp_all
noncomputable def V0 : (ρ : Type) → List AV → List Ob → (Int → (Vec (ByteArray × Int × Int)) → ByteArray → Int → Int → Option ρ) → Option ρ := fun ρ avs obs k0 => ofC enc0 (fun t => F0 fuelN t.1 t.2.1 t.2.2.1 t.2.2.2.1 t.2.2.2.2 k0) (avs, obs)
theorem V0_enc (ρ : Type) : (fun w1 w2 w3 w4 w5 k0 => V0 ρ [.c (.h 0), .c (.p 1 0), .c (.n (.v (.int .i64 w1)))] [.row 3 (encRw w2) [], .box [.n (.v (.string w3)), .n (.v (.int .i64 w4)), .n (.v (.int .i64 w5))]] k0) = F0 fuelN := by
  funext w1 w2 w3 w4 w5 k0
  exact ofC_enc enc0I _ (w1, w2, w3, w4, w5)
theorem main (q_slices_Insert_impl_Name_s19f7 : List AV → List Ob → Option (Vec (ByteArray × Int × Int))) (W0 : (ρ : Type) → List AV → List Ob → (Int → (Vec (ByteArray × Int × Int)) → ByteArray → Int → Int → Option ρ) → Option ρ) {ρ : Type} (K : AV → List Ob → Option ρ) (a1 : ByteArray) (a2 : Int) (a3 : Int) (a4 : Vec (ByteArray × Int × Int)) : exC Try.prog (G q_slices_Insert_impl_Name_s19f7) (L W0) [] 0 (bodyOf Try.f62) (entry 27 [.c (.h 0), .a [.n (.v (.string a1)), .n (.v (.int .i64 a2)), .n (.v (.int .i64 a3))]] [.row 3 (encRw a4) []] [false]) (finO Try.prog Try.f62.results.toList 1 [false] [] K) =
    B (fun y1 y2 y3 => q_slices_Insert_impl_Name_s19f7 [.c (.h 0), .c (.n (.v (.int .i64 y1))), .c (.h 1)] [.row 3 (encRw y2) [], .row 3 (encRw y3) []]) (fun w1 w2 w3 w4 w5 k0 => W0 ρ [.c (.h 0), .c (.p 1 0), .c (.n (.v (.int .i64 w1)))] [.row 3 (encRw w2) [], .box [.n (.v (.string w3)), .n (.v (.int .i64 w4)), .n (.v (.int .i64 w5))]] k0) a1 a2 a3 a4 (fun x1 => K (.c (.h 0)) [.row 3 (encRw x1) []]) := by kernel_rfl
theorem Gok : (G slices_Insert_impl_Name_s19f7.Q).ok Try.prog := ⟨(fun ρ f args K r h => (by cases h)),
  (fun ρ f args K => rfl),
  (by
    intro ρ f st caps args dst K r h
    rcases sel_cases h with ⟨hb, h⟩ | ⟨-, h⟩
    · obtain rfl := beq_nat hb
      exact callE_ok (fun h => by cases h) slices_Insert_impl_Name_s19f7.ac h
    cases h)⟩
theorem hm : Try.prog.follows .mixedOrders = true := by kernel_rfl
theorem e0 : atomsL [] 1 c0 = [] := by kernel_rfl
theorem ok0 (ρ : Type) (st : St) (K : Exit → St → Option ρ) (r : ρ) (h : (L V0) ρ 0 st K = some r) : AW Try.prog (.loop c0) st fun e st' => K e st' = some r := by
  refine loop_ok (ct := ct0) (lv := lv0) (n := 27) (m := 1) (ks := [false]) (j := 0) (jn := []) (L := (L V0)) Gok hm (by rw [e0]; exact Lor.ok_nil _ _) enc0I (fun k t => F0 k t.1 t.2.1 t.2.2.1 t.2.2.2.1 t.2.2.2.2 (fun z1 z2 z3 z4 z5 => K (.exit 0) (mkS 27 [0, 3, 5] [.c (.h 0), .c (.p 1 0), .c (.n (.v (.int .i64 z1)))] [.row 3 (encRw z2) [], .box [.n (.v (.string z3)), .n (.v (.int .i64 z4)), .n (.v (.int .i64 z5))]] [false]))) (fun t => rfl) (fun k t => ?_) (fun _ => fuelN) h
  refine (step0 slices_Insert_impl_Name_s19f7.Q V0 K _ t.1 t.2.1 t.2.2.1 t.2.2.2.1 t.2.2.2.2).trans ?_
  refine congrArg (fun W => B0 t.1 t.2.1 t.2.2.1 t.2.2.2.1 t.2.2.2.2 W (fun z1 z2 z3 z4 z5 => K (.exit 0) (mkS 27 [0, 3, 5] [.c (.h 0), .c (.p 1 0), .c (.n (.v (.int .i64 z1)))] [.row 3 (encRw z2) [], .box [.n (.v (.string z3)), .n (.v (.int .i64 z4)), .n (.v (.int .i64 z5))]] [false]))) ?_
  funext u1 u2 u3 u4 u5
  exact ofC_enc enc0I _ (u1, u2, u3, u4, u5)
theorem e : atomsL [] 0 (bodyOf Try.f62) = [(0, 0, .loop c0)] := by kernel_rfl
theorem acc (t : ByteArray × Int × Int × (Vec (ByteArray × Int × Int))) (x : Vec (ByteArray × Int × Int)) (h : F t.1 t.2.1 t.2.2.1 t.2.2.2 = some x) : ACc Try.prog 62 (encA t).1 (encA t).2 true [false] fun rv obs => (rv, obs) = encR x := by
  refine fun_okc (L := (L V0)) (jn := []) (cmds := []) (ks := [false]) (hin := (encA t).2) (fn := Try.f62) (body := (bodyOf Try.f62)) Gok hm Try.func62 (by kernel_rfl) (by kernel_rfl) (by rw [e]; exact Lor.ok_cons ok0 (Lor.ok_nil _ _)) ?_ h
  refine (main slices_Insert_impl_Name_s19f7.Q V0 _ t.1 t.2.1 t.2.2.1 t.2.2.2).trans ?_
  rw [slices_Insert_impl_Name_s19f7.wrap, V0_enc]
  refine congrArg (fun K => B slices_Insert_impl_Name_s19f7.F (F0 fuelN) t.1 t.2.1 t.2.2.1 t.2.2.2 K) ?_
  funext x1
  exact ofC_enc encRI some (x1)
theorem ac0 (t : ByteArray × Int × Int × (Vec (ByteArray × Int × Int))) (x : Vec (ByteArray × Int × Int)) (h : F t.1 t.2.1 t.2.2.1 t.2.2.2 = some x) : AC Try.prog 62 (encA t).1 (encA t).2 true [false] fun rv obs => (rv, obs) = encR x := ACc.ac (body := bodyOf Try.f62) Try.func62 (by kernel_rfl) (by kernel_rfl) (acc t x h)
theorem ac (args : List AV) (hin : List Ob) (x : Vec (ByteArray × Int × Int)) (h : Q args hin = some x) : AC Try.prog 62 args hin false [false] fun rv obs => (rv, obs) = encR x := by
  obtain ⟨t, he, h2⟩ := ofC_some h
  obtain rfl : args = (encA t).1 := (congrArg Prod.fst he).symm
  obtain rfl : hin = (encA t).2 := (congrArg Prod.snd he).symm
  refine (ac0 t x h2).flat fun rv obs e => ?_
  obtain rfl : rv = (encR x).1 := congrArg Prod.fst e
  obtain rfl : obs = (encR x).2 := congrArg Prod.snd e
  refine ⟨by simp [encR, AV.Flat, K.Flat, C.Flat], ?_⟩
  intro o ho
  simp only [encR, List.mem_cons, List.not_mem_nil, or_false] at ho
  subst ho
  exact flat_rw rfl _
end impl_insertName_s2b2c
/-! loop.example/g00073/impl.PutName -/
namespace impl_PutName
noncomputable def B {ρ : Type} (C_impl_NamesOk : (Vec (ByteArray × Int × Int)) → Option Bool) (C_slices_Clone_impl_Name : (Vec (ByteArray × Int × Int)) → Option (Vec (ByteArray × Int × Int))) (C_impl_idAt : (Vec (ByteArray × Int × Int)) → Int → Option Int) (C_impl_dropName_s0773 : Int → (Vec (ByteArray × Int × Int)) → Option (Vec (ByteArray × Int × Int))) (C_impl_insertName_s2b2c : ByteArray → Int → Int → (Vec (ByteArray × Int × Int)) → Option (Vec (ByteArray × Int × Int))) (a1 : Vec (ByteArray × Int × Int)) (a2 : ByteArray) (a3 : Int) (a4 : Int) (K : Bool → (Vec (ByteArray × Int × Int)) → Option ρ) : Option ρ :=
  (C_impl_NamesOk a1).bind fun r1 => sel ((!r1)) (K false (Vec.nil : Vec (ByteArray × Int × Int))) ((C_slices_Clone_impl_Name a1).bind fun r2 => (C_impl_idAt r2 a3).bind fun r3 => sel (decide ((0 : Int) ≤ r3)) ((C_impl_dropName_s0773 r3 r2).bind fun r4 => (C_impl_insertName_s2b2c a2 a3 a4 r4).bind fun r5 => (C_impl_NamesOk r5).bind fun r6 => sel ((!r6)) (K false (Vec.nil : Vec (ByteArray × Int × Int))) (K true r5)) ((C_impl_insertName_s2b2c a2 a3 a4 r2).bind fun r7 => (C_impl_NamesOk r7).bind fun r8 => sel ((!r8)) (K false (Vec.nil : Vec (ByteArray × Int × Int))) (K true r7)))
noncomputable def F (a1 : Vec (ByteArray × Int × Int)) (a2 : ByteArray) (a3 : Int) (a4 : Int) : Option (Bool × (Vec (ByteArray × Int × Int))) := B impl_NamesOk.F slices_Clone_impl_Name.F impl_idAt.F impl_dropName_s0773.F impl_insertName_s2b2c.F a1 a2 a3 a4 (fun x1 x2 => some (x1, x2))
def encA (t : (Vec (ByteArray × Int × Int)) × ByteArray × Int × Int) : List AV := [.c (.n (.sl 3 (encRw t.1))), .a [.n (.v (.string t.2.1)), .n (.v (.int .i64 t.2.2.1)), .n (.v (.int .i64 t.2.2.2))]]
def encR (x : Bool × (Vec (ByteArray × Int × Int))) : AV × List Ob := (.tup [.c (.h 0), .c (.n (.v (.bool x.1)))], [.row 3 (encRw x.2) []])
theorem encAI : ∀ a b, encA a = encA b → a = b := by
  intro a b h
  obtain ⟨a0, a1, a2, a3⟩ := a
  obtain ⟨b0, b1, b2, b3⟩ := b
  simp [encA, encRw_iff] at h
  simp_all
theorem encRI : ∀ a b, encR a = encR b → a = b := by
  intro a b h
  obtain ⟨a0, a1⟩ := a
  obtain ⟨b0, b1⟩ := b
  simp [encR, encRw_iff] at h
  simp_all
noncomputable def Q (args : List AV) : Option (Bool × (Vec (ByteArray × Int × Int))) := ofC encA (fun t => F t.1 t.2.1 t.2.2.1 t.2.2.2) args
theorem wrap : (fun (y1 : Vec (ByteArray × Int × Int)) (y2 : ByteArray) (y3 : Int) (y4 : Int) => Q [.c (.n (.sl 3 (encRw y1))), .a [.n (.v (.string y2)), .n (.v (.int .i64 y3)), .n (.v (.int .i64 y4))]]) = F := by
  funext y1 y2 y3 y4
  exact ofC_enc encAI _ (y1, y2, y3, y4)
noncomputable def G (q_impl_NamesOk : List AV → Option Bool) (q_slices_Clone_impl_Name : List AV → Option (Vec (ByteArray × Int × Int))) (q_impl_idAt : List AV → Option Int) (q_impl_dropName_s0773 : List AV → List Ob → Option (Vec (ByteArray × Int × Int))) (q_impl_insertName_s2b2c : List AV → List Ob → Option (Vec (ByteArray × Int × Int))) : Orc := ⟨fun f => sel (Nat.beq f 60) 0 (sel (Nat.beq f 42) 0 (sel (Nat.beq f 61) 0 (9))), fun ρ f args K => sel (Nat.beq f 60) (qEntry impl_NamesOk.encR q_impl_NamesOk args K) (sel (Nat.beq f 42) (qEntry slices_Clone_impl_Name.encR q_slices_Clone_impl_Name args K) (sel (Nat.beq f 61) (qEntry impl_idAt.encR q_impl_idAt args K) (Option.none))), fun ρ f st args dst K => sel (Nat.beq f 41) (callE Try.prog 41 [true, false] false [false] impl_dropName_s0773.encR q_impl_dropName_s0773 st args dst K) (sel (Nat.beq f 62) (callE Try.prog 62 [true, false] false [false] impl_insertName_s2b2c.encR q_impl_insertName_s2b2c st args dst K) (Option.none))⟩
noncomputable def L : Lor := fun ρ j st K => Option.none
theorem main (q_impl_NamesOk : List AV → Option Bool) (q_slices_Clone_impl_Name : List AV → Option (Vec (ByteArray × Int × Int))) (q_impl_idAt : List AV → Option Int) (q_impl_dropName_s0773 : List AV → List Ob → Option (Vec (ByteArray × Int × Int))) (q_impl_insertName_s2b2c : List AV → List Ob → Option (Vec (ByteArray × Int × Int))) {ρ : Type} (K : AV → List Ob → Option ρ) (a1 : Vec (ByteArray × Int × Int)) (a2 : ByteArray) (a3 : Int) (a4 : Int) : exC Try.prog (G q_impl_NamesOk q_slices_Clone_impl_Name q_impl_idAt q_impl_dropName_s0773 q_impl_insertName_s2b2c) (L) [] 0 (bodyOf Try.f28) (entry 29 [.c (.n (.sl 3 (encRw a1))), .a [.n (.v (.string a2)), .n (.v (.int .i64 a3)), .n (.v (.int .i64 a4))]] [] []) (finO Try.prog Try.f28.results.toList 0 [] [.ad (.s 4) 24] K) =
    B (fun y1 => q_impl_NamesOk [.c (.n (.sl 3 (encRw y1)))]) (fun y1 => q_slices_Clone_impl_Name [.c (.n (.sl 3 (encRw y1)))]) (fun y1 y2 => q_impl_idAt [.c (.n (.sl 3 (encRw y1))), .c (.n (.v (.int .i64 y2)))]) (fun y1 y2 => q_impl_dropName_s0773 [.c (.h 0), .c (.n (.v (.int .i64 y1)))] [.row 3 (encRw y2) []]) (fun y1 y2 y3 y4 => q_impl_insertName_s2b2c [.c (.h 0), .a [.n (.v (.string y1)), .n (.v (.int .i64 y2)), .n (.v (.int .i64 y3))]] [.row 3 (encRw y4) []]) a1 a2 a3 a4 (fun x1 x2 => K (.tup [.c (.h 0), .c (.n (.v (.bool x1)))]) [.row 3 (encRw x2) []]) := by kernel_rfl
theorem Gok : (G impl_NamesOk.Q slices_Clone_impl_Name.Q impl_idAt.Q impl_dropName_s0773.Q impl_insertName_s2b2c.Q).ok Try.prog := ⟨(by
    intro ρ f args K r h
    rcases sel_cases h with ⟨hb, h⟩ | ⟨-, h⟩
    · obtain rfl := beq_nat hb
      exact qEntry_ok impl_NamesOk.ac h
    rcases sel_cases h with ⟨hb, h⟩ | ⟨-, h⟩
    · obtain rfl := beq_nat hb
      exact qEntry_ok slices_Clone_impl_Name.ac h
    rcases sel_cases h with ⟨hb, h⟩ | ⟨-, h⟩
    · obtain rfl := beq_nat hb
      exact qEntry_ok impl_idAt.ac h
    cases h),
  (by
    intro ρ f args K
    simp only [G]
    cases Nat.beq f 60 with
    | true => exact qEntry_nat args K
    | false =>
    simp only [sel]
    cases Nat.beq f 42 with
    | true => exact qEntry_nat args K
    | false =>
    simp only [sel]
    cases Nat.beq f 61 with
    | true => exact qEntry_nat args K
    | false =>
    simp only [sel]
    rfl),
  (by
    intro ρ f st caps args dst K r h
    rcases sel_cases h with ⟨hb, h⟩ | ⟨-, h⟩
    · obtain rfl := beq_nat hb
      exact callE_ok (fun h => by cases h) impl_dropName_s0773.ac h
    rcases sel_cases h with ⟨hb, h⟩ | ⟨-, h⟩
    · obtain rfl := beq_nat hb
      exact callE_ok (fun h => by cases h) impl_insertName_s2b2c.ac h
    cases h)⟩
theorem hm : Try.prog.follows .mixedOrders = true := by kernel_rfl
theorem e : atomsL [] 0 (bodyOf Try.f28) = [] := by kernel_rfl
theorem acc (t : (Vec (ByteArray × Int × Int)) × ByteArray × Int × Int) (x : Bool × (Vec (ByteArray × Int × Int))) (h : F t.1 t.2.1 t.2.2.1 t.2.2.2 = some x) : ACc Try.prog 28 (encA t) [] true [] fun rv obs => (rv, obs) = encR x := by
  refine fun_okc (L := (L)) (jn := []) (cmds := [.ad (.s 4) 24]) (ks := []) (hin := []) (fn := Try.f28) (body := (bodyOf Try.f28)) Gok hm Try.func28 (by kernel_rfl) (by kernel_rfl) (by rw [e]; exact Lor.ok_nil _ _) ?_ h
  refine (main impl_NamesOk.Q slices_Clone_impl_Name.Q impl_idAt.Q impl_dropName_s0773.Q impl_insertName_s2b2c.Q _ t.1 t.2.1 t.2.2.1 t.2.2.2).trans ?_
  rw [impl_NamesOk.wrap, slices_Clone_impl_Name.wrap, impl_idAt.wrap, impl_dropName_s0773.wrap, impl_insertName_s2b2c.wrap]
  refine congrArg (fun K => B impl_NamesOk.F slices_Clone_impl_Name.F impl_idAt.F impl_dropName_s0773.F impl_insertName_s2b2c.F t.1 t.2.1 t.2.2.1 t.2.2.2 K) ?_
  funext x1 x2
  exact ofC_enc encRI some (x1, x2)
theorem ac0 (t : (Vec (ByteArray × Int × Int)) × ByteArray × Int × Int) (x : Bool × (Vec (ByteArray × Int × Int))) (h : F t.1 t.2.1 t.2.2.1 t.2.2.2 = some x) : AC Try.prog 28 (encA t) [] true [] fun rv obs => (rv, obs) = encR x := ACc.ac (body := bodyOf Try.f28) Try.func28 (by kernel_rfl) (by kernel_rfl) (acc t x h)
theorem ac (args : List AV) (x : Bool × (Vec (ByteArray × Int × Int))) (h : Q args = some x) : AC Try.prog 28 args [] false [] fun rv obs => (rv, obs) = encR x := by
  obtain ⟨t, rfl, h2⟩ := ofC_some h
  refine (ac0 t x h2).flat fun rv obs e => ?_
  obtain rfl : rv = (encR x).1 := congrArg Prod.fst e
  obtain rfl : obs = (encR x).2 := congrArg Prod.snd e
  refine ⟨by simp [encR, AV.Flat, K.Flat, C.Flat], ?_⟩
  intro o ho
  simp only [encR, List.mem_cons, List.not_mem_nil, or_false] at ho
  subst ho
  exact flat_rw rfl _
end impl_PutName
/-! loop.example/g00073/laws.FnExactPutName -/
namespace laws_FnExactPutName
noncomputable def B {ρ : Type} (C_laws_szNameS : (Vec (ByteArray × Int × Int)) → Int → Option Int) (C_laws_szName : ByteArray → Int → Int → Int → Option Int) (C_laws_toNameS : (Vec (ByteArray × Int × Int)) → Option (Vec (ByteArray × Int × Int))) (C_laws_toName : ByteArray → Int → Int → Option (ByteArray × Int × Int)) (C_spec_PutName : (Vec (ByteArray × Int × Int)) → ByteArray → Int → Int → Option (Bool × (Vec (ByteArray × Int × Int)))) (C_impl_PutName : (Vec (ByteArray × Int × Int)) → ByteArray → Int → Int → Option (Bool × (Vec (ByteArray × Int × Int)))) (C_laws_eqNameS : (Vec (ByteArray × Int × Int)) → (Vec (ByteArray × Int × Int)) → Option Bool) (C_laws_markNameS_s0773 : Int → (Vec (ByteArray × Int × Int)) → Option (Int × (Vec (ByteArray × Int × Int)))) (C_laws_heldNameS : (Vec (ByteArray × Int × Int)) → Int → Option Int) (a1 : Vec (ByteArray × Int × Int)) (a2 : ByteArray) (a3 : Int) (a4 : Int) (K : Bool → Option ρ) : Option ρ :=
  (C_laws_szNameS a1 (1048576 : Int)).bind fun r1 => sel (decide (r1 < (0 : Int))) (K true) ((C_laws_szName a2 a3 a4 r1).bind fun r2 => sel (decide (r2 < (0 : Int))) (K true) ((C_laws_toNameS a1).bind fun r3 => (C_laws_toName a2 a3 a4).bind fun r4 => (C_spec_PutName r3 r4.1 r4.2.1 r4.2.2).bind fun r5 => (C_laws_toNameS a1).bind fun r6 => (C_laws_toName a2 a3 a4).bind fun r7 => (C_impl_PutName r6 r7.1 r7.2.1 r7.2.2).bind fun r8 => (C_laws_eqNameS r8.2 r5.2).bind fun r9 => sel ((!r9)) (K false) (sel ((!(r8.1 == r5.1))) (K false) ((C_laws_toNameS a1).bind fun r10 => (C_laws_eqNameS r6 r10).bind fun r11 => sel ((!r11)) (K false) ((C_laws_markNameS_s0773 (1 : Int) r6).bind fun r12 => sel (decide (r12.1 < (0 : Int))) (K false) ((C_laws_eqNameS r8.2 r5.2).bind fun r13 => sel ((!r13)) (K false) (sel ((!(r8.1 == r5.1))) (K false) ((C_laws_markNameS_s0773 (1 : Int) r8.2).bind fun r14 => (C_laws_heldNameS r14.2 (1 : Int)).bind fun r15 => sel (decide (r15 < (0 : Int))) (K false) (sel ((!decide (r15 = r14.1))) (K false) ((C_laws_toNameS a1).bind fun r16 => (C_laws_toName a2 a3 a4).bind fun r17 => (C_impl_PutName r16 r17.1 r17.2.1 r17.2.2).bind fun r18 => (C_laws_eqNameS r18.2 r5.2).bind fun r19 => sel ((!r19)) (K false) (sel ((!(r18.1 == r5.1))) (K false) ((C_laws_heldNameS r14.2 (1 : Int)).bind fun r20 => sel (decide (r20 < (0 : Int))) (K false) (sel ((!decide (r20 = r14.1))) (K false) (K true))))))))))))))
noncomputable def F (a1 : Vec (ByteArray × Int × Int)) (a2 : ByteArray) (a3 : Int) (a4 : Int) : Option Bool := B laws_szNameS.F laws_szName.F laws_toNameS.F laws_toName.F spec_PutName.F impl_PutName.F laws_eqNameS.F laws_markNameS_s0773.F laws_heldNameS.F a1 a2 a3 a4 (fun x1 => some (x1))
def encA (t : (Vec (ByteArray × Int × Int)) × ByteArray × Int × Int) : List AV := [.c (.n (.sl 3 (encRw t.1))), .a [.n (.v (.string t.2.1)), .n (.v (.int .i64 t.2.2.1)), .n (.v (.int .i64 t.2.2.2))]]
def encR (x : Bool) : AV × List Ob := (.c (.n (.v (.bool x))), [])
theorem encAI : ∀ a b, encA a = encA b → a = b := by
  intro a b h
  obtain ⟨a0, a1, a2, a3⟩ := a
  obtain ⟨b0, b1, b2, b3⟩ := b
  simp [encA, encRw_iff] at h
  simp_all
theorem encRI : ∀ a b, encR a = encR b → a = b := by
  intro a b h
  simp [encR, encRw_iff] at h
  simp_all
noncomputable def Q (args : List AV) : Option Bool := ofC encA (fun t => F t.1 t.2.1 t.2.2.1 t.2.2.2) args
theorem wrap : (fun (y1 : Vec (ByteArray × Int × Int)) (y2 : ByteArray) (y3 : Int) (y4 : Int) => Q [.c (.n (.sl 3 (encRw y1))), .a [.n (.v (.string y2)), .n (.v (.int .i64 y3)), .n (.v (.int .i64 y4))]]) = F := by
  funext y1 y2 y3 y4
  exact ofC_enc encAI _ (y1, y2, y3, y4)
noncomputable def G (q_laws_szNameS : List AV → Option Int) (q_laws_szName : List AV → Option Int) (q_laws_toNameS : List AV → Option (Vec (ByteArray × Int × Int))) (q_laws_toName : List AV → Option (ByteArray × Int × Int)) (q_spec_PutName : List AV → Option (Bool × (Vec (ByteArray × Int × Int)))) (q_impl_PutName : List AV → Option (Bool × (Vec (ByteArray × Int × Int)))) (q_laws_eqNameS : List AV → Option Bool) (q_laws_markNameS_s0773 : List AV → List Ob → Option (Int × (Vec (ByteArray × Int × Int)))) (q_laws_heldNameS : List AV → Option Int) : Orc := ⟨fun f => sel (Nat.beq f 9) 0 (sel (Nat.beq f 25) 0 (sel (Nat.beq f 11) 0 (sel (Nat.beq f 27) 0 (sel (Nat.beq f 26) 0 (sel (Nat.beq f 28) 0 (sel (Nat.beq f 13) 0 (sel (Nat.beq f 15) 0 (9)))))))), fun ρ f args K => sel (Nat.beq f 9) (qEntry laws_szNameS.encR q_laws_szNameS args K) (sel (Nat.beq f 25) (qEntry laws_szName.encR q_laws_szName args K) (sel (Nat.beq f 11) (qEntry laws_toNameS.encR q_laws_toNameS args K) (sel (Nat.beq f 27) (qEntry laws_toName.encR q_laws_toName args K) (sel (Nat.beq f 26) (qEntry spec_PutName.encR q_spec_PutName args K) (sel (Nat.beq f 28) (qEntry impl_PutName.encR q_impl_PutName args K) (sel (Nat.beq f 13) (qEntry laws_eqNameS.encR q_laws_eqNameS args K) (sel (Nat.beq f 15) (qEntry laws_heldNameS.encR q_laws_heldNameS args K) (Option.none)))))))), fun ρ f st args dst K => sel (Nat.beq f 14) (callE Try.prog 14 [true, false] false [true] laws_markNameS_s0773.encR q_laws_markNameS_s0773 st args dst K) (Option.none)⟩
noncomputable def L : Lor := fun ρ j st K => Option.none
theorem main (q_laws_szNameS : List AV → Option Int) (q_laws_szName : List AV → Option Int) (q_laws_toNameS : List AV → Option (Vec (ByteArray × Int × Int))) (q_laws_toName : List AV → Option (ByteArray × Int × Int)) (q_spec_PutName : List AV → Option (Bool × (Vec (ByteArray × Int × Int)))) (q_impl_PutName : List AV → Option (Bool × (Vec (ByteArray × Int × Int)))) (q_laws_eqNameS : List AV → Option Bool) (q_laws_markNameS_s0773 : List AV → List Ob → Option (Int × (Vec (ByteArray × Int × Int)))) (q_laws_heldNameS : List AV → Option Int) {ρ : Type} (K : AV → List Ob → Option ρ) (a1 : Vec (ByteArray × Int × Int)) (a2 : ByteArray) (a3 : Int) (a4 : Int) : exC Try.prog (G q_laws_szNameS q_laws_szName q_laws_toNameS q_laws_toName q_spec_PutName q_impl_PutName q_laws_eqNameS q_laws_markNameS_s0773 q_laws_heldNameS) (L) [] 0 (bodyOf Try.f5) (entry 109 [.c (.n (.sl 3 (encRw a1))), .a [.n (.v (.string a2)), .n (.v (.int .i64 a3)), .n (.v (.int .i64 a4))]] [] []) (finO Try.prog Try.f5.results.toList 0 [] [] K) =
    B (fun y1 y2 => q_laws_szNameS [.c (.n (.sl 3 (encRw y1))), .c (.n (.v (.int .i64 y2)))]) (fun y1 y2 y3 y4 => q_laws_szName [.a [.n (.v (.string y1)), .n (.v (.int .i64 y2)), .n (.v (.int .i64 y3))], .c (.n (.v (.int .i64 y4)))]) (fun y1 => q_laws_toNameS [.c (.n (.sl 3 (encRw y1)))]) (fun y1 y2 y3 => q_laws_toName [.a [.n (.v (.string y1)), .n (.v (.int .i64 y2)), .n (.v (.int .i64 y3))]]) (fun y1 y2 y3 y4 => q_spec_PutName [.c (.n (.sl 3 (encRw y1))), .a [.n (.v (.string y2)), .n (.v (.int .i64 y3)), .n (.v (.int .i64 y4))]]) (fun y1 y2 y3 y4 => q_impl_PutName [.c (.n (.sl 3 (encRw y1))), .a [.n (.v (.string y2)), .n (.v (.int .i64 y3)), .n (.v (.int .i64 y4))]]) (fun y1 y2 => q_laws_eqNameS [.c (.n (.sl 3 (encRw y1))), .c (.n (.sl 3 (encRw y2)))]) (fun y1 y2 => q_laws_markNameS_s0773 [.c (.h 0), .c (.n (.v (.int .i64 y1)))] [.row 3 (encRw y2) []]) (fun y1 y2 => q_laws_heldNameS [.c (.n (.sl 3 (encRw y1))), .c (.n (.v (.int .i64 y2)))]) a1 a2 a3 a4 (fun x1 => K (.c (.n (.v (.bool x1)))) []) := by kernel_rfl
theorem Gok : (G laws_szNameS.Q laws_szName.Q laws_toNameS.Q laws_toName.Q spec_PutName.Q impl_PutName.Q laws_eqNameS.Q laws_markNameS_s0773.Q laws_heldNameS.Q).ok Try.prog := ⟨(by
    intro ρ f args K r h
    rcases sel_cases h with ⟨hb, h⟩ | ⟨-, h⟩
    · obtain rfl := beq_nat hb
      exact qEntry_ok laws_szNameS.ac h
    rcases sel_cases h with ⟨hb, h⟩ | ⟨-, h⟩
    · obtain rfl := beq_nat hb
      exact qEntry_ok laws_szName.ac h
    rcases sel_cases h with ⟨hb, h⟩ | ⟨-, h⟩
    · obtain rfl := beq_nat hb
      exact qEntry_ok laws_toNameS.ac h
    rcases sel_cases h with ⟨hb, h⟩ | ⟨-, h⟩
    · obtain rfl := beq_nat hb
      exact qEntry_ok laws_toName.ac h
    rcases sel_cases h with ⟨hb, h⟩ | ⟨-, h⟩
    · obtain rfl := beq_nat hb
      exact qEntry_ok spec_PutName.ac h
    rcases sel_cases h with ⟨hb, h⟩ | ⟨-, h⟩
    · obtain rfl := beq_nat hb
      exact qEntry_ok impl_PutName.ac h
    rcases sel_cases h with ⟨hb, h⟩ | ⟨-, h⟩
    · obtain rfl := beq_nat hb
      exact qEntry_ok laws_eqNameS.ac h
    rcases sel_cases h with ⟨hb, h⟩ | ⟨-, h⟩
    · obtain rfl := beq_nat hb
      exact qEntry_ok laws_heldNameS.ac h
    cases h),
  (by
    intro ρ f args K
    simp only [G]
    cases Nat.beq f 9 with
    | true => exact qEntry_nat args K
    | false =>
    simp only [sel]
    cases Nat.beq f 25 with
    | true => exact qEntry_nat args K
    | false =>
    simp only [sel]
    cases Nat.beq f 11 with
    | true => exact qEntry_nat args K
    | false =>
    simp only [sel]
    cases Nat.beq f 27 with
    | true => exact qEntry_nat args K
    | false =>
    simp only [sel]
    cases Nat.beq f 26 with
    | true => exact qEntry_nat args K
    | false =>
    simp only [sel]
    cases Nat.beq f 28 with
    | true => exact qEntry_nat args K
    | false =>
    simp only [sel]
    cases Nat.beq f 13 with
    | true => exact qEntry_nat args K
    | false =>
    simp only [sel]
    cases Nat.beq f 15 with
    | true => exact qEntry_nat args K
    | false =>
    simp only [sel]
    rfl),
  (by
    intro ρ f st caps args dst K r h
    rcases sel_cases h with ⟨hb, h⟩ | ⟨-, h⟩
    · obtain rfl := beq_nat hb
      exact callE_ok (fun h => by cases h) laws_markNameS_s0773.ac h
    cases h)⟩
theorem hm : Try.prog.follows .mixedOrders = true := by kernel_rfl
theorem e : atomsL [] 0 (bodyOf Try.f5) = [] := by kernel_rfl
theorem acc (t : (Vec (ByteArray × Int × Int)) × ByteArray × Int × Int) (x : Bool) (h : F t.1 t.2.1 t.2.2.1 t.2.2.2 = some x) : ACc Try.prog 5 (encA t) [] true [] fun rv obs => (rv, obs) = encR x := by
  refine fun_okc (L := (L)) (jn := []) (cmds := []) (ks := []) (hin := []) (fn := Try.f5) (body := (bodyOf Try.f5)) Gok hm Try.func5 (by kernel_rfl) (by kernel_rfl) (by rw [e]; exact Lor.ok_nil _ _) ?_ h
  refine (main laws_szNameS.Q laws_szName.Q laws_toNameS.Q laws_toName.Q spec_PutName.Q impl_PutName.Q laws_eqNameS.Q laws_markNameS_s0773.Q laws_heldNameS.Q _ t.1 t.2.1 t.2.2.1 t.2.2.2).trans ?_
  rw [laws_szNameS.wrap, laws_szName.wrap, laws_toNameS.wrap, laws_toName.wrap, spec_PutName.wrap, impl_PutName.wrap, laws_eqNameS.wrap, laws_markNameS_s0773.wrap, laws_heldNameS.wrap]
  refine congrArg (fun K => B laws_szNameS.F laws_szName.F laws_toNameS.F laws_toName.F spec_PutName.F impl_PutName.F laws_eqNameS.F laws_markNameS_s0773.F laws_heldNameS.F t.1 t.2.1 t.2.2.1 t.2.2.2 K) ?_
  funext x1
  exact ofC_enc encRI some (x1)
theorem ac0 (t : (Vec (ByteArray × Int × Int)) × ByteArray × Int × Int) (x : Bool) (h : F t.1 t.2.1 t.2.2.1 t.2.2.2 = some x) : AC Try.prog 5 (encA t) [] true [] fun rv obs => (rv, obs) = encR x := ACc.ac (body := bodyOf Try.f5) Try.func5 (by kernel_rfl) (by kernel_rfl) (acc t x h)
theorem ac (args : List AV) (x : Bool) (h : Q args = some x) : AC Try.prog 5 args [] false [] fun rv obs => (rv, obs) = encR x := by
  obtain ⟨t, rfl, h2⟩ := ofC_some h
  refine (ac0 t x h2).flat fun rv obs e => ?_
  obtain rfl : rv = (encR x).1 := congrArg Prod.fst e
  obtain rfl : obs = (encR x).2 := congrArg Prod.snd e
  refine ⟨by simp [encR, AV.Flat, K.Flat, C.Flat], ?_⟩
  simp [encR]
end laws_FnExactPutName
end Go.Al
