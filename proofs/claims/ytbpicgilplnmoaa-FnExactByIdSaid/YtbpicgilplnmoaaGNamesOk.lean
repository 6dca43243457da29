import Derived.Test.YtbpicgilplnmoaaGPathOk
set_option linter.unusedVariables false
set_option linter.unusedSimpArgs false
set_option maxRecDepth 100000
namespace Go.Al
open Go.Proofs

/-! loop.example/g00073/laws.szName -/
namespace laws_szName
noncomputable def B {ρ : Type} (a1 : ByteArray) (a2 : Int) (a3 : Int) (a4 : Int) (K : Int → Option ρ) : Option ρ :=
  sel (decide ((wr (a4 - (a1.size : Int))) < (0 : Int))) (K (-1 : Int)) (K (wr (a4 - (a1.size : Int))))
noncomputable def F (a1 : ByteArray) (a2 : Int) (a3 : Int) (a4 : Int) : Option Int := B a1 a2 a3 a4 (fun x1 => some (x1))
def encA (t : ByteArray × Int × Int × Int) : List AV := [.a [.n (.v (.string t.1)), .n (.v (.int .i64 t.2.1)), .n (.v (.int .i64 t.2.2.1))], .c (.n (.v (.int .i64 t.2.2.2)))]
def encR (x : Int) : AV × List Ob := (.c (.n (.v (.int .i64 x))), [])
theorem encAI : ∀ a b, encA a = encA b → a = b := by
  intro a b h
  obtain ⟨a0, a1, a2, a3⟩ := a
  obtain ⟨b0, b1, b2, b3⟩ := b
  simp [encA, encRw_iff] at h
  simp_all
theorem encRI : ∀ a b, encR a = encR b → a = b := by
  intro a b h
  simp [encR, encRw_iff] at h
  simp_all
noncomputable def Q (args : List AV) : Option Int := ofC encA (fun t => F t.1 t.2.1 t.2.2.1 t.2.2.2) args
theorem wrap : (fun (y1 : ByteArray) (y2 : Int) (y3 : Int) (y4 : Int) => Q [.a [.n (.v (.string y1)), .n (.v (.int .i64 y2)), .n (.v (.int .i64 y3))], .c (.n (.v (.int .i64 y4)))]) = F := by
  funext y1 y2 y3 y4
  exact ofC_enc encAI _ (y1, y2, y3, y4)
noncomputable def G : Orc := ⟨fun f => 9, fun ρ f args K => Option.none, noE⟩
noncomputable def L : Lor := fun ρ j st K => Option.none
theorem main {ρ : Type} (K : AV → List Ob → Option ρ) (a1 : ByteArray) (a2 : Int) (a3 : Int) (a4 : Int) : exC Try.prog (G) (L) [] 0 (bodyOf Try.f54) (entry 13 [.a [.n (.v (.string a1)), .n (.v (.int .i64 a2)), .n (.v (.int .i64 a3))], .c (.n (.v (.int .i64 a4)))] [] []) (finO Try.prog Try.f54.results.toList 0 [] [] K) =
    B a1 a2 a3 a4 (fun x1 => K (.c (.n (.v (.int .i64 x1)))) []) := by kernel_rfl
theorem Gok : (G).ok Try.prog := ⟨(fun ρ f args K r h => (by cases h)),
  (fun ρ f args K => rfl),
  (fun ρ f st caps args dst K r h => (by cases h))⟩
theorem hm : Try.prog.follows .mixedOrders = true := by kernel_rfl
theorem e : atomsL [] 0 (bodyOf Try.f54) = [] := by kernel_rfl
theorem acc (t : ByteArray × Int × Int × Int) (x : Int) (h : F t.1 t.2.1 t.2.2.1 t.2.2.2 = some x) : ACc Try.prog 54 (encA t) [] true [] fun rv obs => (rv, obs) = encR x := by
  refine fun_okc (L := (L)) (jn := []) (cmds := []) (ks := []) (hin := []) (fn := Try.f54) (body := (bodyOf Try.f54)) Gok hm Try.func54 (by kernel_rfl) (by kernel_rfl) (by rw [e]; exact Lor.ok_nil _ _) ?_ h
  refine (main _ t.1 t.2.1 t.2.2.1 t.2.2.2).trans ?_
  refine congrArg (fun K => B t.1 t.2.1 t.2.2.1 t.2.2.2 K) ?_
  funext x1
  exact ofC_enc encRI some (x1)
theorem ac0 (t : ByteArray × Int × Int × Int) (x : Int) (h : F t.1 t.2.1 t.2.2.1 t.2.2.2 = some x) : AC Try.prog 54 (encA t) [] true [] fun rv obs => (rv, obs) = encR x := ACc.ac (body := bodyOf Try.f54) Try.func54 (by kernel_rfl) (by kernel_rfl) (acc t x h)
theorem ac (args : List AV) (x : Int) (h : Q args = some x) : AC Try.prog 54 args [] false [] fun rv obs => (rv, obs) = encR x := by
  obtain ⟨t, rfl, h2⟩ := ofC_some h
  refine (ac0 t x h2).flat fun rv obs e => ?_
  obtain rfl : rv = (encR x).1 := congrArg Prod.fst e
  obtain rfl : obs = (encR x).2 := congrArg Prod.snd e
  refine ⟨by simp [encR, AV.Flat, K.Flat, C.Flat], ?_⟩
  simp [encR]
end laws_szName
/-! loop.example/g00073/laws.szNameS -/
namespace laws_szNameS
noncomputable def B0 {ρ : Type} (C_laws_szName : ByteArray → Int → Int → Int → Option Int) (v1 : Vec (ByteArray × Int × Int)) (v2 : Int) (v3 : Int) (W : (Vec (ByteArray × Int × Int)) → Int → Int → Option ρ) (K0 : Int → Option ρ) (Kr : Int → Option ρ) : Option ρ :=
  sel (decide (v3 < (v1.n : Int))) (chk (decide (0 ≤ v3 ∧ v3 < (v1.n : Int))) ((C_laws_szName ((v1.g v3.toNat).1) ((v1.g v3.toNat).2.1) ((v1.g v3.toNat).2.2) v2).bind fun r1 => sel (decide (r1 < (0 : Int))) (Kr (-1 : Int)) (W v1 r1 (wr (v3 + (1 : Int)))))) (K0 v2)
noncomputable def F0 {ρ : Type} : Nat → (Vec (ByteArray × Int × Int)) → Int → Int → (Int → Option ρ) → (Int → Option ρ) → Option ρ
  | 0, _, _, _, _, _ => none
  | k + 1, v1, v2, v3, K0, Kr => B0 laws_szName.F v1 v2 v3 (fun v1' v2' v3' => F0 k v1' v2' v3' K0 Kr) K0 Kr
noncomputable def B {ρ : Type} (L0 : (Vec (ByteArray × Int × Int)) → Int → Int → (Int → Option ρ) → (Int → Option ρ) → Option ρ) (a1 : Vec (ByteArray × Int × Int)) (a2 : Int) (K : Int → Option ρ) : Option ρ :=
  sel (decide ((wr (a2 - (a1.n : Int))) < (0 : Int))) (K (-1 : Int)) (L0 a1 (wr (a2 - (a1.n : Int))) (0 : Int) (fun e01 => K e01) (fun x01 => K x01))
noncomputable def F (a1 : Vec (ByteArray × Int × Int)) (a2 : Int) : Option Int := B (F0 fuelN) a1 a2 (fun x1 => some (x1))
def encA (t : (Vec (ByteArray × Int × Int)) × Int) : List AV := [.c (.n (.sl 3 (encRw t.1))), .c (.n (.v (.int .i64 t.2)))]
def encR (x : Int) : AV × List Ob := (.c (.n (.v (.int .i64 x))), [])
theorem encAI : ∀ a b, encA a = encA b → a = b := by
  intro a b h
  obtain ⟨a0, a1⟩ := a
  obtain ⟨b0, b1⟩ := b
  simp [encA, encRw_iff] at h
  simp_all
theorem encRI : ∀ a b, encR a = encR b → a = b := by
  intro a b h
  simp [encR, encRw_iff] at h
  simp_all
noncomputable def Q (args : List AV) : Option Int := ofC encA (fun t => F t.1 t.2) args
theorem wrap : (fun (y1 : Vec (ByteArray × Int × Int)) (y2 : Int) => Q [.c (.n (.sl 3 (encRw y1))), .c (.n (.v (.int .i64 y2)))]) = F := by
  funext y1 y2
  exact ofC_enc encAI _ (y1, y2)
noncomputable def G (q_laws_szName : List AV → Option Int) : Orc := ⟨fun f => sel (Nat.beq f 54) 0 (9), fun ρ f args K => sel (Nat.beq f 54) (qEntry laws_szName.encR q_laws_szName args K) (Option.none), noE⟩
noncomputable def L (W0 : (ρ : Type) → List AV → List Ob → (Int → Option ρ) → (Int → Option ρ) → Option ρ) : Lor := fun ρ j st K => sel (Nat.beq j 0) (cutO Try.prog 27 [0, 1, 5] 0 [] [] st fun avs obs => W0 ρ avs obs (fun z1 => K (.exit 0) (mkS 27 [1] [.c (.n (.v (.int .i64 z1)))] [] [])) (fun z1 => K .ret (mkS 27 [4] [.c (.n (.v (.int .i64 z1)))] [] []))) (Option.none)
noncomputable def c0 : Code := loopC (atomN [] 0 (bodyOf Try.f26) 0)
def ct0 : Cut := ⟨[0, 1, 5], []⟩
def lv0 : Exit → Cut
  | .exit 0 => ⟨[1], []⟩
  | .ret => ⟨[4], []⟩
  | _ => ⟨[], []⟩
theorem step0 (q_laws_szName : List AV → Option Int) (W0 : (ρ : Type) → List AV → List Ob → (Int → Option ρ) → (Int → Option ρ) → Option ρ) {ρ : Type} (K : Exit → St → Option ρ) (W : List AV → List Ob → Option ρ) (v1 : Vec (ByteArray × Int × Int)) (v2 : Int) (v3 : Int) : exC Try.prog (G q_laws_szName) (L W0) [] 1 c0 (mkS 27 [0, 1, 5] [.c (.n (.sl 3 (encRw v1))), .c (.n (.v (.int .i64 v2))), .c (.n (.v (.int .i64 v3)))] [] []) (bodyK Try.prog 27 0 [] ct0 W lv0 K) =
    B0 (fun y1 y2 y3 y4 => q_laws_szName [.a [.n (.v (.string y1)), .n (.v (.int .i64 y2)), .n (.v (.int .i64 y3))], .c (.n (.v (.int .i64 y4)))]) v1 v2 v3 (fun u1 u2 u3 => W [.c (.n (.sl 3 (encRw u1))), .c (.n (.v (.int .i64 u2))), .c (.n (.v (.int .i64 u3)))] []) (fun z1 => K (.exit 0) (mkS 27 [1] [.c (.n (.v (.int .i64 z1)))] [] [])) (fun z1 => K .ret (mkS 27 [4] [.c (.n (.v (.int .i64 z1)))] [] [])) := by kernel_rfl
def enc0 (t : (Vec (ByteArray × Int × Int)) × Int × Int) : List AV × List Ob := ([.c (.n (.sl 3 (encRw t.1))), .c (.n (.v (.int .i64 t.2.1))), .c (.n (.v (.int .i64 t.2.2)))], [])
theorem enc0I : ∀ a b, enc0 a = enc0 b → a = b := by
  intro a b h
  obtain ⟨a0, a1, a2⟩ := a
  obtain ⟨b0, b1, b2⟩ := b
  simp [enc0, encRw_iff] at h
  simp_all
noncomputable def V0 : (ρ : Type) → List AV → List Ob → (Int → Option ρ) → (Int → Option ρ) → Option ρ := fun ρ avs obs k0 kr => ofC enc0 (fun t => F0 fuelN t.1 t.2.1 t.2.2 k0 kr) (avs, obs)
theorem V0_enc (ρ : Type) : (fun w1 w2 w3 k0 kr => V0 ρ [.c (.n (.sl 3 (encRw w1))), .c (.n (.v (.int .i64 w2))), .c (.n (.v (.int .i64 w3)))] [] k0 kr) = F0 fuelN := by
  funext w1 w2 w3 k0 kr
  exact ofC_enc enc0I _ (w1, w2, w3)
theorem main (q_laws_szName : List AV → Option Int) (W0 : (ρ : Type) → List AV → List Ob → (Int → Option ρ) → (Int → Option ρ) → Option ρ) {ρ : Type} (K : AV → List Ob → Option ρ) (a1 : Vec (ByteArray × Int × Int)) (a2 : Int) : exC Try.prog (G q_laws_szName) (L W0) [] 0 (bodyOf Try.f26) (entry 27 [.c (.n (.sl 3 (encRw a1))), .c (.n (.v (.int .i64 a2)))] [] []) (finO Try.prog Try.f26.results.toList 0 [] [] K) =
    B (fun w1 w2 w3 k0 kr => W0 ρ [.c (.n (.sl 3 (encRw w1))), .c (.n (.v (.int .i64 w2))), .c (.n (.v (.int .i64 w3)))] [] k0 kr) a1 a2 (fun x1 => K (.c (.n (.v (.int .i64 x1)))) []) := by kernel_rfl
theorem Gok : (G laws_szName.Q).ok Try.prog := ⟨(by
    intro ρ f args K r h
    rcases sel_cases h with ⟨hb, h⟩ | ⟨-, h⟩
    · obtain rfl := beq_nat hb
      exact qEntry_ok laws_szName.ac h
    cases h),
  (by
    intro ρ f args K
    simp only [G]
    cases Nat.beq f 54 with
    | true => exact qEntry_nat args K
    | false =>
    simp only [sel]
    rfl),
  (fun ρ f st caps args dst K r h => (by cases h))⟩
theorem hm : Try.prog.follows .mixedOrders = true := by kernel_rfl
theorem e0 : atomsL [] 1 c0 = [] := by kernel_rfl
theorem ok0 (ρ : Type) (st : St) (K : Exit → St → Option ρ) (r : ρ) (h : (L V0) ρ 0 st K = some r) : AW Try.prog (.loop c0) st fun e st' => K e st' = some r := by
  refine loop_ok (ct := ct0) (lv := lv0) (n := 27) (m := 0) (ks := []) (j := 0) (jn := []) (L := (L V0)) Gok hm (by rw [e0]; exact Lor.ok_nil _ _) enc0I (fun k t => F0 k t.1 t.2.1 t.2.2 (fun z1 => K (.exit 0) (mkS 27 [1] [.c (.n (.v (.int .i64 z1)))] [] [])) (fun z1 => K .ret (mkS 27 [4] [.c (.n (.v (.int .i64 z1)))] [] []))) (fun t => rfl) (fun k t => ?_) (fun _ => fuelN) h
  refine (step0 laws_szName.Q V0 K _ t.1 t.2.1 t.2.2).trans ?_
  rw [laws_szName.wrap]
  refine congrArg (fun W => B0 laws_szName.F t.1 t.2.1 t.2.2 W (fun z1 => K (.exit 0) (mkS 27 [1] [.c (.n (.v (.int .i64 z1)))] [] [])) (fun z1 => K .ret (mkS 27 [4] [.c (.n (.v (.int .i64 z1)))] [] []))) ?_
  funext u1 u2 u3
  exact ofC_enc enc0I _ (u1, u2, u3)
theorem e : atomsL [] 0 (bodyOf Try.f26) = [(0, 0, .loop c0)] := by kernel_rfl
theorem acc (t : (Vec (ByteArray × Int × Int)) × Int) (x : Int) (h : F t.1 t.2 = some x) : ACc Try.prog 26 (encA t) [] true [] fun rv obs => (rv, obs) = encR x := by
  refine fun_okc (L := (L V0)) (jn := []) (cmds := []) (ks := []) (hin := []) (fn := Try.f26) (body := (bodyOf Try.f26)) Gok hm Try.func26 (by kernel_rfl) (by kernel_rfl) (by rw [e]; exact Lor.ok_cons ok0 (Lor.ok_nil _ _)) ?_ h
  refine (main laws_szName.Q V0 _ t.1 t.2).trans ?_
  rw [V0_enc]
  refine congrArg (fun K => B (F0 fuelN) t.1 t.2 K) ?_
  funext x1
  exact ofC_enc encRI some (x1)
theorem ac0 (t : (Vec (ByteArray × Int × Int)) × Int) (x : Int) (h : F t.1 t.2 = some x) : AC Try.prog 26 (encA t) [] true [] fun rv obs => (rv, obs) = encR x := ACc.ac (body := bodyOf Try.f26) Try.func26 (by kernel_rfl) (by kernel_rfl) (acc t x h)
theorem ac (args : List AV) (x : Int) (h : Q args = some x) : AC Try.prog 26 args [] false [] fun rv obs => (rv, obs) = encR x := by
  obtain ⟨t, rfl, h2⟩ := ofC_some h
  refine (ac0 t x h2).flat fun rv obs e => ?_
  obtain rfl : rv = (encR x).1 := congrArg Prod.fst e
  obtain rfl : obs = (encR x).2 := congrArg Prod.snd e
  refine ⟨by simp [encR, AV.Flat, K.Flat, C.Flat], ?_⟩
  simp [encR]
end laws_szNameS
/-! loop.example/g00073/laws.toName -/
namespace laws_toName
noncomputable def B {ρ : Type} (a1 : ByteArray) (a2 : Int) (a3 : Int) (K : ByteArray → Int → Int → Option ρ) : Option ρ :=
  K a1 a2 a3
noncomputable def F (a1 : ByteArray) (a2 : Int) (a3 : Int) : Option (ByteArray × Int × Int) := B a1 a2 a3 (fun x1 x2 x3 => some (x1, x2, x3))
def encA (t : ByteArray × Int × Int) : List AV := [.a [.n (.v (.string t.1)), .n (.v (.int .i64 t.2.1)), .n (.v (.int .i64 t.2.2))]]
def encR (x : ByteArray × Int × Int) : AV × List Ob := (.a [.n (.v (.string x.1)), .n (.v (.int .i64 x.2.1)), .n (.v (.int .i64 x.2.2))], [])
theorem encAI : ∀ a b, encA a = encA b → a = b := by
  intro a b h
  obtain ⟨a0, a1, a2⟩ := a
  obtain ⟨b0, b1, b2⟩ := b
  simp [encA, encRw_iff] at h
  simp_all
theorem encRI : ∀ a b, encR a = encR b → a = b := by
  intro a b h
  obtain ⟨a0, a1, a2⟩ := a
  obtain ⟨b0, b1, b2⟩ := b
  simp [encR, encRw_iff] at h
  simp_all
noncomputable def Q (args : List AV) : Option (ByteArray × Int × Int) := ofC encA (fun t => F t.1 t.2.1 t.2.2) args
theorem wrap : (fun (y1 : ByteArray) (y2 : Int) (y3 : Int) => Q [.a [.n (.v (.string y1)), .n (.v (.int .i64 y2)), .n (.v (.int .i64 y3))]]) = F := by
  funext y1 y2 y3
  exact ofC_enc encAI _ (y1, y2, y3)
noncomputable def G : Orc := ⟨fun f => 9, fun ρ f args K => Option.none, noE⟩
noncomputable def L : Lor := fun ρ j st K => Option.none
theorem main {ρ : Type} (K : AV → List Ob → Option ρ) (a1 : ByteArray) (a2 : Int) (a3 : Int) : exC Try.prog (G) (L) [] 0 (bodyOf Try.f55) (entry 14 [.a [.n (.v (.string a1)), .n (.v (.int .i64 a2)), .n (.v (.int .i64 a3))]] [] []) (finO Try.prog Try.f55.results.toList 0 [] [] K) =
    B a1 a2 a3 (fun x1 x2 x3 => K (.a [.n (.v (.string x1)), .n (.v (.int .i64 x2)), .n (.v (.int .i64 x3))]) []) := by kernel_rfl
theorem Gok : (G).ok Try.prog := ⟨(fun ρ f args K r h => (by cases h)),
  (fun ρ f args K => rfl),
  (fun ρ f st caps args dst K r h => (by cases h))⟩
theorem hm : Try.prog.follows .mixedOrders = true := by kernel_rfl
theorem e : atomsL [] 0 (bodyOf Try.f55) = [] := by kernel_rfl
theorem acc (t : ByteArray × Int × Int) (x : ByteArray × Int × Int) (h : F t.1 t.2.1 t.2.2 = some x) : ACc Try.prog 55 (encA t) [] true [] fun rv obs => (rv, obs) = encR x := by
  refine fun_okc (L := (L)) (jn := []) (cmds := []) (ks := []) (hin := []) (fn := Try.f55) (body := (bodyOf Try.f55)) Gok hm Try.func55 (by kernel_rfl) (by kernel_rfl) (by rw [e]; exact Lor.ok_nil _ _) ?_ h
  refine (main _ t.1 t.2.1 t.2.2).trans ?_
  refine congrArg (fun K => B t.1 t.2.1 t.2.2 K) ?_
  funext x1 x2 x3
  exact ofC_enc encRI some (x1, x2, x3)
theorem ac0 (t : ByteArray × Int × Int) (x : ByteArray × Int × Int) (h : F t.1 t.2.1 t.2.2 = some x) : AC Try.prog 55 (encA t) [] true [] fun rv obs => (rv, obs) = encR x := ACc.ac (body := bodyOf Try.f55) Try.func55 (by kernel_rfl) (by kernel_rfl) (acc t x h)
theorem ac (args : List AV) (x : ByteArray × Int × Int) (h : Q args = some x) : AC Try.prog 55 args [] false [] fun rv obs => (rv, obs) = encR x := by
  obtain ⟨t, rfl, h2⟩ := ofC_some h
  refine (ac0 t x h2).flat fun rv obs e => ?_
  obtain rfl : rv = (encR x).1 := congrArg Prod.fst e
  obtain rfl : obs = (encR x).2 := congrArg Prod.snd e
  refine ⟨by simp [encR, AV.Flat, K.Flat, C.Flat], ?_⟩
  simp [encR]
end laws_toName
/-! loop.example/g00073/laws.toNameS -/
namespace laws_toNameS
noncomputable def B0 {ρ : Type} (C_laws_toName : ByteArray → Int → Int → Option (ByteArray × Int × Int)) (v1 : Vec (ByteArray × Int × Int)) (v2 : Int) (v3 : Vec (ByteArray × Int × Int)) (W : (Vec (ByteArray × Int × Int)) → Int → (Vec (ByteArray × Int × Int)) → Option ρ) (K0 : (Vec (ByteArray × Int × Int)) → Option ρ) : Option ρ :=
  sel (decide (v2 < (v1.n : Int))) (chk (decide (0 ≤ v2 ∧ v2 < (v1.n : Int))) ((C_laws_toName ((v1.g v2.toNat).1) ((v1.g v2.toNat).2.1) ((v1.g v2.toNat).2.2)).bind fun r1 => chk (decide (0 ≤ v2 ∧ v2 < (v3.n : Int))) (chk (decide (v2.toNat < v3.n)) (W v1 (wr (v2 + (1 : Int))) (Vec.set v3 v2.toNat (r1.1, r1.2.1, r1.2.2)))))) (K0 v3)
noncomputable def F0 {ρ : Type} : Nat → (Vec (ByteArray × Int × Int)) → Int → (Vec (ByteArray × Int × Int)) → ((Vec (ByteArray × Int × Int)) → Option ρ) → Option ρ
  | 0, _, _, _, _ => none
  | k + 1, v1, v2, v3, K0 => B0 laws_toName.F v1 v2 v3 (fun v1' v2' v3' => F0 k v1' v2' v3' K0) K0
noncomputable def B {ρ : Type} (L0 : (Vec (ByteArray × Int × Int)) → Int → (Vec (ByteArray × Int × Int)) → ((Vec (ByteArray × Int × Int)) → Option ρ) → Option ρ) (a1 : Vec (ByteArray × Int × Int)) (K : (Vec (ByteArray × Int × Int)) → Option ρ) : Option ρ :=
  chk (decide ((a1.n : Int) = (a1.n : Int) ∧ 0 ≤ (a1.n : Int))) (chk (mkOk (a1.n : Int) 32) (L0 a1 (0 : Int) (Vec.rep ((a1.n : Int).toNat) (ByteArray.empty, (0 : Int), (0 : Int)) : Vec (ByteArray × Int × Int)) (fun e01 => K e01)))
noncomputable def F (a1 : Vec (ByteArray × Int × Int)) : Option (Vec (ByteArray × Int × Int)) := B (F0 fuelN) a1 (fun x1 => some (x1))
def encA (t : Vec (ByteArray × Int × Int)) : List AV := [.c (.n (.sl 3 (encRw t)))]
def encR (x : Vec (ByteArray × Int × Int)) : AV × List Ob := (.c (.h 0), [.row 3 (encRw x) []])
theorem encAI : ∀ a b, encA a = encA b → a = b := by
  intro a b h
  simp [encA, encRw_iff] at h
  simp_all
theorem encRI : ∀ a b, encR a = encR b → a = b := by
  intro a b h
  simp [encR, encRw_iff] at h
  simp_all
noncomputable def Q (args : List AV) : Option (Vec (ByteArray × Int × Int)) := ofC encA (fun t => F t) args
theorem wrap : (fun (y1 : Vec (ByteArray × Int × Int)) => Q [.c (.n (.sl 3 (encRw y1)))]) = F := by
  funext y1
  exact ofC_enc encAI _ (y1)
noncomputable def G (q_laws_toName : List AV → Option (ByteArray × Int × Int)) : Orc := ⟨fun f => sel (Nat.beq f 55) 0 (9), fun ρ f args K => sel (Nat.beq f 55) (qEntry laws_toName.encR q_laws_toName args K) (Option.none), noE⟩
noncomputable def L (W0 : (ρ : Type) → List AV → List Ob → ((Vec (ByteArray × Int × Int)) → Option ρ) → Option ρ) : Lor := fun ρ j st K => sel (Nat.beq j 0) (cutO Try.prog 23 [0, 3, 4] 0 [] [] st fun avs obs => W0 ρ avs obs (fun z1 => K (.exit 0) (mkS 23 [3] [.c (.h 0)] [.row 3 (encRw z1) []] []))) (Option.none)
noncomputable def c0 : Code := loopC (atomN [] 0 (bodyOf Try.f28) 0)
def ct0 : Cut := ⟨[0, 3, 4], []⟩
def lv0 : Exit → Cut
  | .exit 0 => ⟨[3], []⟩
  | _ => ⟨[], []⟩
theorem step0 (q_laws_toName : List AV → Option (ByteArray × Int × Int)) (W0 : (ρ : Type) → List AV → List Ob → ((Vec (ByteArray × Int × Int)) → Option ρ) → Option ρ) {ρ : Type} (K : Exit → St → Option ρ) (W : List AV → List Ob → Option ρ) (v1 : Vec (ByteArray × Int × Int)) (v2 : Int) (v3 : Vec (ByteArray × Int × Int)) : exC Try.prog (G q_laws_toName) (L W0) [] 1 c0 (mkS 23 [0, 3, 4] [.c (.n (.sl 3 (encRw v1))), .c (.h 0), .c (.n (.v (.int .i64 v2)))] [.row 3 (encRw v3) []] []) (bodyK Try.prog 23 0 [] ct0 W lv0 K) =
    B0 (fun y1 y2 y3 => q_laws_toName [.a [.n (.v (.string y1)), .n (.v (.int .i64 y2)), .n (.v (.int .i64 y3))]]) v1 v2 v3 (fun u1 u2 u3 => W [.c (.n (.sl 3 (encRw u1))), .c (.h 0), .c (.n (.v (.int .i64 u2)))] [.row 3 (encRw u3) []]) (fun z1 => K (.exit 0) (mkS 23 [3] [.c (.h 0)] [.row 3 (encRw z1) []] [])) := by kernel_rfl
def enc0 (t : (Vec (ByteArray × Int × Int)) × Int × (Vec (ByteArray × Int × Int))) : List AV × List Ob := ([.c (.n (.sl 3 (encRw t.1))), .c (.h 0), .c (.n (.v (.int .i64 t.2.1)))], [.row 3 (encRw t.2.2) []])
theorem enc0I : ∀ a b, enc0 a = enc0 b → a = b := by
  intro a b h
  obtain ⟨a0, a1, a2⟩ := a
  obtain ⟨b0, b1, b2⟩ := b
  simp [enc0, encRw_iff] at h
  simp_all
noncomputable def V0 : (ρ : Type) → List AV → List Ob → ((Vec (ByteArray × Int × Int)) → Option ρ) → Option ρ := fun ρ avs obs k0 => ofC enc0 (fun t => F0 fuelN t.1 t.2.1 t.2.2 k0) (avs, obs)
theorem V0_enc (ρ : Type) : (fun w1 w2 w3 k0 => V0 ρ [.c (.n (.sl 3 (encRw w1))), .c (.h 0), .c (.n (.v (.int .i64 w2)))] [.row 3 (encRw w3) []] k0) = F0 fuelN := by
  funext w1 w2 w3 k0
  exact ofC_enc enc0I _ (w1, w2, w3)
theorem main (q_laws_toName : List AV → Option (ByteArray × Int × Int)) (W0 : (ρ : Type) → List AV → List Ob → ((Vec (ByteArray × Int × Int)) → Option ρ) → Option ρ) {ρ : Type} (K : AV → List Ob → Option ρ) (a1 : Vec (ByteArray × Int × Int)) : exC Try.prog (G q_laws_toName) (L W0) [] 0 (bodyOf Try.f28) (entry 23 [.c (.n (.sl 3 (encRw a1)))] [] []) (finO Try.prog Try.f28.results.toList 0 [] [] K) =
    B (fun w1 w2 w3 k0 => W0 ρ [.c (.n (.sl 3 (encRw w1))), .c (.h 0), .c (.n (.v (.int .i64 w2)))] [.row 3 (encRw w3) []] k0) a1 (fun x1 => K (.c (.h 0)) [.row 3 (encRw x1) []]) := by kernel_rfl
theorem Gok : (G laws_toName.Q).ok Try.prog := ⟨(by
    intro ρ f args K r h
    rcases sel_cases h with ⟨hb, h⟩ | ⟨-, h⟩
    · obtain rfl := beq_nat hb
      exact qEntry_ok laws_toName.ac h
    cases h),
  (by
    intro ρ f args K
    simp only [G]
    cases Nat.beq f 55 with
    | true => exact qEntry_nat args K
    | false =>
    simp only [sel]
    rfl),
  (fun ρ f st caps args dst K r h => (by cases h))⟩
theorem hm : Try.prog.follows .mixedOrders = true := by kernel_rfl
theorem e0 : atomsL [] 1 c0 = [] := by kernel_rfl
theorem ok0 (ρ : Type) (st : St) (K : Exit → St → Option ρ) (r : ρ) (h : (L V0) ρ 0 st K = some r) : AW Try.prog (.loop c0) st fun e st' => K e st' = some r := by
  refine loop_ok (ct := ct0) (lv := lv0) (n := 23) (m := 0) (ks := []) (j := 0) (jn := []) (L := (L V0)) Gok hm (by rw [e0]; exact Lor.ok_nil _ _) enc0I (fun k t => F0 k t.1 t.2.1 t.2.2 (fun z1 => K (.exit 0) (mkS 23 [3] [.c (.h 0)] [.row 3 (encRw z1) []] []))) (fun t => rfl) (fun k t => ?_) (fun _ => fuelN) h
  refine (step0 laws_toName.Q V0 K _ t.1 t.2.1 t.2.2).trans ?_
  rw [laws_toName.wrap]
  refine congrArg (fun W => B0 laws_toName.F t.1 t.2.1 t.2.2 W (fun z1 => K (.exit 0) (mkS 23 [3] [.c (.h 0)] [.row 3 (encRw z1) []] []))) ?_
  funext u1 u2 u3
  exact ofC_enc enc0I _ (u1, u2, u3)
theorem e : atomsL [] 0 (bodyOf Try.f28) = [(0, 0, .loop c0)] := by kernel_rfl
theorem acc (t : Vec (ByteArray × Int × Int)) (x : Vec (ByteArray × Int × Int)) (h : F t = some x) : ACc Try.prog 28 (encA t) [] true [] fun rv obs => (rv, obs) = encR x := by
  refine fun_okc (L := (L V0)) (jn := []) (cmds := []) (ks := []) (hin := []) (fn := Try.f28) (body := (bodyOf Try.f28)) Gok hm Try.func28 (by kernel_rfl) (by kernel_rfl) (by rw [e]; exact Lor.ok_cons ok0 (Lor.ok_nil _ _)) ?_ h
  refine (main laws_toName.Q V0 _ t).trans ?_
  rw [V0_enc]
  refine congrArg (fun K => B (F0 fuelN) t K) ?_
  funext x1
  exact ofC_enc encRI some (x1)
theorem ac0 (t : Vec (ByteArray × Int × Int)) (x : Vec (ByteArray × Int × Int)) (h : F t = some x) : AC Try.prog 28 (encA t) [] true [] fun rv obs => (rv, obs) = encR x := ACc.ac (body := bodyOf Try.f28) Try.func28 (by kernel_rfl) (by kernel_rfl) (acc t x h)
theorem ac (args : List AV) (x : Vec (ByteArray × Int × Int)) (h : Q args = some x) : AC Try.prog 28 args [] false [] fun rv obs => (rv, obs) = encR x := by
  obtain ⟨t, rfl, h2⟩ := ofC_some h
  refine (ac0 t x h2).flat fun rv obs e => ?_
  obtain rfl : rv = (encR x).1 := congrArg Prod.fst e
  obtain rfl : obs = (encR x).2 := congrArg Prod.snd e
  refine ⟨by simp [encR, AV.Flat, K.Flat, C.Flat], ?_⟩
  intro o ho
  simp only [encR, List.mem_cons, List.not_mem_nil, or_false] at ho
  subst ho
  exact flat_rw rfl _
end laws_toNameS
/-! loop.example/g00073/spec.NamesOk -/
namespace spec_NamesOk
noncomputable def B1 {ρ : Type} (v1 : Vec (ByteArray × Int × Int)) (v2 : Int) (v3 : Int) (v4 : ByteArray) (v5 : Int) (v6 : Int) (W : (Vec (ByteArray × Int × Int)) → Int → Int → ByteArray → Int → Int → Option ρ) (K2 : (Vec (ByteArray × Int × Int)) → Int → Option ρ) (Kr : Bool → Option ρ) : Option ρ :=
  sel (decide (v3 < v2)) (chk (decide (0 ≤ v3 ∧ v3 < (v1.n : Int))) (sel (decide ((v1.g v3.toNat).2.1 = v5)) (Kr false) (W v1 v2 (wr (v3 + (1 : Int))) v4 v5 v6))) (K2 v1 v2)
noncomputable def F1 {ρ : Type} : Nat → (Vec (ByteArray × Int × Int)) → Int → Int → ByteArray → Int → Int → ((Vec (ByteArray × Int × Int)) → Int → Option ρ) → (Bool → Option ρ) → Option ρ
  | 0, _, _, _, _, _, _, _, _ => none
  | k + 1, v1, v2, v3, v4, v5, v6, K2, Kr => B1 v1 v2 v3 v4 v5 v6 (fun v1' v2' v3' v4' v5' v6' => F1 k v1' v2' v3' v4' v5' v6' K2 Kr) K2 Kr
noncomputable def B0 {ρ : Type} (C_spec_PathOk : ByteArray → Option Bool) (C_spec_l01In : Int → Int → Int → Option Bool) (L1 : (Vec (ByteArray × Int × Int)) → Int → Int → ByteArray → Int → Int → ((Vec (ByteArray × Int × Int)) → Int → Option ρ) → (Bool → Option ρ) → Option ρ) (v1 : Vec (ByteArray × Int × Int)) (v2 : Int) (W : (Vec (ByteArray × Int × Int)) → Int → Option ρ) (K0 : Unit → Option ρ) (Kr : Bool → Option ρ) : Option ρ :=
  sel (decide (v2 < (v1.n : Int))) (chk (decide (0 ≤ v2 ∧ v2 < (v1.n : Int))) ((C_spec_PathOk ((v1.g v2.toNat).1)).bind fun r1 => sel ((!r1)) (Kr false) (sel (decide ((0 : Int) < v2)) (chk (decide (0 ≤ (wr (v2 - (1 : Int))) ∧ (wr (v2 - (1 : Int))) < (v1.n : Int))) (sel ((!decide (((v1.g (wr (v2 - (1 : Int))).toNat).1).toList < ((v1.g v2.toNat).1).toList))) (Kr false) ((C_spec_l01In ((v1.g v2.toNat).2.1) (0 : Int) (11 : Int)).bind fun r2 => sel ((!r2)) (Kr false) ((C_spec_l01In ((v1.g v2.toNat).2.2) (0 : Int) (39 : Int)).bind fun r3 => sel ((!r3)) (Kr false) (L1 v1 v2 (0 : Int) ((v1.g v2.toNat).1) ((v1.g v2.toNat).2.1) ((v1.g v2.toNat).2.2) (fun e11 e12 => W e11 (wr (e12 + (1 : Int)))) (fun x11 => Kr x11)))))) ((C_spec_l01In ((v1.g v2.toNat).2.1) (0 : Int) (11 : Int)).bind fun r4 => sel ((!r4)) (Kr false) ((C_spec_l01In ((v1.g v2.toNat).2.2) (0 : Int) (39 : Int)).bind fun r5 => sel ((!r5)) (Kr false) (L1 v1 v2 (0 : Int) ((v1.g v2.toNat).1) ((v1.g v2.toNat).2.1) ((v1.g v2.toNat).2.2) (fun e11 e12 => W e11 (wr (e12 + (1 : Int)))) (fun x11 => Kr x11))))))) (K0 ())
noncomputable def F0 {ρ : Type} : Nat → (Vec (ByteArray × Int × Int)) → Int → (Unit → Option ρ) → (Bool → Option ρ) → Option ρ
  | 0, _, _, _, _ => none
  | k + 1, v1, v2, K0, Kr => B0 spec_PathOk.F spec_l01In.F (F1 fuelN) v1 v2 (fun v1' v2' => F0 k v1' v2' K0 Kr) K0 Kr
noncomputable def B {ρ : Type} (L0 : (Vec (ByteArray × Int × Int)) → Int → (Unit → Option ρ) → (Bool → Option ρ) → Option ρ) (a1 : Vec (ByteArray × Int × Int)) (K : Bool → Option ρ) : Option ρ :=
  sel (decide ((12 : Int) < (a1.n : Int))) (K false) (L0 a1 (0 : Int) (fun _ => K true) (fun x01 => K x01))
noncomputable def F (a1 : Vec (ByteArray × Int × Int)) : Option Bool := B (F0 fuelN) a1 (fun x1 => some (x1))
def encA (t : Vec (ByteArray × Int × Int)) : List AV := [.c (.n (.sl 3 (encRw t)))]
def encR (x : Bool) : AV × List Ob := (.c (.n (.v (.bool x))), [])
theorem encAI : ∀ a b, encA a = encA b → a = b := by
  intro a b h
  simp [encA, encRw_iff] at h
  simp_all
theorem encRI : ∀ a b, encR a = encR b → a = b := by
  intro a b h
  simp [encR, encRw_iff] at h
  simp_all
noncomputable def Q (args : List AV) : Option Bool := ofC encA (fun t => F t) args
theorem wrap : (fun (y1 : Vec (ByteArray × Int × Int)) => Q [.c (.n (.sl 3 (encRw y1)))]) = F := by
  funext y1
  exact ofC_enc encAI _ (y1)
noncomputable def G (q_spec_PathOk : List AV → Option Bool) (q_spec_l01In : List AV → Option Bool) : Orc := ⟨fun f => sel (Nat.beq f 24) 0 (sel (Nat.beq f 44) 0 (9)), fun ρ f args K => sel (Nat.beq f 24) (qEntry spec_PathOk.encR q_spec_PathOk args K) (sel (Nat.beq f 44) (qEntry spec_l01In.encR q_spec_l01In args K) (Option.none)), noE⟩
noncomputable def L (W1 : (ρ : Type) → List AV → List Ob → ((Vec (ByteArray × Int × Int)) → Int → Option ρ) → (Bool → Option ρ) → Option ρ) (W0 : (ρ : Type) → List AV → List Ob → (Unit → Option ρ) → (Bool → Option ρ) → Option ρ) : Lor := fun ρ j st K => sel (Nat.beq j 0) (cutO Try.prog 63 [0, 3] 0 [] [] st fun avs obs => W0 ρ avs obs (fun _ => K (.exit 0) (mkS 63 [] [] [] [])) (fun z1 => K .ret (mkS 63 [2] [.c (.n (.v (.bool z1)))] [] []))) (sel (Nat.beq j 1) (cutO Try.prog 63 [0, 3, 4, 5] 0 [] [] st fun avs obs => W1 ρ avs obs (fun z1 z2 => K (.exit 2) (mkS 63 [0, 3] [.c (.n (.sl 3 (encRw z1))), .c (.n (.v (.int .i64 z2)))] [] [])) (fun z1 => K .ret (mkS 63 [2] [.c (.n (.v (.bool z1)))] [] []))) (Option.none))
noncomputable def c0 : Code := loopC (atomN [] 0 (bodyOf Try.f27) 0)
noncomputable def c1 : Code := loopC (atomN [] 1 c0 0)
def ct0 : Cut := ⟨[0, 3], []⟩
def lv0 : Exit → Cut
  | .exit 0 => ⟨[], []⟩
  | .ret => ⟨[2], []⟩
  | _ => ⟨[], []⟩
theorem step0 (q_spec_PathOk : List AV → Option Bool) (q_spec_l01In : List AV → Option Bool) (W1 : (ρ : Type) → List AV → List Ob → ((Vec (ByteArray × Int × Int)) → Int → Option ρ) → (Bool → Option ρ) → Option ρ) (W0 : (ρ : Type) → List AV → List Ob → (Unit → Option ρ) → (Bool → Option ρ) → Option ρ) {ρ : Type} (K : Exit → St → Option ρ) (W : List AV → List Ob → Option ρ) (v1 : Vec (ByteArray × Int × Int)) (v2 : Int) : exC Try.prog (G q_spec_PathOk q_spec_l01In) (L W1 W0) [] 1 c0 (mkS 63 [0, 3] [.c (.n (.sl 3 (encRw v1))), .c (.n (.v (.int .i64 v2)))] [] []) (bodyK Try.prog 63 0 [] ct0 W lv0 K) =
    B0 (fun y1 => q_spec_PathOk [.c (.n (.v (.string y1)))]) (fun y1 y2 y3 => q_spec_l01In [.c (.n (.v (.int .i64 y1))), .c (.n (.v (.int .i64 y2))), .c (.n (.v (.int .i64 y3)))]) (fun w1 w2 w3 w4 w5 w6 k2 kr => W1 ρ [.c (.n (.sl 3 (encRw w1))), .c (.n (.v (.int .i64 w2))), .c (.p 0 0), .c (.n (.v (.int .i64 w3)))] [.box [.n (.v (.string w4)), .n (.v (.int .i64 w5)), .n (.v (.int .i64 w6))]] k2 kr) v1 v2 (fun u1 u2 => W [.c (.n (.sl 3 (encRw u1))), .c (.n (.v (.int .i64 u2)))] []) (fun _ => K (.exit 0) (mkS 63 [] [] [] [])) (fun z1 => K .ret (mkS 63 [2] [.c (.n (.v (.bool z1)))] [] [])) := by kernel_rfl
def enc0 (t : (Vec (ByteArray × Int × Int)) × Int) : List AV × List Ob := ([.c (.n (.sl 3 (encRw t.1))), .c (.n (.v (.int .i64 t.2)))], [])
theorem enc0I : ∀ a b, enc0 a = enc0 b → a = b := by
  intro a b h
  obtain ⟨a0, a1⟩ := a
  obtain ⟨b0, b1⟩ := b
  simp [enc0, encRw_iff] at h
  simp_all
noncomputable def V0 : (ρ : Type) → List AV → List Ob → (Unit → Option ρ) → (Bool → Option ρ) → Option ρ := fun ρ avs obs k0 kr => ofC enc0 (fun t => F0 fuelN t.1 t.2 k0 kr) (avs, obs)
theorem V0_enc (ρ : Type) : (fun w1 w2 k0 kr => V0 ρ [.c (.n (.sl 3 (encRw w1))), .c (.n (.v (.int .i64 w2)))] [] k0 kr) = F0 fuelN := by
  funext w1 w2 k0 kr
  exact ofC_enc enc0I _ (w1, w2)
def ct1 : Cut := ⟨[0, 3, 4, 5], []⟩
def lv1 : Exit → Cut
  | .exit 2 => ⟨[0, 3], []⟩
  | .ret => ⟨[2], []⟩
  | _ => ⟨[], []⟩
theorem step1 (q_spec_PathOk : List AV → Option Bool) (q_spec_l01In : List AV → Option Bool) (W1 : (ρ : Type) → List AV → List Ob → ((Vec (ByteArray × Int × Int)) → Int → Option ρ) → (Bool → Option ρ) → Option ρ) (W0 : (ρ : Type) → List AV → List Ob → (Unit → Option ρ) → (Bool → Option ρ) → Option ρ) {ρ : Type} (K : Exit → St → Option ρ) (W : List AV → List Ob → Option ρ) (v1 : Vec (ByteArray × Int × Int)) (v2 : Int) (v3 : Int) (v4 : ByteArray) (v5 : Int) (v6 : Int) : exC Try.prog (G q_spec_PathOk q_spec_l01In) (L W1 W0) [] 2 c1 (mkS 63 [0, 3, 4, 5] [.c (.n (.sl 3 (encRw v1))), .c (.n (.v (.int .i64 v2))), .c (.p 0 0), .c (.n (.v (.int .i64 v3)))] [.box [.n (.v (.string v4)), .n (.v (.int .i64 v5)), .n (.v (.int .i64 v6))]] []) (bodyK Try.prog 63 0 [] ct1 W lv1 K) =
    B1 v1 v2 v3 v4 v5 v6 (fun u1 u2 u3 u4 u5 u6 => W [.c (.n (.sl 3 (encRw u1))), .c (.n (.v (.int .i64 u2))), .c (.p 0 0), .c (.n (.v (.int .i64 u3)))] [.box [.n (.v (.string u4)), .n (.v (.int .i64 u5)), .n (.v (.int .i64 u6))]]) (fun z1 z2 => K (.exit 2) (mkS 63 [0, 3] [.c (.n (.sl 3 (encRw z1))), .c (.n (.v (.int .i64 z2)))] [] [])) (fun z1 => K .ret (mkS 63 [2] [.c (.n (.v (.bool z1)))] [] [])) := by kernel_rfl
def enc1 (t : (Vec (ByteArray × Int × Int)) × Int × Int × ByteArray × Int × Int) : List AV × List Ob := ([.c (.n (.sl 3 (encRw t.1))), .c (.n (.v (.int .i64 t.2.1))), .c (.p 0 0), .c (.n (.v (.int .i64 t.2.2.1)))], [.box [.n (.v (.string t.2.2.2.1)), .n (.v (.int .i64 t.2.2.2.2.1)), .n (.v (.int .i64 t.2.2.2.2.2))]])
theorem enc1I : ∀ a b, enc1 a = enc1 b → a = b := by
  intro a b h
  obtain ⟨a0, a1, a2, a3, a4, a5⟩ := a
  obtain ⟨b0, b1, b2, b3, b4, b5⟩ := b
  simp [enc1, encRw_iff] at h
  simp_all
noncomputable def V1 : (ρ : Type) → List AV → List Ob → ((Vec (ByteArray × Int × Int)) → Int → Option ρ) → (Bool → Option ρ) → Option ρ := fun ρ avs obs k2 kr => ofC enc1 (fun t => F1 fuelN t.1 t.2.1 t.2.2.1 t.2.2.2.1 t.2.2.2.2.1 t.2.2.2.2.2 k2 kr) (avs, obs)
theorem V1_enc (ρ : Type) : (fun w1 w2 w3 w4 w5 w6 k2 kr => V1 ρ [.c (.n (.sl 3 (encRw w1))), .c (.n (.v (.int .i64 w2))), .c (.p 0 0), .c (.n (.v (.int .i64 w3)))] [.box [.n (.v (.string w4)), .n (.v (.int .i64 w5)), .n (.v (.int .i64 w6))]] k2 kr) = F1 fuelN := by
  funext w1 w2 w3 w4 w5 w6 k2 kr
  exact ofC_enc enc1I _ (w1, w2, w3, w4, w5, w6)
theorem main (q_spec_PathOk : List AV → Option Bool) (q_spec_l01In : List AV → Option Bool) (W1 : (ρ : Type) → List AV → List Ob → ((Vec (ByteArray × Int × Int)) → Int → Option ρ) → (Bool → Option ρ) → Option ρ) (W0 : (ρ : Type) → List AV → List Ob → (Unit → Option ρ) → (Bool → Option ρ) → Option ρ) {ρ : Type} (K : AV → List Ob → Option ρ) (a1 : Vec (ByteArray × Int × Int)) : exC Try.prog (G q_spec_PathOk q_spec_l01In) (L W1 W0) [] 0 (bodyOf Try.f27) (entry 63 [.c (.n (.sl 3 (encRw a1)))] [] []) (finO Try.prog Try.f27.results.toList 0 [] [] K) =
    B (fun w1 w2 k0 kr => W0 ρ [.c (.n (.sl 3 (encRw w1))), .c (.n (.v (.int .i64 w2)))] [] k0 kr) a1 (fun x1 => K (.c (.n (.v (.bool x1)))) []) := by kernel_rfl
theorem Gok : (G spec_PathOk.Q spec_l01In.Q).ok Try.prog := ⟨(by
    intro ρ f args K r h
    rcases sel_cases h with ⟨hb, h⟩ | ⟨-, h⟩
    · obtain rfl := beq_nat hb
      exact qEntry_ok spec_PathOk.ac h
    rcases sel_cases h with ⟨hb, h⟩ | ⟨-, h⟩
    · obtain rfl := beq_nat hb
      exact qEntry_ok spec_l01In.ac h
    cases h),
  (by
    intro ρ f args K
    simp only [G]
    cases Nat.beq f 24 with
    | true => exact qEntry_nat args K
    | false =>
    simp only [sel]
    cases Nat.beq f 44 with
    | true => exact qEntry_nat args K
    | false =>
    simp only [sel]
    rfl),
  (fun ρ f st caps args dst K r h => (by cases h))⟩
theorem hm : Try.prog.follows .mixedOrders = true := by kernel_rfl
theorem e1 : atomsL [] 2 c1 = [] := by kernel_rfl
theorem ok1 (ρ : Type) (st : St) (K : Exit → St → Option ρ) (r : ρ) (h : (L V1 V0) ρ 1 st K = some r) : AW Try.prog (.loop c1) st fun e st' => K e st' = some r := by
  refine loop_ok (ct := ct1) (lv := lv1) (n := 63) (m := 0) (ks := []) (j := 1) (jn := []) (L := (L V1 V0)) Gok hm (by rw [e1]; exact Lor.ok_nil _ _) enc1I (fun k t => F1 k t.1 t.2.1 t.2.2.1 t.2.2.2.1 t.2.2.2.2.1 t.2.2.2.2.2 (fun z1 z2 => K (.exit 2) (mkS 63 [0, 3] [.c (.n (.sl 3 (encRw z1))), .c (.n (.v (.int .i64 z2)))] [] [])) (fun z1 => K .ret (mkS 63 [2] [.c (.n (.v (.bool z1)))] [] []))) (fun t => rfl) (fun k t => ?_) (fun _ => fuelN) h
  refine (step1 spec_PathOk.Q spec_l01In.Q V1 V0 K _ t.1 t.2.1 t.2.2.1 t.2.2.2.1 t.2.2.2.2.1 t.2.2.2.2.2).trans ?_
  refine congrArg (fun W => B1 t.1 t.2.1 t.2.2.1 t.2.2.2.1 t.2.2.2.2.1 t.2.2.2.2.2 W (fun z1 z2 => K (.exit 2) (mkS 63 [0, 3] [.c (.n (.sl 3 (encRw z1))), .c (.n (.v (.int .i64 z2)))] [] [])) (fun z1 => K .ret (mkS 63 [2] [.c (.n (.v (.bool z1)))] [] []))) ?_
  funext u1 u2 u3 u4 u5 u6
  exact ofC_enc enc1I _ (u1, u2, u3, u4, u5, u6)
theorem e0 : atomsL [] 1 c0 = [(1, 1, .loop c1)] := by kernel_rfl
theorem ok0 (ρ : Type) (st : St) (K : Exit → St → Option ρ) (r : ρ) (h : (L V1 V0) ρ 0 st K = some r) : AW Try.prog (.loop c0) st fun e st' => K e st' = some r := by
  refine loop_ok (ct := ct0) (lv := lv0) (n := 63) (m := 0) (ks := []) (j := 0) (jn := []) (L := (L V1 V0)) Gok hm (by rw [e0]; exact Lor.ok_cons ok1 (Lor.ok_nil _ _)) enc0I (fun k t => F0 k t.1 t.2 (fun _ => K (.exit 0) (mkS 63 [] [] [] [])) (fun z1 => K .ret (mkS 63 [2] [.c (.n (.v (.bool z1)))] [] []))) (fun t => rfl) (fun k t => ?_) (fun _ => fuelN) h
  refine (step0 spec_PathOk.Q spec_l01In.Q V1 V0 K _ t.1 t.2).trans ?_
  rw [spec_PathOk.wrap, spec_l01In.wrap, V1_enc]
  refine congrArg (fun W => B0 spec_PathOk.F spec_l01In.F (F1 fuelN) t.1 t.2 W (fun _ => K (.exit 0) (mkS 63 [] [] [] [])) (fun z1 => K .ret (mkS 63 [2] [.c (.n (.v (.bool z1)))] [] []))) ?_
  funext u1 u2
  exact ofC_enc enc0I _ (u1, u2)
theorem e : atomsL [] 0 (bodyOf Try.f27) = [(0, 0, .loop c0)] := by kernel_rfl
theorem acc (t : Vec (ByteArray × Int × Int)) (x : Bool) (h : F t = some x) : ACc Try.prog 27 (encA t) [] true [] fun rv obs => (rv, obs) = encR x := by
  refine fun_okc (L := (L V1 V0)) (jn := []) (cmds := []) (ks := []) (hin := []) (fn := Try.f27) (body := (bodyOf Try.f27)) Gok hm Try.func27 (by kernel_rfl) (by kernel_rfl) (by rw [e]; exact Lor.ok_cons ok0 (Lor.ok_nil _ _)) ?_ h
  refine (main spec_PathOk.Q spec_l01In.Q V1 V0 _ t).trans ?_
  rw [V0_enc]
  refine congrArg (fun K => B (F0 fuelN) t K) ?_
  funext x1
  exact ofC_enc encRI some (x1)
theorem ac0 (t : Vec (ByteArray × Int × Int)) (x : Bool) (h : F t = some x) : AC Try.prog 27 (encA t) [] true [] fun rv obs => (rv, obs) = encR x := ACc.ac (body := bodyOf Try.f27) Try.func27 (by kernel_rfl) (by kernel_rfl) (acc t x h)
theorem ac (args : List AV) (x : Bool) (h : Q args = some x) : AC Try.prog 27 args [] false [] fun rv obs => (rv, obs) = encR x := by
  obtain ⟨t, rfl, h2⟩ := ofC_some h
  refine (ac0 t x h2).flat fun rv obs e => ?_
  obtain rfl : rv = (encR x).1 := congrArg Prod.fst e
  obtain rfl : obs = (encR x).2 := congrArg Prod.snd e
  refine ⟨by simp [encR, AV.Flat, K.Flat, C.Flat], ?_⟩
  simp [encR]
end spec_NamesOk
/-! loop.example/g00073/impl.idAt$1 -/
namespace impl_idAt_1_s0fda
noncomputable def B {ρ : Type} (a1 : ByteArray) (a2 : Int) (a3 : Int) (a4 : Int) (K : Bool → Option ρ) : Option ρ :=
  K (decide (a2 = a4))
noncomputable def F (a1 : ByteArray) (a2 : Int) (a3 : Int) (a4 : Int) : Option Bool := B a1 a2 a3 a4 (fun x1 => some (x1))
def encA (t : ByteArray × Int × Int × Int) : List AV := [.a [.n (.v (.string t.1)), .n (.v (.int .i64 t.2.1)), .n (.v (.int .i64 t.2.2.1))], .ra [.v (.int .i64 t.2.2.2)]]
def encR (x : Bool) : AV × List Ob := (.c (.n (.v (.bool x))), [])
theorem encAI : ∀ a b, encA a = encA b → a = b := by
  intro a b h
  obtain ⟨a0, a1, a2, a3⟩ := a
  obtain ⟨b0, b1, b2, b3⟩ := b
  simp [encA, encRw_iff] at h
  simp_all
theorem encRI : ∀ a b, encR a = encR b → a = b := by
  intro a b h
  simp [encR, encRw_iff] at h
  simp_all
noncomputable def Q (args : List AV) : Option Bool := ofC encA (fun t => F t.1 t.2.1 t.2.2.1 t.2.2.2) args
theorem wrap : (fun (y1 : ByteArray) (y2 : Int) (y3 : Int) (y4 : Int) => Q [.a [.n (.v (.string y1)), .n (.v (.int .i64 y2)), .n (.v (.int .i64 y3))], .ra [.v (.int .i64 y4)]]) = F := by
  funext y1 y2 y3 y4
  exact ofC_enc encAI _ (y1, y2, y3, y4)
noncomputable def G : Orc := ⟨fun f => 9, fun ρ f args K => Option.none, noE⟩
noncomputable def L : Lor := fun ρ j st K => Option.none
theorem main {ρ : Type} (K : AV → List Ob → Option ρ) (a1 : ByteArray) (a2 : Int) (a3 : Int) (a4 : Int) : exC Try.prog (G) (L) [] 0 (bodyOf Try.f83) (entry 8 [.a [.n (.v (.string a1)), .n (.v (.int .i64 a2)), .n (.v (.int .i64 a3))], .ra [.v (.int .i64 a4)]] [] []) (finO Try.prog Try.f83.results.toList 0 [] [] K) =
    B a1 a2 a3 a4 (fun x1 => K (.c (.n (.v (.bool x1)))) []) := by kernel_rfl
theorem Gok : (G).ok Try.prog := ⟨(fun ρ f args K r h => (by cases h)),
  (fun ρ f args K => rfl),
  (fun ρ f st caps args dst K r h => (by cases h))⟩
theorem hm : Try.prog.follows .mixedOrders = true := by kernel_rfl
theorem e : atomsL [] 0 (bodyOf Try.f83) = [] := by kernel_rfl
theorem acc (t : ByteArray × Int × Int × Int) (x : Bool) (h : F t.1 t.2.1 t.2.2.1 t.2.2.2 = some x) : ACc Try.prog 83 (encA t) [] true [] fun rv obs => (rv, obs) = encR x := by
  refine fun_okc (L := (L)) (jn := []) (cmds := []) (ks := []) (hin := []) (fn := Try.f83) (body := (bodyOf Try.f83)) Gok hm Try.func83 (by kernel_rfl) (by kernel_rfl) (by rw [e]; exact Lor.ok_nil _ _) ?_ h
  refine (main _ t.1 t.2.1 t.2.2.1 t.2.2.2).trans ?_
  refine congrArg (fun K => B t.1 t.2.1 t.2.2.1 t.2.2.2 K) ?_
  funext x1
  exact ofC_enc encRI some (x1)
theorem ac0 (t : ByteArray × Int × Int × Int) (x : Bool) (h : F t.1 t.2.1 t.2.2.1 t.2.2.2 = some x) : AC Try.prog 83 (encA t) [] true [] fun rv obs => (rv, obs) = encR x := ACc.ac (body := bodyOf Try.f83) Try.func83 (by kernel_rfl) (by kernel_rfl) (acc t x h)
theorem ac (args : List AV) (x : Bool) (h : Q args = some x) : AC Try.prog 83 args [] false [] fun rv obs => (rv, obs) = encR x := by
  obtain ⟨t, rfl, h2⟩ := ofC_some h
  refine (ac0 t x h2).flat fun rv obs e => ?_
  obtain rfl : rv = (encR x).1 := congrArg Prod.fst e
  obtain rfl : obs = (encR x).2 := congrArg Prod.snd e
  refine ⟨by simp [encR, AV.Flat, K.Flat, C.Flat], ?_⟩
  simp [encR]
end impl_idAt_1_s0fda
/-! slices.IndexFunc(()loop.example/g00073/impl.Name,loop.example/g00073/impl.Name) -/
namespace slices_IndexFunc_impl_Name_sf709
noncomputable def B0 {ρ : Type} (C_impl_idAt_1_s0fda : ByteArray → Int → Int → Int → Option Bool) (v1 : Vec (ByteArray × Int × Int)) (v2 : Int) (v3 : Int) (v4 : Int) (W : (Vec (ByteArray × Int × Int)) → Int → Int → Int → Option ρ) (K0 : Int → Option ρ) (Kr : Int → Int → Option ρ) : Option ρ :=
  sel (decide (v3 < v2)) (chk (decide (0 ≤ v3 ∧ v3 < (v1.n : Int))) ((C_impl_idAt_1_s0fda ((v1.g v3.toNat).1) ((v1.g v3.toNat).2.1) ((v1.g v3.toNat).2.2) v4).bind fun r1 => sel (r1) (Kr v3 v4) (W v1 v2 (wr (v3 + (1 : Int))) v4))) (K0 v4)
noncomputable def F0 {ρ : Type} : Nat → (Vec (ByteArray × Int × Int)) → Int → Int → Int → (Int → Option ρ) → (Int → Int → Option ρ) → Option ρ
  | 0, _, _, _, _, _, _ => none
  | k + 1, v1, v2, v3, v4, K0, Kr => B0 impl_idAt_1_s0fda.F v1 v2 v3 v4 (fun v1' v2' v3' v4' => F0 k v1' v2' v3' v4' K0 Kr) K0 Kr
noncomputable def B {ρ : Type} (L0 : (Vec (ByteArray × Int × Int)) → Int → Int → Int → (Int → Option ρ) → (Int → Int → Option ρ) → Option ρ) (a1 : Vec (ByteArray × Int × Int)) (a2 : Int) (K : Int → Int → Option ρ) : Option ρ :=
  L0 a1 (a1.n : Int) (0 : Int) a2 (fun e01 => K (-1 : Int) e01) (fun x01 x02 => K x01 x02)
noncomputable def F (a1 : Vec (ByteArray × Int × Int)) (a2 : Int) : Option (Int × Int) := B (F0 fuelN) a1 a2 (fun x1 x2 => some (x1, x2))
def encA (t : (Vec (ByteArray × Int × Int)) × Int) : List AV × List Ob := ([.c (.n (.sl 3 (encRw t.1))), .fn 83 [.p 0 0]], [.box [.n (.v (.int .i64 t.2))]])
def encR (x : Int × Int) : AV × List Ob := (.c (.n (.v (.int .i64 x.1))), [.box [.n (.v (.int .i64 x.2))]])
theorem encAI : ∀ a b, encA a = encA b → a = b := by
  intro a b h
  obtain ⟨a0, a1⟩ := a
  obtain ⟨b0, b1⟩ := b
  simp [encA, encRw_iff] at h
  simp_all
theorem encRI : ∀ a b, encR a = encR b → a = b := by
  intro a b h
  obtain ⟨a0, a1⟩ := a
  obtain ⟨b0, b1⟩ := b
  simp [encR, encRw_iff] at h
  simp_all
noncomputable def Q (args : List AV) (hin : List Ob) : Option (Int × Int) := ofC encA (fun t => F t.1 t.2) (args, hin)
theorem wrap : (fun (y1 : Vec (ByteArray × Int × Int)) (y2 : Int) => Q [.c (.n (.sl 3 (encRw y1))), .fn 83 [.p 0 0]] [.box [.n (.v (.int .i64 y2))]]) = F := by
  funext y1 y2
  exact ofC_enc encAI _ (y1, y2)
noncomputable def G (q_impl_idAt_1_s0fda : List AV → Option Bool) : Orc := ⟨fun f => sel (Nat.beq f 83) 0 (9), fun ρ f args K => sel (Nat.beq f 83) (qEntry impl_idAt_1_s0fda.encR q_impl_idAt_1_s0fda args K) (Option.none), noE⟩
noncomputable def L (W0 : (ρ : Type) → List AV → List Ob → (Int → Option ρ) → (Int → Int → Option ρ) → Option ρ) : Lor := fun ρ j st K => sel (Nat.beq j 0) (cutO Try.prog 19 [0, 1, 7, 8] 1 [true] [] st fun avs obs => W0 ρ avs obs (fun z1 => K (.exit 0) (mkS 19 [] [] [.box [.n (.v (.int .i64 z1))]] [true])) (fun z1 z2 => K .ret (mkS 19 [4] [.c (.n (.v (.int .i64 z1)))] [.box [.n (.v (.int .i64 z2))]] [true]))) (Option.none)
noncomputable def c0 : Code := loopC (atomN [] 0 (bodyOf Try.f82) 0)
def ct0 : Cut := ⟨[0, 1, 7, 8], []⟩
def lv0 : Exit → Cut
  | .exit 0 => ⟨[], []⟩
  | .ret => ⟨[4], []⟩
  | _ => ⟨[], []⟩
theorem step0 (q_impl_idAt_1_s0fda : List AV → Option Bool) (W0 : (ρ : Type) → List AV → List Ob → (Int → Option ρ) → (Int → Int → Option ρ) → Option ρ) {ρ : Type} (K : Exit → St → Option ρ) (W : List AV → List Ob → Option ρ) (v1 : Vec (ByteArray × Int × Int)) (v2 : Int) (v3 : Int) (v4 : Int) : exC Try.prog (G q_impl_idAt_1_s0fda) (L W0) [] 1 c0 (mkS 19 [0, 1, 7, 8] [.c (.n (.sl 3 (encRw v1))), .fn 83 [.p 0 0], .c (.n (.v (.int .i64 v2))), .c (.n (.v (.int .i64 v3)))] [.box [.n (.v (.int .i64 v4))]] [true]) (bodyK Try.prog 19 1 [true] ct0 W lv0 K) =
    B0 (fun y1 y2 y3 y4 => q_impl_idAt_1_s0fda [.a [.n (.v (.string y1)), .n (.v (.int .i64 y2)), .n (.v (.int .i64 y3))], .ra [.v (.int .i64 y4)]]) v1 v2 v3 v4 (fun u1 u2 u3 u4 => W [.c (.n (.sl 3 (encRw u1))), .fn 83 [.p 0 0], .c (.n (.v (.int .i64 u2))), .c (.n (.v (.int .i64 u3)))] [.box [.n (.v (.int .i64 u4))]]) (fun z1 => K (.exit 0) (mkS 19 [] [] [.box [.n (.v (.int .i64 z1))]] [true])) (fun z1 z2 => K .ret (mkS 19 [4] [.c (.n (.v (.int .i64 z1)))] [.box [.n (.v (.int .i64 z2))]] [true])) := by kernel_rfl
def enc0 (t : (Vec (ByteArray × Int × Int)) × Int × Int × Int) : List AV × List Ob := ([.c (.n (.sl 3 (encRw t.1))), .fn 83 [.p 0 0], .c (.n (.v (.int .i64 t.2.1))), .c (.n (.v (.int .i64 t.2.2.1)))], [.box [.n (.v (.int .i64 t.2.2.2))]])
theorem enc0I : ∀ a b, enc0 a = enc0 b → a = b := by
  intro a b h
  obtain ⟨a0, a1, a2, a3⟩ := a
  obtain ⟨b0, b1, b2, b3⟩ := b
  simp [enc0, encRw_iff] at h
  simp_all
noncomputable def V0 : (ρ : Type) → List AV → List Ob → (Int → Option ρ) → (Int → Int → Option ρ) → Option ρ := fun ρ avs obs k0 kr => ofC enc0 (fun t => F0 fuelN t.1 t.2.1 t.2.2.1 t.2.2.2 k0 kr) (avs, obs)
theorem V0_enc (ρ : Type) : (fun w1 w2 w3 w4 k0 kr => V0 ρ [.c (.n (.sl 3 (encRw w1))), .fn 83 [.p 0 0], .c (.n (.v (.int .i64 w2))), .c (.n (.v (.int .i64 w3)))] [.box [.n (.v (.int .i64 w4))]] k0 kr) = F0 fuelN := by
  funext w1 w2 w3 w4 k0 kr
  exact ofC_enc enc0I _ (w1, w2, w3, w4)
theorem main (q_impl_idAt_1_s0fda : List AV → Option Bool) (W0 : (ρ : Type) → List AV → List Ob → (Int → Option ρ) → (Int → Int → Option ρ) → Option ρ) {ρ : Type} (K : AV → List Ob → Option ρ) (a1 : Vec (ByteArray × Int × Int)) (a2 : Int) : exC Try.prog (G q_impl_idAt_1_s0fda) (L W0) [] 0 (bodyOf Try.f82) (entry 19 [.c (.n (.sl 3 (encRw a1))), .fn 83 [.p 0 0]] [.box [.n (.v (.int .i64 a2))]] [true]) (finO Try.prog Try.f82.results.toList 1 [true] [] K) =
    B (fun w1 w2 w3 w4 k0 kr => W0 ρ [.c (.n (.sl 3 (encRw w1))), .fn 83 [.p 0 0], .c (.n (.v (.int .i64 w2))), .c (.n (.v (.int .i64 w3)))] [.box [.n (.v (.int .i64 w4))]] k0 kr) a1 a2 (fun x1 x2 => K (.c (.n (.v (.int .i64 x1)))) [.box [.n (.v (.int .i64 x2))]]) := by kernel_rfl
theorem Gok : (G impl_idAt_1_s0fda.Q).ok Try.prog := ⟨(by
    intro ρ f args K r h
    rcases sel_cases h with ⟨hb, h⟩ | ⟨-, h⟩
    · obtain rfl := beq_nat hb
      exact qEntry_ok impl_idAt_1_s0fda.ac h
    cases h),
  (by
    intro ρ f args K
    simp only [G]
    cases Nat.beq f 83 with
    | true => exact qEntry_nat args K
    | false =>
    simp only [sel]
    rfl),
  (fun ρ f st caps args dst K r h => (by cases h))⟩
theorem hm : Try.prog.follows .mixedOrders = true := by kernel_rfl
theorem e0 : atomsL [] 1 c0 = [] := by kernel_rfl
theorem ok0 (ρ : Type) (st : St) (K : Exit → St → Option ρ) (r : ρ) (h : (L V0) ρ 0 st K = some r) : AW Try.prog (.loop c0) st fun e st' => K e st' = some r := by
  refine loop_ok (ct := ct0) (lv := lv0) (n := 19) (m := 1) (ks := [true]) (j := 0) (jn := []) (L := (L V0)) Gok hm (by rw [e0]; exact Lor.ok_nil _ _) enc0I (fun k t => F0 k t.1 t.2.1 t.2.2.1 t.2.2.2 (fun z1 => K (.exit 0) (mkS 19 [] [] [.box [.n (.v (.int .i64 z1))]] [true])) (fun z1 z2 => K .ret (mkS 19 [4] [.c (.n (.v (.int .i64 z1)))] [.box [.n (.v (.int .i64 z2))]] [true]))) (fun t => rfl) (fun k t => ?_) (fun _ => fuelN) h
  refine (step0 impl_idAt_1_s0fda.Q V0 K _ t.1 t.2.1 t.2.2.1 t.2.2.2).trans ?_
  rw [impl_idAt_1_s0fda.wrap]
  refine congrArg (fun W => B0 impl_idAt_1_s0fda.F t.1 t.2.1 t.2.2.1 t.2.2.2 W (fun z1 => K (.exit 0) (mkS 19 [] [] [.box [.n (.v (.int .i64 z1))]] [true])) (fun z1 z2 => K .ret (mkS 19 [4] [.c (.n (.v (.int .i64 z1)))] [.box [.n (.v (.int .i64 z2))]] [true]))) ?_
  funext u1 u2 u3 u4
  exact ofC_enc enc0I _ (u1, u2, u3, u4)
theorem e : atomsL [] 0 (bodyOf Try.f82) = [(0, 0, .loop c0)] := by kernel_rfl
theorem acc (t : (Vec (ByteArray × Int × Int)) × Int) (x : Int × Int) (h : F t.1 t.2 = some x) : ACc Try.prog 82 (encA t).1 (encA t).2 true [true] fun rv obs => (rv, obs) = encR x := by
  refine fun_okc (L := (L V0)) (jn := []) (cmds := []) (ks := [true]) (hin := (encA t).2) (fn := Try.f82) (body := (bodyOf Try.f82)) Gok hm Try.func82 (by kernel_rfl) (by kernel_rfl) (by rw [e]; exact Lor.ok_cons ok0 (Lor.ok_nil _ _)) ?_ h
  refine (main impl_idAt_1_s0fda.Q V0 _ t.1 t.2).trans ?_
  rw [V0_enc]
  refine congrArg (fun K => B (F0 fuelN) t.1 t.2 K) ?_
  funext x1 x2
  exact ofC_enc encRI some (x1, x2)
theorem ac0 (t : (Vec (ByteArray × Int × Int)) × Int) (x : Int × Int) (h : F t.1 t.2 = some x) : AC Try.prog 82 (encA t).1 (encA t).2 true [true] fun rv obs => (rv, obs) = encR x := ACc.ac (body := bodyOf Try.f82) Try.func82 (by kernel_rfl) (by kernel_rfl) (acc t x h)
theorem ac (args : List AV) (hin : List Ob) (x : Int × Int) (h : Q args hin = some x) : AC Try.prog 82 args hin false [true] fun rv obs => (rv, obs) = encR x := by
  obtain ⟨t, he, h2⟩ := ofC_some h
  obtain rfl : args = (encA t).1 := (congrArg Prod.fst he).symm
  obtain rfl : hin = (encA t).2 := (congrArg Prod.snd he).symm
  refine (ac0 t x h2).flat fun rv obs e => ?_
  obtain rfl : rv = (encR x).1 := congrArg Prod.fst e
  obtain rfl : obs = (encR x).2 := congrArg Prod.snd e
  refine ⟨by simp [encR, AV.Flat, K.Flat, C.Flat], ?_⟩
  intro o ho
  simp only [encR, List.mem_cons, List.not_mem_nil, or_false] at ho
  subst ho
  simp [Ob.Flat, C.Flat, N.Flat]
end slices_IndexFunc_impl_Name_sf709
/-! loop.example/g00073/impl.idAt -/
namespace impl_idAt
noncomputable def B {ρ : Type} (C_slices_IndexFunc_impl_Name_sf709 : (Vec (ByteArray × Int × Int)) → Int → Option (Int × Int)) (a1 : Vec (ByteArray × Int × Int)) (a2 : Int) (K : Int → Option ρ) : Option ρ :=
  (C_slices_IndexFunc_impl_Name_sf709 a1 a2).bind fun r1 => K r1.1
noncomputable def F (a1 : Vec (ByteArray × Int × Int)) (a2 : Int) : Option Int := B slices_IndexFunc_impl_Name_sf709.F a1 a2 (fun x1 => some (x1))
def encA (t : (Vec (ByteArray × Int × Int)) × Int) : List AV := [.c (.n (.sl 3 (encRw t.1))), .c (.n (.v (.int .i64 t.2)))]
def encR (x : Int) : AV × List Ob := (.c (.n (.v (.int .i64 x))), [])
theorem encAI : ∀ a b, encA a = encA b → a = b := by
  intro a b h
  obtain ⟨a0, a1⟩ := a
  obtain ⟨b0, b1⟩ := b
  simp [encA, encRw_iff] at h
  simp_all
theorem encRI : ∀ a b, encR a = encR b → a = b := by
  intro a b h
  simp [encR, encRw_iff] at h
  simp_all
noncomputable def Q (args : List AV) : Option Int := ofC encA (fun t => F t.1 t.2) args
theorem wrap : (fun (y1 : Vec (ByteArray × Int × Int)) (y2 : Int) => Q [.c (.n (.sl 3 (encRw y1))), .c (.n (.v (.int .i64 y2)))]) = F := by
  funext y1 y2
  exact ofC_enc encAI _ (y1, y2)
noncomputable def G (q_slices_IndexFunc_impl_Name_sf709 : List AV → List Ob → Option (Int × Int)) : Orc := ⟨fun f => 9, fun ρ f args K => Option.none, fun ρ f st args dst K => sel (Nat.beq f 82) (callE Try.prog 82 [false, true] false [true] slices_IndexFunc_impl_Name_sf709.encR q_slices_IndexFunc_impl_Name_sf709 st args dst K) (Option.none)⟩
noncomputable def L : Lor := fun ρ j st K => Option.none
theorem main (q_slices_IndexFunc_impl_Name_sf709 : List AV → List Ob → Option (Int × Int)) {ρ : Type} (K : AV → List Ob → Option ρ) (a1 : Vec (ByteArray × Int × Int)) (a2 : Int) : exC Try.prog (G q_slices_IndexFunc_impl_Name_sf709) (L) [] 0 (bodyOf Try.f56) (entry 8 [.c (.n (.sl 3 (encRw a1))), .c (.n (.v (.int .i64 a2)))] [] []) (finO Try.prog Try.f56.results.toList 0 [] [] K) =
    B (fun y1 y2 => q_slices_IndexFunc_impl_Name_sf709 [.c (.n (.sl 3 (encRw y1))), .fn 83 [.p 0 0]] [.box [.n (.v (.int .i64 y2))]]) a1 a2 (fun x1 => K (.c (.n (.v (.int .i64 x1)))) []) := by kernel_rfl
theorem Gok : (G slices_IndexFunc_impl_Name_sf709.Q).ok Try.prog := ⟨(fun ρ f args K r h => (by cases h)),
  (fun ρ f args K => rfl),
  (by
    intro ρ f st caps args dst K r h
    rcases sel_cases h with ⟨hb, h⟩ | ⟨-, h⟩
    · obtain rfl := beq_nat hb
      exact callE_ok (fun h => by cases h) slices_IndexFunc_impl_Name_sf709.ac h
    cases h)⟩
theorem hm : Try.prog.follows .mixedOrders = true := by kernel_rfl
theorem e : atomsL [] 0 (bodyOf Try.f56) = [] := by kernel_rfl
theorem acc (t : (Vec (ByteArray × Int × Int)) × Int) (x : Int) (h : F t.1 t.2 = some x) : ACc Try.prog 56 (encA t) [] true [] fun rv obs => (rv, obs) = encR x := by
  refine fun_okc (L := (L)) (jn := []) (cmds := []) (ks := []) (hin := []) (fn := Try.f56) (body := (bodyOf Try.f56)) Gok hm Try.func56 (by kernel_rfl) (by kernel_rfl) (by rw [e]; exact Lor.ok_nil _ _) ?_ h
  refine (main slices_IndexFunc_impl_Name_sf709.Q _ t.1 t.2).trans ?_
  rw [slices_IndexFunc_impl_Name_sf709.wrap]
  refine congrArg (fun K => B slices_IndexFunc_impl_Name_sf709.F t.1 t.2 K) ?_
  funext x1
  exact ofC_enc encRI some (x1)
theorem ac0 (t : (Vec (ByteArray × Int × Int)) × Int) (x : Int) (h : F t.1 t.2 = some x) : AC Try.prog 56 (encA t) [] true [] fun rv obs => (rv, obs) = encR x := ACc.ac (body := bodyOf Try.f56) Try.func56 (by kernel_rfl) (by kernel_rfl) (acc t x h)
theorem ac (args : List AV) (x : Int) (h : Q args = some x) : AC Try.prog 56 args [] false [] fun rv obs => (rv, obs) = encR x := by
  obtain ⟨t, rfl, h2⟩ := ofC_some h
  refine (ac0 t x h2).flat fun rv obs e => ?_
  obtain rfl : rv = (encR x).1 := congrArg Prod.fst e
  obtain rfl : obs = (encR x).2 := congrArg Prod.snd e
  refine ⟨by simp [encR, AV.Flat, K.Flat, C.Flat], ?_⟩
  simp [encR]
end impl_idAt
/-! loop.example/g00073/impl.NamesOk -/
namespace impl_NamesOk
noncomputable def B0 {ρ : Type} (C_impl_PathOk : ByteArray → Option Bool) (C_impl_inRange : Int → Int → Int → Option Bool) (C_impl_idAt : (Vec (ByteArray × Int × Int)) → Int → Option Int) (v1 : Vec (ByteArray × Int × Int)) (v2 : Vec (ByteArray × Int × Int)) (v3 : Int) (v4 : Int) (W : (Vec (ByteArray × Int × Int)) → (Vec (ByteArray × Int × Int)) → Int → Int → Option ρ) (K0 : Unit → Option ρ) (Kr : Bool → Option ρ) : Option ρ :=
  sel (decide (v4 < v3)) (chk (decide (0 ≤ v4 ∧ v4 < (v2.n : Int))) ((C_impl_PathOk ((v2.g v4.toNat).1)).bind fun r1 => sel ((!r1)) (Kr false) ((C_impl_inRange ((v2.g v4.toNat).2.1) (0 : Int) (11 : Int)).bind fun r2 => sel ((!r2)) (Kr false) ((C_impl_inRange ((v2.g v4.toNat).2.2) (0 : Int) (39 : Int)).bind fun r3 => sel ((!r3)) (Kr false) (sel (decide ((0 : Int) < v4)) (chk (decide (0 ≤ (wr (v4 - (1 : Int))) ∧ (wr (v4 - (1 : Int))) < (v1.n : Int))) (sel ((!decide (((v1.g (wr (v4 - (1 : Int))).toNat).1).toList < ((v2.g v4.toNat).1).toList))) (Kr false) ((C_impl_idAt v1 ((v2.g v4.toNat).2.1)).bind fun r4 => sel ((!decide (r4 = v4))) (Kr false) (W v1 v2 v3 (wr (v4 + (1 : Int))))))) ((C_impl_idAt v1 ((v2.g v4.toNat).2.1)).bind fun r5 => sel ((!decide (r5 = v4))) (Kr false) (W v1 v2 v3 (wr (v4 + (1 : Int)))))))))) (K0 ())
noncomputable def F0 {ρ : Type} : Nat → (Vec (ByteArray × Int × Int)) → (Vec (ByteArray × Int × Int)) → Int → Int → (Unit → Option ρ) → (Bool → Option ρ) → Option ρ
  | 0, _, _, _, _, _, _ => none
  | k + 1, v1, v2, v3, v4, K0, Kr => B0 impl_PathOk.F impl_inRange.F impl_idAt.F v1 v2 v3 v4 (fun v1' v2' v3' v4' => F0 k v1' v2' v3' v4' K0 Kr) K0 Kr
noncomputable def B {ρ : Type} (L0 : (Vec (ByteArray × Int × Int)) → (Vec (ByteArray × Int × Int)) → Int → Int → (Unit → Option ρ) → (Bool → Option ρ) → Option ρ) (a1 : Vec (ByteArray × Int × Int)) (K : Bool → Option ρ) : Option ρ :=
  sel (decide ((12 : Int) < (a1.n : Int))) (K false) (L0 a1 a1 (a1.n : Int) (0 : Int) (fun _ => K true) (fun x01 => K x01))
noncomputable def F (a1 : Vec (ByteArray × Int × Int)) : Option Bool := B (F0 fuelN) a1 (fun x1 => some (x1))
def encA (t : Vec (ByteArray × Int × Int)) : List AV := [.c (.n (.sl 3 (encRw t)))]
def encR (x : Bool) : AV × List Ob := (.c (.n (.v (.bool x))), [])
theorem encAI : ∀ a b, encA a = encA b → a = b := by
  intro a b h
  simp [encA, encRw_iff] at h
  simp_all
theorem encRI : ∀ a b, encR a = encR b → a = b := by
  intro a b h
  simp [encR, encRw_iff] at h
  simp_all
noncomputable def Q (args : List AV) : Option Bool := ofC encA (fun t => F t) args
theorem wrap : (fun (y1 : Vec (ByteArray × Int × Int)) => Q [.c (.n (.sl 3 (encRw y1)))]) = F := by
  funext y1
  exact ofC_enc encAI _ (y1)
noncomputable def G (q_impl_PathOk : List AV → Option Bool) (q_impl_inRange : List AV → Option Bool) (q_impl_idAt : List AV → Option Int) : Orc := ⟨fun f => sel (Nat.beq f 25) 0 (sel (Nat.beq f 50) 0 (sel (Nat.beq f 56) 0 (9))), fun ρ f args K => sel (Nat.beq f 25) (qEntry impl_PathOk.encR q_impl_PathOk args K) (sel (Nat.beq f 50) (qEntry impl_inRange.encR q_impl_inRange args K) (sel (Nat.beq f 56) (qEntry impl_idAt.encR q_impl_idAt args K) (Option.none))), noE⟩
noncomputable def L (W0 : (ρ : Type) → List AV → List Ob → (Unit → Option ρ) → (Bool → Option ρ) → Option ρ) : Lor := fun ρ j st K => sel (Nat.beq j 0) (cutO Try.prog 53 [0, 8, 9, 10] 0 [] [] st fun avs obs => W0 ρ avs obs (fun _ => K (.exit 0) (mkS 53 [] [] [] [])) (fun z1 => K .ret (mkS 53 [2] [.c (.n (.v (.bool z1)))] [] []))) (Option.none)
noncomputable def c0 : Code := loopC (atomN [] 0 (bodyOf Try.f29) 0)
def ct0 : Cut := ⟨[0, 8, 9, 10], []⟩
def lv0 : Exit → Cut
  | .exit 0 => ⟨[], []⟩
  | .ret => ⟨[2], []⟩
  | _ => ⟨[], []⟩
theorem step0 (q_impl_PathOk : List AV → Option Bool) (q_impl_inRange : List AV → Option Bool) (q_impl_idAt : List AV → Option Int) (W0 : (ρ : Type) → List AV → List Ob → (Unit → Option ρ) → (Bool → Option ρ) → Option ρ) {ρ : Type} (K : Exit → St → Option ρ) (W : List AV → List Ob → Option ρ) (v1 : Vec (ByteArray × Int × Int)) (v2 : Vec (ByteArray × Int × Int)) (v3 : Int) (v4 : Int) : exC Try.prog (G q_impl_PathOk q_impl_inRange q_impl_idAt) (L W0) [] 1 c0 (mkS 53 [0, 8, 9, 10] [.c (.n (.sl 3 (encRw v1))), .c (.n (.sl 3 (encRw v2))), .c (.n (.v (.int .i64 v3))), .c (.n (.v (.int .i64 v4)))] [] []) (bodyK Try.prog 53 0 [] ct0 W lv0 K) =
    B0 (fun y1 => q_impl_PathOk [.c (.n (.v (.string y1)))]) (fun y1 y2 y3 => q_impl_inRange [.c (.n (.v (.int .i64 y1))), .c (.n (.v (.int .i64 y2))), .c (.n (.v (.int .i64 y3)))]) (fun y1 y2 => q_impl_idAt [.c (.n (.sl 3 (encRw y1))), .c (.n (.v (.int .i64 y2)))]) v1 v2 v3 v4 (fun u1 u2 u3 u4 => W [.c (.n (.sl 3 (encRw u1))), .c (.n (.sl 3 (encRw u2))), .c (.n (.v (.int .i64 u3))), .c (.n (.v (.int .i64 u4)))] []) (fun _ => K (.exit 0) (mkS 53 [] [] [] [])) (fun z1 => K .ret (mkS 53 [2] [.c (.n (.v (.bool z1)))] [] [])) := by kernel_rfl
def enc0 (t : (Vec (ByteArray × Int × Int)) × (Vec (ByteArray × Int × Int)) × Int × Int) : List AV × List Ob := ([.c (.n (.sl 3 (encRw t.1))), .c (.n (.sl 3 (encRw t.2.1))), .c (.n (.v (.int .i64 t.2.2.1))), .c (.n (.v (.int .i64 t.2.2.2)))], [])
theorem enc0I : ∀ a b, enc0 a = enc0 b → a = b := by
  intro a b h
  obtain ⟨a0, a1, a2, a3⟩ := a
  obtain ⟨b0, b1, b2, b3⟩ := b
  simp [enc0, encRw_iff] at h
  simp_all
noncomputable def V0 : (ρ : Type) → List AV → List Ob → (Unit → Option ρ) → (Bool → Option ρ) → Option ρ := fun ρ avs obs k0 kr => ofC enc0 (fun t => F0 fuelN t.1 t.2.1 t.2.2.1 t.2.2.2 k0 kr) (avs, obs)
theorem V0_enc (ρ : Type) : (fun w1 w2 w3 w4 k0 kr => V0 ρ [.c (.n (.sl 3 (encRw w1))), .c (.n (.sl 3 (encRw w2))), .c (.n (.v (.int .i64 w3))), .c (.n (.v (.int .i64 w4)))] [] k0 kr) = F0 fuelN := by
  funext w1 w2 w3 w4 k0 kr
  exact ofC_enc enc0I _ (w1, w2, w3, w4)
theorem main (q_impl_PathOk : List AV → Option Bool) (q_impl_inRange : List AV → Option Bool) (q_impl_idAt : List AV → Option Int) (W0 : (ρ : Type) → List AV → List Ob → (Unit → Option ρ) → (Bool → Option ρ) → Option ρ) {ρ : Type} (K : AV → List Ob → Option ρ) (a1 : Vec (ByteArray × Int × Int)) : exC Try.prog (G q_impl_PathOk q_impl_inRange q_impl_idAt) (L W0) [] 0 (bodyOf Try.f29) (entry 53 [.c (.n (.sl 3 (encRw a1)))] [] []) (finO Try.prog Try.f29.results.toList 0 [] [] K) =
    B (fun w1 w2 w3 w4 k0 kr => W0 ρ [.c (.n (.sl 3 (encRw w1))), .c (.n (.sl 3 (encRw w2))), .c (.n (.v (.int .i64 w3))), .c (.n (.v (.int .i64 w4)))] [] k0 kr) a1 (fun x1 => K (.c (.n (.v (.bool x1)))) []) := by kernel_rfl
theorem Gok : (G impl_PathOk.Q impl_inRange.Q impl_idAt.Q).ok Try.prog := ⟨(by
    intro ρ f args K r h
    rcases sel_cases h with ⟨hb, h⟩ | ⟨-, h⟩
    · obtain rfl := beq_nat hb
      exact qEntry_ok impl_PathOk.ac h
    rcases sel_cases h with ⟨hb, h⟩ | ⟨-, h⟩
    · obtain rfl := beq_nat hb
      exact qEntry_ok impl_inRange.ac h
    rcases sel_cases h with ⟨hb, h⟩ | ⟨-, h⟩
    · obtain rfl := beq_nat hb
      exact qEntry_ok impl_idAt.ac h
    cases h),
  (by
    intro ρ f args K
    simp only [G]
    cases Nat.beq f 25 with
    | true => exact qEntry_nat args K
    | false =>
    simp only [sel]
    cases Nat.beq f 50 with
    | true => exact qEntry_nat args K
    | false =>
    simp only [sel]
    cases Nat.beq f 56 with
    | true => exact qEntry_nat args K
    | false =>
    simp only [sel]
    rfl),
  (fun ρ f st caps args dst K r h => (by cases h))⟩
theorem hm : Try.prog.follows .mixedOrders = true := by kernel_rfl
theorem e0 : atomsL [] 1 c0 = [] := by kernel_rfl
theorem ok0 (ρ : Type) (st : St) (K : Exit → St → Option ρ) (r : ρ) (h : (L V0) ρ 0 st K = some r) : AW Try.prog (.loop c0) st fun e st' => K e st' = some r := by
  refine loop_ok (ct := ct0) (lv := lv0) (n := 53) (m := 0) (ks := []) (j := 0) (jn := []) (L := (L V0)) Gok hm (by rw [e0]; exact Lor.ok_nil _ _) enc0I (fun k t => F0 k t.1 t.2.1 t.2.2.1 t.2.2.2 (fun _ => K (.exit 0) (mkS 53 [] [] [] [])) (fun z1 => K .ret (mkS 53 [2] [.c (.n (.v (.bool z1)))] [] []))) (fun t => rfl) (fun k t => ?_) (fun _ => fuelN) h
  refine (step0 impl_PathOk.Q impl_inRange.Q impl_idAt.Q V0 K _ t.1 t.2.1 t.2.2.1 t.2.2.2).trans ?_
  rw [impl_PathOk.wrap, impl_inRange.wrap, impl_idAt.wrap]
  refine congrArg (fun W => B0 impl_PathOk.F impl_inRange.F impl_idAt.F t.1 t.2.1 t.2.2.1 t.2.2.2 W (fun _ => K (.exit 0) (mkS 53 [] [] [] [])) (fun z1 => K .ret (mkS 53 [2] [.c (.n (.v (.bool z1)))] [] []))) ?_
  funext u1 u2 u3 u4
  exact ofC_enc enc0I _ (u1, u2, u3, u4)
theorem e : atomsL [] 0 (bodyOf Try.f29) = [(0, 0, .loop c0)] := by kernel_rfl
theorem acc (t : Vec (ByteArray × Int × Int)) (x : Bool) (h : F t = some x) : ACc Try.prog 29 (encA t) [] true [] fun rv obs => (rv, obs) = encR x := by
  refine fun_okc (L := (L V0)) (jn := []) (cmds := []) (ks := []) (hin := []) (fn := Try.f29) (body := (bodyOf Try.f29)) Gok hm Try.func29 (by kernel_rfl) (by kernel_rfl) (by rw [e]; exact Lor.ok_cons ok0 (Lor.ok_nil _ _)) ?_ h
  refine (main impl_PathOk.Q impl_inRange.Q impl_idAt.Q V0 _ t).trans ?_
  rw [V0_enc]
  refine congrArg (fun K => B (F0 fuelN) t K) ?_
  funext x1
  exact ofC_enc encRI some (x1)
theorem ac0 (t : Vec (ByteArray × Int × Int)) (x : Bool) (h : F t = some x) : AC Try.prog 29 (encA t) [] true [] fun rv obs => (rv, obs) = encR x := ACc.ac (body := bodyOf Try.f29) Try.func29 (by kernel_rfl) (by kernel_rfl) (acc t x h)
theorem ac (args : List AV) (x : Bool) (h : Q args = some x) : AC Try.prog 29 args [] false [] fun rv obs => (rv, obs) = encR x := by
  obtain ⟨t, rfl, h2⟩ := ofC_some h
  refine (ac0 t x h2).flat fun rv obs e => ?_
  obtain rfl : rv = (encR x).1 := congrArg Prod.fst e
  obtain rfl : obs = (encR x).2 := congrArg Prod.snd e
  refine ⟨by simp [encR, AV.Flat, K.Flat, C.Flat], ?_⟩
  simp [encR]
end impl_NamesOk
/-! loop.example/g00073/laws.eqName -/
namespace laws_eqName
noncomputable def B {ρ : Type} (a1 : ByteArray) (a2 : Int) (a3 : Int) (a4 : ByteArray) (a5 : Int) (a6 : Int) (K : Bool → Option ρ) : Option ρ :=
  sel ((!decide (a1 = a4))) (K false) (sel ((!decide (a2 = a5))) (K false) (sel ((!decide (a3 = a6))) (K false) (K true)))
noncomputable def F (a1 : ByteArray) (a2 : Int) (a3 : Int) (a4 : ByteArray) (a5 : Int) (a6 : Int) : Option Bool := B a1 a2 a3 a4 a5 a6 (fun x1 => some (x1))
def encA (t : ByteArray × Int × Int × ByteArray × Int × Int) : List AV := [.a [.n (.v (.string t.1)), .n (.v (.int .i64 t.2.1)), .n (.v (.int .i64 t.2.2.1))], .a [.n (.v (.string t.2.2.2.1)), .n (.v (.int .i64 t.2.2.2.2.1)), .n (.v (.int .i64 t.2.2.2.2.2))]]
def encR (x : Bool) : AV × List Ob := (.c (.n (.v (.bool x))), [])
theorem encAI : ∀ a b, encA a = encA b → a = b := by
  intro a b h
  obtain ⟨a0, a1, a2, a3, a4, a5⟩ := a
  obtain ⟨b0, b1, b2, b3, b4, b5⟩ := b
  simp [encA, encRw_iff] at h
  simp_all
theorem encRI : ∀ a b, encR a = encR b → a = b := by
  intro a b h
  simp [encR, encRw_iff] at h
  simp_all
noncomputable def Q (args : List AV) : Option Bool := ofC encA (fun t => F t.1 t.2.1 t.2.2.1 t.2.2.2.1 t.2.2.2.2.1 t.2.2.2.2.2) args
theorem wrap : (fun (y1 : ByteArray) (y2 : Int) (y3 : Int) (y4 : ByteArray) (y5 : Int) (y6 : Int) => Q [.a [.n (.v (.string y1)), .n (.v (.int .i64 y2)), .n (.v (.int .i64 y3))], .a [.n (.v (.string y4)), .n (.v (.int .i64 y5)), .n (.v (.int .i64 y6))]]) = F := by
  funext y1 y2 y3 y4 y5 y6
  exact ofC_enc encAI _ (y1, y2, y3, y4, y5, y6)
noncomputable def G : Orc := ⟨fun f => 9, fun ρ f args K => Option.none, noE⟩
noncomputable def L : Lor := fun ρ j st K => Option.none
theorem main {ρ : Type} (K : AV → List Ob → Option ρ) (a1 : ByteArray) (a2 : Int) (a3 : Int) (a4 : ByteArray) (a5 : Int) (a6 : Int) : exC Try.prog (G) (L) [] 0 (bodyOf Try.f57) (entry 20 [.a [.n (.v (.string a1)), .n (.v (.int .i64 a2)), .n (.v (.int .i64 a3))], .a [.n (.v (.string a4)), .n (.v (.int .i64 a5)), .n (.v (.int .i64 a6))]] [] []) (finO Try.prog Try.f57.results.toList 0 [] [] K) =
    B a1 a2 a3 a4 a5 a6 (fun x1 => K (.c (.n (.v (.bool x1)))) []) := by kernel_rfl
theorem Gok : (G).ok Try.prog := ⟨(fun ρ f args K r h => (by cases h)),
  (fun ρ f args K => rfl),
  (fun ρ f st caps args dst K r h => (by cases h))⟩
theorem hm : Try.prog.follows .mixedOrders = true := by kernel_rfl
theorem e : atomsL [] 0 (bodyOf Try.f57) = [] := by kernel_rfl
theorem acc (t : ByteArray × Int × Int × ByteArray × Int × Int) (x : Bool) (h : F t.1 t.2.1 t.2.2.1 t.2.2.2.1 t.2.2.2.2.1 t.2.2.2.2.2 = some x) : ACc Try.prog 57 (encA t) [] true [] fun rv obs => (rv, obs) = encR x := by
  refine fun_okc (L := (L)) (jn := []) (cmds := []) (ks := []) (hin := []) (fn := Try.f57) (body := (bodyOf Try.f57)) Gok hm Try.func57 (by kernel_rfl) (by kernel_rfl) (by rw [e]; exact Lor.ok_nil _ _) ?_ h
  refine (main _ t.1 t.2.1 t.2.2.1 t.2.2.2.1 t.2.2.2.2.1 t.2.2.2.2.2).trans ?_
  refine congrArg (fun K => B t.1 t.2.1 t.2.2.1 t.2.2.2.1 t.2.2.2.2.1 t.2.2.2.2.2 K) ?_
  funext x1
  exact ofC_enc encRI some (x1)
theorem ac0 (t : ByteArray × Int × Int × ByteArray × Int × Int) (x : Bool) (h : F t.1 t.2.1 t.2.2.1 t.2.2.2.1 t.2.2.2.2.1 t.2.2.2.2.2 = some x) : AC Try.prog 57 (encA t) [] true [] fun rv obs => (rv, obs) = encR x := ACc.ac (body := bodyOf Try.f57) Try.func57 (by kernel_rfl) (by kernel_rfl) (acc t x h)
theorem ac (args : List AV) (x : Bool) (h : Q args = some x) : AC Try.prog 57 args [] false [] fun rv obs => (rv, obs) = encR x := by
  obtain ⟨t, rfl, h2⟩ := ofC_some h
  refine (ac0 t x h2).flat fun rv obs e => ?_
  obtain rfl : rv = (encR x).1 := congrArg Prod.fst e
  obtain rfl : obs = (encR x).2 := congrArg Prod.snd e
  refine ⟨by simp [encR, AV.Flat, K.Flat, C.Flat], ?_⟩
  simp [encR]
end laws_eqName
/-! loop.example/g00073/laws.eqNameS -/
namespace laws_eqNameS
noncomputable def B0 {ρ : Type} (C_laws_eqName : ByteArray → Int → Int → ByteArray → Int → Int → Option Bool) (v1 : Vec (ByteArray × Int × Int)) (v2 : Vec (ByteArray × Int × Int)) (v3 : Int) (W : (Vec (ByteArray × Int × Int)) → (Vec (ByteArray × Int × Int)) → Int → Option ρ) (K0 : Unit → Option ρ) (Kr : Bool → Option ρ) : Option ρ :=
  sel (decide (v3 < (v1.n : Int))) (chk (decide (0 ≤ v3 ∧ v3 < (v1.n : Int))) (chk (decide (0 ≤ v3 ∧ v3 < (v2.n : Int))) ((C_laws_eqName ((v1.g v3.toNat).1) ((v1.g v3.toNat).2.1) ((v1.g v3.toNat).2.2) ((v2.g v3.toNat).1) ((v2.g v3.toNat).2.1) ((v2.g v3.toNat).2.2)).bind fun r1 => sel ((!r1)) (Kr false) (W v1 v2 (wr (v3 + (1 : Int))))))) (K0 ())
noncomputable def F0 {ρ : Type} : Nat → (Vec (ByteArray × Int × Int)) → (Vec (ByteArray × Int × Int)) → Int → (Unit → Option ρ) → (Bool → Option ρ) → Option ρ
  | 0, _, _, _, _, _ => none
  | k + 1, v1, v2, v3, K0, Kr => B0 laws_eqName.F v1 v2 v3 (fun v1' v2' v3' => F0 k v1' v2' v3' K0 Kr) K0 Kr
noncomputable def B {ρ : Type} (L0 : (Vec (ByteArray × Int × Int)) → (Vec (ByteArray × Int × Int)) → Int → (Unit → Option ρ) → (Bool → Option ρ) → Option ρ) (a1 : Vec (ByteArray × Int × Int)) (a2 : Vec (ByteArray × Int × Int)) (K : Bool → Option ρ) : Option ρ :=
  sel ((!decide ((a1.n : Int) = (a2.n : Int)))) (K false) (L0 a1 a2 (0 : Int) (fun _ => K true) (fun x01 => K x01))
noncomputable def F (a1 : Vec (ByteArray × Int × Int)) (a2 : Vec (ByteArray × Int × Int)) : Option Bool := B (F0 fuelN) a1 a2 (fun x1 => some (x1))
def encA (t : (Vec (ByteArray × Int × Int)) × (Vec (ByteArray × Int × Int))) : List AV := [.c (.n (.sl 3 (encRw t.1))), .c (.n (.sl 3 (encRw t.2)))]
def encR (x : Bool) : AV × List Ob := (.c (.n (.v (.bool x))), [])
theorem encAI : ∀ a b, encA a = encA b → a = b := by
  intro a b h
  obtain ⟨a0, a1⟩ := a
  obtain ⟨b0, b1⟩ := b
  simp [encA, encRw_iff] at h
  simp_all
theorem encRI : ∀ a b, encR a = encR b → a = b := by
  intro a b h
  simp [encR, encRw_iff] at h
  simp_all
noncomputable def Q (args : List AV) : Option Bool := ofC encA (fun t => F t.1 t.2) args
theorem wrap : (fun (y1 : Vec (ByteArray × Int × Int)) (y2 : Vec (ByteArray × Int × Int)) => Q [.c (.n (.sl 3 (encRw y1))), .c (.n (.sl 3 (encRw y2)))]) = F := by
  funext y1 y2
  exact ofC_enc encAI _ (y1, y2)
noncomputable def G (q_laws_eqName : List AV → Option Bool) : Orc := ⟨fun f => sel (Nat.beq f 57) 0 (9), fun ρ f args K => sel (Nat.beq f 57) (qEntry laws_eqName.encR q_laws_eqName args K) (Option.none), noE⟩
noncomputable def L (W0 : (ρ : Type) → List AV → List Ob → (Unit → Option ρ) → (Bool → Option ρ) → Option ρ) : Lor := fun ρ j st K => sel (Nat.beq j 0) (cutO Try.prog 27 [0, 1, 5] 0 [] [] st fun avs obs => W0 ρ avs obs (fun _ => K (.exit 0) (mkS 27 [] [] [] [])) (fun z1 => K .ret (mkS 27 [4] [.c (.n (.v (.bool z1)))] [] []))) (Option.none)
noncomputable def c0 : Code := loopC (atomN [] 0 (bodyOf Try.f30) 0)
def ct0 : Cut := ⟨[0, 1, 5], []⟩
def lv0 : Exit → Cut
  | .exit 0 => ⟨[], []⟩
  | .ret => ⟨[4], []⟩
  | _ => ⟨[], []⟩
theorem step0 (q_laws_eqName : List AV → Option Bool) (W0 : (ρ : Type) → List AV → List Ob → (Unit → Option ρ) → (Bool → Option ρ) → Option ρ) {ρ : Type} (K : Exit → St → Option ρ) (W : List AV → List Ob → Option ρ) (v1 : Vec (ByteArray × Int × Int)) (v2 : Vec (ByteArray × Int × Int)) (v3 : Int) : exC Try.prog (G q_laws_eqName) (L W0) [] 1 c0 (mkS 27 [0, 1, 5] [.c (.n (.sl 3 (encRw v1))), .c (.n (.sl 3 (encRw v2))), .c (.n (.v (.int .i64 v3)))] [] []) (bodyK Try.prog 27 0 [] ct0 W lv0 K) =
    B0 (fun y1 y2 y3 y4 y5 y6 => q_laws_eqName [.a [.n (.v (.string y1)), .n (.v (.int .i64 y2)), .n (.v (.int .i64 y3))], .a [.n (.v (.string y4)), .n (.v (.int .i64 y5)), .n (.v (.int .i64 y6))]]) v1 v2 v3 (fun u1 u2 u3 => W [.c (.n (.sl 3 (encRw u1))), .c (.n (.sl 3 (encRw u2))), .c (.n (.v (.int .i64 u3)))] []) (fun _ => K (.exit 0) (mkS 27 [] [] [] [])) (fun z1 => K .ret (mkS 27 [4] [.c (.n (.v (.bool z1)))] [] [])) := by kernel_rfl
def enc0 (t : (Vec (ByteArray × Int × Int)) × (Vec (ByteArray × Int × Int)) × Int) : List AV × List Ob := ([.c (.n (.sl 3 (encRw t.1))), .c (.n (.sl 3 (encRw t.2.1))), .c (.n (.v (.int .i64 t.2.2)))], [])
theorem enc0I : ∀ a b, enc0 a = enc0 b → a = b := by
  intro a b h
  obtain ⟨a0, a1, a2⟩ := a
  obtain ⟨b0, b1, b2⟩ := b
  simp [enc0, encRw_iff] at h
  simp_all
noncomputable def V0 : (ρ : Type) → List AV → List Ob → (Unit → Option ρ) → (Bool → Option ρ) → Option ρ := fun ρ avs obs k0 kr => ofC enc0 (fun t => F0 fuelN t.1 t.2.1 t.2.2 k0 kr) (avs, obs)
theorem V0_enc (ρ : Type) : (fun w1 w2 w3 k0 kr => V0 ρ [.c (.n (.sl 3 (encRw w1))), .c (.n (.sl 3 (encRw w2))), .c (.n (.v (.int .i64 w3)))] [] k0 kr) = F0 fuelN := by
  funext w1 w2 w3 k0 kr
  exact ofC_enc enc0I _ (w1, w2, w3)
theorem main (q_laws_eqName : List AV → Option Bool) (W0 : (ρ : Type) → List AV → List Ob → (Unit → Option ρ) → (Bool → Option ρ) → Option ρ) {ρ : Type} (K : AV → List Ob → Option ρ) (a1 : Vec (ByteArray × Int × Int)) (a2 : Vec (ByteArray × Int × Int)) : exC Try.prog (G q_laws_eqName) (L W0) [] 0 (bodyOf Try.f30) (entry 27 [.c (.n (.sl 3 (encRw a1))), .c (.n (.sl 3 (encRw a2)))] [] []) (finO Try.prog Try.f30.results.toList 0 [] [] K) =
    B (fun w1 w2 w3 k0 kr => W0 ρ [.c (.n (.sl 3 (encRw w1))), .c (.n (.sl 3 (encRw w2))), .c (.n (.v (.int .i64 w3)))] [] k0 kr) a1 a2 (fun x1 => K (.c (.n (.v (.bool x1)))) []) := by kernel_rfl
theorem Gok : (G laws_eqName.Q).ok Try.prog := ⟨(by
    intro ρ f args K r h
    rcases sel_cases h with ⟨hb, h⟩ | ⟨-, h⟩
    · obtain rfl := beq_nat hb
      exact qEntry_ok laws_eqName.ac h
    cases h),
  (by
    intro ρ f args K
    simp only [G]
    cases Nat.beq f 57 with
    | true => exact qEntry_nat args K
    | false =>
    simp only [sel]
    rfl),
  (fun ρ f st caps args dst K r h => (by cases h))⟩
theorem hm : Try.prog.follows .mixedOrders = true := by kernel_rfl
theorem e0 : atomsL [] 1 c0 = [] := by kernel_rfl
theorem ok0 (ρ : Type) (st : St) (K : Exit → St → Option ρ) (r : ρ) (h : (L V0) ρ 0 st K = some r) : AW Try.prog (.loop c0) st fun e st' => K e st' = some r := by
  refine loop_ok (ct := ct0) (lv := lv0) (n := 27) (m := 0) (ks := []) (j := 0) (jn := []) (L := (L V0)) Gok hm (by rw [e0]; exact Lor.ok_nil _ _) enc0I (fun k t => F0 k t.1 t.2.1 t.2.2 (fun _ => K (.exit 0) (mkS 27 [] [] [] [])) (fun z1 => K .ret (mkS 27 [4] [.c (.n (.v (.bool z1)))] [] []))) (fun t => rfl) (fun k t => ?_) (fun _ => fuelN) h
  refine (step0 laws_eqName.Q V0 K _ t.1 t.2.1 t.2.2).trans ?_
  rw [laws_eqName.wrap]
  refine congrArg (fun W => B0 laws_eqName.F t.1 t.2.1 t.2.2 W (fun _ => K (.exit 0) (mkS 27 [] [] [] [])) (fun z1 => K .ret (mkS 27 [4] [.c (.n (.v (.bool z1)))] [] []))) ?_
  funext u1 u2 u3
  exact ofC_enc enc0I _ (u1, u2, u3)
theorem e : atomsL [] 0 (bodyOf Try.f30) = [(0, 0, .loop c0)] := by kernel_rfl
theorem acc (t : (Vec (ByteArray × Int × Int)) × (Vec (ByteArray × Int × Int))) (x : Bool) (h : F t.1 t.2 = some x) : ACc Try.prog 30 (encA t) [] true [] fun rv obs => (rv, obs) = encR x := by
  refine fun_okc (L := (L V0)) (jn := []) (cmds := []) (ks := []) (hin := []) (fn := Try.f30) (body := (bodyOf Try.f30)) Gok hm Try.func30 (by kernel_rfl) (by kernel_rfl) (by rw [e]; exact Lor.ok_cons ok0 (Lor.ok_nil _ _)) ?_ h
  refine (main laws_eqName.Q V0 _ t.1 t.2).trans ?_
  rw [V0_enc]
  refine congrArg (fun K => B (F0 fuelN) t.1 t.2 K) ?_
  funext x1
  exact ofC_enc encRI some (x1)
theorem ac0 (t : (Vec (ByteArray × Int × Int)) × (Vec (ByteArray × Int × Int))) (x : Bool) (h : F t.1 t.2 = some x) : AC Try.prog 30 (encA t) [] true [] fun rv obs => (rv, obs) = encR x := ACc.ac (body := bodyOf Try.f30) Try.func30 (by kernel_rfl) (by kernel_rfl) (acc t x h)
theorem ac (args : List AV) (x : Bool) (h : Q args = some x) : AC Try.prog 30 args [] false [] fun rv obs => (rv, obs) = encR x := by
  obtain ⟨t, rfl, h2⟩ := ofC_some h
  refine (ac0 t x h2).flat fun rv obs e => ?_
  obtain rfl : rv = (encR x).1 := congrArg Prod.fst e
  obtain rfl : obs = (encR x).2 := congrArg Prod.snd e
  refine ⟨by simp [encR, AV.Flat, K.Flat, C.Flat], ?_⟩
  simp [encR]
end laws_eqNameS
/-! loop.example/g00073/laws.FnExactNamesOk -/
namespace laws_FnExactNamesOk
noncomputable def B {ρ : Type} (C_laws_szNameS : (Vec (ByteArray × Int × Int)) → Int → Option Int) (C_laws_toNameS : (Vec (ByteArray × Int × Int)) → Option (Vec (ByteArray × Int × Int))) (C_spec_NamesOk : (Vec (ByteArray × Int × Int)) → Option Bool) (C_impl_NamesOk : (Vec (ByteArray × Int × Int)) → Option Bool) (C_laws_eqNameS : (Vec (ByteArray × Int × Int)) → (Vec (ByteArray × Int × Int)) → Option Bool) (a1 : Vec (ByteArray × Int × Int)) (K : Bool → Option ρ) : Option ρ :=
  (C_laws_szNameS a1 (1048576 : Int)).bind fun r1 => sel (decide (r1 < (0 : Int))) (K true) ((C_laws_toNameS a1).bind fun r2 => (C_spec_NamesOk r2).bind fun r3 => (C_laws_toNameS a1).bind fun r4 => (C_impl_NamesOk r4).bind fun r5 => sel ((!(r5 == r3))) (K false) ((C_laws_toNameS a1).bind fun r6 => (C_laws_eqNameS r4 r6).bind fun r7 => sel ((!r7)) (K false) (K true)))
noncomputable def F (a1 : Vec (ByteArray × Int × Int)) : Option Bool := B laws_szNameS.F laws_toNameS.F spec_NamesOk.F impl_NamesOk.F laws_eqNameS.F a1 (fun x1 => some (x1))
def encA (t : Vec (ByteArray × Int × Int)) : List AV := [.c (.n (.sl 3 (encRw t)))]
def encR (x : Bool) : AV × List Ob := (.c (.n (.v (.bool x))), [])
theorem encAI : ∀ a b, encA a = encA b → a = b := by
  intro a b h
  simp [encA, encRw_iff] at h
  simp_all
theorem encRI : ∀ a b, encR a = encR b → a = b := by
  intro a b h
  simp [encR, encRw_iff] at h
  simp_all
noncomputable def Q (args : List AV) : Option Bool := ofC encA (fun t => F t) args
theorem wrap : (fun (y1 : Vec (ByteArray × Int × Int)) => Q [.c (.n (.sl 3 (encRw y1)))]) = F := by
  funext y1
  exact ofC_enc encAI _ (y1)
noncomputable def G (q_laws_szNameS : List AV → Option Int) (q_laws_toNameS : List AV → Option (Vec (ByteArray × Int × Int))) (q_spec_NamesOk : List AV → Option Bool) (q_impl_NamesOk : List AV → Option Bool) (q_laws_eqNameS : List AV → Option Bool) : Orc := ⟨fun f => sel (Nat.beq f 26) 0 (sel (Nat.beq f 28) 0 (sel (Nat.beq f 27) 0 (sel (Nat.beq f 29) 0 (sel (Nat.beq f 30) 0 (9))))), fun ρ f args K => sel (Nat.beq f 26) (qEntry laws_szNameS.encR q_laws_szNameS args K) (sel (Nat.beq f 28) (qEntry laws_toNameS.encR q_laws_toNameS args K) (sel (Nat.beq f 27) (qEntry spec_NamesOk.encR q_spec_NamesOk args K) (sel (Nat.beq f 29) (qEntry impl_NamesOk.encR q_impl_NamesOk args K) (sel (Nat.beq f 30) (qEntry laws_eqNameS.encR q_laws_eqNameS args K) (Option.none))))), noE⟩
noncomputable def L : Lor := fun ρ j st K => Option.none
theorem main (q_laws_szNameS : List AV → Option Int) (q_laws_toNameS : List AV → Option (Vec (ByteArray × Int × Int))) (q_spec_NamesOk : List AV → Option Bool) (q_impl_NamesOk : List AV → Option Bool) (q_laws_eqNameS : List AV → Option Bool) {ρ : Type} (K : AV → List Ob → Option ρ) (a1 : Vec (ByteArray × Int × Int)) : exC Try.prog (G q_laws_szNameS q_laws_toNameS q_spec_NamesOk q_impl_NamesOk q_laws_eqNameS) (L) [] 0 (bodyOf Try.f8) (entry 27 [.c (.n (.sl 3 (encRw a1)))] [] []) (finO Try.prog Try.f8.results.toList 0 [] [] K) =
    B (fun y1 y2 => q_laws_szNameS [.c (.n (.sl 3 (encRw y1))), .c (.n (.v (.int .i64 y2)))]) (fun y1 => q_laws_toNameS [.c (.n (.sl 3 (encRw y1)))]) (fun y1 => q_spec_NamesOk [.c (.n (.sl 3 (encRw y1)))]) (fun y1 => q_impl_NamesOk [.c (.n (.sl 3 (encRw y1)))]) (fun y1 y2 => q_laws_eqNameS [.c (.n (.sl 3 (encRw y1))), .c (.n (.sl 3 (encRw y2)))]) a1 (fun x1 => K (.c (.n (.v (.bool x1)))) []) := by kernel_rfl
theorem Gok : (G laws_szNameS.Q laws_toNameS.Q spec_NamesOk.Q impl_NamesOk.Q laws_eqNameS.Q).ok Try.prog := ⟨(by
    intro ρ f args K r h
    rcases sel_cases h with ⟨hb, h⟩ | ⟨-, h⟩
    · obtain rfl := beq_nat hb
      exact qEntry_ok laws_szNameS.ac h
    rcases sel_cases h with ⟨hb, h⟩ | ⟨-, h⟩
    · obtain rfl := beq_nat hb
      exact qEntry_ok laws_toNameS.ac h
    rcases sel_cases h with ⟨hb, h⟩ | ⟨-, h⟩
    · obtain rfl := beq_nat hb
      exact qEntry_ok spec_NamesOk.ac h
    rcases sel_cases h with ⟨hb, h⟩ | ⟨-, h⟩
    · obtain rfl := beq_nat hb
      exact qEntry_ok impl_NamesOk.ac h
    rcases sel_cases h with ⟨hb, h⟩ | ⟨-, h⟩
    · obtain rfl := beq_nat hb
      exact qEntry_ok laws_eqNameS.ac h
    cases h),
  (by
    intro ρ f args K
    simp only [G]
    cases Nat.beq f 26 with
    | true => exact qEntry_nat args K
    | false =>
    simp only [sel]
    cases Nat.beq f 28 with
    | true => exact qEntry_nat args K
    | false =>
    simp only [sel]
    cases Nat.beq f 27 with
    | true => exact qEntry_nat args K
    | false =>
    simp only [sel]
    cases Nat.beq f 29 with
    | true => exact qEntry_nat args K
    | false =>
    simp only [sel]
    cases Nat.beq f 30 with
    | true => exact qEntry_nat args K
    | false =>
    simp only [sel]
    rfl),
  (fun ρ f st caps args dst K r h => (by cases h))⟩
theorem hm : Try.prog.follows .mixedOrders = true := by kernel_rfl
theorem e : atomsL [] 0 (bodyOf Try.f8) = [] := by kernel_rfl
theorem acc (t : Vec (ByteArray × Int × Int)) (x : Bool) (h : F t = some x) : ACc Try.prog 8 (encA t) [] true [] fun rv obs => (rv, obs) = encR x := by
  refine fun_okc (L := (L)) (jn := []) (cmds := []) (ks := []) (hin := []) (fn := Try.f8) (body := (bodyOf Try.f8)) Gok hm Try.func8 (by kernel_rfl) (by kernel_rfl) (by rw [e]; exact Lor.ok_nil _ _) ?_ h
  refine (main laws_szNameS.Q laws_toNameS.Q spec_NamesOk.Q impl_NamesOk.Q laws_eqNameS.Q _ t).trans ?_
  rw [laws_szNameS.wrap, laws_toNameS.wrap, spec_NamesOk.wrap, impl_NamesOk.wrap, laws_eqNameS.wrap]
  refine congrArg (fun K => B laws_szNameS.F laws_toNameS.F spec_NamesOk.F impl_NamesOk.F laws_eqNameS.F t K) ?_
  funext x1
  exact ofC_enc encRI some (x1)
theorem ac0 (t : Vec (ByteArray × Int × Int)) (x : Bool) (h : F t = some x) : AC Try.prog 8 (encA t) [] true [] fun rv obs => (rv, obs) = encR x := ACc.ac (body := bodyOf Try.f8) Try.func8 (by kernel_rfl) (by kernel_rfl) (acc t x h)
theorem ac (args : List AV) (x : Bool) (h : Q args = some x) : AC Try.prog 8 args [] false [] fun rv obs => (rv, obs) = encR x := by
  obtain ⟨t, rfl, h2⟩ := ofC_some h
  refine (ac0 t x h2).flat fun rv obs e => ?_
  obtain rfl : rv = (encR x).1 := congrArg Prod.fst e
  obtain rfl : obs = (encR x).2 := congrArg Prod.snd e
  refine ⟨by simp [encR, AV.Flat, K.Flat, C.Flat], ?_⟩
  simp [encR]
end laws_FnExactNamesOk
end Go.Al
