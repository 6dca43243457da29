import Derived.Test.YtfghfdjecfkibaaAlF
import Derived.Test.YtfghfdjecfkibaaSC
import Derived.Test.YtfghfdjecfkibaaGPutRaw
set_option linter.unusedVariables false
set_option linter.unusedSimpArgs false
set_option linter.constructorNameAsVariable false
set_option linter.unusedSectionVars false
set_option maxRecDepth 100000
namespace Go.Al
open Go.Proofs

/-! loop.example/g00073/laws.szRawS -/
namespace laws_szRawS
noncomputable def B0 {ρ : Type} (C_laws_szRaw : Int → ByteArray → ByteArray → ByteArray → Int → Option Int) (v1 : Vec (Int × ByteArray × ByteArray × ByteArray)) (v2 : Int) (v3 : Int) (W : (Vec (Int × ByteArray × ByteArray × ByteArray)) → Int → Int → Option ρ) (K0 : Int → Option ρ) (Kr : Int → Option ρ) : Option ρ :=
  sel (decide (v3 < (v1.n : Int))) (chk (decide (0 ≤ v3 ∧ v3 < (v1.n : Int))) ((C_laws_szRaw ((v1.g v3.toNat).1) ((v1.g v3.toNat).2.1) ((v1.g v3.toNat).2.2.1) ((v1.g v3.toNat).2.2.2) v2).bind fun r1 => sel (decide (r1 < (0 : Int))) (Kr (-1 : Int)) (W v1 r1 (wr (v3 + (1 : Int)))))) (K0 v2)
noncomputable def F0 {ρ : Type} : Nat → (Vec (Int × ByteArray × ByteArray × ByteArray)) → Int → Int → (Int → Option ρ) → (Int → Option ρ) → Option ρ
  | 0, _, _, _, _, _ => none
  | k + 1, v1, v2, v3, K0, Kr => B0 laws_szRaw.F v1 v2 v3 (fun v1' v2' v3' => F0 k v1' v2' v3' K0 Kr) K0 Kr
noncomputable def B {ρ : Type} (L0 : (Vec (Int × ByteArray × ByteArray × ByteArray)) → Int → Int → (Int → Option ρ) → (Int → Option ρ) → Option ρ) (a1 : Vec (Int × ByteArray × ByteArray × ByteArray)) (a2 : Int) (K : Int → Option ρ) : Option ρ :=
  sel (decide ((wr (a2 - (a1.n : Int))) < (0 : Int))) (K (-1 : Int)) (L0 a1 (wr (a2 - (a1.n : Int))) (0 : Int) (fun e01 => K e01) (fun x01 => K x01))
noncomputable def F (a1 : Vec (Int × ByteArray × ByteArray × ByteArray)) (a2 : Int) : Option Int := B (F0 fuelN) a1 a2 (fun x1 => some (x1))
def encA (t : (Vec (Int × ByteArray × ByteArray × ByteArray)) × Int) : List AV := [.c (.n (.sl 4 (encRw t.1))), .c (.n (.v (.int .i64 t.2)))]
def encR (x : Int) : AV × List Ob := (.c (.n (.v (.int .i64 x))), [])
theorem encAI : ∀ a b, encA a = encA b → a = b := by
  intro a b h
  obtain ⟨a0, a1⟩ := a
  obtain ⟨b0, b1⟩ := b
  simp [encA, encRw_iff] at h
  simp_all
theorem encRI : ∀ a b, encR a = encR b → a = b := by
  intro a b h
  simp [encR, encRw_iff] at h
  simp_all
noncomputable def Q (args : List AV) : Option Int := ofC encA (fun t => F t.1 t.2) args
theorem wrap : (fun (y1 : Vec (Int × ByteArray × ByteArray × ByteArray)) (y2 : Int) => Q [.c (.n (.sl 4 (encRw y1))), .c (.n (.v (.int .i64 y2)))]) = F := by
  funext y1 y2
  exact ofC_enc encAI _ (y1, y2)
noncomputable def G (q_laws_szRaw : List AV → Option Int) : Orc := ⟨fun f => sel (Nat.beq f 17) 0 (9), fun ρ f args K => sel (Nat.beq f 17) (qEntry laws_szRaw.encR q_laws_szRaw args K) (Option.none), noE⟩
noncomputable def L (W0 : (ρ : Type) → List AV → List Ob → (Int → Option ρ) → (Int → Option ρ) → Option ρ) : Lor := fun ρ j st K => sel (Nat.beq j 0) (cutO Try.prog 27 [0, 1, 5] 0 [] [] st fun avs obs => W0 ρ avs obs (fun z1 => K (.exit 0) (mkS 27 [1] [.c (.n (.v (.int .i64 z1)))] [] [])) (fun z1 => K .ret (mkS 27 [4] [.c (.n (.v (.int .i64 z1)))] [] []))) (Option.none)
noncomputable def c0 : Code := loopC (atomN [] 0 (bodyOf Try.f29) 0)
def ct0 : Cut := ⟨[0, 1, 5], []⟩
def lv0 : Exit → Cut
  | .exit 0 => ⟨[1], []⟩
  | .ret => ⟨[4], []⟩
  | _ => ⟨[], []⟩
theorem step0 (q_laws_szRaw : List AV → Option Int) (W0 : (ρ : Type) → List AV → List Ob → (Int → Option ρ) → (Int → Option ρ) → Option ρ) {ρ : Type} (K : Exit → St → Option ρ) (W : List AV → List Ob → Option ρ) (v1 : Vec (Int × ByteArray × ByteArray × ByteArray)) (v2 : Int) (v3 : Int) : exC Try.prog (G q_laws_szRaw) (L W0) [] 1 c0 (mkS 27 [0, 1, 5] [.c (.n (.sl 4 (encRw v1))), .c (.n (.v (.int .i64 v2))), .c (.n (.v (.int .i64 v3)))] [] []) (bodyK Try.prog 27 0 [] ct0 W lv0 K) =
    B0 (fun y1 y2 y3 y4 y5 => q_laws_szRaw [.a [.n (.v (.int .i64 y1)), .n (.v (.string y2)), .n (.v (.string y3)), .n (.v (.string y4))], .c (.n (.v (.int .i64 y5)))]) v1 v2 v3 (fun u1 u2 u3 => W [.c (.n (.sl 4 (encRw u1))), .c (.n (.v (.int .i64 u2))), .c (.n (.v (.int .i64 u3)))] []) (fun z1 => K (.exit 0) (mkS 27 [1] [.c (.n (.v (.int .i64 z1)))] [] [])) (fun z1 => K .ret (mkS 27 [4] [.c (.n (.v (.int .i64 z1)))] [] [])) := by kernel_rfl
def enc0 (t : (Vec (Int × ByteArray × ByteArray × ByteArray)) × Int × Int) : List AV × List Ob := ([.c (.n (.sl 4 (encRw t.1))), .c (.n (.v (.int .i64 t.2.1))), .c (.n (.v (.int .i64 t.2.2)))], [])
theorem enc0I : ∀ a b, enc0 a = enc0 b → a = b := by
  intro a b h
  obtain ⟨a0, a1, a2⟩ := a
  obtain ⟨b0, b1, b2⟩ := b
  simp [enc0, encRw_iff] at h
  simp_all
noncomputable def V0 : (ρ : Type) → List AV → List Ob → (Int → Option ρ) → (Int → Option ρ) → Option ρ := fun ρ avs obs k0 kr => ofC enc0 (fun t => F0 fuelN t.1 t.2.1 t.2.2 k0 kr) (avs, obs)
theorem V0_enc (ρ : Type) : (fun w1 w2 w3 k0 kr => V0 ρ [.c (.n (.sl 4 (encRw w1))), .c (.n (.v (.int .i64 w2))), .c (.n (.v (.int .i64 w3)))] [] k0 kr) = F0 fuelN := by
  funext w1 w2 w3 k0 kr
  exact ofC_enc enc0I _ (w1, w2, w3)
theorem main (q_laws_szRaw : List AV → Option Int) (W0 : (ρ : Type) → List AV → List Ob → (Int → Option ρ) → (Int → Option ρ) → Option ρ) {ρ : Type} (K : AV → List Ob → Option ρ) (a1 : Vec (Int × ByteArray × ByteArray × ByteArray)) (a2 : Int) : exC Try.prog (G q_laws_szRaw) (L W0) [] 0 (bodyOf Try.f29) (entry 27 [.c (.n (.sl 4 (encRw a1))), .c (.n (.v (.int .i64 a2)))] [] []) (finO Try.prog Try.f29.results.toList 0 [] [] K) =
    B (fun w1 w2 w3 k0 kr => W0 ρ [.c (.n (.sl 4 (encRw w1))), .c (.n (.v (.int .i64 w2))), .c (.n (.v (.int .i64 w3)))] [] k0 kr) a1 a2 (fun x1 => K (.c (.n (.v (.int .i64 x1)))) []) := by kernel_rfl
theorem Gok : (G laws_szRaw.Q).ok Try.prog := ⟨(by
    intro ρ f args K r h
    rcases sel_cases h with ⟨hb, h⟩ | ⟨-, h⟩
    · obtain rfl := beq_nat hb
      exact qEntry_ok laws_szRaw.ac h
    cases h),
  (by
    intro ρ f args K
    simp only [G]
    cases Nat.beq f 17 with
    | true => exact qEntry_nat args K
    | false =>
    simp only [sel]
    rfl),
  (fun ρ f st caps args dst K r h => (by cases h))⟩
theorem hm : Try.prog.follows .mixedOrders = true := by kernel_rfl
theorem e0 : atomsL [] 1 c0 = [] := by kernel_rfl
theorem ok0 (ρ : Type) (st : St) (K : Exit → St → Option ρ) (r : ρ) (h : (L V0) ρ 0 st K = some r) : AW Try.prog (.loop c0) st fun e st' => K e st' = some r := by
  refine loop_ok (ct := ct0) (lv := lv0) (n := 27) (m := 0) (ks := []) (j := 0) (jn := []) (L := (L V0)) Gok hm (by rw [e0]; exact Lor.ok_nil _ _) enc0I (fun k t => F0 k t.1 t.2.1 t.2.2 (fun z1 => K (.exit 0) (mkS 27 [1] [.c (.n (.v (.int .i64 z1)))] [] [])) (fun z1 => K .ret (mkS 27 [4] [.c (.n (.v (.int .i64 z1)))] [] []))) (fun t => rfl) (fun k t => ?_) (fun _ => fuelN) h
  refine (step0 laws_szRaw.Q V0 K _ t.1 t.2.1 t.2.2).trans ?_
  rw [laws_szRaw.wrap]
  refine congrArg (fun W => B0 laws_szRaw.F t.1 t.2.1 t.2.2 W (fun z1 => K (.exit 0) (mkS 27 [1] [.c (.n (.v (.int .i64 z1)))] [] [])) (fun z1 => K .ret (mkS 27 [4] [.c (.n (.v (.int .i64 z1)))] [] []))) ?_
  funext u1 u2 u3
  exact ofC_enc enc0I _ (u1, u2, u3)
theorem e : atomsL [] 0 (bodyOf Try.f29) = [(0, 0, .loop c0)] := by kernel_rfl
theorem acc (t : (Vec (Int × ByteArray × ByteArray × ByteArray)) × Int) (x : Int) (h : F t.1 t.2 = some x) : ACc Try.prog 29 (encA t) [] true [] fun rv obs => (rv, obs) = encR x := by
  refine fun_okc (L := (L V0)) (jn := []) (cmds := []) (ks := []) (hin := []) (fn := Try.f29) (body := (bodyOf Try.f29)) Gok hm Try.func29 (by kernel_rfl) (by kernel_rfl) (by rw [e]; exact Lor.ok_cons ok0 (Lor.ok_nil _ _)) ?_ h
  refine (main laws_szRaw.Q V0 _ t.1 t.2).trans ?_
  rw [V0_enc]
  refine congrArg (fun K => B (F0 fuelN) t.1 t.2 K) ?_
  funext x1
  exact ofC_enc encRI some (x1)
theorem ac0 (t : (Vec (Int × ByteArray × ByteArray × ByteArray)) × Int) (x : Int) (h : F t.1 t.2 = some x) : AC Try.prog 29 (encA t) [] true [] fun rv obs => (rv, obs) = encR x := ACc.ac (body := bodyOf Try.f29) Try.func29 (by kernel_rfl) (by kernel_rfl) (acc t x h)
theorem ac (args : List AV) (x : Int) (h : Q args = some x) : AC Try.prog 29 args [] false [] fun rv obs => (rv, obs) = encR x := by
  obtain ⟨t, rfl, h2⟩ := ofC_some h
  refine (ac0 t x h2).flat fun rv obs e => ?_
  obtain rfl : rv = (encR x).1 := congrArg Prod.fst e
  obtain rfl : obs = (encR x).2 := congrArg Prod.snd e
  refine ⟨by simp [encR, AV.Flat, K.Flat, C.Flat], ?_⟩
  simp [encR]
end laws_szRawS
/-! loop.example/g00073/laws.toRawS -/
namespace laws_toRawS
noncomputable def B0 {ρ : Type} (C_laws_toRaw : Int → ByteArray → ByteArray → ByteArray → Option (Int × ByteArray × ByteArray × ByteArray)) (v1 : Vec (Int × ByteArray × ByteArray × ByteArray)) (v2 : Int) (v3 : Vec (Int × ByteArray × ByteArray × ByteArray)) (W : (Vec (Int × ByteArray × ByteArray × ByteArray)) → Int → (Vec (Int × ByteArray × ByteArray × ByteArray)) → Option ρ) (K0 : (Vec (Int × ByteArray × ByteArray × ByteArray)) → Option ρ) : Option ρ :=
  sel (decide (v2 < (v1.n : Int))) (chk (decide (0 ≤ v2 ∧ v2 < (v1.n : Int))) ((C_laws_toRaw ((v1.g v2.toNat).1) ((v1.g v2.toNat).2.1) ((v1.g v2.toNat).2.2.1) ((v1.g v2.toNat).2.2.2)).bind fun r1 => chk (decide (0 ≤ v2 ∧ v2 < (v3.n : Int))) (chk (decide (v2.toNat < v3.n)) (W v1 (wr (v2 + (1 : Int))) (Vec.set v3 v2.toNat (r1.1, r1.2.1, r1.2.2.1, r1.2.2.2)))))) (K0 v3)
noncomputable def F0 {ρ : Type} : Nat → (Vec (Int × ByteArray × ByteArray × ByteArray)) → Int → (Vec (Int × ByteArray × ByteArray × ByteArray)) → ((Vec (Int × ByteArray × ByteArray × ByteArray)) → Option ρ) → Option ρ
  | 0, _, _, _, _ => none
  | k + 1, v1, v2, v3, K0 => B0 laws_toRaw.F v1 v2 v3 (fun v1' v2' v3' => F0 k v1' v2' v3' K0) K0
noncomputable def B {ρ : Type} (L0 : (Vec (Int × ByteArray × ByteArray × ByteArray)) → Int → (Vec (Int × ByteArray × ByteArray × ByteArray)) → ((Vec (Int × ByteArray × ByteArray × ByteArray)) → Option ρ) → Option ρ) (a1 : Vec (Int × ByteArray × ByteArray × ByteArray)) (K : (Vec (Int × ByteArray × ByteArray × ByteArray)) → Option ρ) : Option ρ :=
  chk (decide ((a1.n : Int) = (a1.n : Int) ∧ 0 ≤ (a1.n : Int))) (chk (mkOk (a1.n : Int) 56) (L0 a1 (0 : Int) (Vec.rep ((a1.n : Int).toNat) ((0 : Int), ByteArray.empty, ByteArray.empty, ByteArray.empty) : Vec (Int × ByteArray × ByteArray × ByteArray)) (fun e01 => K e01)))
noncomputable def F (a1 : Vec (Int × ByteArray × ByteArray × ByteArray)) : Option (Vec (Int × ByteArray × ByteArray × ByteArray)) := B (F0 fuelN) a1 (fun x1 => some (x1))
def encA (t : Vec (Int × ByteArray × ByteArray × ByteArray)) : List AV := [.c (.n (.sl 4 (encRw t)))]
def encR (x : Vec (Int × ByteArray × ByteArray × ByteArray)) : AV × List Ob := (.c (.h 0), [.row 4 (encRw x) []])
theorem encAI : ∀ a b, encA a = encA b → a = b := by
  intro a b h
  simp [encA, encRw_iff] at h
  simp_all
theorem encRI : ∀ a b, encR a = encR b → a = b := by
  intro a b h
  simp [encR, encRw_iff] at h
  simp_all
noncomputable def Q (args : List AV) : Option (Vec (Int × ByteArray × ByteArray × ByteArray)) := ofC encA (fun t => F t) args
theorem wrap : (fun (y1 : Vec (Int × ByteArray × ByteArray × ByteArray)) => Q [.c (.n (.sl 4 (encRw y1)))]) = F := by
  funext y1
  exact ofC_enc encAI _ (y1)
noncomputable def G (q_laws_toRaw : List AV → Option (Int × ByteArray × ByteArray × ByteArray)) : Orc := ⟨fun f => sel (Nat.beq f 20) 0 (9), fun ρ f args K => sel (Nat.beq f 20) (qEntry laws_toRaw.encR q_laws_toRaw args K) (Option.none), noE⟩
noncomputable def L (W0 : (ρ : Type) → List AV → List Ob → ((Vec (Int × ByteArray × ByteArray × ByteArray)) → Option ρ) → Option ρ) : Lor := fun ρ j st K => sel (Nat.beq j 0) (cutO Try.prog 23 [0, 3, 4] 0 [] [] st fun avs obs => W0 ρ avs obs (fun z1 => K (.exit 0) (mkS 23 [3] [.c (.h 0)] [.row 4 (encRw z1) []] []))) (Option.none)
noncomputable def c0 : Code := loopC (atomN [] 0 (bodyOf Try.f31) 0)
def ct0 : Cut := ⟨[0, 3, 4], []⟩
def lv0 : Exit → Cut
  | .exit 0 => ⟨[3], []⟩
  | _ => ⟨[], []⟩
theorem step0 (q_laws_toRaw : List AV → Option (Int × ByteArray × ByteArray × ByteArray)) (W0 : (ρ : Type) → List AV → List Ob → ((Vec (Int × ByteArray × ByteArray × ByteArray)) → Option ρ) → Option ρ) {ρ : Type} (K : Exit → St → Option ρ) (W : List AV → List Ob → Option ρ) (v1 : Vec (Int × ByteArray × ByteArray × ByteArray)) (v2 : Int) (v3 : Vec (Int × ByteArray × ByteArray × ByteArray)) : exC Try.prog (G q_laws_toRaw) (L W0) [] 1 c0 (mkS 23 [0, 3, 4] [.c (.n (.sl 4 (encRw v1))), .c (.h 0), .c (.n (.v (.int .i64 v2)))] [.row 4 (encRw v3) []] []) (bodyK Try.prog 23 0 [] ct0 W lv0 K) =
    B0 (fun y1 y2 y3 y4 => q_laws_toRaw [.a [.n (.v (.int .i64 y1)), .n (.v (.string y2)), .n (.v (.string y3)), .n (.v (.string y4))]]) v1 v2 v3 (fun u1 u2 u3 => W [.c (.n (.sl 4 (encRw u1))), .c (.h 0), .c (.n (.v (.int .i64 u2)))] [.row 4 (encRw u3) []]) (fun z1 => K (.exit 0) (mkS 23 [3] [.c (.h 0)] [.row 4 (encRw z1) []] [])) := by kernel_rfl
def enc0 (t : (Vec (Int × ByteArray × ByteArray × ByteArray)) × Int × (Vec (Int × ByteArray × ByteArray × ByteArray))) : List AV × List Ob := ([.c (.n (.sl 4 (encRw t.1))), .c (.h 0), .c (.n (.v (.int .i64 t.2.1)))], [.row 4 (encRw t.2.2) []])
theorem enc0I : ∀ a b, enc0 a = enc0 b → a = b := by
  intro a b h
  obtain ⟨a0, a1, a2⟩ := a
  obtain ⟨b0, b1, b2⟩ := b
  simp [enc0, encRw_iff] at h
  simp_all
noncomputable def V0 : (ρ : Type) → List AV → List Ob → ((Vec (Int × ByteArray × ByteArray × ByteArray)) → Option ρ) → Option ρ := fun ρ avs obs k0 => ofC enc0 (fun t => F0 fuelN t.1 t.2.1 t.2.2 k0) (avs, obs)
theorem V0_enc (ρ : Type) : (fun w1 w2 w3 k0 => V0 ρ [.c (.n (.sl 4 (encRw w1))), .c (.h 0), .c (.n (.v (.int .i64 w2)))] [.row 4 (encRw w3) []] k0) = F0 fuelN := by
  funext w1 w2 w3 k0
  exact ofC_enc enc0I _ (w1, w2, w3)
theorem main (q_laws_toRaw : List AV → Option (Int × ByteArray × ByteArray × ByteArray)) (W0 : (ρ : Type) → List AV → List Ob → ((Vec (Int × ByteArray × ByteArray × ByteArray)) → Option ρ) → Option ρ) {ρ : Type} (K : AV → List Ob → Option ρ) (a1 : Vec (Int × ByteArray × ByteArray × ByteArray)) : exC Try.prog (G q_laws_toRaw) (L W0) [] 0 (bodyOf Try.f31) (entry 23 [.c (.n (.sl 4 (encRw a1)))] [] []) (finO Try.prog Try.f31.results.toList 0 [] [] K) =
    B (fun w1 w2 w3 k0 => W0 ρ [.c (.n (.sl 4 (encRw w1))), .c (.h 0), .c (.n (.v (.int .i64 w2)))] [.row 4 (encRw w3) []] k0) a1 (fun x1 => K (.c (.h 0)) [.row 4 (encRw x1) []]) := by kernel_rfl
theorem Gok : (G laws_toRaw.Q).ok Try.prog := ⟨(by
    intro ρ f args K r h
    rcases sel_cases h with ⟨hb, h⟩ | ⟨-, h⟩
    · obtain rfl := beq_nat hb
      exact qEntry_ok laws_toRaw.ac h
    cases h),
  (by
    intro ρ f args K
    simp only [G]
    cases Nat.beq f 20 with
    | true => exact qEntry_nat args K
    | false =>
    simp only [sel]
    rfl),
  (fun ρ f st caps args dst K r h => (by cases h))⟩
theorem hm : Try.prog.follows .mixedOrders = true := by kernel_rfl
theorem e0 : atomsL [] 1 c0 = [] := by kernel_rfl
theorem ok0 (ρ : Type) (st : St) (K : Exit → St → Option ρ) (r : ρ) (h : (L V0) ρ 0 st K = some r) : AW Try.prog (.loop c0) st fun e st' => K e st' = some r := by
  refine loop_ok (ct := ct0) (lv := lv0) (n := 23) (m := 0) (ks := []) (j := 0) (jn := []) (L := (L V0)) Gok hm (by rw [e0]; exact Lor.ok_nil _ _) enc0I (fun k t => F0 k t.1 t.2.1 t.2.2 (fun z1 => K (.exit 0) (mkS 23 [3] [.c (.h 0)] [.row 4 (encRw z1) []] []))) (fun t => rfl) (fun k t => ?_) (fun _ => fuelN) h
  refine (step0 laws_toRaw.Q V0 K _ t.1 t.2.1 t.2.2).trans ?_
  rw [laws_toRaw.wrap]
  refine congrArg (fun W => B0 laws_toRaw.F t.1 t.2.1 t.2.2 W (fun z1 => K (.exit 0) (mkS 23 [3] [.c (.h 0)] [.row 4 (encRw z1) []] []))) ?_
  funext u1 u2 u3
  exact ofC_enc enc0I _ (u1, u2, u3)
theorem e : atomsL [] 0 (bodyOf Try.f31) = [(0, 0, .loop c0)] := by kernel_rfl
theorem acc (t : Vec (Int × ByteArray × ByteArray × ByteArray)) (x : Vec (Int × ByteArray × ByteArray × ByteArray)) (h : F t = some x) : ACc Try.prog 31 (encA t) [] true [] fun rv obs => (rv, obs) = encR x := by
  refine fun_okc (L := (L V0)) (jn := []) (cmds := []) (ks := []) (hin := []) (fn := Try.f31) (body := (bodyOf Try.f31)) Gok hm Try.func31 (by kernel_rfl) (by kernel_rfl) (by rw [e]; exact Lor.ok_cons ok0 (Lor.ok_nil _ _)) ?_ h
  refine (main laws_toRaw.Q V0 _ t).trans ?_
  rw [V0_enc]
  refine congrArg (fun K => B (F0 fuelN) t K) ?_
  funext x1
  exact ofC_enc encRI some (x1)
theorem ac0 (t : Vec (Int × ByteArray × ByteArray × ByteArray)) (x : Vec (Int × ByteArray × ByteArray × ByteArray)) (h : F t = some x) : AC Try.prog 31 (encA t) [] true [] fun rv obs => (rv, obs) = encR x := ACc.ac (body := bodyOf Try.f31) Try.func31 (by kernel_rfl) (by kernel_rfl) (acc t x h)
theorem ac (args : List AV) (x : Vec (Int × ByteArray × ByteArray × ByteArray)) (h : Q args = some x) : AC Try.prog 31 args [] false [] fun rv obs => (rv, obs) = encR x := by
  obtain ⟨t, rfl, h2⟩ := ofC_some h
  refine (ac0 t x h2).flat fun rv obs e => ?_
  obtain rfl : rv = (encR x).1 := congrArg Prod.fst e
  obtain rfl : obs = (encR x).2 := congrArg Prod.snd e
  refine ⟨by simp [encR, AV.Flat, K.Flat, C.Flat], ?_⟩
  intro o ho
  simp only [encR, List.mem_cons, List.not_mem_nil, or_false] at ho
  subst ho
  exact flat_rw rfl _
end laws_toRawS
/-! loop.example/g00073/spec.PutRaws -/
namespace spec_PutRaws
noncomputable def B0 {ρ : Type} (C_spec_PutRaw : (Vec (ByteArray × ByteArray)) → Int → ByteArray → ByteArray → ByteArray → Option (Bool × (Vec (ByteArray × ByteArray)))) (v1 : Vec (Int × ByteArray × ByteArray × ByteArray)) (v2 : Int) (v3 : Vec (ByteArray × ByteArray)) (W : (Vec (Int × ByteArray × ByteArray × ByteArray)) → Int → (Vec (ByteArray × ByteArray)) → Option ρ) (K0 : (Vec (Int × ByteArray × ByteArray × ByteArray)) → (Vec (ByteArray × ByteArray)) → Option ρ) (Kr : Int → (Vec (ByteArray × ByteArray)) → Option ρ) : Option ρ :=
  sel (decide (v2 < (v1.n : Int))) (chk (decide (0 ≤ v2 ∧ v2 < (v1.n : Int))) ((C_spec_PutRaw v3 ((v1.g v2.toNat).1) ((v1.g v2.toNat).2.1) ((v1.g v2.toNat).2.2.1) ((v1.g v2.toNat).2.2.2)).bind fun r2 => sel ((!r2.1)) (Kr v2 v3) (W v1 (wr (v2 + (1 : Int))) r2.2))) (K0 v1 v3)
noncomputable def F0 {ρ : Type} : Nat → (Vec (Int × ByteArray × ByteArray × ByteArray)) → Int → (Vec (ByteArray × ByteArray)) → ((Vec (Int × ByteArray × ByteArray × ByteArray)) → (Vec (ByteArray × ByteArray)) → Option ρ) → (Int → (Vec (ByteArray × ByteArray)) → Option ρ) → Option ρ
  | 0, _, _, _, _, _ => none
  | k + 1, v1, v2, v3, K0, Kr => B0 spec_PutRaw.F v1 v2 v3 (fun v1' v2' v3' => F0 k v1' v2' v3' K0 Kr) K0 Kr
noncomputable def B {ρ : Type} (C_spec_DiskOk : (Vec (ByteArray × ByteArray)) → Option Bool) (L0 : (Vec (Int × ByteArray × ByteArray × ByteArray)) → Int → (Vec (ByteArray × ByteArray)) → ((Vec (Int × ByteArray × ByteArray × ByteArray)) → (Vec (ByteArray × ByteArray)) → Option ρ) → (Int → (Vec (ByteArray × ByteArray)) → Option ρ) → Option ρ) (a1 : Vec (ByteArray × ByteArray)) (a2 : Vec (Int × ByteArray × ByteArray × ByteArray)) (K : Int → (Vec (ByteArray × ByteArray)) → Option ρ) : Option ρ :=
  (C_spec_DiskOk a1).bind fun r1 => sel ((!r1)) (K (0 : Int) (Vec.nil : Vec (ByteArray × ByteArray))) (sel (decide ((120 : Int) < (a2.n : Int))) (K (0 : Int) (Vec.nil : Vec (ByteArray × ByteArray))) (chk (decide (a1.n * 33 ≤ maxN)) (L0 a2 (0 : Int) a1 (fun e01 e02 => K (e01.n : Int) e02) (fun x01 x02 => K x01 x02))))
noncomputable def F (a1 : Vec (ByteArray × ByteArray)) (a2 : Vec (Int × ByteArray × ByteArray × ByteArray)) : Option (Int × (Vec (ByteArray × ByteArray))) := B spec_DiskOk.F (F0 fuelN) a1 a2 (fun x1 x2 => some (x1, x2))
def encA (t : (Vec (ByteArray × ByteArray)) × (Vec (Int × ByteArray × ByteArray × ByteArray))) : List AV := [.a [.n (.sl 2 (encRw t.1))], .c (.n (.sl 4 (encRw t.2)))]
def encR (x : Int × (Vec (ByteArray × ByteArray))) : AV × List Ob := (.tup [.a [.h 0], .c (.n (.v (.int .i64 x.1)))], [.row 2 (encRw x.2) []])
theorem encAI : ∀ a b, encA a = encA b → a = b := by
  intro a b h
  obtain ⟨a0, a1⟩ := a
  obtain ⟨b0, b1⟩ := b
  simp [encA, encRw_iff] at h
  simp_all
theorem encRI : ∀ a b, encR a = encR b → a = b := by
  intro a b h
  obtain ⟨a0, a1⟩ := a
  obtain ⟨b0, b1⟩ := b
  simp [encR, encRw_iff] at h
  simp_all
noncomputable def Q (args : List AV) : Option (Int × (Vec (ByteArray × ByteArray))) := ofC encA (fun t => F t.1 t.2) args
theorem wrap : (fun (y1 : Vec (ByteArray × ByteArray)) (y2 : Vec (Int × ByteArray × ByteArray × ByteArray)) => Q [.a [.n (.sl 2 (encRw y1))], .c (.n (.sl 4 (encRw y2)))]) = F := by
  funext y1 y2
  exact ofC_enc encAI _ (y1, y2)
noncomputable def G (q_spec_DiskOk : List AV → Option Bool) (q_spec_PutRaw : List AV → Option (Bool × (Vec (ByteArray × ByteArray)))) : Orc := ⟨fun f => sel (Nat.beq f 47) 0 (sel (Nat.beq f 18) 0 (9)), fun ρ f args K => sel (Nat.beq f 47) (qEntry spec_DiskOk.encR q_spec_DiskOk args K) (sel (Nat.beq f 18) (qEntry spec_PutRaw.encR q_spec_PutRaw args K) (Option.none)), noE⟩
noncomputable def L (W0 : (ρ : Type) → List AV → List Ob → ((Vec (Int × ByteArray × ByteArray × ByteArray)) → (Vec (ByteArray × ByteArray)) → Option ρ) → (Int → (Vec (ByteArray × ByteArray)) → Option ρ) → Option ρ) : Lor := fun ρ j st K => sel (Nat.beq j 0) (cutO Try.prog 47 [1, 4, 6, 7] 0 [] [] st fun avs obs => W0 ρ avs obs (fun z1 z2 => K (.exit 0) (mkS 47 [1, 4, 6] [.c (.n (.sl 4 (encRw z1))), .c (.p 0 0), .c (.p 1 0)] [.box [.z], .box [.h 2], .row 2 (encRw z2) []] [])) (fun z1 z2 => K .ret (mkS 47 [4, 5] [.c (.p 0 0), .c (.n (.v (.int .i64 z1)))] [.box [.h 1], .row 2 (encRw z2) []] []))) (Option.none)
noncomputable def c0 : Code := loopC (atomN [] 0 (bodyOf Try.f30) 0)
def ct0 : Cut := ⟨[1, 4, 6, 7], []⟩
def lv0 : Exit → Cut
  | .exit 0 => ⟨[1, 4, 6], []⟩
  | .ret => ⟨[4, 5], []⟩
  | _ => ⟨[], []⟩
theorem step0 (q_spec_DiskOk : List AV → Option Bool) (q_spec_PutRaw : List AV → Option (Bool × (Vec (ByteArray × ByteArray)))) (W0 : (ρ : Type) → List AV → List Ob → ((Vec (Int × ByteArray × ByteArray × ByteArray)) → (Vec (ByteArray × ByteArray)) → Option ρ) → (Int → (Vec (ByteArray × ByteArray)) → Option ρ) → Option ρ) {ρ : Type} (K : Exit → St → Option ρ) (W : List AV → List Ob → Option ρ) (v1 : Vec (Int × ByteArray × ByteArray × ByteArray)) (v2 : Int) (v3 : Vec (ByteArray × ByteArray)) : exC Try.prog (G q_spec_DiskOk q_spec_PutRaw) (L W0) [] 1 c0 (mkS 47 [1, 4, 6, 7] [.c (.n (.sl 4 (encRw v1))), .c (.p 0 0), .c (.p 1 0), .c (.n (.v (.int .i64 v2)))] [.box [.z], .box [.h 2], .row 2 (encRw v3) []] []) (bodyK Try.prog 47 0 [] ct0 W lv0 K) =
    B0 (fun y1 y2 y3 y4 y5 => q_spec_PutRaw [.a [.n (.sl 2 (encRw y1))], .a [.n (.v (.int .i64 y2)), .n (.v (.string y3)), .n (.v (.string y4)), .n (.v (.string y5))]]) v1 v2 v3 (fun u1 u2 u3 => W [.c (.n (.sl 4 (encRw u1))), .c (.p 0 0), .c (.p 1 0), .c (.n (.v (.int .i64 u2)))] [.box [.z], .box [.h 2], .row 2 (encRw u3) []]) (fun z1 z2 => K (.exit 0) (mkS 47 [1, 4, 6] [.c (.n (.sl 4 (encRw z1))), .c (.p 0 0), .c (.p 1 0)] [.box [.z], .box [.h 2], .row 2 (encRw z2) []] [])) (fun z1 z2 => K .ret (mkS 47 [4, 5] [.c (.p 0 0), .c (.n (.v (.int .i64 z1)))] [.box [.h 1], .row 2 (encRw z2) []] [])) := by kernel_rfl
def enc0 (t : (Vec (Int × ByteArray × ByteArray × ByteArray)) × Int × (Vec (ByteArray × ByteArray))) : List AV × List Ob := ([.c (.n (.sl 4 (encRw t.1))), .c (.p 0 0), .c (.p 1 0), .c (.n (.v (.int .i64 t.2.1)))], [.box [.z], .box [.h 2], .row 2 (encRw t.2.2) []])
theorem enc0I : ∀ a b, enc0 a = enc0 b → a = b := by
  intro a b h
  obtain ⟨a0, a1, a2⟩ := a
  obtain ⟨b0, b1, b2⟩ := b
  simp [enc0, encRw_iff] at h
  simp_all
noncomputable def V0 : (ρ : Type) → List AV → List Ob → ((Vec (Int × ByteArray × ByteArray × ByteArray)) → (Vec (ByteArray × ByteArray)) → Option ρ) → (Int → (Vec (ByteArray × ByteArray)) → Option ρ) → Option ρ := fun ρ avs obs k0 kr => ofC enc0 (fun t => F0 fuelN t.1 t.2.1 t.2.2 k0 kr) (avs, obs)
theorem V0_enc (ρ : Type) : (fun w1 w2 w3 k0 kr => V0 ρ [.c (.n (.sl 4 (encRw w1))), .c (.p 0 0), .c (.p 1 0), .c (.n (.v (.int .i64 w2)))] [.box [.z], .box [.h 2], .row 2 (encRw w3) []] k0 kr) = F0 fuelN := by
  funext w1 w2 w3 k0 kr
  exact ofC_enc enc0I _ (w1, w2, w3)
theorem main (q_spec_DiskOk : List AV → Option Bool) (q_spec_PutRaw : List AV → Option (Bool × (Vec (ByteArray × ByteArray)))) (W0 : (ρ : Type) → List AV → List Ob → ((Vec (Int × ByteArray × ByteArray × ByteArray)) → (Vec (ByteArray × ByteArray)) → Option ρ) → (Int → (Vec (ByteArray × ByteArray)) → Option ρ) → Option ρ) {ρ : Type} (K : AV → List Ob → Option ρ) (a1 : Vec (ByteArray × ByteArray)) (a2 : Vec (Int × ByteArray × ByteArray × ByteArray)) : exC Try.prog (G q_spec_DiskOk q_spec_PutRaw) (L W0) [] 0 (bodyOf Try.f30) (entry 47 [.a [.n (.sl 2 (encRw a1))], .c (.n (.sl 4 (encRw a2)))] [] []) (finO Try.prog Try.f30.results.toList 0 [] [.ad (.p 4 0) 38] K) =
    B (fun y1 => q_spec_DiskOk [.a [.n (.sl 2 (encRw y1))]]) (fun w1 w2 w3 k0 kr => W0 ρ [.c (.n (.sl 4 (encRw w1))), .c (.p 0 0), .c (.p 1 0), .c (.n (.v (.int .i64 w2)))] [.box [.z], .box [.h 2], .row 2 (encRw w3) []] k0 kr) a1 a2 (fun x1 x2 => K (.tup [.a [.h 0], .c (.n (.v (.int .i64 x1)))]) [.row 2 (encRw x2) []]) := by kernel_rfl
theorem Gok : (G spec_DiskOk.Q spec_PutRaw.Q).ok Try.prog := ⟨(by
    intro ρ f args K r h
    rcases sel_cases h with ⟨hb, h⟩ | ⟨-, h⟩
    · obtain rfl := beq_nat hb
      exact qEntry_ok spec_DiskOk.ac h
    rcases sel_cases h with ⟨hb, h⟩ | ⟨-, h⟩
    · obtain rfl := beq_nat hb
      exact qEntry_ok spec_PutRaw.ac h
    cases h),
  (by
    intro ρ f args K
    simp only [G]
    cases Nat.beq f 47 with
    | true => exact qEntry_nat args K
    | false =>
    simp only [sel]
    cases Nat.beq f 18 with
    | true => exact qEntry_nat args K
    | false =>
    simp only [sel]
    rfl),
  (fun ρ f st caps args dst K r h => (by cases h))⟩
theorem hm : Try.prog.follows .mixedOrders = true := by kernel_rfl
theorem e0 : atomsL [] 1 c0 = [] := by kernel_rfl
theorem ok0 (ρ : Type) (st : St) (K : Exit → St → Option ρ) (r : ρ) (h : (L V0) ρ 0 st K = some r) : AW Try.prog (.loop c0) st fun e st' => K e st' = some r := by
  refine loop_ok (ct := ct0) (lv := lv0) (n := 47) (m := 0) (ks := []) (j := 0) (jn := []) (L := (L V0)) Gok hm (by rw [e0]; exact Lor.ok_nil _ _) enc0I (fun k t => F0 k t.1 t.2.1 t.2.2 (fun z1 z2 => K (.exit 0) (mkS 47 [1, 4, 6] [.c (.n (.sl 4 (encRw z1))), .c (.p 0 0), .c (.p 1 0)] [.box [.z], .box [.h 2], .row 2 (encRw z2) []] [])) (fun z1 z2 => K .ret (mkS 47 [4, 5] [.c (.p 0 0), .c (.n (.v (.int .i64 z1)))] [.box [.h 1], .row 2 (encRw z2) []] []))) (fun t => rfl) (fun k t => ?_) (fun _ => fuelN) h
  refine (step0 spec_DiskOk.Q spec_PutRaw.Q V0 K _ t.1 t.2.1 t.2.2).trans ?_
  rw [spec_PutRaw.wrap]
  refine congrArg (fun W => B0 spec_PutRaw.F t.1 t.2.1 t.2.2 W (fun z1 z2 => K (.exit 0) (mkS 47 [1, 4, 6] [.c (.n (.sl 4 (encRw z1))), .c (.p 0 0), .c (.p 1 0)] [.box [.z], .box [.h 2], .row 2 (encRw z2) []] [])) (fun z1 z2 => K .ret (mkS 47 [4, 5] [.c (.p 0 0), .c (.n (.v (.int .i64 z1)))] [.box [.h 1], .row 2 (encRw z2) []] []))) ?_
  funext u1 u2 u3
  exact ofC_enc enc0I _ (u1, u2, u3)
theorem e : atomsL [] 0 (bodyOf Try.f30) = [(0, 0, .loop c0)] := by kernel_rfl
theorem acc (t : (Vec (ByteArray × ByteArray)) × (Vec (Int × ByteArray × ByteArray × ByteArray))) (x : Int × (Vec (ByteArray × ByteArray))) (h : F t.1 t.2 = some x) : ACc Try.prog 30 (encA t) [] true [] fun rv obs => (rv, obs) = encR x := by
  refine fun_okc (L := (L V0)) (jn := []) (cmds := [.ad (.p 4 0) 38]) (ks := []) (hin := []) (fn := Try.f30) (body := (bodyOf Try.f30)) Gok hm Try.func30 (by kernel_rfl) (by kernel_rfl) (by rw [e]; exact Lor.ok_cons ok0 (Lor.ok_nil _ _)) ?_ h
  refine (main spec_DiskOk.Q spec_PutRaw.Q V0 _ t.1 t.2).trans ?_
  rw [spec_DiskOk.wrap, V0_enc]
  refine congrArg (fun K => B spec_DiskOk.F (F0 fuelN) t.1 t.2 K) ?_
  funext x1 x2
  exact ofC_enc encRI some (x1, x2)
theorem ac0 (t : (Vec (ByteArray × ByteArray)) × (Vec (Int × ByteArray × ByteArray × ByteArray))) (x : Int × (Vec (ByteArray × ByteArray))) (h : F t.1 t.2 = some x) : AC Try.prog 30 (encA t) [] true [] fun rv obs => (rv, obs) = encR x := ACc.ac (body := bodyOf Try.f30) Try.func30 (by kernel_rfl) (by kernel_rfl) (acc t x h)
theorem ac (args : List AV) (x : Int × (Vec (ByteArray × ByteArray))) (h : Q args = some x) : AC Try.prog 30 args [] false [] fun rv obs => (rv, obs) = encR x := by
  obtain ⟨t, rfl, h2⟩ := ofC_some h
  refine (ac0 t x h2).flat fun rv obs e => ?_
  obtain rfl : rv = (encR x).1 := congrArg Prod.fst e
  obtain rfl : obs = (encR x).2 := congrArg Prod.snd e
  refine ⟨by simp [encR, AV.Flat, K.Flat, C.Flat], ?_⟩
  intro o ho
  simp only [encR, List.mem_cons, List.not_mem_nil, or_false] at ho
  subst ho
  exact flat_rw rfl _
end spec_PutRaws
/-! loop.example/g00073/impl.PutRaws -/
namespace impl_PutRaws
noncomputable def B0 {ρ : Type} (C_impl_copyDisk : (Vec (ByteArray × ByteArray)) → Option (Vec (ByteArray × ByteArray))) (C_impl_Disk_do_s08b6 : Int → ByteArray → ByteArray → ByteArray → (Vec (ByteArray × ByteArray)) → Option (Bool × (Vec (ByteArray × ByteArray)))) (v1 : Vec (Int × ByteArray × ByteArray × ByteArray)) (v2 : Vec (Int × ByteArray × ByteArray × ByteArray)) (v3 : Int) (v4 : Int) (v5 : Vec (ByteArray × ByteArray)) (W : (Vec (Int × ByteArray × ByteArray × ByteArray)) → (Vec (Int × ByteArray × ByteArray × ByteArray)) → Int → Int → (Vec (ByteArray × ByteArray)) → Option ρ) (K0 : (Vec (Int × ByteArray × ByteArray × ByteArray)) → (Vec (ByteArray × ByteArray)) → Option ρ) (Kr : Int → (Vec (ByteArray × ByteArray)) → Option ρ) : Option ρ :=
  sel (decide (v4 < v3)) (chk (decide (0 ≤ v4 ∧ v4 < (v2.n : Int))) ((C_impl_copyDisk v5).bind fun r3 => (C_impl_Disk_do_s08b6 ((v2.g v4.toNat).1) ((v2.g v4.toNat).2.1) ((v2.g v4.toNat).2.2.1) ((v2.g v4.toNat).2.2.2) r3).bind fun r4 => sel ((!r4.1)) (Kr v4 v5) (W v1 v2 v3 (wr (v4 + (1 : Int))) r4.2))) (K0 v1 v5)
noncomputable def F0 {ρ : Type} : Nat → (Vec (Int × ByteArray × ByteArray × ByteArray)) → (Vec (Int × ByteArray × ByteArray × ByteArray)) → Int → Int → (Vec (ByteArray × ByteArray)) → ((Vec (Int × ByteArray × ByteArray × ByteArray)) → (Vec (ByteArray × ByteArray)) → Option ρ) → (Int → (Vec (ByteArray × ByteArray)) → Option ρ) → Option ρ
  | 0, _, _, _, _, _, _, _ => none
  | k + 1, v1, v2, v3, v4, v5, K0, Kr => B0 impl_copyDisk.F impl_Disk_do_s08b6.F v1 v2 v3 v4 v5 (fun v1' v2' v3' v4' v5' => F0 k v1' v2' v3' v4' v5' K0 Kr) K0 Kr
noncomputable def B {ρ : Type} (C_impl_DiskOk : (Vec (ByteArray × ByteArray)) → Option Bool) (C_impl_copyDisk : (Vec (ByteArray × ByteArray)) → Option (Vec (ByteArray × ByteArray))) (L0 : (Vec (Int × ByteArray × ByteArray × ByteArray)) → (Vec (Int × ByteArray × ByteArray × ByteArray)) → Int → Int → (Vec (ByteArray × ByteArray)) → ((Vec (Int × ByteArray × ByteArray × ByteArray)) → (Vec (ByteArray × ByteArray)) → Option ρ) → (Int → (Vec (ByteArray × ByteArray)) → Option ρ) → Option ρ) (a1 : Vec (ByteArray × ByteArray)) (a2 : Vec (Int × ByteArray × ByteArray × ByteArray)) (K : Int → (Vec (ByteArray × ByteArray)) → Option ρ) : Option ρ :=
  sel (decide ((120 : Int) < (a2.n : Int))) (K (0 : Int) (Vec.nil : Vec (ByteArray × ByteArray))) ((C_impl_DiskOk a1).bind fun r1 => sel ((!r1)) (K (0 : Int) (Vec.nil : Vec (ByteArray × ByteArray))) ((C_impl_copyDisk a1).bind fun r2 => L0 a2 a2 (a2.n : Int) (0 : Int) r2 (fun e01 e02 => K (e01.n : Int) e02) (fun x01 x02 => K x01 x02)))
noncomputable def F (a1 : Vec (ByteArray × ByteArray)) (a2 : Vec (Int × ByteArray × ByteArray × ByteArray)) : Option (Int × (Vec (ByteArray × ByteArray))) := B impl_DiskOk.F impl_copyDisk.F (F0 fuelN) a1 a2 (fun x1 x2 => some (x1, x2))
def encA (t : (Vec (ByteArray × ByteArray)) × (Vec (Int × ByteArray × ByteArray × ByteArray))) : List AV := [.a [.n (.sl 2 (encRw t.1))], .c (.n (.sl 4 (encRw t.2)))]
def encR (x : Int × (Vec (ByteArray × ByteArray))) : AV × List Ob := (.tup [.a [.h 0], .c (.n (.v (.int .i64 x.1)))], [.row 2 (encRw x.2) []])
theorem encAI : ∀ a b, encA a = encA b → a = b := by
  intro a b h
  obtain ⟨a0, a1⟩ := a
  obtain ⟨b0, b1⟩ := b
  simp [encA, encRw_iff] at h
  simp_all
theorem encRI : ∀ a b, encR a = encR b → a = b := by
  intro a b h
  obtain ⟨a0, a1⟩ := a
  obtain ⟨b0, b1⟩ := b
  simp [encR, encRw_iff] at h
  simp_all
noncomputable def Q (args : List AV) : Option (Int × (Vec (ByteArray × ByteArray))) := ofC encA (fun t => F t.1 t.2) args
theorem wrap : (fun (y1 : Vec (ByteArray × ByteArray)) (y2 : Vec (Int × ByteArray × ByteArray × ByteArray)) => Q [.a [.n (.sl 2 (encRw y1))], .c (.n (.sl 4 (encRw y2)))]) = F := by
  funext y1 y2
  exact ofC_enc encAI _ (y1, y2)
noncomputable def G (q_impl_DiskOk : List AV → Option Bool) (q_impl_copyDisk : List AV → Option (Vec (ByteArray × ByteArray))) (q_impl_Disk_do_s08b6 : List AV → List Ob → Option (Bool × (Vec (ByteArray × ByteArray)))) : Orc := ⟨fun f => sel (Nat.beq f 53) 0 (sel (Nat.beq f 52) 0 (9)), fun ρ f args K => sel (Nat.beq f 53) (qEntry impl_DiskOk.encR q_impl_DiskOk args K) (sel (Nat.beq f 52) (qEntry impl_copyDisk.encR q_impl_copyDisk args K) (Option.none)), fun ρ f st args dst K => sel (Nat.beq f 54) (callE Try.prog 54 [true, false] false [true, false] impl_Disk_do_s08b6.encR q_impl_Disk_do_s08b6 st args dst K) (Option.none)⟩
noncomputable def L (W0 : (ρ : Type) → List AV → List Ob → ((Vec (Int × ByteArray × ByteArray × ByteArray)) → (Vec (ByteArray × ByteArray)) → Option ρ) → (Int → (Vec (ByteArray × ByteArray)) → Option ρ) → Option ρ) : Lor := fun ρ j st K => sel (Nat.beq j 0) (cutO Try.prog 40 [1, 4, 6, 21, 22, 23] 0 [] [] st fun avs obs => W0 ρ avs obs (fun z1 z2 => K (.exit 0) (mkS 40 [1, 4, 6] [.c (.n (.sl 4 (encRw z1))), .c (.p 0 0), .c (.p 1 0)] [.box [.z], .box [.h 2], .row 2 (encRw z2) []] [])) (fun z1 z2 => K .ret (mkS 40 [4, 5] [.c (.p 0 0), .c (.n (.v (.int .i64 z1)))] [.box [.h 1], .row 2 (encRw z2) []] []))) (Option.none)
noncomputable def c0 : Code := loopC (atomN [] 0 (bodyOf Try.f32) 0)
def ct0 : Cut := ⟨[1, 4, 6, 21, 22, 23], []⟩
def lv0 : Exit → Cut
  | .exit 0 => ⟨[1, 4, 6], []⟩
  | .ret => ⟨[4, 5], []⟩
  | _ => ⟨[], []⟩
theorem step0 (q_impl_DiskOk : List AV → Option Bool) (q_impl_copyDisk : List AV → Option (Vec (ByteArray × ByteArray))) (q_impl_Disk_do_s08b6 : List AV → List Ob → Option (Bool × (Vec (ByteArray × ByteArray)))) (W0 : (ρ : Type) → List AV → List Ob → ((Vec (Int × ByteArray × ByteArray × ByteArray)) → (Vec (ByteArray × ByteArray)) → Option ρ) → (Int → (Vec (ByteArray × ByteArray)) → Option ρ) → Option ρ) {ρ : Type} (K : Exit → St → Option ρ) (W : List AV → List Ob → Option ρ) (v1 : Vec (Int × ByteArray × ByteArray × ByteArray)) (v2 : Vec (Int × ByteArray × ByteArray × ByteArray)) (v3 : Int) (v4 : Int) (v5 : Vec (ByteArray × ByteArray)) : exC Try.prog (G q_impl_DiskOk q_impl_copyDisk q_impl_Disk_do_s08b6) (L W0) [] 1 c0 (mkS 40 [1, 4, 6, 21, 22, 23] [.c (.n (.sl 4 (encRw v1))), .c (.p 0 0), .c (.p 1 0), .c (.n (.sl 4 (encRw v2))), .c (.n (.v (.int .i64 v3))), .c (.n (.v (.int .i64 v4)))] [.box [.z], .box [.h 2], .row 2 (encRw v5) []] []) (bodyK Try.prog 40 0 [] ct0 W lv0 K) =
    B0 (fun y1 => q_impl_copyDisk [.a [.n (.sl 2 (encRw y1))]]) (fun y1 y2 y3 y4 y5 => q_impl_Disk_do_s08b6 [.c (.p 0 0), .a [.n (.v (.int .i64 y1)), .n (.v (.string y2)), .n (.v (.string y3)), .n (.v (.string y4))]] [.box [.h 1], .row 2 (encRw y5) []]) v1 v2 v3 v4 v5 (fun u1 u2 u3 u4 u5 => W [.c (.n (.sl 4 (encRw u1))), .c (.p 0 0), .c (.p 1 0), .c (.n (.sl 4 (encRw u2))), .c (.n (.v (.int .i64 u3))), .c (.n (.v (.int .i64 u4)))] [.box [.z], .box [.h 2], .row 2 (encRw u5) []]) (fun z1 z2 => K (.exit 0) (mkS 40 [1, 4, 6] [.c (.n (.sl 4 (encRw z1))), .c (.p 0 0), .c (.p 1 0)] [.box [.z], .box [.h 2], .row 2 (encRw z2) []] [])) (fun z1 z2 => K .ret (mkS 40 [4, 5] [.c (.p 0 0), .c (.n (.v (.int .i64 z1)))] [.box [.h 1], .row 2 (encRw z2) []] [])) := by kernel_rfl
def enc0 (t : (Vec (Int × ByteArray × ByteArray × ByteArray)) × (Vec (Int × ByteArray × ByteArray × ByteArray)) × Int × Int × (Vec (ByteArray × ByteArray))) : List AV × List Ob := ([.c (.n (.sl 4 (encRw t.1))), .c (.p 0 0), .c (.p 1 0), .c (.n (.sl 4 (encRw t.2.1))), .c (.n (.v (.int .i64 t.2.2.1))), .c (.n (.v (.int .i64 t.2.2.2.1)))], [.box [.z], .box [.h 2], .row 2 (encRw t.2.2.2.2) []])
theorem enc0I : ∀ a b, enc0 a = enc0 b → a = b := by
  intro a b h
  obtain ⟨a0, a1, a2, a3, a4⟩ := a
  obtain ⟨b0, b1, b2, b3, b4⟩ := b
  simp [enc0, encRw_iff] at h
  simp_all
noncomputable def V0 : (ρ : Type) → List AV → List Ob → ((Vec (Int × ByteArray × ByteArray × ByteArray)) → (Vec (ByteArray × ByteArray)) → Option ρ) → (Int → (Vec (ByteArray × ByteArray)) → Option ρ) → Option ρ := fun ρ avs obs k0 kr => ofC enc0 (fun t => F0 fuelN t.1 t.2.1 t.2.2.1 t.2.2.2.1 t.2.2.2.2 k0 kr) (avs, obs)
theorem V0_enc (ρ : Type) : (fun w1 w2 w3 w4 w5 k0 kr => V0 ρ [.c (.n (.sl 4 (encRw w1))), .c (.p 0 0), .c (.p 1 0), .c (.n (.sl 4 (encRw w2))), .c (.n (.v (.int .i64 w3))), .c (.n (.v (.int .i64 w4)))] [.box [.z], .box [.h 2], .row 2 (encRw w5) []] k0 kr) = F0 fuelN := by
  funext w1 w2 w3 w4 w5 k0 kr
  exact ofC_enc enc0I _ (w1, w2, w3, w4, w5)
theorem main (q_impl_DiskOk : List AV → Option Bool) (q_impl_copyDisk : List AV → Option (Vec (ByteArray × ByteArray))) (q_impl_Disk_do_s08b6 : List AV → List Ob → Option (Bool × (Vec (ByteArray × ByteArray)))) (W0 : (ρ : Type) → List AV → List Ob → ((Vec (Int × ByteArray × ByteArray × ByteArray)) → (Vec (ByteArray × ByteArray)) → Option ρ) → (Int → (Vec (ByteArray × ByteArray)) → Option ρ) → Option ρ) {ρ : Type} (K : AV → List Ob → Option ρ) (a1 : Vec (ByteArray × ByteArray)) (a2 : Vec (Int × ByteArray × ByteArray × ByteArray)) : exC Try.prog (G q_impl_DiskOk q_impl_copyDisk q_impl_Disk_do_s08b6) (L W0) [] 0 (bodyOf Try.f32) (entry 40 [.a [.n (.sl 2 (encRw a1))], .c (.n (.sl 4 (encRw a2)))] [] []) (finO Try.prog Try.f32.results.toList 0 [] [.ad (.p 4 0) 38] K) =
    B (fun y1 => q_impl_DiskOk [.a [.n (.sl 2 (encRw y1))]]) (fun y1 => q_impl_copyDisk [.a [.n (.sl 2 (encRw y1))]]) (fun w1 w2 w3 w4 w5 k0 kr => W0 ρ [.c (.n (.sl 4 (encRw w1))), .c (.p 0 0), .c (.p 1 0), .c (.n (.sl 4 (encRw w2))), .c (.n (.v (.int .i64 w3))), .c (.n (.v (.int .i64 w4)))] [.box [.z], .box [.h 2], .row 2 (encRw w5) []] k0 kr) a1 a2 (fun x1 x2 => K (.tup [.a [.h 0], .c (.n (.v (.int .i64 x1)))]) [.row 2 (encRw x2) []]) := by kernel_rfl
theorem Gok : (G impl_DiskOk.Q impl_copyDisk.Q impl_Disk_do_s08b6.Q).ok Try.prog := ⟨(by
    intro ρ f args K r h
    rcases sel_cases h with ⟨hb, h⟩ | ⟨-, h⟩
    · obtain rfl := beq_nat hb
      exact qEntry_ok impl_DiskOk.ac h
    rcases sel_cases h with ⟨hb, h⟩ | ⟨-, h⟩
    · obtain rfl := beq_nat hb
      exact qEntry_ok impl_copyDisk.ac h
    cases h),
  (by
    intro ρ f args K
    simp only [G]
    cases Nat.beq f 53 with
    | true => exact qEntry_nat args K
    | false =>
    simp only [sel]
    cases Nat.beq f 52 with
    | true => exact qEntry_nat args K
    | false =>
    simp only [sel]
    rfl),
  (by
    intro ρ f st caps args dst K r h
    rcases sel_cases h with ⟨hb, h⟩ | ⟨-, h⟩
    · obtain rfl := beq_nat hb
      exact callE_ok (fun h => by cases h) impl_Disk_do_s08b6.ac h
    cases h)⟩
theorem hm : Try.prog.follows .mixedOrders = true := by kernel_rfl
theorem e0 : atomsL [] 1 c0 = [] := by kernel_rfl
theorem ok0 (ρ : Type) (st : St) (K : Exit → St → Option ρ) (r : ρ) (h : (L V0) ρ 0 st K = some r) : AW Try.prog (.loop c0) st fun e st' => K e st' = some r := by
  refine loop_ok (ct := ct0) (lv := lv0) (n := 40) (m := 0) (ks := []) (j := 0) (jn := []) (L := (L V0)) Gok hm (by rw [e0]; exact Lor.ok_nil _ _) enc0I (fun k t => F0 k t.1 t.2.1 t.2.2.1 t.2.2.2.1 t.2.2.2.2 (fun z1 z2 => K (.exit 0) (mkS 40 [1, 4, 6] [.c (.n (.sl 4 (encRw z1))), .c (.p 0 0), .c (.p 1 0)] [.box [.z], .box [.h 2], .row 2 (encRw z2) []] [])) (fun z1 z2 => K .ret (mkS 40 [4, 5] [.c (.p 0 0), .c (.n (.v (.int .i64 z1)))] [.box [.h 1], .row 2 (encRw z2) []] []))) (fun t => rfl) (fun k t => ?_) (fun _ => fuelN) h
  refine (step0 impl_DiskOk.Q impl_copyDisk.Q impl_Disk_do_s08b6.Q V0 K _ t.1 t.2.1 t.2.2.1 t.2.2.2.1 t.2.2.2.2).trans ?_
  rw [impl_copyDisk.wrap, impl_Disk_do_s08b6.wrap]
  refine congrArg (fun W => B0 impl_copyDisk.F impl_Disk_do_s08b6.F t.1 t.2.1 t.2.2.1 t.2.2.2.1 t.2.2.2.2 W (fun z1 z2 => K (.exit 0) (mkS 40 [1, 4, 6] [.c (.n (.sl 4 (encRw z1))), .c (.p 0 0), .c (.p 1 0)] [.box [.z], .box [.h 2], .row 2 (encRw z2) []] [])) (fun z1 z2 => K .ret (mkS 40 [4, 5] [.c (.p 0 0), .c (.n (.v (.int .i64 z1)))] [.box [.h 1], .row 2 (encRw z2) []] []))) ?_
  funext u1 u2 u3 u4 u5
  exact ofC_enc enc0I _ (u1, u2, u3, u4, u5)
theorem e : atomsL [] 0 (bodyOf Try.f32) = [(0, 0, .loop c0)] := by kernel_rfl
theorem acc (t : (Vec (ByteArray × ByteArray)) × (Vec (Int × ByteArray × ByteArray × ByteArray))) (x : Int × (Vec (ByteArray × ByteArray))) (h : F t.1 t.2 = some x) : ACc Try.prog 32 (encA t) [] true [] fun rv obs => (rv, obs) = encR x := by
  refine fun_okc (L := (L V0)) (jn := []) (cmds := [.ad (.p 4 0) 38]) (ks := []) (hin := []) (fn := Try.f32) (body := (bodyOf Try.f32)) Gok hm Try.func32 (by kernel_rfl) (by kernel_rfl) (by rw [e]; exact Lor.ok_cons ok0 (Lor.ok_nil _ _)) ?_ h
  refine (main impl_DiskOk.Q impl_copyDisk.Q impl_Disk_do_s08b6.Q V0 _ t.1 t.2).trans ?_
  rw [impl_DiskOk.wrap, impl_copyDisk.wrap, V0_enc]
  refine congrArg (fun K => B impl_DiskOk.F impl_copyDisk.F (F0 fuelN) t.1 t.2 K) ?_
  funext x1 x2
  exact ofC_enc encRI some (x1, x2)
theorem ac0 (t : (Vec (ByteArray × ByteArray)) × (Vec (Int × ByteArray × ByteArray × ByteArray))) (x : Int × (Vec (ByteArray × ByteArray))) (h : F t.1 t.2 = some x) : AC Try.prog 32 (encA t) [] true [] fun rv obs => (rv, obs) = encR x := ACc.ac (body := bodyOf Try.f32) Try.func32 (by kernel_rfl) (by kernel_rfl) (acc t x h)
theorem ac (args : List AV) (x : Int × (Vec (ByteArray × ByteArray))) (h : Q args = some x) : AC Try.prog 32 args [] false [] fun rv obs => (rv, obs) = encR x := by
  obtain ⟨t, rfl, h2⟩ := ofC_some h
  refine (ac0 t x h2).flat fun rv obs e => ?_
  obtain rfl : rv = (encR x).1 := congrArg Prod.fst e
  obtain rfl : obs = (encR x).2 := congrArg Prod.snd e
  refine ⟨by simp [encR, AV.Flat, K.Flat, C.Flat], ?_⟩
  intro o ho
  simp only [encR, List.mem_cons, List.not_mem_nil, or_false] at ho
  subst ho
  exact flat_rw rfl _
end impl_PutRaws
/-! loop.example/g00073/laws.eqRaw -/
namespace laws_eqRaw
noncomputable def B {ρ : Type} (a1 : Int) (a2 : ByteArray) (a3 : ByteArray) (a4 : ByteArray) (a5 : Int) (a6 : ByteArray) (a7 : ByteArray) (a8 : ByteArray) (K : Bool → Option ρ) : Option ρ :=
  sel ((!decide (a1 = a5))) (K false) (sel ((!decide (a2 = a6))) (K false) (sel ((!decide (a3 = a7))) (K false) (sel ((!decide (a4 = a8))) (K false) (K true))))
noncomputable def F (a1 : Int) (a2 : ByteArray) (a3 : ByteArray) (a4 : ByteArray) (a5 : Int) (a6 : ByteArray) (a7 : ByteArray) (a8 : ByteArray) : Option Bool := B a1 a2 a3 a4 a5 a6 a7 a8 (fun x1 => some (x1))
def encA (t : Int × ByteArray × ByteArray × ByteArray × Int × ByteArray × ByteArray × ByteArray) : List AV := [.a [.n (.v (.int .i64 t.1)), .n (.v (.string t.2.1)), .n (.v (.string t.2.2.1)), .n (.v (.string t.2.2.2.1))], .a [.n (.v (.int .i64 t.2.2.2.2.1)), .n (.v (.string t.2.2.2.2.2.1)), .n (.v (.string t.2.2.2.2.2.2.1)), .n (.v (.string t.2.2.2.2.2.2.2))]]
def encR (x : Bool) : AV × List Ob := (.c (.n (.v (.bool x))), [])
theorem encAI : ∀ a b, encA a = encA b → a = b := by
  intro a b h
  obtain ⟨a0, a1, a2, a3, a4, a5, a6, a7⟩ := a
  obtain ⟨b0, b1, b2, b3, b4, b5, b6, b7⟩ := b
  simp [encA, encRw_iff] at h
  simp_all
theorem encRI : ∀ a b, encR a = encR b → a = b := by
  intro a b h
  simp [encR, encRw_iff] at h
  simp_all
noncomputable def Q (args : List AV) : Option Bool := ofC encA (fun t => F t.1 t.2.1 t.2.2.1 t.2.2.2.1 t.2.2.2.2.1 t.2.2.2.2.2.1 t.2.2.2.2.2.2.1 t.2.2.2.2.2.2.2) args
theorem wrap : (fun (y1 : Int) (y2 : ByteArray) (y3 : ByteArray) (y4 : ByteArray) (y5 : Int) (y6 : ByteArray) (y7 : ByteArray) (y8 : ByteArray) => Q [.a [.n (.v (.int .i64 y1)), .n (.v (.string y2)), .n (.v (.string y3)), .n (.v (.string y4))], .a [.n (.v (.int .i64 y5)), .n (.v (.string y6)), .n (.v (.string y7)), .n (.v (.string y8))]]) = F := by
  funext y1 y2 y3 y4 y5 y6 y7 y8
  exact ofC_enc encAI _ (y1, y2, y3, y4, y5, y6, y7, y8)
noncomputable def G : Orc := ⟨fun f => 9, fun ρ f args K => Option.none, noE⟩
noncomputable def L : Lor := fun ρ j st K => Option.none
theorem main {ρ : Type} (K : AV → List Ob → Option ρ) (a1 : Int) (a2 : ByteArray) (a3 : ByteArray) (a4 : ByteArray) (a5 : Int) (a6 : ByteArray) (a7 : ByteArray) (a8 : ByteArray) : exC Try.prog (G) (L) [] 0 (bodyOf Try.f63) (entry 25 [.a [.n (.v (.int .i64 a1)), .n (.v (.string a2)), .n (.v (.string a3)), .n (.v (.string a4))], .a [.n (.v (.int .i64 a5)), .n (.v (.string a6)), .n (.v (.string a7)), .n (.v (.string a8))]] [] []) (finO Try.prog Try.f63.results.toList 0 [] [] K) =
    B a1 a2 a3 a4 a5 a6 a7 a8 (fun x1 => K (.c (.n (.v (.bool x1)))) []) := by kernel_rfl
theorem Gok : (G).ok Try.prog := ⟨(fun ρ f args K r h => (by cases h)),
  (fun ρ f args K => rfl),
  (fun ρ f st caps args dst K r h => (by cases h))⟩
theorem hm : Try.prog.follows .mixedOrders = true := by kernel_rfl
theorem e : atomsL [] 0 (bodyOf Try.f63) = [] := by kernel_rfl
theorem acc (t : Int × ByteArray × ByteArray × ByteArray × Int × ByteArray × ByteArray × ByteArray) (x : Bool) (h : F t.1 t.2.1 t.2.2.1 t.2.2.2.1 t.2.2.2.2.1 t.2.2.2.2.2.1 t.2.2.2.2.2.2.1 t.2.2.2.2.2.2.2 = some x) : ACc Try.prog 63 (encA t) [] true [] fun rv obs => (rv, obs) = encR x := by
  refine fun_okc (L := (L)) (jn := []) (cmds := []) (ks := []) (hin := []) (fn := Try.f63) (body := (bodyOf Try.f63)) Gok hm Try.func63 (by kernel_rfl) (by kernel_rfl) (by rw [e]; exact Lor.ok_nil _ _) ?_ h
  refine (main _ t.1 t.2.1 t.2.2.1 t.2.2.2.1 t.2.2.2.2.1 t.2.2.2.2.2.1 t.2.2.2.2.2.2.1 t.2.2.2.2.2.2.2).trans ?_
  refine congrArg (fun K => B t.1 t.2.1 t.2.2.1 t.2.2.2.1 t.2.2.2.2.1 t.2.2.2.2.2.1 t.2.2.2.2.2.2.1 t.2.2.2.2.2.2.2 K) ?_
  funext x1
  exact ofC_enc encRI some (x1)
theorem ac0 (t : Int × ByteArray × ByteArray × ByteArray × Int × ByteArray × ByteArray × ByteArray) (x : Bool) (h : F t.1 t.2.1 t.2.2.1 t.2.2.2.1 t.2.2.2.2.1 t.2.2.2.2.2.1 t.2.2.2.2.2.2.1 t.2.2.2.2.2.2.2 = some x) : AC Try.prog 63 (encA t) [] true [] fun rv obs => (rv, obs) = encR x := ACc.ac (body := bodyOf Try.f63) Try.func63 (by kernel_rfl) (by kernel_rfl) (acc t x h)
theorem ac (args : List AV) (x : Bool) (h : Q args = some x) : AC Try.prog 63 args [] false [] fun rv obs => (rv, obs) = encR x := by
  obtain ⟨t, rfl, h2⟩ := ofC_some h
  refine (ac0 t x h2).flat fun rv obs e => ?_
  obtain rfl : rv = (encR x).1 := congrArg Prod.fst e
  obtain rfl : obs = (encR x).2 := congrArg Prod.snd e
  refine ⟨by simp [encR, AV.Flat, K.Flat, C.Flat], ?_⟩
  simp [encR]
end laws_eqRaw
/-! loop.example/g00073/laws.eqRawS -/
namespace laws_eqRawS
noncomputable def B0 {ρ : Type} (C_laws_eqRaw : Int → ByteArray → ByteArray → ByteArray → Int → ByteArray → ByteArray → ByteArray → Option Bool) (v1 : Vec (Int × ByteArray × ByteArray × ByteArray)) (v2 : Vec (Int × ByteArray × ByteArray × ByteArray)) (v3 : Int) (W : (Vec (Int × ByteArray × ByteArray × ByteArray)) → (Vec (Int × ByteArray × ByteArray × ByteArray)) → Int → Option ρ) (K0 : Unit → Option ρ) (Kr : Bool → Option ρ) : Option ρ :=
  sel (decide (v3 < (v1.n : Int))) (chk (decide (0 ≤ v3 ∧ v3 < (v1.n : Int))) (chk (decide (0 ≤ v3 ∧ v3 < (v2.n : Int))) ((C_laws_eqRaw ((v1.g v3.toNat).1) ((v1.g v3.toNat).2.1) ((v1.g v3.toNat).2.2.1) ((v1.g v3.toNat).2.2.2) ((v2.g v3.toNat).1) ((v2.g v3.toNat).2.1) ((v2.g v3.toNat).2.2.1) ((v2.g v3.toNat).2.2.2)).bind fun r1 => sel ((!r1)) (Kr false) (W v1 v2 (wr (v3 + (1 : Int))))))) (K0 ())
noncomputable def F0 {ρ : Type} : Nat → (Vec (Int × ByteArray × ByteArray × ByteArray)) → (Vec (Int × ByteArray × ByteArray × ByteArray)) → Int → (Unit → Option ρ) → (Bool → Option ρ) → Option ρ
  | 0, _, _, _, _, _ => none
  | k + 1, v1, v2, v3, K0, Kr => B0 laws_eqRaw.F v1 v2 v3 (fun v1' v2' v3' => F0 k v1' v2' v3' K0 Kr) K0 Kr
noncomputable def B {ρ : Type} (L0 : (Vec (Int × ByteArray × ByteArray × ByteArray)) → (Vec (Int × ByteArray × ByteArray × ByteArray)) → Int → (Unit → Option ρ) → (Bool → Option ρ) → Option ρ) (a1 : Vec (Int × ByteArray × ByteArray × ByteArray)) (a2 : Vec (Int × ByteArray × ByteArray × ByteArray)) (K : Bool → Option ρ) : Option ρ :=
  sel ((!decide ((a1.n : Int) = (a2.n : Int)))) (K false) (L0 a1 a2 (0 : Int) (fun _ => K true) (fun x01 => K x01))
noncomputable def F (a1 : Vec (Int × ByteArray × ByteArray × ByteArray)) (a2 : Vec (Int × ByteArray × ByteArray × ByteArray)) : Option Bool := B (F0 fuelN) a1 a2 (fun x1 => some (x1))
def encA (t : (Vec (Int × ByteArray × ByteArray × ByteArray)) × (Vec (Int × ByteArray × ByteArray × ByteArray))) : List AV := [.c (.n (.sl 4 (encRw t.1))), .c (.n (.sl 4 (encRw t.2)))]
def encR (x : Bool) : AV × List Ob := (.c (.n (.v (.bool x))), [])
theorem encAI : ∀ a b, encA a = encA b → a = b := by
  intro a b h
  obtain ⟨a0, a1⟩ := a
  obtain ⟨b0, b1⟩ := b
  simp [encA, encRw_iff] at h
  simp_all
theorem encRI : ∀ a b, encR a = encR b → a = b := by
  intro a b h
  simp [encR, encRw_iff] at h
  simp_all
noncomputable def Q (args : List AV) : Option Bool := ofC encA (fun t => F t.1 t.2) args
theorem wrap : (fun (y1 : Vec (Int × ByteArray × ByteArray × ByteArray)) (y2 : Vec (Int × ByteArray × ByteArray × ByteArray)) => Q [.c (.n (.sl 4 (encRw y1))), .c (.n (.sl 4 (encRw y2)))]) = F := by
  funext y1 y2
  exact ofC_enc encAI _ (y1, y2)
noncomputable def G (q_laws_eqRaw : List AV → Option Bool) : Orc := ⟨fun f => sel (Nat.beq f 63) 0 (9), fun ρ f args K => sel (Nat.beq f 63) (qEntry laws_eqRaw.encR q_laws_eqRaw args K) (Option.none), noE⟩
noncomputable def L (W0 : (ρ : Type) → List AV → List Ob → (Unit → Option ρ) → (Bool → Option ρ) → Option ρ) : Lor := fun ρ j st K => sel (Nat.beq j 0) (cutO Try.prog 27 [0, 1, 5] 0 [] [] st fun avs obs => W0 ρ avs obs (fun _ => K (.exit 0) (mkS 27 [] [] [] [])) (fun z1 => K .ret (mkS 27 [4] [.c (.n (.v (.bool z1)))] [] []))) (Option.none)
noncomputable def c0 : Code := loopC (atomN [] 0 (bodyOf Try.f33) 0)
def ct0 : Cut := ⟨[0, 1, 5], []⟩
def lv0 : Exit → Cut
  | .exit 0 => ⟨[], []⟩
  | .ret => ⟨[4], []⟩
  | _ => ⟨[], []⟩
theorem step0 (q_laws_eqRaw : List AV → Option Bool) (W0 : (ρ : Type) → List AV → List Ob → (Unit → Option ρ) → (Bool → Option ρ) → Option ρ) {ρ : Type} (K : Exit → St → Option ρ) (W : List AV → List Ob → Option ρ) (v1 : Vec (Int × ByteArray × ByteArray × ByteArray)) (v2 : Vec (Int × ByteArray × ByteArray × ByteArray)) (v3 : Int) : exC Try.prog (G q_laws_eqRaw) (L W0) [] 1 c0 (mkS 27 [0, 1, 5] [.c (.n (.sl 4 (encRw v1))), .c (.n (.sl 4 (encRw v2))), .c (.n (.v (.int .i64 v3)))] [] []) (bodyK Try.prog 27 0 [] ct0 W lv0 K) =
    B0 (fun y1 y2 y3 y4 y5 y6 y7 y8 => q_laws_eqRaw [.a [.n (.v (.int .i64 y1)), .n (.v (.string y2)), .n (.v (.string y3)), .n (.v (.string y4))], .a [.n (.v (.int .i64 y5)), .n (.v (.string y6)), .n (.v (.string y7)), .n (.v (.string y8))]]) v1 v2 v3 (fun u1 u2 u3 => W [.c (.n (.sl 4 (encRw u1))), .c (.n (.sl 4 (encRw u2))), .c (.n (.v (.int .i64 u3)))] []) (fun _ => K (.exit 0) (mkS 27 [] [] [] [])) (fun z1 => K .ret (mkS 27 [4] [.c (.n (.v (.bool z1)))] [] [])) := by kernel_rfl
def enc0 (t : (Vec (Int × ByteArray × ByteArray × ByteArray)) × (Vec (Int × ByteArray × ByteArray × ByteArray)) × Int) : List AV × List Ob := ([.c (.n (.sl 4 (encRw t.1))), .c (.n (.sl 4 (encRw t.2.1))), .c (.n (.v (.int .i64 t.2.2)))], [])
theorem enc0I : ∀ a b, enc0 a = enc0 b → a = b := by
  intro a b h
  obtain ⟨a0, a1, a2⟩ := a
  obtain ⟨b0, b1, b2⟩ := b
  simp [enc0, encRw_iff] at h
  simp_all
noncomputable def V0 : (ρ : Type) → List AV → List Ob → (Unit → Option ρ) → (Bool → Option ρ) → Option ρ := fun ρ avs obs k0 kr => ofC enc0 (fun t => F0 fuelN t.1 t.2.1 t.2.2 k0 kr) (avs, obs)
theorem V0_enc (ρ : Type) : (fun w1 w2 w3 k0 kr => V0 ρ [.c (.n (.sl 4 (encRw w1))), .c (.n (.sl 4 (encRw w2))), .c (.n (.v (.int .i64 w3)))] [] k0 kr) = F0 fuelN := by
  funext w1 w2 w3 k0 kr
  exact ofC_enc enc0I _ (w1, w2, w3)
theorem main (q_laws_eqRaw : List AV → Option Bool) (W0 : (ρ : Type) → List AV → List Ob → (Unit → Option ρ) → (Bool → Option ρ) → Option ρ) {ρ : Type} (K : AV → List Ob → Option ρ) (a1 : Vec (Int × ByteArray × ByteArray × ByteArray)) (a2 : Vec (Int × ByteArray × ByteArray × ByteArray)) : exC Try.prog (G q_laws_eqRaw) (L W0) [] 0 (bodyOf Try.f33) (entry 27 [.c (.n (.sl 4 (encRw a1))), .c (.n (.sl 4 (encRw a2)))] [] []) (finO Try.prog Try.f33.results.toList 0 [] [] K) =
    B (fun w1 w2 w3 k0 kr => W0 ρ [.c (.n (.sl 4 (encRw w1))), .c (.n (.sl 4 (encRw w2))), .c (.n (.v (.int .i64 w3)))] [] k0 kr) a1 a2 (fun x1 => K (.c (.n (.v (.bool x1)))) []) := by kernel_rfl
theorem Gok : (G laws_eqRaw.Q).ok Try.prog := ⟨(by
    intro ρ f args K r h
    rcases sel_cases h with ⟨hb, h⟩ | ⟨-, h⟩
    · obtain rfl := beq_nat hb
      exact qEntry_ok laws_eqRaw.ac h
    cases h),
  (by
    intro ρ f args K
    simp only [G]
    cases Nat.beq f 63 with
    | true => exact qEntry_nat args K
    | false =>
    simp only [sel]
    rfl),
  (fun ρ f st caps args dst K r h => (by cases h))⟩
theorem hm : Try.prog.follows .mixedOrders = true := by kernel_rfl
theorem e0 : atomsL [] 1 c0 = [] := by kernel_rfl
theorem ok0 (ρ : Type) (st : St) (K : Exit → St → Option ρ) (r : ρ) (h : (L V0) ρ 0 st K = some r) : AW Try.prog (.loop c0) st fun e st' => K e st' = some r := by
  refine loop_ok (ct := ct0) (lv := lv0) (n := 27) (m := 0) (ks := []) (j := 0) (jn := []) (L := (L V0)) Gok hm (by rw [e0]; exact Lor.ok_nil _ _) enc0I (fun k t => F0 k t.1 t.2.1 t.2.2 (fun _ => K (.exit 0) (mkS 27 [] [] [] [])) (fun z1 => K .ret (mkS 27 [4] [.c (.n (.v (.bool z1)))] [] []))) (fun t => rfl) (fun k t => ?_) (fun _ => fuelN) h
  refine (step0 laws_eqRaw.Q V0 K _ t.1 t.2.1 t.2.2).trans ?_
  rw [laws_eqRaw.wrap]
  refine congrArg (fun W => B0 laws_eqRaw.F t.1 t.2.1 t.2.2 W (fun _ => K (.exit 0) (mkS 27 [] [] [] [])) (fun z1 => K .ret (mkS 27 [4] [.c (.n (.v (.bool z1)))] [] []))) ?_
  funext u1 u2 u3
  exact ofC_enc enc0I _ (u1, u2, u3)
theorem e : atomsL [] 0 (bodyOf Try.f33) = [(0, 0, .loop c0)] := by kernel_rfl
theorem acc (t : (Vec (Int × ByteArray × ByteArray × ByteArray)) × (Vec (Int × ByteArray × ByteArray × ByteArray))) (x : Bool) (h : F t.1 t.2 = some x) : ACc Try.prog 33 (encA t) [] true [] fun rv obs => (rv, obs) = encR x := by
  refine fun_okc (L := (L V0)) (jn := []) (cmds := []) (ks := []) (hin := []) (fn := Try.f33) (body := (bodyOf Try.f33)) Gok hm Try.func33 (by kernel_rfl) (by kernel_rfl) (by rw [e]; exact Lor.ok_cons ok0 (Lor.ok_nil _ _)) ?_ h
  refine (main laws_eqRaw.Q V0 _ t.1 t.2).trans ?_
  rw [V0_enc]
  refine congrArg (fun K => B (F0 fuelN) t.1 t.2 K) ?_
  funext x1
  exact ofC_enc encRI some (x1)
theorem ac0 (t : (Vec (Int × ByteArray × ByteArray × ByteArray)) × (Vec (Int × ByteArray × ByteArray × ByteArray))) (x : Bool) (h : F t.1 t.2 = some x) : AC Try.prog 33 (encA t) [] true [] fun rv obs => (rv, obs) = encR x := ACc.ac (body := bodyOf Try.f33) Try.func33 (by kernel_rfl) (by kernel_rfl) (acc t x h)
theorem ac (args : List AV) (x : Bool) (h : Q args = some x) : AC Try.prog 33 args [] false [] fun rv obs => (rv, obs) = encR x := by
  obtain ⟨t, rfl, h2⟩ := ofC_some h
  refine (ac0 t x h2).flat fun rv obs e => ?_
  obtain rfl : rv = (encR x).1 := congrArg Prod.fst e
  obtain rfl : obs = (encR x).2 := congrArg Prod.snd e
  refine ⟨by simp [encR, AV.Flat, K.Flat, C.Flat], ?_⟩
  simp [encR]
end laws_eqRawS
/-! loop.example/g00073/laws.markRawS -/
namespace laws_markRawS_s0bc7
noncomputable def B0 {ρ : Type} (C_laws_markText : Int → Option ByteArray) (v1 : Int) (v2 : Int) (v3 : Vec (Int × ByteArray × ByteArray × ByteArray)) (W : Int → Int → (Vec (Int × ByteArray × ByteArray × ByteArray)) → Option ρ) (K0 : Int → (Vec (Int × ByteArray × ByteArray × ByteArray)) → Option ρ) : Option ρ :=
  sel (decide (v2 < (v3.n : Int))) (chk (decide (0 ≤ v2 ∧ v2 < (v3.n : Int))) (chk (decide (v2.toNat < v3.n)) ((C_laws_markText (wr (v1 + (1 : Int)))).bind fun r1 => chk (decide (0 ≤ v2 ∧ v2 < ((Vec.set v3 v2.toNat (v1, (v3.g v2.toNat).2.1, (v3.g v2.toNat).2.2.1, (v3.g v2.toNat).2.2.2)).n : Int))) (chk (decide (v2.toNat < (Vec.set v3 v2.toNat (v1, (v3.g v2.toNat).2.1, (v3.g v2.toNat).2.2.1, (v3.g v2.toNat).2.2.2)).n)) ((C_laws_markText (wr ((wr (v1 + (1 : Int))) + (1 : Int)))).bind fun r2 => chk (decide (0 ≤ v2 ∧ v2 < ((Vec.set (Vec.set v3 v2.toNat (v1, (v3.g v2.toNat).2.1, (v3.g v2.toNat).2.2.1, (v3.g v2.toNat).2.2.2)) v2.toNat (((Vec.set v3 v2.toNat (v1, (v3.g v2.toNat).2.1, (v3.g v2.toNat).2.2.1, (v3.g v2.toNat).2.2.2)).g v2.toNat).1, r1, ((Vec.set v3 v2.toNat (v1, (v3.g v2.toNat).2.1, (v3.g v2.toNat).2.2.1, (v3.g v2.toNat).2.2.2)).g v2.toNat).2.2.1, ((Vec.set v3 v2.toNat (v1, (v3.g v2.toNat).2.1, (v3.g v2.toNat).2.2.1, (v3.g v2.toNat).2.2.2)).g v2.toNat).2.2.2)).n : Int))) (chk (decide (v2.toNat < (Vec.set (Vec.set v3 v2.toNat (v1, (v3.g v2.toNat).2.1, (v3.g v2.toNat).2.2.1, (v3.g v2.toNat).2.2.2)) v2.toNat (((Vec.set v3 v2.toNat (v1, (v3.g v2.toNat).2.1, (v3.g v2.toNat).2.2.1, (v3.g v2.toNat).2.2.2)).g v2.toNat).1, r1, ((Vec.set v3 v2.toNat (v1, (v3.g v2.toNat).2.1, (v3.g v2.toNat).2.2.1, (v3.g v2.toNat).2.2.2)).g v2.toNat).2.2.1, ((Vec.set v3 v2.toNat (v1, (v3.g v2.toNat).2.1, (v3.g v2.toNat).2.2.1, (v3.g v2.toNat).2.2.2)).g v2.toNat).2.2.2)).n)) ((C_laws_markText (wr ((wr ((wr (v1 + (1 : Int))) + (1 : Int))) + (1 : Int)))).bind fun r3 => chk (decide (0 ≤ v2 ∧ v2 < ((Vec.set (Vec.set (Vec.set v3 v2.toNat (v1, (v3.g v2.toNat).2.1, (v3.g v2.toNat).2.2.1, (v3.g v2.toNat).2.2.2)) v2.toNat (((Vec.set v3 v2.toNat (v1, (v3.g v2.toNat).2.1, (v3.g v2.toNat).2.2.1, (v3.g v2.toNat).2.2.2)).g v2.toNat).1, r1, ((Vec.set v3 v2.toNat (v1, (v3.g v2.toNat).2.1, (v3.g v2.toNat).2.2.1, (v3.g v2.toNat).2.2.2)).g v2.toNat).2.2.1, ((Vec.set v3 v2.toNat (v1, (v3.g v2.toNat).2.1, (v3.g v2.toNat).2.2.1, (v3.g v2.toNat).2.2.2)).g v2.toNat).2.2.2)) v2.toNat (((Vec.set (Vec.set v3 v2.toNat (v1, (v3.g v2.toNat).2.1, (v3.g v2.toNat).2.2.1, (v3.g v2.toNat).2.2.2)) v2.toNat (((Vec.set v3 v2.toNat (v1, (v3.g v2.toNat).2.1, (v3.g v2.toNat).2.2.1, (v3.g v2.toNat).2.2.2)).g v2.toNat).1, r1, ((Vec.set v3 v2.toNat (v1, (v3.g v2.toNat).2.1, (v3.g v2.toNat).2.2.1, (v3.g v2.toNat).2.2.2)).g v2.toNat).2.2.1, ((Vec.set v3 v2.toNat (v1, (v3.g v2.toNat).2.1, (v3.g v2.toNat).2.2.1, (v3.g v2.toNat).2.2.2)).g v2.toNat).2.2.2)).g v2.toNat).1, ((Vec.set (Vec.set v3 v2.toNat (v1, (v3.g v2.toNat).2.1, (v3.g v2.toNat).2.2.1, (v3.g v2.toNat).2.2.2)) v2.toNat (((Vec.set v3 v2.toNat (v1, (v3.g v2.toNat).2.1, (v3.g v2.toNat).2.2.1, (v3.g v2.toNat).2.2.2)).g v2.toNat).1, r1, ((Vec.set v3 v2.toNat (v1, (v3.g v2.toNat).2.1, (v3.g v2.toNat).2.2.1, (v3.g v2.toNat).2.2.2)).g v2.toNat).2.2.1, ((Vec.set v3 v2.toNat (v1, (v3.g v2.toNat).2.1, (v3.g v2.toNat).2.2.1, (v3.g v2.toNat).2.2.2)).g v2.toNat).2.2.2)).g v2.toNat).2.1, r2, ((Vec.set (Vec.set v3 v2.toNat (v1, (v3.g v2.toNat).2.1, (v3.g v2.toNat).2.2.1, (v3.g v2.toNat).2.2.2)) v2.toNat (((Vec.set v3 v2.toNat (v1, (v3.g v2.toNat).2.1, (v3.g v2.toNat).2.2.1, (v3.g v2.toNat).2.2.2)).g v2.toNat).1, r1, ((Vec.set v3 v2.toNat (v1, (v3.g v2.toNat).2.1, (v3.g v2.toNat).2.2.1, (v3.g v2.toNat).2.2.2)).g v2.toNat).2.2.1, ((Vec.set v3 v2.toNat (v1, (v3.g v2.toNat).2.1, (v3.g v2.toNat).2.2.1, (v3.g v2.toNat).2.2.2)).g v2.toNat).2.2.2)).g v2.toNat).2.2.2)).n : Int))) (chk (decide (v2.toNat < (Vec.set (Vec.set (Vec.set v3 v2.toNat (v1, (v3.g v2.toNat).2.1, (v3.g v2.toNat).2.2.1, (v3.g v2.toNat).2.2.2)) v2.toNat (((Vec.set v3 v2.toNat (v1, (v3.g v2.toNat).2.1, (v3.g v2.toNat).2.2.1, (v3.g v2.toNat).2.2.2)).g v2.toNat).1, r1, ((Vec.set v3 v2.toNat (v1, (v3.g v2.toNat).2.1, (v3.g v2.toNat).2.2.1, (v3.g v2.toNat).2.2.2)).g v2.toNat).2.2.1, ((Vec.set v3 v2.toNat (v1, (v3.g v2.toNat).2.1, (v3.g v2.toNat).2.2.1, (v3.g v2.toNat).2.2.2)).g v2.toNat).2.2.2)) v2.toNat (((Vec.set (Vec.set v3 v2.toNat (v1, (v3.g v2.toNat).2.1, (v3.g v2.toNat).2.2.1, (v3.g v2.toNat).2.2.2)) v2.toNat (((Vec.set v3 v2.toNat (v1, (v3.g v2.toNat).2.1, (v3.g v2.toNat).2.2.1, (v3.g v2.toNat).2.2.2)).g v2.toNat).1, r1, ((Vec.set v3 v2.toNat (v1, (v3.g v2.toNat).2.1, (v3.g v2.toNat).2.2.1, (v3.g v2.toNat).2.2.2)).g v2.toNat).2.2.1, ((Vec.set v3 v2.toNat (v1, (v3.g v2.toNat).2.1, (v3.g v2.toNat).2.2.1, (v3.g v2.toNat).2.2.2)).g v2.toNat).2.2.2)).g v2.toNat).1, ((Vec.set (Vec.set v3 v2.toNat (v1, (v3.g v2.toNat).2.1, (v3.g v2.toNat).2.2.1, (v3.g v2.toNat).2.2.2)) v2.toNat (((Vec.set v3 v2.toNat (v1, (v3.g v2.toNat).2.1, (v3.g v2.toNat).2.2.1, (v3.g v2.toNat).2.2.2)).g v2.toNat).1, r1, ((Vec.set v3 v2.toNat (v1, (v3.g v2.toNat).2.1, (v3.g v2.toNat).2.2.1, (v3.g v2.toNat).2.2.2)).g v2.toNat).2.2.1, ((Vec.set v3 v2.toNat (v1, (v3.g v2.toNat).2.1, (v3.g v2.toNat).2.2.1, (v3.g v2.toNat).2.2.2)).g v2.toNat).2.2.2)).g v2.toNat).2.1, r2, ((Vec.set (Vec.set v3 v2.toNat (v1, (v3.g v2.toNat).2.1, (v3.g v2.toNat).2.2.1, (v3.g v2.toNat).2.2.2)) v2.toNat (((Vec.set v3 v2.toNat (v1, (v3.g v2.toNat).2.1, (v3.g v2.toNat).2.2.1, (v3.g v2.toNat).2.2.2)).g v2.toNat).1, r1, ((Vec.set v3 v2.toNat (v1, (v3.g v2.toNat).2.1, (v3.g v2.toNat).2.2.1, (v3.g v2.toNat).2.2.2)).g v2.toNat).2.2.1, ((Vec.set v3 v2.toNat (v1, (v3.g v2.toNat).2.1, (v3.g v2.toNat).2.2.1, (v3.g v2.toNat).2.2.2)).g v2.toNat).2.2.2)).g v2.toNat).2.2.2)).n)) (W (wr ((wr ((wr ((wr (v1 + (1 : Int))) + (1 : Int))) + (1 : Int))) + (1 : Int))) (wr (v2 + (1 : Int))) (Vec.set (Vec.set (Vec.set (Vec.set v3 v2.toNat (v1, (v3.g v2.toNat).2.1, (v3.g v2.toNat).2.2.1, (v3.g v2.toNat).2.2.2)) v2.toNat (((Vec.set v3 v2.toNat (v1, (v3.g v2.toNat).2.1, (v3.g v2.toNat).2.2.1, (v3.g v2.toNat).2.2.2)).g v2.toNat).1, r1, ((Vec.set v3 v2.toNat (v1, (v3.g v2.toNat).2.1, (v3.g v2.toNat).2.2.1, (v3.g v2.toNat).2.2.2)).g v2.toNat).2.2.1, ((Vec.set v3 v2.toNat (v1, (v3.g v2.toNat).2.1, (v3.g v2.toNat).2.2.1, (v3.g v2.toNat).2.2.2)).g v2.toNat).2.2.2)) v2.toNat (((Vec.set (Vec.set v3 v2.toNat (v1, (v3.g v2.toNat).2.1, (v3.g v2.toNat).2.2.1, (v3.g v2.toNat).2.2.2)) v2.toNat (((Vec.set v3 v2.toNat (v1, (v3.g v2.toNat).2.1, (v3.g v2.toNat).2.2.1, (v3.g v2.toNat).2.2.2)).g v2.toNat).1, r1, ((Vec.set v3 v2.toNat (v1, (v3.g v2.toNat).2.1, (v3.g v2.toNat).2.2.1, (v3.g v2.toNat).2.2.2)).g v2.toNat).2.2.1, ((Vec.set v3 v2.toNat (v1, (v3.g v2.toNat).2.1, (v3.g v2.toNat).2.2.1, (v3.g v2.toNat).2.2.2)).g v2.toNat).2.2.2)).g v2.toNat).1, ((Vec.set (Vec.set v3 v2.toNat (v1, (v3.g v2.toNat).2.1, (v3.g v2.toNat).2.2.1, (v3.g v2.toNat).2.2.2)) v2.toNat (((Vec.set v3 v2.toNat (v1, (v3.g v2.toNat).2.1, (v3.g v2.toNat).2.2.1, (v3.g v2.toNat).2.2.2)).g v2.toNat).1, r1, ((Vec.set v3 v2.toNat (v1, (v3.g v2.toNat).2.1, (v3.g v2.toNat).2.2.1, (v3.g v2.toNat).2.2.2)).g v2.toNat).2.2.1, ((Vec.set v3 v2.toNat (v1, (v3.g v2.toNat).2.1, (v3.g v2.toNat).2.2.1, (v3.g v2.toNat).2.2.2)).g v2.toNat).2.2.2)).g v2.toNat).2.1, r2, ((Vec.set (Vec.set v3 v2.toNat (v1, (v3.g v2.toNat).2.1, (v3.g v2.toNat).2.2.1, (v3.g v2.toNat).2.2.2)) v2.toNat (((Vec.set v3 v2.toNat (v1, (v3.g v2.toNat).2.1, (v3.g v2.toNat).2.2.1, (v3.g v2.toNat).2.2.2)).g v2.toNat).1, r1, ((Vec.set v3 v2.toNat (v1, (v3.g v2.toNat).2.1, (v3.g v2.toNat).2.2.1, (v3.g v2.toNat).2.2.2)).g v2.toNat).2.2.1, ((Vec.set v3 v2.toNat (v1, (v3.g v2.toNat).2.1, (v3.g v2.toNat).2.2.1, (v3.g v2.toNat).2.2.2)).g v2.toNat).2.2.2)).g v2.toNat).2.2.2)) v2.toNat (((Vec.set (Vec.set (Vec.set v3 v2.toNat (v1, (v3.g v2.toNat).2.1, (v3.g v2.toNat).2.2.1, (v3.g v2.toNat).2.2.2)) v2.toNat (((Vec.set v3 v2.toNat (v1, (v3.g v2.toNat).2.1, (v3.g v2.toNat).2.2.1, (v3.g v2.toNat).2.2.2)).g v2.toNat).1, r1, ((Vec.set v3 v2.toNat (v1, (v3.g v2.toNat).2.1, (v3.g v2.toNat).2.2.1, (v3.g v2.toNat).2.2.2)).g v2.toNat).2.2.1, ((Vec.set v3 v2.toNat (v1, (v3.g v2.toNat).2.1, (v3.g v2.toNat).2.2.1, (v3.g v2.toNat).2.2.2)).g v2.toNat).2.2.2)) v2.toNat (((Vec.set (Vec.set v3 v2.toNat (v1, (v3.g v2.toNat).2.1, (v3.g v2.toNat).2.2.1, (v3.g v2.toNat).2.2.2)) v2.toNat (((Vec.set v3 v2.toNat (v1, (v3.g v2.toNat).2.1, (v3.g v2.toNat).2.2.1, (v3.g v2.toNat).2.2.2)).g v2.toNat).1, r1, ((Vec.set v3 v2.toNat (v1, (v3.g v2.toNat).2.1, (v3.g v2.toNat).2.2.1, (v3.g v2.toNat).2.2.2)).g v2.toNat).2.2.1, ((Vec.set v3 v2.toNat (v1, (v3.g v2.toNat).2.1, (v3.g v2.toNat).2.2.1, (v3.g v2.toNat).2.2.2)).g v2.toNat).2.2.2)).g v2.toNat).1, ((Vec.set (Vec.set v3 v2.toNat (v1, (v3.g v2.toNat).2.1, (v3.g v2.toNat).2.2.1, (v3.g v2.toNat).2.2.2)) v2.toNat (((Vec.set v3 v2.toNat (v1, (v3.g v2.toNat).2.1, (v3.g v2.toNat).2.2.1, (v3.g v2.toNat).2.2.2)).g v2.toNat).1, r1, ((Vec.set v3 v2.toNat (v1, (v3.g v2.toNat).2.1, (v3.g v2.toNat).2.2.1, (v3.g v2.toNat).2.2.2)).g v2.toNat).2.2.1, ((Vec.set v3 v2.toNat (v1, (v3.g v2.toNat).2.1, (v3.g v2.toNat).2.2.1, (v3.g v2.toNat).2.2.2)).g v2.toNat).2.2.2)).g v2.toNat).2.1, r2, ((Vec.set (Vec.set v3 v2.toNat (v1, (v3.g v2.toNat).2.1, (v3.g v2.toNat).2.2.1, (v3.g v2.toNat).2.2.2)) v2.toNat (((Vec.set v3 v2.toNat (v1, (v3.g v2.toNat).2.1, (v3.g v2.toNat).2.2.1, (v3.g v2.toNat).2.2.2)).g v2.toNat).1, r1, ((Vec.set v3 v2.toNat (v1, (v3.g v2.toNat).2.1, (v3.g v2.toNat).2.2.1, (v3.g v2.toNat).2.2.2)).g v2.toNat).2.2.1, ((Vec.set v3 v2.toNat (v1, (v3.g v2.toNat).2.1, (v3.g v2.toNat).2.2.1, (v3.g v2.toNat).2.2.2)).g v2.toNat).2.2.2)).g v2.toNat).2.2.2)).g v2.toNat).1, ((Vec.set (Vec.set (Vec.set v3 v2.toNat (v1, (v3.g v2.toNat).2.1, (v3.g v2.toNat).2.2.1, (v3.g v2.toNat).2.2.2)) v2.toNat (((Vec.set v3 v2.toNat (v1, (v3.g v2.toNat).2.1, (v3.g v2.toNat).2.2.1, (v3.g v2.toNat).2.2.2)).g v2.toNat).1, r1, ((Vec.set v3 v2.toNat (v1, (v3.g v2.toNat).2.1, (v3.g v2.toNat).2.2.1, (v3.g v2.toNat).2.2.2)).g v2.toNat).2.2.1, ((Vec.set v3 v2.toNat (v1, (v3.g v2.toNat).2.1, (v3.g v2.toNat).2.2.1, (v3.g v2.toNat).2.2.2)).g v2.toNat).2.2.2)) v2.toNat (((Vec.set (Vec.set v3 v2.toNat (v1, (v3.g v2.toNat).2.1, (v3.g v2.toNat).2.2.1, (v3.g v2.toNat).2.2.2)) v2.toNat (((Vec.set v3 v2.toNat (v1, (v3.g v2.toNat).2.1, (v3.g v2.toNat).2.2.1, (v3.g v2.toNat).2.2.2)).g v2.toNat).1, r1, ((Vec.set v3 v2.toNat (v1, (v3.g v2.toNat).2.1, (v3.g v2.toNat).2.2.1, (v3.g v2.toNat).2.2.2)).g v2.toNat).2.2.1, ((Vec.set v3 v2.toNat (v1, (v3.g v2.toNat).2.1, (v3.g v2.toNat).2.2.1, (v3.g v2.toNat).2.2.2)).g v2.toNat).2.2.2)).g v2.toNat).1, ((Vec.set (Vec.set v3 v2.toNat (v1, (v3.g v2.toNat).2.1, (v3.g v2.toNat).2.2.1, (v3.g v2.toNat).2.2.2)) v2.toNat (((Vec.set v3 v2.toNat (v1, (v3.g v2.toNat).2.1, (v3.g v2.toNat).2.2.1, (v3.g v2.toNat).2.2.2)).g v2.toNat).1, r1, ((Vec.set v3 v2.toNat (v1, (v3.g v2.toNat).2.1, (v3.g v2.toNat).2.2.1, (v3.g v2.toNat).2.2.2)).g v2.toNat).2.2.1, ((Vec.set v3 v2.toNat (v1, (v3.g v2.toNat).2.1, (v3.g v2.toNat).2.2.1, (v3.g v2.toNat).2.2.2)).g v2.toNat).2.2.2)).g v2.toNat).2.1, r2, ((Vec.set (Vec.set v3 v2.toNat (v1, (v3.g v2.toNat).2.1, (v3.g v2.toNat).2.2.1, (v3.g v2.toNat).2.2.2)) v2.toNat (((Vec.set v3 v2.toNat (v1, (v3.g v2.toNat).2.1, (v3.g v2.toNat).2.2.1, (v3.g v2.toNat).2.2.2)).g v2.toNat).1, r1, ((Vec.set v3 v2.toNat (v1, (v3.g v2.toNat).2.1, (v3.g v2.toNat).2.2.1, (v3.g v2.toNat).2.2.2)).g v2.toNat).2.2.1, ((Vec.set v3 v2.toNat (v1, (v3.g v2.toNat).2.1, (v3.g v2.toNat).2.2.1, (v3.g v2.toNat).2.2.2)).g v2.toNat).2.2.2)).g v2.toNat).2.2.2)).g v2.toNat).2.1, ((Vec.set (Vec.set (Vec.set v3 v2.toNat (v1, (v3.g v2.toNat).2.1, (v3.g v2.toNat).2.2.1, (v3.g v2.toNat).2.2.2)) v2.toNat (((Vec.set v3 v2.toNat (v1, (v3.g v2.toNat).2.1, (v3.g v2.toNat).2.2.1, (v3.g v2.toNat).2.2.2)).g v2.toNat).1, r1, ((Vec.set v3 v2.toNat (v1, (v3.g v2.toNat).2.1, (v3.g v2.toNat).2.2.1, (v3.g v2.toNat).2.2.2)).g v2.toNat).2.2.1, ((Vec.set v3 v2.toNat (v1, (v3.g v2.toNat).2.1, (v3.g v2.toNat).2.2.1, (v3.g v2.toNat).2.2.2)).g v2.toNat).2.2.2)) v2.toNat (((Vec.set (Vec.set v3 v2.toNat (v1, (v3.g v2.toNat).2.1, (v3.g v2.toNat).2.2.1, (v3.g v2.toNat).2.2.2)) v2.toNat (((Vec.set v3 v2.toNat (v1, (v3.g v2.toNat).2.1, (v3.g v2.toNat).2.2.1, (v3.g v2.toNat).2.2.2)).g v2.toNat).1, r1, ((Vec.set v3 v2.toNat (v1, (v3.g v2.toNat).2.1, (v3.g v2.toNat).2.2.1, (v3.g v2.toNat).2.2.2)).g v2.toNat).2.2.1, ((Vec.set v3 v2.toNat (v1, (v3.g v2.toNat).2.1, (v3.g v2.toNat).2.2.1, (v3.g v2.toNat).2.2.2)).g v2.toNat).2.2.2)).g v2.toNat).1, ((Vec.set (Vec.set v3 v2.toNat (v1, (v3.g v2.toNat).2.1, (v3.g v2.toNat).2.2.1, (v3.g v2.toNat).2.2.2)) v2.toNat (((Vec.set v3 v2.toNat (v1, (v3.g v2.toNat).2.1, (v3.g v2.toNat).2.2.1, (v3.g v2.toNat).2.2.2)).g v2.toNat).1, r1, ((Vec.set v3 v2.toNat (v1, (v3.g v2.toNat).2.1, (v3.g v2.toNat).2.2.1, (v3.g v2.toNat).2.2.2)).g v2.toNat).2.2.1, ((Vec.set v3 v2.toNat (v1, (v3.g v2.toNat).2.1, (v3.g v2.toNat).2.2.1, (v3.g v2.toNat).2.2.2)).g v2.toNat).2.2.2)).g v2.toNat).2.1, r2, ((Vec.set (Vec.set v3 v2.toNat (v1, (v3.g v2.toNat).2.1, (v3.g v2.toNat).2.2.1, (v3.g v2.toNat).2.2.2)) v2.toNat (((Vec.set v3 v2.toNat (v1, (v3.g v2.toNat).2.1, (v3.g v2.toNat).2.2.1, (v3.g v2.toNat).2.2.2)).g v2.toNat).1, r1, ((Vec.set v3 v2.toNat (v1, (v3.g v2.toNat).2.1, (v3.g v2.toNat).2.2.1, (v3.g v2.toNat).2.2.2)).g v2.toNat).2.2.1, ((Vec.set v3 v2.toNat (v1, (v3.g v2.toNat).2.1, (v3.g v2.toNat).2.2.1, (v3.g v2.toNat).2.2.2)).g v2.toNat).2.2.2)).g v2.toNat).2.2.2)).g v2.toNat).2.2.1, r3))))))))))) (K0 v1 v3)
noncomputable def F0 {ρ : Type} : Nat → Int → Int → (Vec (Int × ByteArray × ByteArray × ByteArray)) → (Int → (Vec (Int × ByteArray × ByteArray × ByteArray)) → Option ρ) → Option ρ
  | 0, _, _, _, _ => none
  | k + 1, v1, v2, v3, K0 => B0 laws_markText.F v1 v2 v3 (fun v1' v2' v3' => F0 k v1' v2' v3' K0) K0
noncomputable def B {ρ : Type} (L0 : Int → Int → (Vec (Int × ByteArray × ByteArray × ByteArray)) → (Int → (Vec (Int × ByteArray × ByteArray × ByteArray)) → Option ρ) → Option ρ) (a1 : Int) (a2 : Vec (Int × ByteArray × ByteArray × ByteArray)) (K : Int → (Vec (Int × ByteArray × ByteArray × ByteArray)) → Option ρ) : Option ρ :=
  L0 a1 (0 : Int) a2 (fun e01 e02 => K e01 e02)
noncomputable def F (a1 : Int) (a2 : Vec (Int × ByteArray × ByteArray × ByteArray)) : Option (Int × (Vec (Int × ByteArray × ByteArray × ByteArray))) := B (F0 fuelN) a1 a2 (fun x1 x2 => some (x1, x2))
def encA (t : Int × (Vec (Int × ByteArray × ByteArray × ByteArray))) : List AV × List Ob := ([.c (.h 0), .c (.n (.v (.int .i64 t.1)))], [.row 4 (encRw t.2) []])
def encR (x : Int × (Vec (Int × ByteArray × ByteArray × ByteArray))) : AV × List Ob := (.c (.n (.v (.int .i64 x.1))), [.row 4 (encRw x.2) []])
theorem encAI : ∀ a b, encA a = encA b → a = b := by
  intro a b h
  obtain ⟨a0, a1⟩ := a
  obtain ⟨b0, b1⟩ := b
  simp [encA, encRw_iff] at h
  simp_all
theorem encRI : ∀ a b, encR a = encR b → a = b := by
  intro a b h
  obtain ⟨a0, a1⟩ := a
  obtain ⟨b0, b1⟩ := b
  simp [encR, encRw_iff] at h
  simp_all
noncomputable def Q (args : List AV) (hin : List Ob) : Option (Int × (Vec (Int × ByteArray × ByteArray × ByteArray))) := ofC encA (fun t => F t.1 t.2) (args, hin)
theorem wrap : (fun (y1 : Int) (y2 : Vec (Int × ByteArray × ByteArray × ByteArray)) => Q [.c (.h 0), .c (.n (.v (.int .i64 y1)))] [.row 4 (encRw y2) []]) = F := by
  funext y1 y2
  exact ofC_enc encAI _ (y1, y2)
noncomputable def G (q_laws_markText : List AV → Option ByteArray) : Orc := ⟨fun f => sel (Nat.beq f 44) 0 (9), fun ρ f args K => sel (Nat.beq f 44) (qEntry laws_markText.encR q_laws_markText args K) (Option.none), noE⟩
noncomputable def L (W0 : (ρ : Type) → List AV → List Ob → (Int → (Vec (Int × ByteArray × ByteArray × ByteArray)) → Option ρ) → Option ρ) : Lor := fun ρ j st K => sel (Nat.beq j 0) (cutO Try.prog 44 [0, 1, 5] 1 [true] [] st fun avs obs => W0 ρ avs obs (fun z1 z2 => K (.exit 0) (mkS 44 [1] [.c (.n (.v (.int .i64 z1)))] [.row 4 (encRw z2) []] [true]))) (Option.none)
noncomputable def c0 : Code := loopC (atomN [] 0 (bodyOf Try.f34) 0)
def ct0 : Cut := ⟨[0, 1, 5], []⟩
def lv0 : Exit → Cut
  | .exit 0 => ⟨[1], []⟩
  | _ => ⟨[], []⟩
theorem step0 (q_laws_markText : List AV → Option ByteArray) (W0 : (ρ : Type) → List AV → List Ob → (Int → (Vec (Int × ByteArray × ByteArray × ByteArray)) → Option ρ) → Option ρ) {ρ : Type} (K : Exit → St → Option ρ) (W : List AV → List Ob → Option ρ) (v1 : Int) (v2 : Int) (v3 : Vec (Int × ByteArray × ByteArray × ByteArray)) : exC Try.prog (G q_laws_markText) (L W0) [] 1 c0 (mkS 44 [0, 1, 5] [.c (.h 0), .c (.n (.v (.int .i64 v1))), .c (.n (.v (.int .i64 v2)))] [.row 4 (encRw v3) []] [true]) (bodyK Try.prog 44 1 [true] ct0 W lv0 K) =
    B0 (fun y1 => q_laws_markText [.c (.n (.v (.int .i64 y1)))]) v1 v2 v3 (fun u1 u2 u3 => W [.c (.h 0), .c (.n (.v (.int .i64 u1))), .c (.n (.v (.int .i64 u2)))] [.row 4 (encRw u3) []]) (fun z1 z2 => K (.exit 0) (mkS 44 [1] [.c (.n (.v (.int .i64 z1)))] [.row 4 (encRw z2) []] [true])) := by kernel_rfl
def enc0 (t : Int × Int × (Vec (Int × ByteArray × ByteArray × ByteArray))) : List AV × List Ob := ([.c (.h 0), .c (.n (.v (.int .i64 t.1))), .c (.n (.v (.int .i64 t.2.1)))], [.row 4 (encRw t.2.2) []])
theorem enc0I : ∀ a b, enc0 a = enc0 b → a = b := by
  intro a b h
  obtain ⟨a0, a1, a2⟩ := a
  obtain ⟨b0, b1, b2⟩ := b
  simp [enc0, encRw_iff] at h
  simp_all
noncomputable def V0 : (ρ : Type) → List AV → List Ob → (Int → (Vec (Int × ByteArray × ByteArray × ByteArray)) → Option ρ) → Option ρ := fun ρ avs obs k0 => ofC enc0 (fun t => F0 fuelN t.1 t.2.1 t.2.2 k0) (avs, obs)
theorem V0_enc (ρ : Type) : (fun w1 w2 w3 k0 => V0 ρ [.c (.h 0), .c (.n (.v (.int .i64 w1))), .c (.n (.v (.int .i64 w2)))] [.row 4 (encRw w3) []] k0) = F0 fuelN := by
  funext w1 w2 w3 k0
  exact ofC_enc enc0I _ (w1, w2, w3)
theorem main (q_laws_markText : List AV → Option ByteArray) (W0 : (ρ : Type) → List AV → List Ob → (Int → (Vec (Int × ByteArray × ByteArray × ByteArray)) → Option ρ) → Option ρ) {ρ : Type} (K : AV → List Ob → Option ρ) (a1 : Int) (a2 : Vec (Int × ByteArray × ByteArray × ByteArray)) : exC Try.prog (G q_laws_markText) (L W0) [] 0 (bodyOf Try.f34) (entry 44 [.c (.h 0), .c (.n (.v (.int .i64 a1)))] [.row 4 (encRw a2) []] [true]) (finO Try.prog Try.f34.results.toList 1 [true] [] K) =
    B (fun w1 w2 w3 k0 => W0 ρ [.c (.h 0), .c (.n (.v (.int .i64 w1))), .c (.n (.v (.int .i64 w2)))] [.row 4 (encRw w3) []] k0) a1 a2 (fun x1 x2 => K (.c (.n (.v (.int .i64 x1)))) [.row 4 (encRw x2) []]) := by kernel_rfl
theorem Gok : (G laws_markText.Q).ok Try.prog := ⟨(by
    intro ρ f args K r h
    rcases sel_cases h with ⟨hb, h⟩ | ⟨-, h⟩
    · obtain rfl := beq_nat hb
      exact qEntry_ok laws_markText.ac h
    cases h),
  (by
    intro ρ f args K
    simp only [G]
    cases Nat.beq f 44 with
    | true => exact qEntry_nat args K
    | false =>
    simp only [sel]
    rfl),
  (fun ρ f st caps args dst K r h => (by cases h))⟩
theorem hm : Try.prog.follows .mixedOrders = true := by kernel_rfl
theorem e0 : atomsL [] 1 c0 = [] := by kernel_rfl
theorem ok0 (ρ : Type) (st : St) (K : Exit → St → Option ρ) (r : ρ) (h : (L V0) ρ 0 st K = some r) : AW Try.prog (.loop c0) st fun e st' => K e st' = some r := by
  refine loop_ok (ct := ct0) (lv := lv0) (n := 44) (m := 1) (ks := [true]) (j := 0) (jn := []) (L := (L V0)) Gok hm (by rw [e0]; exact Lor.ok_nil _ _) enc0I (fun k t => F0 k t.1 t.2.1 t.2.2 (fun z1 z2 => K (.exit 0) (mkS 44 [1] [.c (.n (.v (.int .i64 z1)))] [.row 4 (encRw z2) []] [true]))) (fun t => rfl) (fun k t => ?_) (fun _ => fuelN) h
  refine (step0 laws_markText.Q V0 K _ t.1 t.2.1 t.2.2).trans ?_
  rw [laws_markText.wrap]
  refine congrArg (fun W => B0 laws_markText.F t.1 t.2.1 t.2.2 W (fun z1 z2 => K (.exit 0) (mkS 44 [1] [.c (.n (.v (.int .i64 z1)))] [.row 4 (encRw z2) []] [true]))) ?_
  funext u1 u2 u3
  exact ofC_enc enc0I _ (u1, u2, u3)
theorem e : atomsL [] 0 (bodyOf Try.f34) = [(0, 0, .loop c0)] := by kernel_rfl
theorem acc (t : Int × (Vec (Int × ByteArray × ByteArray × ByteArray))) (x : Int × (Vec (Int × ByteArray × ByteArray × ByteArray))) (h : F t.1 t.2 = some x) : ACc Try.prog 34 (encA t).1 (encA t).2 true [true] fun rv obs => (rv, obs) = encR x := by
  refine fun_okc (L := (L V0)) (jn := []) (cmds := []) (ks := [true]) (hin := (encA t).2) (fn := Try.f34) (body := (bodyOf Try.f34)) Gok hm Try.func34 (by kernel_rfl) (by kernel_rfl) (by rw [e]; exact Lor.ok_cons ok0 (Lor.ok_nil _ _)) ?_ h
  refine (main laws_markText.Q V0 _ t.1 t.2).trans ?_
  rw [V0_enc]
  refine congrArg (fun K => B (F0 fuelN) t.1 t.2 K) ?_
  funext x1 x2
  exact ofC_enc encRI some (x1, x2)
theorem ac0 (t : Int × (Vec (Int × ByteArray × ByteArray × ByteArray))) (x : Int × (Vec (Int × ByteArray × ByteArray × ByteArray))) (h : F t.1 t.2 = some x) : AC Try.prog 34 (encA t).1 (encA t).2 true [true] fun rv obs => (rv, obs) = encR x := ACc.ac (body := bodyOf Try.f34) Try.func34 (by kernel_rfl) (by kernel_rfl) (acc t x h)
theorem ac (args : List AV) (hin : List Ob) (x : Int × (Vec (Int × ByteArray × ByteArray × ByteArray))) (h : Q args hin = some x) : AC Try.prog 34 args hin false [true] fun rv obs => (rv, obs) = encR x := by
  obtain ⟨t, he, h2⟩ := ofC_some h
  obtain rfl : args = (encA t).1 := (congrArg Prod.fst he).symm
  obtain rfl : hin = (encA t).2 := (congrArg Prod.snd he).symm
  refine (ac0 t x h2).flat fun rv obs e => ?_
  obtain rfl : rv = (encR x).1 := congrArg Prod.fst e
  obtain rfl : obs = (encR x).2 := congrArg Prod.snd e
  refine ⟨by simp [encR, AV.Flat, K.Flat, C.Flat], ?_⟩
  intro o ho
  simp only [encR, List.mem_cons, List.not_mem_nil, or_false] at ho
  subst ho
  exact flat_rw rfl _
end laws_markRawS_s0bc7
/-! loop.example/g00073/laws.FnExactPutRaws -/
namespace laws_FnExactPutRaws
noncomputable def B {ρ : Type} (C_laws_szDisk : (Vec (ByteArray × ByteArray)) → Int → Option Int) (C_laws_szRawS : (Vec (Int × ByteArray × ByteArray × ByteArray)) → Int → Option Int) (C_laws_toDisk : (Vec (ByteArray × ByteArray)) → Option (Vec (ByteArray × ByteArray))) (C_laws_toRawS : (Vec (Int × ByteArray × ByteArray × ByteArray)) → Option (Vec (Int × ByteArray × ByteArray × ByteArray))) (C_spec_PutRaws : (Vec (ByteArray × ByteArray)) → (Vec (Int × ByteArray × ByteArray × ByteArray)) → Option (Int × (Vec (ByteArray × ByteArray)))) (C_impl_PutRaws : (Vec (ByteArray × ByteArray)) → (Vec (Int × ByteArray × ByteArray × ByteArray)) → Option (Int × (Vec (ByteArray × ByteArray)))) (C_laws_eqDisk : (Vec (ByteArray × ByteArray)) → (Vec (ByteArray × ByteArray)) → Option Bool) (C_laws_eqRawS : (Vec (Int × ByteArray × ByteArray × ByteArray)) → (Vec (Int × ByteArray × ByteArray × ByteArray)) → Option Bool) (C_laws_markDisk_s3b3c : Int → (Vec (ByteArray × ByteArray)) → Option (Int × (Vec (ByteArray × ByteArray)))) (C_laws_markRawS_s0bc7 : Int → (Vec (Int × ByteArray × ByteArray × ByteArray)) → Option (Int × (Vec (Int × ByteArray × ByteArray × ByteArray)))) (C_laws_heldDisk : (Vec (ByteArray × ByteArray)) → Int → Option Int) (a1 : Vec (ByteArray × ByteArray)) (a2 : Vec (Int × ByteArray × ByteArray × ByteArray)) (K : Bool → Option ρ) : Option ρ :=
  (C_laws_szDisk a1 (1048576 : Int)).bind fun r1 => sel (decide (r1 < (0 : Int))) (K true) ((C_laws_szRawS a2 r1).bind fun r2 => sel (decide (r2 < (0 : Int))) (K true) ((C_laws_toDisk a1).bind fun r3 => (C_laws_toRawS a2).bind fun r4 => (C_spec_PutRaws r3 r4).bind fun r5 => (C_laws_toDisk a1).bind fun r6 => (C_laws_toRawS a2).bind fun r7 => (C_impl_PutRaws r6 r7).bind fun r8 => (C_laws_eqDisk r8.2 r5.2).bind fun r9 => sel ((!r9)) (K false) (sel ((!decide (r8.1 = r5.1))) (K false) ((C_laws_toDisk a1).bind fun r10 => (C_laws_eqDisk r6 r10).bind fun r11 => sel ((!r11)) (K false) ((C_laws_toRawS a2).bind fun r12 => (C_laws_eqRawS r7 r12).bind fun r13 => sel ((!r13)) (K false) ((C_laws_markDisk_s3b3c (1 : Int) r6).bind fun r14 => (C_laws_markRawS_s0bc7 r14.1 r7).bind fun r15 => sel (decide (r15.1 < (0 : Int))) (K false) ((C_laws_eqDisk r8.2 r5.2).bind fun r16 => sel ((!r16)) (K false) (sel ((!decide (r8.1 = r5.1))) (K false) ((C_laws_markDisk_s3b3c (1 : Int) r8.2).bind fun r17 => (C_laws_heldDisk r17.2 (1 : Int)).bind fun r18 => sel (decide (r18 < (0 : Int))) (K false) (sel ((!decide (r18 = r17.1))) (K false) ((C_laws_toDisk a1).bind fun r19 => (C_laws_toRawS a2).bind fun r20 => (C_impl_PutRaws r19 r20).bind fun r21 => (C_laws_eqDisk r21.2 r5.2).bind fun r22 => sel ((!r22)) (K false) (sel ((!decide (r21.1 = r5.1))) (K false) ((C_laws_heldDisk r17.2 (1 : Int)).bind fun r23 => sel (decide (r23 < (0 : Int))) (K false) (sel ((!decide (r23 = r17.1))) (K false) (K true)))))))))))))))
noncomputable def F (a1 : Vec (ByteArray × ByteArray)) (a2 : Vec (Int × ByteArray × ByteArray × ByteArray)) : Option Bool := B laws_szDisk.F laws_szRawS.F laws_toDisk.F laws_toRawS.F spec_PutRaws.F impl_PutRaws.F laws_eqDisk.F laws_eqRawS.F laws_markDisk_s3b3c.F laws_markRawS_s0bc7.F laws_heldDisk.F a1 a2 (fun x1 => some (x1))
def encA (t : (Vec (ByteArray × ByteArray)) × (Vec (Int × ByteArray × ByteArray × ByteArray))) : List AV := [.a [.n (.sl 2 (encRw t.1))], .c (.n (.sl 4 (encRw t.2)))]
def encR (x : Bool) : AV × List Ob := (.c (.n (.v (.bool x))), [])
theorem encAI : ∀ a b, encA a = encA b → a = b := by
  intro a b h
  obtain ⟨a0, a1⟩ := a
  obtain ⟨b0, b1⟩ := b
  simp [encA, encRw_iff] at h
  simp_all
theorem encRI : ∀ a b, encR a = encR b → a = b := by
  intro a b h
  simp [encR, encRw_iff] at h
  simp_all
noncomputable def Q (args : List AV) : Option Bool := ofC encA (fun t => F t.1 t.2) args
theorem wrap : (fun (y1 : Vec (ByteArray × ByteArray)) (y2 : Vec (Int × ByteArray × ByteArray × ByteArray)) => Q [.a [.n (.sl 2 (encRw y1))], .c (.n (.sl 4 (encRw y2)))]) = F := by
  funext y1 y2
  exact ofC_enc encAI _ (y1, y2)
noncomputable def G (q_laws_szDisk : List AV → Option Int) (q_laws_szRawS : List AV → Option Int) (q_laws_toDisk : List AV → Option (Vec (ByteArray × ByteArray))) (q_laws_toRawS : List AV → Option (Vec (Int × ByteArray × ByteArray × ByteArray))) (q_spec_PutRaws : List AV → Option (Int × (Vec (ByteArray × ByteArray)))) (q_impl_PutRaws : List AV → Option (Int × (Vec (ByteArray × ByteArray)))) (q_laws_eqDisk : List AV → Option Bool) (q_laws_eqRawS : List AV → Option Bool) (q_laws_markDisk_s3b3c : List AV → List Ob → Option (Int × (Vec (ByteArray × ByteArray)))) (q_laws_markRawS_s0bc7 : List AV → List Ob → Option (Int × (Vec (Int × ByteArray × ByteArray × ByteArray)))) (q_laws_heldDisk : List AV → Option Int) : Orc := ⟨fun f => sel (Nat.beq f 16) 0 (sel (Nat.beq f 29) 0 (sel (Nat.beq f 19) 0 (sel (Nat.beq f 31) 0 (sel (Nat.beq f 30) 0 (sel (Nat.beq f 32) 0 (sel (Nat.beq f 22) 0 (sel (Nat.beq f 33) 0 (sel (Nat.beq f 24) 0 (9))))))))), fun ρ f args K => sel (Nat.beq f 16) (qEntry laws_szDisk.encR q_laws_szDisk args K) (sel (Nat.beq f 29) (qEntry laws_szRawS.encR q_laws_szRawS args K) (sel (Nat.beq f 19) (qEntry laws_toDisk.encR q_laws_toDisk args K) (sel (Nat.beq f 31) (qEntry laws_toRawS.encR q_laws_toRawS args K) (sel (Nat.beq f 30) (qEntry spec_PutRaws.encR q_spec_PutRaws args K) (sel (Nat.beq f 32) (qEntry impl_PutRaws.encR q_impl_PutRaws args K) (sel (Nat.beq f 22) (qEntry laws_eqDisk.encR q_laws_eqDisk args K) (sel (Nat.beq f 33) (qEntry laws_eqRawS.encR q_laws_eqRawS args K) (sel (Nat.beq f 24) (qEntry laws_heldDisk.encR q_laws_heldDisk args K) (Option.none))))))))), fun ρ f st args dst K => sel (Nat.beq f 23) (callE Try.prog 23 [true, false] false [true] laws_markDisk_s3b3c.encR q_laws_markDisk_s3b3c st args dst K) (sel (Nat.beq f 34) (callE Try.prog 34 [true, false] false [true] laws_markRawS_s0bc7.encR q_laws_markRawS_s0bc7 st args dst K) (Option.none))⟩
noncomputable def L : Lor := fun ρ j st K => Option.none
theorem main (q_laws_szDisk : List AV → Option Int) (q_laws_szRawS : List AV → Option Int) (q_laws_toDisk : List AV → Option (Vec (ByteArray × ByteArray))) (q_laws_toRawS : List AV → Option (Vec (Int × ByteArray × ByteArray × ByteArray))) (q_spec_PutRaws : List AV → Option (Int × (Vec (ByteArray × ByteArray)))) (q_impl_PutRaws : List AV → Option (Int × (Vec (ByteArray × ByteArray)))) (q_laws_eqDisk : List AV → Option Bool) (q_laws_eqRawS : List AV → Option Bool) (q_laws_markDisk_s3b3c : List AV → List Ob → Option (Int × (Vec (ByteArray × ByteArray)))) (q_laws_markRawS_s0bc7 : List AV → List Ob → Option (Int × (Vec (Int × ByteArray × ByteArray × ByteArray)))) (q_laws_heldDisk : List AV → Option Int) {ρ : Type} (K : AV → List Ob → Option ρ) (a1 : Vec (ByteArray × ByteArray)) (a2 : Vec (Int × ByteArray × ByteArray × ByteArray)) : exC Try.prog (G q_laws_szDisk q_laws_szRawS q_laws_toDisk q_laws_toRawS q_spec_PutRaws q_impl_PutRaws q_laws_eqDisk q_laws_eqRawS q_laws_markDisk_s3b3c q_laws_markRawS_s0bc7 q_laws_heldDisk) (L) [] 0 (bodyOf Try.f6) (entry 119 [.a [.n (.sl 2 (encRw a1))], .c (.n (.sl 4 (encRw a2)))] [] []) (finO Try.prog Try.f6.results.toList 0 [] [] K) =
    B (fun y1 y2 => q_laws_szDisk [.a [.n (.sl 2 (encRw y1))], .c (.n (.v (.int .i64 y2)))]) (fun y1 y2 => q_laws_szRawS [.c (.n (.sl 4 (encRw y1))), .c (.n (.v (.int .i64 y2)))]) (fun y1 => q_laws_toDisk [.a [.n (.sl 2 (encRw y1))]]) (fun y1 => q_laws_toRawS [.c (.n (.sl 4 (encRw y1)))]) (fun y1 y2 => q_spec_PutRaws [.a [.n (.sl 2 (encRw y1))], .c (.n (.sl 4 (encRw y2)))]) (fun y1 y2 => q_impl_PutRaws [.a [.n (.sl 2 (encRw y1))], .c (.n (.sl 4 (encRw y2)))]) (fun y1 y2 => q_laws_eqDisk [.a [.n (.sl 2 (encRw y1))], .a [.n (.sl 2 (encRw y2))]]) (fun y1 y2 => q_laws_eqRawS [.c (.n (.sl 4 (encRw y1))), .c (.n (.sl 4 (encRw y2)))]) (fun y1 y2 => q_laws_markDisk_s3b3c [.a [.h 0], .c (.n (.v (.int .i64 y1)))] [.row 2 (encRw y2) []]) (fun y1 y2 => q_laws_markRawS_s0bc7 [.c (.h 0), .c (.n (.v (.int .i64 y1)))] [.row 4 (encRw y2) []]) (fun y1 y2 => q_laws_heldDisk [.a [.n (.sl 2 (encRw y1))], .c (.n (.v (.int .i64 y2)))]) a1 a2 (fun x1 => K (.c (.n (.v (.bool x1)))) []) := by kernel_rfl
theorem Gok : (G laws_szDisk.Q laws_szRawS.Q laws_toDisk.Q laws_toRawS.Q spec_PutRaws.Q impl_PutRaws.Q laws_eqDisk.Q laws_eqRawS.Q laws_markDisk_s3b3c.Q laws_markRawS_s0bc7.Q laws_heldDisk.Q).ok Try.prog := ⟨(by
    intro ρ f args K r h
    rcases sel_cases h with ⟨hb, h⟩ | ⟨-, h⟩
    · obtain rfl := beq_nat hb
      exact qEntry_ok laws_szDisk.ac h
    rcases sel_cases h with ⟨hb, h⟩ | ⟨-, h⟩
    · obtain rfl := beq_nat hb
      exact qEntry_ok laws_szRawS.ac h
    rcases sel_cases h with ⟨hb, h⟩ | ⟨-, h⟩
    · obtain rfl := beq_nat hb
      exact qEntry_ok laws_toDisk.ac h
    rcases sel_cases h with ⟨hb, h⟩ | ⟨-, h⟩
    · obtain rfl := beq_nat hb
      exact qEntry_ok laws_toRawS.ac h
    rcases sel_cases h with ⟨hb, h⟩ | ⟨-, h⟩
    · obtain rfl := beq_nat hb
      exact qEntry_ok spec_PutRaws.ac h
    rcases sel_cases h with ⟨hb, h⟩ | ⟨-, h⟩
    · obtain rfl := beq_nat hb
      exact qEntry_ok impl_PutRaws.ac h
    rcases sel_cases h with ⟨hb, h⟩ | ⟨-, h⟩
    · obtain rfl := beq_nat hb
      exact qEntry_ok laws_eqDisk.ac h
    rcases sel_cases h with ⟨hb, h⟩ | ⟨-, h⟩
    · obtain rfl := beq_nat hb
      exact qEntry_ok laws_eqRawS.ac h
    rcases sel_cases h with ⟨hb, h⟩ | ⟨-, h⟩
    · obtain rfl := beq_nat hb
      exact qEntry_ok laws_heldDisk.ac h
    cases h),
  (by
    intro ρ f args K
    simp only [G]
    cases Nat.beq f 16 with
    | true => exact qEntry_nat args K
    | false =>
    simp only [sel]
    cases Nat.beq f 29 with
    | true => exact qEntry_nat args K
    | false =>
    simp only [sel]
    cases Nat.beq f 19 with
    | true => exact qEntry_nat args K
    | false =>
    simp only [sel]
    cases Nat.beq f 31 with
    | true => exact qEntry_nat args K
    | false =>
    simp only [sel]
    cases Nat.beq f 30 with
    | true => exact qEntry_nat args K
    | false =>
    simp only [sel]
    cases Nat.beq f 32 with
    | true => exact qEntry_nat args K
    | false =>
    simp only [sel]
    cases Nat.beq f 22 with
    | true => exact qEntry_nat args K
    | false =>
    simp only [sel]
    cases Nat.beq f 33 with
    | true => exact qEntry_nat args K
    | false =>
    simp only [sel]
    cases Nat.beq f 24 with
    | true => exact qEntry_nat args K
    | false =>
    simp only [sel]
    rfl),
  (by
    intro ρ f st caps args dst K r h
    rcases sel_cases h with ⟨hb, h⟩ | ⟨-, h⟩
    · obtain rfl := beq_nat hb
      exact callE_ok (fun h => by cases h) laws_markDisk_s3b3c.ac h
    rcases sel_cases h with ⟨hb, h⟩ | ⟨-, h⟩
    · obtain rfl := beq_nat hb
      exact callE_ok (fun h => by cases h) laws_markRawS_s0bc7.ac h
    cases h)⟩
theorem hm : Try.prog.follows .mixedOrders = true := by kernel_rfl
theorem e : atomsL [] 0 (bodyOf Try.f6) = [] := by kernel_rfl
theorem acc (t : (Vec (ByteArray × ByteArray)) × (Vec (Int × ByteArray × ByteArray × ByteArray))) (x : Bool) (h : F t.1 t.2 = some x) : ACc Try.prog 6 (encA t) [] true [] fun rv obs => (rv, obs) = encR x := by
  refine fun_okc (L := (L)) (jn := []) (cmds := []) (ks := []) (hin := []) (fn := Try.f6) (body := (bodyOf Try.f6)) Gok hm Try.func6 (by kernel_rfl) (by kernel_rfl) (by rw [e]; exact Lor.ok_nil _ _) ?_ h
  refine (main laws_szDisk.Q laws_szRawS.Q laws_toDisk.Q laws_toRawS.Q spec_PutRaws.Q impl_PutRaws.Q laws_eqDisk.Q laws_eqRawS.Q laws_markDisk_s3b3c.Q laws_markRawS_s0bc7.Q laws_heldDisk.Q _ t.1 t.2).trans ?_
  rw [laws_szDisk.wrap, laws_szRawS.wrap, laws_toDisk.wrap, laws_toRawS.wrap, spec_PutRaws.wrap, impl_PutRaws.wrap, laws_eqDisk.wrap, laws_eqRawS.wrap, laws_markDisk_s3b3c.wrap, laws_markRawS_s0bc7.wrap, laws_heldDisk.wrap]
  refine congrArg (fun K => B laws_szDisk.F laws_szRawS.F laws_toDisk.F laws_toRawS.F spec_PutRaws.F impl_PutRaws.F laws_eqDisk.F laws_eqRawS.F laws_markDisk_s3b3c.F laws_markRawS_s0bc7.F laws_heldDisk.F t.1 t.2 K) ?_
  funext x1
  exact ofC_enc encRI some (x1)
theorem ac0 (t : (Vec (ByteArray × ByteArray)) × (Vec (Int × ByteArray × ByteArray × ByteArray))) (x : Bool) (h : F t.1 t.2 = some x) : AC Try.prog 6 (encA t) [] true [] fun rv obs => (rv, obs) = encR x := ACc.ac (body := bodyOf Try.f6) Try.func6 (by kernel_rfl) (by kernel_rfl) (acc t x h)
theorem ac (args : List AV) (x : Bool) (h : Q args = some x) : AC Try.prog 6 args [] false [] fun rv obs => (rv, obs) = encR x := by
  obtain ⟨t, rfl, h2⟩ := ofC_some h
  refine (ac0 t x h2).flat fun rv obs e => ?_
  obtain rfl : rv = (encR x).1 := congrArg Prod.fst e
  obtain rfl : obs = (encR x).2 := congrArg Prod.snd e
  refine ⟨by simp [encR, AV.Flat, K.Flat, C.Flat], ?_⟩
  simp [encR]
end laws_FnExactPutRaws
end Go.Al
