import Derived.Test.YtfghfdjecfkibaaAlF
import Derived.Test.YtfghfdjecfkibaaSC
set_option linter.unusedVariables false
set_option linter.unusedSimpArgs false
set_option linter.constructorNameAsVariable false
set_option linter.unusedSectionVars false
set_option maxRecDepth 100000
namespace Go.Al
open Go.Proofs

/-! loop.example/g00073/laws.szFile -/
namespace laws_szFile
noncomputable def B {ρ : Type} (a1 : ByteArray) (a2 : ByteArray) (a3 : Int) (K : Int → Option ρ) : Option ρ :=
  sel (decide ((wr (a3 - (a1.size : Int))) < (0 : Int))) (K (-1 : Int)) (sel (decide ((wr ((wr (a3 - (a1.size : Int))) - (a2.size : Int))) < (0 : Int))) (K (-1 : Int)) (K (wr ((wr (a3 - (a1.size : Int))) - (a2.size : Int)))))
noncomputable def F (a1 : ByteArray) (a2 : ByteArray) (a3 : Int) : Option Int := B a1 a2 a3 (fun x1 => some (x1))
def encA (t : ByteArray × ByteArray × Int) : List AV := [.a [.n (.v (.string t.1)), .n (.v (.string t.2.1))], .c (.n (.v (.int .i64 t.2.2)))]
def encR (x : Int) : AV × List Ob := (.c (.n (.v (.int .i64 x))), [])
theorem encAI : ∀ a b, encA a = encA b → a = b := by
  intro a b h
  obtain ⟨a0, a1, a2⟩ := a
  obtain ⟨b0, b1, b2⟩ := b
  simp [encA, encRw_iff] at h
  simp_all
theorem encRI : ∀ a b, encR a = encR b → a = b := by
  intro a b h
  simp [encR, encRw_iff] at h
  simp_all
noncomputable def Q (args : List AV) : Option Int := ofC encA (fun t => F t.1 t.2.1 t.2.2) args
theorem wrap : (fun (y1 : ByteArray) (y2 : ByteArray) (y3 : Int) => Q [.a [.n (.v (.string y1)), .n (.v (.string y2))], .c (.n (.v (.int .i64 y3)))]) = F := by
  funext y1 y2 y3
  exact ofC_enc encAI _ (y1, y2, y3)
noncomputable def G : Orc := ⟨fun f => 9, fun ρ f args K => Option.none, noE⟩
noncomputable def L : Lor := fun ρ j st K => Option.none
theorem main {ρ : Type} (K : AV → List Ob → Option ρ) (a1 : ByteArray) (a2 : ByteArray) (a3 : Int) : exC Try.prog (G) (L) [] 0 (bodyOf Try.f70) (entry 20 [.a [.n (.v (.string a1)), .n (.v (.string a2))], .c (.n (.v (.int .i64 a3)))] [] []) (finO Try.prog Try.f70.results.toList 0 [] [] K) =
    B a1 a2 a3 (fun x1 => K (.c (.n (.v (.int .i64 x1)))) []) := by kernel_rfl
theorem Gok : (G).ok Try.prog := ⟨(fun ρ f args K r h => (by cases h)),
  (fun ρ f args K => rfl),
  (fun ρ f st caps args dst K r h => (by cases h))⟩
theorem hm : Try.prog.follows .mixedOrders = true := by kernel_rfl
theorem e : atomsL [] 0 (bodyOf Try.f70) = [] := by kernel_rfl
theorem acc (t : ByteArray × ByteArray × Int) (x : Int) (h : F t.1 t.2.1 t.2.2 = some x) : ACc Try.prog 70 (encA t) [] true [] fun rv obs => (rv, obs) = encR x := by
  refine fun_okc (L := (L)) (jn := []) (cmds := []) (ks := []) (hin := []) (fn := Try.f70) (body := (bodyOf Try.f70)) Gok hm Try.func70 (by kernel_rfl) (by kernel_rfl) (by rw [e]; exact Lor.ok_nil _ _) ?_ h
  refine (main _ t.1 t.2.1 t.2.2).trans ?_
  refine congrArg (fun K => B t.1 t.2.1 t.2.2 K) ?_
  funext x1
  exact ofC_enc encRI some (x1)
theorem ac0 (t : ByteArray × ByteArray × Int) (x : Int) (h : F t.1 t.2.1 t.2.2 = some x) : AC Try.prog 70 (encA t) [] true [] fun rv obs => (rv, obs) = encR x := ACc.ac (body := bodyOf Try.f70) Try.func70 (by kernel_rfl) (by kernel_rfl) (acc t x h)
theorem ac (args : List AV) (x : Int) (h : Q args = some x) : AC Try.prog 70 args [] false [] fun rv obs => (rv, obs) = encR x := by
  obtain ⟨t, rfl, h2⟩ := ofC_some h
  refine (ac0 t x h2).flat fun rv obs e => ?_
  obtain rfl : rv = (encR x).1 := congrArg Prod.fst e
  obtain rfl : obs = (encR x).2 := congrArg Prod.snd e
  refine ⟨by simp [encR, AV.Flat, K.Flat, C.Flat], ?_⟩
  simp [encR]
end laws_szFile
/-! loop.example/g00073/laws.szFileS -/
namespace laws_szFileS
noncomputable def B0 {ρ : Type} (C_laws_szFile : ByteArray → ByteArray → Int → Option Int) (v1 : Vec (ByteArray × ByteArray)) (v2 : Int) (v3 : Int) (W : (Vec (ByteArray × ByteArray)) → Int → Int → Option ρ) (K0 : Int → Option ρ) (Kr : Int → Option ρ) : Option ρ :=
  sel (decide (v3 < (v1.n : Int))) (chk (decide (0 ≤ v3 ∧ v3 < (v1.n : Int))) ((C_laws_szFile ((v1.g v3.toNat).1) ((v1.g v3.toNat).2) v2).bind fun r1 => sel (decide (r1 < (0 : Int))) (Kr (-1 : Int)) (W v1 r1 (wr (v3 + (1 : Int)))))) (K0 v2)
noncomputable def F0 {ρ : Type} : Nat → (Vec (ByteArray × ByteArray)) → Int → Int → (Int → Option ρ) → (Int → Option ρ) → Option ρ
  | 0, _, _, _, _, _ => none
  | k + 1, v1, v2, v3, K0, Kr => B0 laws_szFile.F v1 v2 v3 (fun v1' v2' v3' => F0 k v1' v2' v3' K0 Kr) K0 Kr
noncomputable def B {ρ : Type} (L0 : (Vec (ByteArray × ByteArray)) → Int → Int → (Int → Option ρ) → (Int → Option ρ) → Option ρ) (a1 : Vec (ByteArray × ByteArray)) (a2 : Int) (K : Int → Option ρ) : Option ρ :=
  sel (decide ((wr (a2 - (a1.n : Int))) < (0 : Int))) (K (-1 : Int)) (L0 a1 (wr (a2 - (a1.n : Int))) (0 : Int) (fun e01 => K e01) (fun x01 => K x01))
noncomputable def F (a1 : Vec (ByteArray × ByteArray)) (a2 : Int) : Option Int := B (F0 fuelN) a1 a2 (fun x1 => some (x1))
def encA (t : (Vec (ByteArray × ByteArray)) × Int) : List AV := [.c (.n (.sl 2 (encRw t.1))), .c (.n (.v (.int .i64 t.2)))]
def encR (x : Int) : AV × List Ob := (.c (.n (.v (.int .i64 x))), [])
theorem encAI : ∀ a b, encA a = encA b → a = b := by
  intro a b h
  obtain ⟨a0, a1⟩ := a
  obtain ⟨b0, b1⟩ := b
  simp [encA, encRw_iff] at h
  simp_all
theorem encRI : ∀ a b, encR a = encR b → a = b := by
  intro a b h
  simp [encR, encRw_iff] at h
  simp_all
noncomputable def Q (args : List AV) : Option Int := ofC encA (fun t => F t.1 t.2) args
theorem wrap : (fun (y1 : Vec (ByteArray × ByteArray)) (y2 : Int) => Q [.c (.n (.sl 2 (encRw y1))), .c (.n (.v (.int .i64 y2)))]) = F := by
  funext y1 y2
  exact ofC_enc encAI _ (y1, y2)
noncomputable def G (q_laws_szFile : List AV → Option Int) : Orc := ⟨fun f => sel (Nat.beq f 70) 0 (9), fun ρ f args K => sel (Nat.beq f 70) (qEntry laws_szFile.encR q_laws_szFile args K) (Option.none), noE⟩
noncomputable def L (W0 : (ρ : Type) → List AV → List Ob → (Int → Option ρ) → (Int → Option ρ) → Option ρ) : Lor := fun ρ j st K => sel (Nat.beq j 0) (cutO Try.prog 27 [0, 1, 5] 0 [] [] st fun avs obs => W0 ρ avs obs (fun z1 => K (.exit 0) (mkS 27 [1] [.c (.n (.v (.int .i64 z1)))] [] [])) (fun z1 => K .ret (mkS 27 [4] [.c (.n (.v (.int .i64 z1)))] [] []))) (Option.none)
noncomputable def c0 : Code := loopC (atomN [] 0 (bodyOf Try.f45) 0)
def ct0 : Cut := ⟨[0, 1, 5], []⟩
def lv0 : Exit → Cut
  | .exit 0 => ⟨[1], []⟩
  | .ret => ⟨[4], []⟩
  | _ => ⟨[], []⟩
theorem step0 (q_laws_szFile : List AV → Option Int) (W0 : (ρ : Type) → List AV → List Ob → (Int → Option ρ) → (Int → Option ρ) → Option ρ) {ρ : Type} (K : Exit → St → Option ρ) (W : List AV → List Ob → Option ρ) (v1 : Vec (ByteArray × ByteArray)) (v2 : Int) (v3 : Int) : exC Try.prog (G q_laws_szFile) (L W0) [] 1 c0 (mkS 27 [0, 1, 5] [.c (.n (.sl 2 (encRw v1))), .c (.n (.v (.int .i64 v2))), .c (.n (.v (.int .i64 v3)))] [] []) (bodyK Try.prog 27 0 [] ct0 W lv0 K) =
    B0 (fun y1 y2 y3 => q_laws_szFile [.a [.n (.v (.string y1)), .n (.v (.string y2))], .c (.n (.v (.int .i64 y3)))]) v1 v2 v3 (fun u1 u2 u3 => W [.c (.n (.sl 2 (encRw u1))), .c (.n (.v (.int .i64 u2))), .c (.n (.v (.int .i64 u3)))] []) (fun z1 => K (.exit 0) (mkS 27 [1] [.c (.n (.v (.int .i64 z1)))] [] [])) (fun z1 => K .ret (mkS 27 [4] [.c (.n (.v (.int .i64 z1)))] [] [])) := by kernel_rfl
def enc0 (t : (Vec (ByteArray × ByteArray)) × Int × Int) : List AV × List Ob := ([.c (.n (.sl 2 (encRw t.1))), .c (.n (.v (.int .i64 t.2.1))), .c (.n (.v (.int .i64 t.2.2)))], [])
theorem enc0I : ∀ a b, enc0 a = enc0 b → a = b := by
  intro a b h
  obtain ⟨a0, a1, a2⟩ := a
  obtain ⟨b0, b1, b2⟩ := b
  simp [enc0, encRw_iff] at h
  simp_all
noncomputable def V0 : (ρ : Type) → List AV → List Ob → (Int → Option ρ) → (Int → Option ρ) → Option ρ := fun ρ avs obs k0 kr => ofC enc0 (fun t => F0 fuelN t.1 t.2.1 t.2.2 k0 kr) (avs, obs)
theorem V0_enc (ρ : Type) : (fun w1 w2 w3 k0 kr => V0 ρ [.c (.n (.sl 2 (encRw w1))), .c (.n (.v (.int .i64 w2))), .c (.n (.v (.int .i64 w3)))] [] k0 kr) = F0 fuelN := by
  funext w1 w2 w3 k0 kr
  exact ofC_enc enc0I _ (w1, w2, w3)
theorem main (q_laws_szFile : List AV → Option Int) (W0 : (ρ : Type) → List AV → List Ob → (Int → Option ρ) → (Int → Option ρ) → Option ρ) {ρ : Type} (K : AV → List Ob → Option ρ) (a1 : Vec (ByteArray × ByteArray)) (a2 : Int) : exC Try.prog (G q_laws_szFile) (L W0) [] 0 (bodyOf Try.f45) (entry 27 [.c (.n (.sl 2 (encRw a1))), .c (.n (.v (.int .i64 a2)))] [] []) (finO Try.prog Try.f45.results.toList 0 [] [] K) =
    B (fun w1 w2 w3 k0 kr => W0 ρ [.c (.n (.sl 2 (encRw w1))), .c (.n (.v (.int .i64 w2))), .c (.n (.v (.int .i64 w3)))] [] k0 kr) a1 a2 (fun x1 => K (.c (.n (.v (.int .i64 x1)))) []) := by kernel_rfl
theorem Gok : (G laws_szFile.Q).ok Try.prog := ⟨(by
    intro ρ f args K r h
    rcases sel_cases h with ⟨hb, h⟩ | ⟨-, h⟩
    · obtain rfl := beq_nat hb
      exact qEntry_ok laws_szFile.ac h
    cases h),
  (by
    intro ρ f args K
    simp only [G]
    cases Nat.beq f 70 with
    | true => exact qEntry_nat args K
    | false =>
    simp only [sel]
    rfl),
  (fun ρ f st caps args dst K r h => (by cases h))⟩
theorem hm : Try.prog.follows .mixedOrders = true := by kernel_rfl
theorem e0 : atomsL [] 1 c0 = [] := by kernel_rfl
theorem ok0 (ρ : Type) (st : St) (K : Exit → St → Option ρ) (r : ρ) (h : (L V0) ρ 0 st K = some r) : AW Try.prog (.loop c0) st fun e st' => K e st' = some r := by
  refine loop_ok (ct := ct0) (lv := lv0) (n := 27) (m := 0) (ks := []) (j := 0) (jn := []) (L := (L V0)) Gok hm (by rw [e0]; exact Lor.ok_nil _ _) enc0I (fun k t => F0 k t.1 t.2.1 t.2.2 (fun z1 => K (.exit 0) (mkS 27 [1] [.c (.n (.v (.int .i64 z1)))] [] [])) (fun z1 => K .ret (mkS 27 [4] [.c (.n (.v (.int .i64 z1)))] [] []))) (fun t => rfl) (fun k t => ?_) (fun _ => fuelN) h
  refine (step0 laws_szFile.Q V0 K _ t.1 t.2.1 t.2.2).trans ?_
  rw [laws_szFile.wrap]
  refine congrArg (fun W => B0 laws_szFile.F t.1 t.2.1 t.2.2 W (fun z1 => K (.exit 0) (mkS 27 [1] [.c (.n (.v (.int .i64 z1)))] [] [])) (fun z1 => K .ret (mkS 27 [4] [.c (.n (.v (.int .i64 z1)))] [] []))) ?_
  funext u1 u2 u3
  exact ofC_enc enc0I _ (u1, u2, u3)
theorem e : atomsL [] 0 (bodyOf Try.f45) = [(0, 0, .loop c0)] := by kernel_rfl
theorem acc (t : (Vec (ByteArray × ByteArray)) × Int) (x : Int) (h : F t.1 t.2 = some x) : ACc Try.prog 45 (encA t) [] true [] fun rv obs => (rv, obs) = encR x := by
  refine fun_okc (L := (L V0)) (jn := []) (cmds := []) (ks := []) (hin := []) (fn := Try.f45) (body := (bodyOf Try.f45)) Gok hm Try.func45 (by kernel_rfl) (by kernel_rfl) (by rw [e]; exact Lor.ok_cons ok0 (Lor.ok_nil _ _)) ?_ h
  refine (main laws_szFile.Q V0 _ t.1 t.2).trans ?_
  rw [V0_enc]
  refine congrArg (fun K => B (F0 fuelN) t.1 t.2 K) ?_
  funext x1
  exact ofC_enc encRI some (x1)
theorem ac0 (t : (Vec (ByteArray × ByteArray)) × Int) (x : Int) (h : F t.1 t.2 = some x) : AC Try.prog 45 (encA t) [] true [] fun rv obs => (rv, obs) = encR x := ACc.ac (body := bodyOf Try.f45) Try.func45 (by kernel_rfl) (by kernel_rfl) (acc t x h)
theorem ac (args : List AV) (x : Int) (h : Q args = some x) : AC Try.prog 45 args [] false [] fun rv obs => (rv, obs) = encR x := by
  obtain ⟨t, rfl, h2⟩ := ofC_some h
  refine (ac0 t x h2).flat fun rv obs e => ?_
  obtain rfl : rv = (encR x).1 := congrArg Prod.fst e
  obtain rfl : obs = (encR x).2 := congrArg Prod.snd e
  refine ⟨by simp [encR, AV.Flat, K.Flat, C.Flat], ?_⟩
  simp [encR]
end laws_szFileS
/-! loop.example/g00073/laws.szDisk -/
namespace laws_szDisk
noncomputable def B {ρ : Type} (C_laws_szFileS : (Vec (ByteArray × ByteArray)) → Int → Option Int) (a1 : Vec (ByteArray × ByteArray)) (a2 : Int) (K : Int → Option ρ) : Option ρ :=
  (C_laws_szFileS a1 a2).bind fun r1 => sel (decide (r1 < (0 : Int))) (K (-1 : Int)) (K r1)
noncomputable def F (a1 : Vec (ByteArray × ByteArray)) (a2 : Int) : Option Int := B laws_szFileS.F a1 a2 (fun x1 => some (x1))
def encA (t : (Vec (ByteArray × ByteArray)) × Int) : List AV := [.a [.n (.sl 2 (encRw t.1))], .c (.n (.v (.int .i64 t.2)))]
def encR (x : Int) : AV × List Ob := (.c (.n (.v (.int .i64 x))), [])
theorem encAI : ∀ a b, encA a = encA b → a = b := by
  intro a b h
  obtain ⟨a0, a1⟩ := a
  obtain ⟨b0, b1⟩ := b
  simp [encA, encRw_iff] at h
  simp_all
theorem encRI : ∀ a b, encR a = encR b → a = b := by
  intro a b h
  simp [encR, encRw_iff] at h
  simp_all
noncomputable def Q (args : List AV) : Option Int := ofC encA (fun t => F t.1 t.2) args
theorem wrap : (fun (y1 : Vec (ByteArray × ByteArray)) (y2 : Int) => Q [.a [.n (.sl 2 (encRw y1))], .c (.n (.v (.int .i64 y2)))]) = F := by
  funext y1 y2
  exact ofC_enc encAI _ (y1, y2)
noncomputable def G (q_laws_szFileS : List AV → Option Int) : Orc := ⟨fun f => sel (Nat.beq f 45) 0 (9), fun ρ f args K => sel (Nat.beq f 45) (qEntry laws_szFileS.encR q_laws_szFileS args K) (Option.none), noE⟩
noncomputable def L : Lor := fun ρ j st K => Option.none
theorem main (q_laws_szFileS : List AV → Option Int) {ρ : Type} (K : AV → List Ob → Option ρ) (a1 : Vec (ByteArray × ByteArray)) (a2 : Int) : exC Try.prog (G q_laws_szFileS) (L) [] 0 (bodyOf Try.f16) (entry 12 [.a [.n (.sl 2 (encRw a1))], .c (.n (.v (.int .i64 a2)))] [] []) (finO Try.prog Try.f16.results.toList 0 [] [] K) =
    B (fun y1 y2 => q_laws_szFileS [.c (.n (.sl 2 (encRw y1))), .c (.n (.v (.int .i64 y2)))]) a1 a2 (fun x1 => K (.c (.n (.v (.int .i64 x1)))) []) := by kernel_rfl
theorem Gok : (G laws_szFileS.Q).ok Try.prog := ⟨(by
    intro ρ f args K r h
    rcases sel_cases h with ⟨hb, h⟩ | ⟨-, h⟩
    · obtain rfl := beq_nat hb
      exact qEntry_ok laws_szFileS.ac h
    cases h),
  (by
    intro ρ f args K
    simp only [G]
    cases Nat.beq f 45 with
    | true => exact qEntry_nat args K
    | false =>
    simp only [sel]
    rfl),
  (fun ρ f st caps args dst K r h => (by cases h))⟩
theorem hm : Try.prog.follows .mixedOrders = true := by kernel_rfl
theorem e : atomsL [] 0 (bodyOf Try.f16) = [] := by kernel_rfl
theorem acc (t : (Vec (ByteArray × ByteArray)) × Int) (x : Int) (h : F t.1 t.2 = some x) : ACc Try.prog 16 (encA t) [] true [] fun rv obs => (rv, obs) = encR x := by
  refine fun_okc (L := (L)) (jn := []) (cmds := []) (ks := []) (hin := []) (fn := Try.f16) (body := (bodyOf Try.f16)) Gok hm Try.func16 (by kernel_rfl) (by kernel_rfl) (by rw [e]; exact Lor.ok_nil _ _) ?_ h
  refine (main laws_szFileS.Q _ t.1 t.2).trans ?_
  rw [laws_szFileS.wrap]
  refine congrArg (fun K => B laws_szFileS.F t.1 t.2 K) ?_
  funext x1
  exact ofC_enc encRI some (x1)
theorem ac0 (t : (Vec (ByteArray × ByteArray)) × Int) (x : Int) (h : F t.1 t.2 = some x) : AC Try.prog 16 (encA t) [] true [] fun rv obs => (rv, obs) = encR x := ACc.ac (body := bodyOf Try.f16) Try.func16 (by kernel_rfl) (by kernel_rfl) (acc t x h)
theorem ac (args : List AV) (x : Int) (h : Q args = some x) : AC Try.prog 16 args [] false [] fun rv obs => (rv, obs) = encR x := by
  obtain ⟨t, rfl, h2⟩ := ofC_some h
  refine (ac0 t x h2).flat fun rv obs e => ?_
  obtain rfl : rv = (encR x).1 := congrArg Prod.fst e
  obtain rfl : obs = (encR x).2 := congrArg Prod.snd e
  refine ⟨by simp [encR, AV.Flat, K.Flat, C.Flat], ?_⟩
  simp [encR]
end laws_szDisk
/-! loop.example/g00073/laws.szRaw -/
namespace laws_szRaw
noncomputable def B {ρ : Type} (a1 : Int) (a2 : ByteArray) (a3 : ByteArray) (a4 : ByteArray) (a5 : Int) (K : Int → Option ρ) : Option ρ :=
  sel (decide ((wr (a5 - (a2.size : Int))) < (0 : Int))) (K (-1 : Int)) (sel (decide ((wr ((wr (a5 - (a2.size : Int))) - (a3.size : Int))) < (0 : Int))) (K (-1 : Int)) (sel (decide ((wr ((wr ((wr (a5 - (a2.size : Int))) - (a3.size : Int))) - (a4.size : Int))) < (0 : Int))) (K (-1 : Int)) (K (wr ((wr ((wr (a5 - (a2.size : Int))) - (a3.size : Int))) - (a4.size : Int))))))
noncomputable def F (a1 : Int) (a2 : ByteArray) (a3 : ByteArray) (a4 : ByteArray) (a5 : Int) : Option Int := B a1 a2 a3 a4 a5 (fun x1 => some (x1))
def encA (t : Int × ByteArray × ByteArray × ByteArray × Int) : List AV := [.a [.n (.v (.int .i64 t.1)), .n (.v (.string t.2.1)), .n (.v (.string t.2.2.1)), .n (.v (.string t.2.2.2.1))], .c (.n (.v (.int .i64 t.2.2.2.2)))]
def encR (x : Int) : AV × List Ob := (.c (.n (.v (.int .i64 x))), [])
theorem encAI : ∀ a b, encA a = encA b → a = b := by
  intro a b h
  obtain ⟨a0, a1, a2, a3, a4⟩ := a
  obtain ⟨b0, b1, b2, b3, b4⟩ := b
  simp [encA, encRw_iff] at h
  simp_all
theorem encRI : ∀ a b, encR a = encR b → a = b := by
  intro a b h
  simp [encR, encRw_iff] at h
  simp_all
noncomputable def Q (args : List AV) : Option Int := ofC encA (fun t => F t.1 t.2.1 t.2.2.1 t.2.2.2.1 t.2.2.2.2) args
theorem wrap : (fun (y1 : Int) (y2 : ByteArray) (y3 : ByteArray) (y4 : ByteArray) (y5 : Int) => Q [.a [.n (.v (.int .i64 y1)), .n (.v (.string y2)), .n (.v (.string y3)), .n (.v (.string y4))], .c (.n (.v (.int .i64 y5)))]) = F := by
  funext y1 y2 y3 y4 y5
  exact ofC_enc encAI _ (y1, y2, y3, y4, y5)
noncomputable def G : Orc := ⟨fun f => 9, fun ρ f args K => Option.none, noE⟩
noncomputable def L : Lor := fun ρ j st K => Option.none
theorem main {ρ : Type} (K : AV → List Ob → Option ρ) (a1 : Int) (a2 : ByteArray) (a3 : ByteArray) (a4 : ByteArray) (a5 : Int) : exC Try.prog (G) (L) [] 0 (bodyOf Try.f17) (entry 27 [.a [.n (.v (.int .i64 a1)), .n (.v (.string a2)), .n (.v (.string a3)), .n (.v (.string a4))], .c (.n (.v (.int .i64 a5)))] [] []) (finO Try.prog Try.f17.results.toList 0 [] [] K) =
    B a1 a2 a3 a4 a5 (fun x1 => K (.c (.n (.v (.int .i64 x1)))) []) := by kernel_rfl
theorem Gok : (G).ok Try.prog := ⟨(fun ρ f args K r h => (by cases h)),
  (fun ρ f args K => rfl),
  (fun ρ f st caps args dst K r h => (by cases h))⟩
theorem hm : Try.prog.follows .mixedOrders = true := by kernel_rfl
theorem e : atomsL [] 0 (bodyOf Try.f17) = [] := by kernel_rfl
theorem acc (t : Int × ByteArray × ByteArray × ByteArray × Int) (x : Int) (h : F t.1 t.2.1 t.2.2.1 t.2.2.2.1 t.2.2.2.2 = some x) : ACc Try.prog 17 (encA t) [] true [] fun rv obs => (rv, obs) = encR x := by
  refine fun_okc (L := (L)) (jn := []) (cmds := []) (ks := []) (hin := []) (fn := Try.f17) (body := (bodyOf Try.f17)) Gok hm Try.func17 (by kernel_rfl) (by kernel_rfl) (by rw [e]; exact Lor.ok_nil _ _) ?_ h
  refine (main _ t.1 t.2.1 t.2.2.1 t.2.2.2.1 t.2.2.2.2).trans ?_
  refine congrArg (fun K => B t.1 t.2.1 t.2.2.1 t.2.2.2.1 t.2.2.2.2 K) ?_
  funext x1
  exact ofC_enc encRI some (x1)
theorem ac0 (t : Int × ByteArray × ByteArray × ByteArray × Int) (x : Int) (h : F t.1 t.2.1 t.2.2.1 t.2.2.2.1 t.2.2.2.2 = some x) : AC Try.prog 17 (encA t) [] true [] fun rv obs => (rv, obs) = encR x := ACc.ac (body := bodyOf Try.f17) Try.func17 (by kernel_rfl) (by kernel_rfl) (acc t x h)
theorem ac (args : List AV) (x : Int) (h : Q args = some x) : AC Try.prog 17 args [] false [] fun rv obs => (rv, obs) = encR x := by
  obtain ⟨t, rfl, h2⟩ := ofC_some h
  refine (ac0 t x h2).flat fun rv obs e => ?_
  obtain rfl : rv = (encR x).1 := congrArg Prod.fst e
  obtain rfl : obs = (encR x).2 := congrArg Prod.snd e
  refine ⟨by simp [encR, AV.Flat, K.Flat, C.Flat], ?_⟩
  simp [encR]
end laws_szRaw
/-! loop.example/g00073/laws.toFile -/
namespace laws_toFile
noncomputable def B {ρ : Type} (a1 : ByteArray) (a2 : ByteArray) (K : ByteArray → ByteArray → Option ρ) : Option ρ :=
  K a1 a2
noncomputable def F (a1 : ByteArray) (a2 : ByteArray) : Option (ByteArray × ByteArray) := B a1 a2 (fun x1 x2 => some (x1, x2))
def encA (t : ByteArray × ByteArray) : List AV := [.a [.n (.v (.string t.1)), .n (.v (.string t.2))]]
def encR (x : ByteArray × ByteArray) : AV × List Ob := (.a [.n (.v (.string x.1)), .n (.v (.string x.2))], [])
theorem encAI : ∀ a b, encA a = encA b → a = b := by
  intro a b h
  obtain ⟨a0, a1⟩ := a
  obtain ⟨b0, b1⟩ := b
  simp [encA, encRw_iff] at h
  simp_all
theorem encRI : ∀ a b, encR a = encR b → a = b := by
  intro a b h
  obtain ⟨a0, a1⟩ := a
  obtain ⟨b0, b1⟩ := b
  simp [encR, encRw_iff] at h
  simp_all
noncomputable def Q (args : List AV) : Option (ByteArray × ByteArray) := ofC encA (fun t => F t.1 t.2) args
theorem wrap : (fun (y1 : ByteArray) (y2 : ByteArray) => Q [.a [.n (.v (.string y1)), .n (.v (.string y2))]]) = F := by
  funext y1 y2
  exact ofC_enc encAI _ (y1, y2)
noncomputable def G : Orc := ⟨fun f => 9, fun ρ f args K => Option.none, noE⟩
noncomputable def L : Lor := fun ρ j st K => Option.none
theorem main {ρ : Type} (K : AV → List Ob → Option ρ) (a1 : ByteArray) (a2 : ByteArray) : exC Try.prog (G) (L) [] 0 (bodyOf Try.f71) (entry 11 [.a [.n (.v (.string a1)), .n (.v (.string a2))]] [] []) (finO Try.prog Try.f71.results.toList 0 [] [] K) =
    B a1 a2 (fun x1 x2 => K (.a [.n (.v (.string x1)), .n (.v (.string x2))]) []) := by kernel_rfl
theorem Gok : (G).ok Try.prog := ⟨(fun ρ f args K r h => (by cases h)),
  (fun ρ f args K => rfl),
  (fun ρ f st caps args dst K r h => (by cases h))⟩
theorem hm : Try.prog.follows .mixedOrders = true := by kernel_rfl
theorem e : atomsL [] 0 (bodyOf Try.f71) = [] := by kernel_rfl
theorem acc (t : ByteArray × ByteArray) (x : ByteArray × ByteArray) (h : F t.1 t.2 = some x) : ACc Try.prog 71 (encA t) [] true [] fun rv obs => (rv, obs) = encR x := by
  refine fun_okc (L := (L)) (jn := []) (cmds := []) (ks := []) (hin := []) (fn := Try.f71) (body := (bodyOf Try.f71)) Gok hm Try.func71 (by kernel_rfl) (by kernel_rfl) (by rw [e]; exact Lor.ok_nil _ _) ?_ h
  refine (main _ t.1 t.2).trans ?_
  refine congrArg (fun K => B t.1 t.2 K) ?_
  funext x1 x2
  exact ofC_enc encRI some (x1, x2)
theorem ac0 (t : ByteArray × ByteArray) (x : ByteArray × ByteArray) (h : F t.1 t.2 = some x) : AC Try.prog 71 (encA t) [] true [] fun rv obs => (rv, obs) = encR x := ACc.ac (body := bodyOf Try.f71) Try.func71 (by kernel_rfl) (by kernel_rfl) (acc t x h)
theorem ac (args : List AV) (x : ByteArray × ByteArray) (h : Q args = some x) : AC Try.prog 71 args [] false [] fun rv obs => (rv, obs) = encR x := by
  obtain ⟨t, rfl, h2⟩ := ofC_some h
  refine (ac0 t x h2).flat fun rv obs e => ?_
  obtain rfl : rv = (encR x).1 := congrArg Prod.fst e
  obtain rfl : obs = (encR x).2 := congrArg Prod.snd e
  refine ⟨by simp [encR, AV.Flat, K.Flat, C.Flat], ?_⟩
  simp [encR]
end laws_toFile
/-! loop.example/g00073/laws.toFileS -/
namespace laws_toFileS
noncomputable def B0 {ρ : Type} (C_laws_toFile : ByteArray → ByteArray → Option (ByteArray × ByteArray)) (v1 : Vec (ByteArray × ByteArray)) (v2 : Int) (v3 : Vec (ByteArray × ByteArray)) (W : (Vec (ByteArray × ByteArray)) → Int → (Vec (ByteArray × ByteArray)) → Option ρ) (K0 : (Vec (ByteArray × ByteArray)) → Option ρ) : Option ρ :=
  sel (decide (v2 < (v1.n : Int))) (chk (decide (0 ≤ v2 ∧ v2 < (v1.n : Int))) ((C_laws_toFile ((v1.g v2.toNat).1) ((v1.g v2.toNat).2)).bind fun r1 => chk (decide (0 ≤ v2 ∧ v2 < (v3.n : Int))) (chk (decide (v2.toNat < v3.n)) (W v1 (wr (v2 + (1 : Int))) (Vec.set v3 v2.toNat (r1.1, r1.2)))))) (K0 v3)
noncomputable def F0 {ρ : Type} : Nat → (Vec (ByteArray × ByteArray)) → Int → (Vec (ByteArray × ByteArray)) → ((Vec (ByteArray × ByteArray)) → Option ρ) → Option ρ
  | 0, _, _, _, _ => none
  | k + 1, v1, v2, v3, K0 => B0 laws_toFile.F v1 v2 v3 (fun v1' v2' v3' => F0 k v1' v2' v3' K0) K0
noncomputable def B {ρ : Type} (L0 : (Vec (ByteArray × ByteArray)) → Int → (Vec (ByteArray × ByteArray)) → ((Vec (ByteArray × ByteArray)) → Option ρ) → Option ρ) (a1 : Vec (ByteArray × ByteArray)) (K : (Vec (ByteArray × ByteArray)) → Option ρ) : Option ρ :=
  chk (decide ((a1.n : Int) = (a1.n : Int) ∧ 0 ≤ (a1.n : Int))) (chk (mkOk (a1.n : Int) 32) (L0 a1 (0 : Int) (Vec.rep ((a1.n : Int).toNat) (ByteArray.empty, ByteArray.empty) : Vec (ByteArray × ByteArray)) (fun e01 => K e01)))
noncomputable def F (a1 : Vec (ByteArray × ByteArray)) : Option (Vec (ByteArray × ByteArray)) := B (F0 fuelN) a1 (fun x1 => some (x1))
def encA (t : Vec (ByteArray × ByteArray)) : List AV := [.c (.n (.sl 2 (encRw t)))]
def encR (x : Vec (ByteArray × ByteArray)) : AV × List Ob := (.c (.h 0), [.row 2 (encRw x) []])
theorem encAI : ∀ a b, encA a = encA b → a = b := by
  intro a b h
  simp [encA, encRw_iff] at h
  simp_all
theorem encRI : ∀ a b, encR a = encR b → a = b := by
  intro a b h
  simp [encR, encRw_iff] at h
  simp_all
noncomputable def Q (args : List AV) : Option (Vec (ByteArray × ByteArray)) := ofC encA (fun t => F t) args
theorem wrap : (fun (y1 : Vec (ByteArray × ByteArray)) => Q [.c (.n (.sl 2 (encRw y1)))]) = F := by
  funext y1
  exact ofC_enc encAI _ (y1)
noncomputable def G (q_laws_toFile : List AV → Option (ByteArray × ByteArray)) : Orc := ⟨fun f => sel (Nat.beq f 71) 0 (9), fun ρ f args K => sel (Nat.beq f 71) (qEntry laws_toFile.encR q_laws_toFile args K) (Option.none), noE⟩
noncomputable def L (W0 : (ρ : Type) → List AV → List Ob → ((Vec (ByteArray × ByteArray)) → Option ρ) → Option ρ) : Lor := fun ρ j st K => sel (Nat.beq j 0) (cutO Try.prog 23 [0, 3, 4] 0 [] [] st fun avs obs => W0 ρ avs obs (fun z1 => K (.exit 0) (mkS 23 [3] [.c (.h 0)] [.row 2 (encRw z1) []] []))) (Option.none)
noncomputable def c0 : Code := loopC (atomN [] 0 (bodyOf Try.f51) 0)
def ct0 : Cut := ⟨[0, 3, 4], []⟩
def lv0 : Exit → Cut
  | .exit 0 => ⟨[3], []⟩
  | _ => ⟨[], []⟩
theorem step0 (q_laws_toFile : List AV → Option (ByteArray × ByteArray)) (W0 : (ρ : Type) → List AV → List Ob → ((Vec (ByteArray × ByteArray)) → Option ρ) → Option ρ) {ρ : Type} (K : Exit → St → Option ρ) (W : List AV → List Ob → Option ρ) (v1 : Vec (ByteArray × ByteArray)) (v2 : Int) (v3 : Vec (ByteArray × ByteArray)) : exC Try.prog (G q_laws_toFile) (L W0) [] 1 c0 (mkS 23 [0, 3, 4] [.c (.n (.sl 2 (encRw v1))), .c (.h 0), .c (.n (.v (.int .i64 v2)))] [.row 2 (encRw v3) []] []) (bodyK Try.prog 23 0 [] ct0 W lv0 K) =
    B0 (fun y1 y2 => q_laws_toFile [.a [.n (.v (.string y1)), .n (.v (.string y2))]]) v1 v2 v3 (fun u1 u2 u3 => W [.c (.n (.sl 2 (encRw u1))), .c (.h 0), .c (.n (.v (.int .i64 u2)))] [.row 2 (encRw u3) []]) (fun z1 => K (.exit 0) (mkS 23 [3] [.c (.h 0)] [.row 2 (encRw z1) []] [])) := by kernel_rfl
def enc0 (t : (Vec (ByteArray × ByteArray)) × Int × (Vec (ByteArray × ByteArray))) : List AV × List Ob := ([.c (.n (.sl 2 (encRw t.1))), .c (.h 0), .c (.n (.v (.int .i64 t.2.1)))], [.row 2 (encRw t.2.2) []])
theorem enc0I : ∀ a b, enc0 a = enc0 b → a = b := by
  intro a b h
  obtain ⟨a0, a1, a2⟩ := a
  obtain ⟨b0, b1, b2⟩ := b
  simp [enc0, encRw_iff] at h
  simp_all
noncomputable def V0 : (ρ : Type) → List AV → List Ob → ((Vec (ByteArray × ByteArray)) → Option ρ) → Option ρ := fun ρ avs obs k0 => ofC enc0 (fun t => F0 fuelN t.1 t.2.1 t.2.2 k0) (avs, obs)
theorem V0_enc (ρ : Type) : (fun w1 w2 w3 k0 => V0 ρ [.c (.n (.sl 2 (encRw w1))), .c (.h 0), .c (.n (.v (.int .i64 w2)))] [.row 2 (encRw w3) []] k0) = F0 fuelN := by
  funext w1 w2 w3 k0
  exact ofC_enc enc0I _ (w1, w2, w3)
theorem main (q_laws_toFile : List AV → Option (ByteArray × ByteArray)) (W0 : (ρ : Type) → List AV → List Ob → ((Vec (ByteArray × ByteArray)) → Option ρ) → Option ρ) {ρ : Type} (K : AV → List Ob → Option ρ) (a1 : Vec (ByteArray × ByteArray)) : exC Try.prog (G q_laws_toFile) (L W0) [] 0 (bodyOf Try.f51) (entry 23 [.c (.n (.sl 2 (encRw a1)))] [] []) (finO Try.prog Try.f51.results.toList 0 [] [] K) =
    B (fun w1 w2 w3 k0 => W0 ρ [.c (.n (.sl 2 (encRw w1))), .c (.h 0), .c (.n (.v (.int .i64 w2)))] [.row 2 (encRw w3) []] k0) a1 (fun x1 => K (.c (.h 0)) [.row 2 (encRw x1) []]) := by kernel_rfl
theorem Gok : (G laws_toFile.Q).ok Try.prog := ⟨(by
    intro ρ f args K r h
    rcases sel_cases h with ⟨hb, h⟩ | ⟨-, h⟩
    · obtain rfl := beq_nat hb
      exact qEntry_ok laws_toFile.ac h
    cases h),
  (by
    intro ρ f args K
    simp only [G]
    cases Nat.beq f 71 with
    | true => exact qEntry_nat args K
    | false =>
    simp only [sel]
    rfl),
  (fun ρ f st caps args dst K r h => (by cases h))⟩
theorem hm : Try.prog.follows .mixedOrders = true := by kernel_rfl
theorem e0 : atomsL [] 1 c0 = [] := by kernel_rfl
theorem ok0 (ρ : Type) (st : St) (K : Exit → St → Option ρ) (r : ρ) (h : (L V0) ρ 0 st K = some r) : AW Try.prog (.loop c0) st fun e st' => K e st' = some r := by
  refine loop_ok (ct := ct0) (lv := lv0) (n := 23) (m := 0) (ks := []) (j := 0) (jn := []) (L := (L V0)) Gok hm (by rw [e0]; exact Lor.ok_nil _ _) enc0I (fun k t => F0 k t.1 t.2.1 t.2.2 (fun z1 => K (.exit 0) (mkS 23 [3] [.c (.h 0)] [.row 2 (encRw z1) []] []))) (fun t => rfl) (fun k t => ?_) (fun _ => fuelN) h
  refine (step0 laws_toFile.Q V0 K _ t.1 t.2.1 t.2.2).trans ?_
  rw [laws_toFile.wrap]
  refine congrArg (fun W => B0 laws_toFile.F t.1 t.2.1 t.2.2 W (fun z1 => K (.exit 0) (mkS 23 [3] [.c (.h 0)] [.row 2 (encRw z1) []] []))) ?_
  funext u1 u2 u3
  exact ofC_enc enc0I _ (u1, u2, u3)
theorem e : atomsL [] 0 (bodyOf Try.f51) = [(0, 0, .loop c0)] := by kernel_rfl
theorem acc (t : Vec (ByteArray × ByteArray)) (x : Vec (ByteArray × ByteArray)) (h : F t = some x) : ACc Try.prog 51 (encA t) [] true [] fun rv obs => (rv, obs) = encR x := by
  refine fun_okc (L := (L V0)) (jn := []) (cmds := []) (ks := []) (hin := []) (fn := Try.f51) (body := (bodyOf Try.f51)) Gok hm Try.func51 (by kernel_rfl) (by kernel_rfl) (by rw [e]; exact Lor.ok_cons ok0 (Lor.ok_nil _ _)) ?_ h
  refine (main laws_toFile.Q V0 _ t).trans ?_
  rw [V0_enc]
  refine congrArg (fun K => B (F0 fuelN) t K) ?_
  funext x1
  exact ofC_enc encRI some (x1)
theorem ac0 (t : Vec (ByteArray × ByteArray)) (x : Vec (ByteArray × ByteArray)) (h : F t = some x) : AC Try.prog 51 (encA t) [] true [] fun rv obs => (rv, obs) = encR x := ACc.ac (body := bodyOf Try.f51) Try.func51 (by kernel_rfl) (by kernel_rfl) (acc t x h)
theorem ac (args : List AV) (x : Vec (ByteArray × ByteArray)) (h : Q args = some x) : AC Try.prog 51 args [] false [] fun rv obs => (rv, obs) = encR x := by
  obtain ⟨t, rfl, h2⟩ := ofC_some h
  refine (ac0 t x h2).flat fun rv obs e => ?_
  obtain rfl : rv = (encR x).1 := congrArg Prod.fst e
  obtain rfl : obs = (encR x).2 := congrArg Prod.snd e
  refine ⟨by simp [encR, AV.Flat, K.Flat, C.Flat], ?_⟩
  intro o ho
  simp only [encR, List.mem_cons, List.not_mem_nil, or_false] at ho
  subst ho
  exact flat_rw rfl _
end laws_toFileS
/-! loop.example/g00073/laws.toDisk -/
namespace laws_toDisk
noncomputable def B {ρ : Type} (C_laws_toFileS : (Vec (ByteArray × ByteArray)) → Option (Vec (ByteArray × ByteArray))) (a1 : Vec (ByteArray × ByteArray)) (K : (Vec (ByteArray × ByteArray)) → Option ρ) : Option ρ :=
  (C_laws_toFileS a1).bind fun r1 => K r1
noncomputable def F (a1 : Vec (ByteArray × ByteArray)) : Option (Vec (ByteArray × ByteArray)) := B laws_toFileS.F a1 (fun x1 => some (x1))
def encA (t : Vec (ByteArray × ByteArray)) : List AV := [.a [.n (.sl 2 (encRw t))]]
def encR (x : Vec (ByteArray × ByteArray)) : AV × List Ob := (.a [.h 0], [.row 2 (encRw x) []])
theorem encAI : ∀ a b, encA a = encA b → a = b := by
  intro a b h
  simp [encA, encRw_iff] at h
  simp_all
theorem encRI : ∀ a b, encR a = encR b → a = b := by
  intro a b h
  simp [encR, encRw_iff] at h
  simp_all
noncomputable def Q (args : List AV) : Option (Vec (ByteArray × ByteArray)) := ofC encA (fun t => F t) args
theorem wrap : (fun (y1 : Vec (ByteArray × ByteArray)) => Q [.a [.n (.sl 2 (encRw y1))]]) = F := by
  funext y1
  exact ofC_enc encAI _ (y1)
noncomputable def G (q_laws_toFileS : List AV → Option (Vec (ByteArray × ByteArray))) : Orc := ⟨fun f => sel (Nat.beq f 51) 0 (9), fun ρ f args K => sel (Nat.beq f 51) (qEntry laws_toFileS.encR q_laws_toFileS args K) (Option.none), noE⟩
noncomputable def L : Lor := fun ρ j st K => Option.none
theorem main (q_laws_toFileS : List AV → Option (Vec (ByteArray × ByteArray))) {ρ : Type} (K : AV → List Ob → Option ρ) (a1 : Vec (ByteArray × ByteArray)) : exC Try.prog (G q_laws_toFileS) (L) [] 0 (bodyOf Try.f19) (entry 9 [.a [.n (.sl 2 (encRw a1))]] [] []) (finO Try.prog Try.f19.results.toList 0 [] [] K) =
    B (fun y1 => q_laws_toFileS [.c (.n (.sl 2 (encRw y1)))]) a1 (fun x1 => K (.a [.h 0]) [.row 2 (encRw x1) []]) := by kernel_rfl
theorem Gok : (G laws_toFileS.Q).ok Try.prog := ⟨(by
    intro ρ f args K r h
    rcases sel_cases h with ⟨hb, h⟩ | ⟨-, h⟩
    · obtain rfl := beq_nat hb
      exact qEntry_ok laws_toFileS.ac h
    cases h),
  (by
    intro ρ f args K
    simp only [G]
    cases Nat.beq f 51 with
    | true => exact qEntry_nat args K
    | false =>
    simp only [sel]
    rfl),
  (fun ρ f st caps args dst K r h => (by cases h))⟩
theorem hm : Try.prog.follows .mixedOrders = true := by kernel_rfl
theorem e : atomsL [] 0 (bodyOf Try.f19) = [] := by kernel_rfl
theorem acc (t : Vec (ByteArray × ByteArray)) (x : Vec (ByteArray × ByteArray)) (h : F t = some x) : ACc Try.prog 19 (encA t) [] true [] fun rv obs => (rv, obs) = encR x := by
  refine fun_okc (L := (L)) (jn := []) (cmds := []) (ks := []) (hin := []) (fn := Try.f19) (body := (bodyOf Try.f19)) Gok hm Try.func19 (by kernel_rfl) (by kernel_rfl) (by rw [e]; exact Lor.ok_nil _ _) ?_ h
  refine (main laws_toFileS.Q _ t).trans ?_
  rw [laws_toFileS.wrap]
  refine congrArg (fun K => B laws_toFileS.F t K) ?_
  funext x1
  exact ofC_enc encRI some (x1)
theorem ac0 (t : Vec (ByteArray × ByteArray)) (x : Vec (ByteArray × ByteArray)) (h : F t = some x) : AC Try.prog 19 (encA t) [] true [] fun rv obs => (rv, obs) = encR x := ACc.ac (body := bodyOf Try.f19) Try.func19 (by kernel_rfl) (by kernel_rfl) (acc t x h)
theorem ac (args : List AV) (x : Vec (ByteArray × ByteArray)) (h : Q args = some x) : AC Try.prog 19 args [] false [] fun rv obs => (rv, obs) = encR x := by
  obtain ⟨t, rfl, h2⟩ := ofC_some h
  refine (ac0 t x h2).flat fun rv obs e => ?_
  obtain rfl : rv = (encR x).1 := congrArg Prod.fst e
  obtain rfl : obs = (encR x).2 := congrArg Prod.snd e
  refine ⟨by simp [encR, AV.Flat, K.Flat, C.Flat], ?_⟩
  intro o ho
  simp only [encR, List.mem_cons, List.not_mem_nil, or_false] at ho
  subst ho
  exact flat_rw rfl _
end laws_toDisk
/-! loop.example/g00073/laws.toRaw -/
namespace laws_toRaw
noncomputable def B {ρ : Type} (a1 : Int) (a2 : ByteArray) (a3 : ByteArray) (a4 : ByteArray) (K : Int → ByteArray → ByteArray → ByteArray → Option ρ) : Option ρ :=
  K a1 a2 a3 a4
noncomputable def F (a1 : Int) (a2 : ByteArray) (a3 : ByteArray) (a4 : ByteArray) : Option (Int × ByteArray × ByteArray × ByteArray) := B a1 a2 a3 a4 (fun x1 x2 x3 x4 => some (x1, x2, x3, x4))
def encA (t : Int × ByteArray × ByteArray × ByteArray) : List AV := [.a [.n (.v (.int .i64 t.1)), .n (.v (.string t.2.1)), .n (.v (.string t.2.2.1)), .n (.v (.string t.2.2.2))]]
def encR (x : Int × ByteArray × ByteArray × ByteArray) : AV × List Ob := (.a [.n (.v (.int .i64 x.1)), .n (.v (.string x.2.1)), .n (.v (.string x.2.2.1)), .n (.v (.string x.2.2.2))], [])
theorem encAI : ∀ a b, encA a = encA b → a = b := by
  intro a b h
  obtain ⟨a0, a1, a2, a3⟩ := a
  obtain ⟨b0, b1, b2, b3⟩ := b
  simp [encA, encRw_iff] at h
  simp_all
theorem encRI : ∀ a b, encR a = encR b → a = b := by
  intro a b h
  obtain ⟨a0, a1, a2, a3⟩ := a
  obtain ⟨b0, b1, b2, b3⟩ := b
  simp [encR, encRw_iff] at h
  simp_all
noncomputable def Q (args : List AV) : Option (Int × ByteArray × ByteArray × ByteArray) := ofC encA (fun t => F t.1 t.2.1 t.2.2.1 t.2.2.2) args
theorem wrap : (fun (y1 : Int) (y2 : ByteArray) (y3 : ByteArray) (y4 : ByteArray) => Q [.a [.n (.v (.int .i64 y1)), .n (.v (.string y2)), .n (.v (.string y3)), .n (.v (.string y4))]]) = F := by
  funext y1 y2 y3 y4
  exact ofC_enc encAI _ (y1, y2, y3, y4)
noncomputable def G : Orc := ⟨fun f => 9, fun ρ f args K => Option.none, noE⟩
noncomputable def L : Lor := fun ρ j st K => Option.none
theorem main {ρ : Type} (K : AV → List Ob → Option ρ) (a1 : Int) (a2 : ByteArray) (a3 : ByteArray) (a4 : ByteArray) : exC Try.prog (G) (L) [] 0 (bodyOf Try.f20) (entry 17 [.a [.n (.v (.int .i64 a1)), .n (.v (.string a2)), .n (.v (.string a3)), .n (.v (.string a4))]] [] []) (finO Try.prog Try.f20.results.toList 0 [] [] K) =
    B a1 a2 a3 a4 (fun x1 x2 x3 x4 => K (.a [.n (.v (.int .i64 x1)), .n (.v (.string x2)), .n (.v (.string x3)), .n (.v (.string x4))]) []) := by kernel_rfl
theorem Gok : (G).ok Try.prog := ⟨(fun ρ f args K r h => (by cases h)),
  (fun ρ f args K => rfl),
  (fun ρ f st caps args dst K r h => (by cases h))⟩
theorem hm : Try.prog.follows .mixedOrders = true := by kernel_rfl
theorem e : atomsL [] 0 (bodyOf Try.f20) = [] := by kernel_rfl
theorem acc (t : Int × ByteArray × ByteArray × ByteArray) (x : Int × ByteArray × ByteArray × ByteArray) (h : F t.1 t.2.1 t.2.2.1 t.2.2.2 = some x) : ACc Try.prog 20 (encA t) [] true [] fun rv obs => (rv, obs) = encR x := by
  refine fun_okc (L := (L)) (jn := []) (cmds := []) (ks := []) (hin := []) (fn := Try.f20) (body := (bodyOf Try.f20)) Gok hm Try.func20 (by kernel_rfl) (by kernel_rfl) (by rw [e]; exact Lor.ok_nil _ _) ?_ h
  refine (main _ t.1 t.2.1 t.2.2.1 t.2.2.2).trans ?_
  refine congrArg (fun K => B t.1 t.2.1 t.2.2.1 t.2.2.2 K) ?_
  funext x1 x2 x3 x4
  exact ofC_enc encRI some (x1, x2, x3, x4)
theorem ac0 (t : Int × ByteArray × ByteArray × ByteArray) (x : Int × ByteArray × ByteArray × ByteArray) (h : F t.1 t.2.1 t.2.2.1 t.2.2.2 = some x) : AC Try.prog 20 (encA t) [] true [] fun rv obs => (rv, obs) = encR x := ACc.ac (body := bodyOf Try.f20) Try.func20 (by kernel_rfl) (by kernel_rfl) (acc t x h)
theorem ac (args : List AV) (x : Int × ByteArray × ByteArray × ByteArray) (h : Q args = some x) : AC Try.prog 20 args [] false [] fun rv obs => (rv, obs) = encR x := by
  obtain ⟨t, rfl, h2⟩ := ofC_some h
  refine (ac0 t x h2).flat fun rv obs e => ?_
  obtain rfl : rv = (encR x).1 := congrArg Prod.fst e
  obtain rfl : obs = (encR x).2 := congrArg Prod.snd e
  refine ⟨by simp [encR, AV.Flat, K.Flat, C.Flat], ?_⟩
  simp [encR]
end laws_toRaw
/-! loop.example/g00073/spec.l16At -/
namespace spec_l16At
noncomputable def B0 {ρ : Type} (v1 : ByteArray) (v2 : Int) (v3 : Vec (ByteArray × ByteArray)) (W : ByteArray → Int → (Vec (ByteArray × ByteArray)) → Option ρ) (K0 : Unit → Option ρ) (Kr : Int → Option ρ) : Option ρ :=
  sel (decide (v2 < (v3.n : Int))) (chk (decide (0 ≤ v2 ∧ v2 < (v3.n : Int))) (sel (decide ((v3.g v2.toNat).1 = v1)) (Kr v2) (W v1 (wr (v2 + (1 : Int))) v3))) (K0 ())
noncomputable def F0 {ρ : Type} : Nat → ByteArray → Int → (Vec (ByteArray × ByteArray)) → (Unit → Option ρ) → (Int → Option ρ) → Option ρ
  | 0, _, _, _, _, _ => none
  | k + 1, v1, v2, v3, K0, Kr => B0 v1 v2 v3 (fun v1' v2' v3' => F0 k v1' v2' v3' K0 Kr) K0 Kr
noncomputable def B {ρ : Type} (L0 : ByteArray → Int → (Vec (ByteArray × ByteArray)) → (Unit → Option ρ) → (Int → Option ρ) → Option ρ) (a1 : Vec (ByteArray × ByteArray)) (a2 : ByteArray) (K : Int → Option ρ) : Option ρ :=
  L0 a2 (0 : Int) a1 (fun _ => K (-1 : Int)) (fun x01 => K x01)
noncomputable def F (a1 : Vec (ByteArray × ByteArray)) (a2 : ByteArray) : Option Int := B (F0 fuelN) a1 a2 (fun x1 => some (x1))
def encA (t : (Vec (ByteArray × ByteArray)) × ByteArray) : List AV := [.a [.n (.sl 2 (encRw t.1))], .c (.n (.v (.string t.2)))]
def encR (x : Int) : AV × List Ob := (.c (.n (.v (.int .i64 x))), [])
theorem encAI : ∀ a b, encA a = encA b → a = b := by
  intro a b h
  obtain ⟨a0, a1⟩ := a
  obtain ⟨b0, b1⟩ := b
  simp [encA, encRw_iff] at h
  simp_all
theorem encRI : ∀ a b, encR a = encR b → a = b := by
  intro a b h
  simp [encR, encRw_iff] at h
  simp_all
noncomputable def Q (args : List AV) : Option Int := ofC encA (fun t => F t.1 t.2) args
theorem wrap : (fun (y1 : Vec (ByteArray × ByteArray)) (y2 : ByteArray) => Q [.a [.n (.sl 2 (encRw y1))], .c (.n (.v (.string y2)))]) = F := by
  funext y1 y2
  exact ofC_enc encAI _ (y1, y2)
noncomputable def G : Orc := ⟨fun f => 9, fun ρ f args K => Option.none, noE⟩
noncomputable def L (W0 : (ρ : Type) → List AV → List Ob → (Unit → Option ρ) → (Int → Option ρ) → Option ρ) : Lor := fun ρ j st K => sel (Nat.beq j 0) (cutO Try.prog 22 [1, 2, 5] 0 [] [] st fun avs obs => W0 ρ avs obs (fun _ => K (.exit 0) (mkS 22 [] [] [] [])) (fun z1 => K .ret (mkS 22 [4] [.c (.n (.v (.int .i64 z1)))] [] []))) (Option.none)
noncomputable def c0 : Code := loopC (atomN [] 0 (bodyOf Try.f46) 0)
def ct0 : Cut := ⟨[1, 2, 5], []⟩
def lv0 : Exit → Cut
  | .exit 0 => ⟨[], []⟩
  | .ret => ⟨[4], []⟩
  | _ => ⟨[], []⟩
theorem step0 (W0 : (ρ : Type) → List AV → List Ob → (Unit → Option ρ) → (Int → Option ρ) → Option ρ) {ρ : Type} (K : Exit → St → Option ρ) (W : List AV → List Ob → Option ρ) (v1 : ByteArray) (v2 : Int) (v3 : Vec (ByteArray × ByteArray)) : exC Try.prog (G) (L W0) [] 1 c0 (mkS 22 [1, 2, 5] [.c (.n (.v (.string v1))), .c (.p 0 0), .c (.n (.v (.int .i64 v2)))] [.box [.n (.sl 2 (encRw v3))]] []) (bodyK Try.prog 22 0 [] ct0 W lv0 K) =
    B0 v1 v2 v3 (fun u1 u2 u3 => W [.c (.n (.v (.string u1))), .c (.p 0 0), .c (.n (.v (.int .i64 u2)))] [.box [.n (.sl 2 (encRw u3))]]) (fun _ => K (.exit 0) (mkS 22 [] [] [] [])) (fun z1 => K .ret (mkS 22 [4] [.c (.n (.v (.int .i64 z1)))] [] [])) := by kernel_rfl
def enc0 (t : ByteArray × Int × (Vec (ByteArray × ByteArray))) : List AV × List Ob := ([.c (.n (.v (.string t.1))), .c (.p 0 0), .c (.n (.v (.int .i64 t.2.1)))], [.box [.n (.sl 2 (encRw t.2.2))]])
theorem enc0I : ∀ a b, enc0 a = enc0 b → a = b := by
  intro a b h
  obtain ⟨a0, a1, a2⟩ := a
  obtain ⟨b0, b1, b2⟩ := b
  simp [enc0, encRw_iff] at h
  simp_all
noncomputable def V0 : (ρ : Type) → List AV → List Ob → (Unit → Option ρ) → (Int → Option ρ) → Option ρ := fun ρ avs obs k0 kr => ofC enc0 (fun t => F0 fuelN t.1 t.2.1 t.2.2 k0 kr) (avs, obs)
theorem V0_enc (ρ : Type) : (fun w1 w2 w3 k0 kr => V0 ρ [.c (.n (.v (.string w1))), .c (.p 0 0), .c (.n (.v (.int .i64 w2)))] [.box [.n (.sl 2 (encRw w3))]] k0 kr) = F0 fuelN := by
  funext w1 w2 w3 k0 kr
  exact ofC_enc enc0I _ (w1, w2, w3)
theorem main (W0 : (ρ : Type) → List AV → List Ob → (Unit → Option ρ) → (Int → Option ρ) → Option ρ) {ρ : Type} (K : AV → List Ob → Option ρ) (a1 : Vec (ByteArray × ByteArray)) (a2 : ByteArray) : exC Try.prog (G) (L W0) [] 0 (bodyOf Try.f46) (entry 22 [.a [.n (.sl 2 (encRw a1))], .c (.n (.v (.string a2)))] [] []) (finO Try.prog Try.f46.results.toList 0 [] [] K) =
    B (fun w1 w2 w3 k0 kr => W0 ρ [.c (.n (.v (.string w1))), .c (.p 0 0), .c (.n (.v (.int .i64 w2)))] [.box [.n (.sl 2 (encRw w3))]] k0 kr) a1 a2 (fun x1 => K (.c (.n (.v (.int .i64 x1)))) []) := by kernel_rfl
theorem Gok : (G).ok Try.prog := ⟨(fun ρ f args K r h => (by cases h)),
  (fun ρ f args K => rfl),
  (fun ρ f st caps args dst K r h => (by cases h))⟩
theorem hm : Try.prog.follows .mixedOrders = true := by kernel_rfl
theorem e0 : atomsL [] 1 c0 = [] := by kernel_rfl
theorem ok0 (ρ : Type) (st : St) (K : Exit → St → Option ρ) (r : ρ) (h : (L V0) ρ 0 st K = some r) : AW Try.prog (.loop c0) st fun e st' => K e st' = some r := by
  refine loop_ok (ct := ct0) (lv := lv0) (n := 22) (m := 0) (ks := []) (j := 0) (jn := []) (L := (L V0)) Gok hm (by rw [e0]; exact Lor.ok_nil _ _) enc0I (fun k t => F0 k t.1 t.2.1 t.2.2 (fun _ => K (.exit 0) (mkS 22 [] [] [] [])) (fun z1 => K .ret (mkS 22 [4] [.c (.n (.v (.int .i64 z1)))] [] []))) (fun t => rfl) (fun k t => ?_) (fun _ => fuelN) h
  refine (step0 V0 K _ t.1 t.2.1 t.2.2).trans ?_
  refine congrArg (fun W => B0 t.1 t.2.1 t.2.2 W (fun _ => K (.exit 0) (mkS 22 [] [] [] [])) (fun z1 => K .ret (mkS 22 [4] [.c (.n (.v (.int .i64 z1)))] [] []))) ?_
  funext u1 u2 u3
  exact ofC_enc enc0I _ (u1, u2, u3)
theorem e : atomsL [] 0 (bodyOf Try.f46) = [(0, 0, .loop c0)] := by kernel_rfl
theorem acc (t : (Vec (ByteArray × ByteArray)) × ByteArray) (x : Int) (h : F t.1 t.2 = some x) : ACc Try.prog 46 (encA t) [] true [] fun rv obs => (rv, obs) = encR x := by
  refine fun_okc (L := (L V0)) (jn := []) (cmds := []) (ks := []) (hin := []) (fn := Try.f46) (body := (bodyOf Try.f46)) Gok hm Try.func46 (by kernel_rfl) (by kernel_rfl) (by rw [e]; exact Lor.ok_cons ok0 (Lor.ok_nil _ _)) ?_ h
  refine (main V0 _ t.1 t.2).trans ?_
  rw [V0_enc]
  refine congrArg (fun K => B (F0 fuelN) t.1 t.2 K) ?_
  funext x1
  exact ofC_enc encRI some (x1)
theorem ac0 (t : (Vec (ByteArray × ByteArray)) × ByteArray) (x : Int) (h : F t.1 t.2 = some x) : AC Try.prog 46 (encA t) [] true [] fun rv obs => (rv, obs) = encR x := ACc.ac (body := bodyOf Try.f46) Try.func46 (by kernel_rfl) (by kernel_rfl) (acc t x h)
theorem ac (args : List AV) (x : Int) (h : Q args = some x) : AC Try.prog 46 args [] false [] fun rv obs => (rv, obs) = encR x := by
  obtain ⟨t, rfl, h2⟩ := ofC_some h
  refine (ac0 t x h2).flat fun rv obs e => ?_
  obtain rfl : rv = (encR x).1 := congrArg Prod.fst e
  obtain rfl : obs = (encR x).2 := congrArg Prod.snd e
  refine ⟨by simp [encR, AV.Flat, K.Flat, C.Flat], ?_⟩
  simp [encR]
end spec_l16At
/-! loop.example/g00073/spec.l01In -/
namespace spec_l01In
noncomputable def B {ρ : Type} (a1 : Int) (a2 : Int) (a3 : Int) (K : Bool → Option ρ) : Option ρ :=
  sel (decide (a2 ≤ a1)) (K (decide (a1 ≤ a3))) (K false)
noncomputable def F (a1 : Int) (a2 : Int) (a3 : Int) : Option Bool := B a1 a2 a3 (fun x1 => some (x1))
def encA (t : Int × Int × Int) : List AV := [.c (.n (.v (.int .i64 t.1))), .c (.n (.v (.int .i64 t.2.1))), .c (.n (.v (.int .i64 t.2.2)))]
def encR (x : Bool) : AV × List Ob := (.c (.n (.v (.bool x))), [])
theorem encAI : ∀ a b, encA a = encA b → a = b := by
  intro a b h
  obtain ⟨a0, a1, a2⟩ := a
  obtain ⟨b0, b1, b2⟩ := b
  simp [encA, encRw_iff] at h
  simp_all
theorem encRI : ∀ a b, encR a = encR b → a = b := by
  intro a b h
  simp [encR, encRw_iff] at h
  simp_all
noncomputable def Q (args : List AV) : Option Bool := ofC encA (fun t => F t.1 t.2.1 t.2.2) args
theorem wrap : (fun (y1 : Int) (y2 : Int) (y3 : Int) => Q [.c (.n (.v (.int .i64 y1))), .c (.n (.v (.int .i64 y2))), .c (.n (.v (.int .i64 y3)))]) = F := by
  funext y1 y2 y3
  exact ofC_enc encAI _ (y1, y2, y3)
noncomputable def G : Orc := ⟨fun f => 9, fun ρ f args K => Option.none, noE⟩
noncomputable def L : Lor := fun ρ j st K => Option.none
theorem main {ρ : Type} (K : AV → List Ob → Option ρ) (a1 : Int) (a2 : Int) (a3 : Int) : exC Try.prog (G) (L) [] 0 (bodyOf Try.f48) (entry 15 [.c (.n (.v (.int .i64 a1))), .c (.n (.v (.int .i64 a2))), .c (.n (.v (.int .i64 a3)))] [] []) (finO Try.prog Try.f48.results.toList 0 [] [] K) =
    B a1 a2 a3 (fun x1 => K (.c (.n (.v (.bool x1)))) []) := by kernel_rfl
theorem Gok : (G).ok Try.prog := ⟨(fun ρ f args K r h => (by cases h)),
  (fun ρ f args K => rfl),
  (fun ρ f st caps args dst K r h => (by cases h))⟩
theorem hm : Try.prog.follows .mixedOrders = true := by kernel_rfl
theorem e : atomsL [] 0 (bodyOf Try.f48) = [] := by kernel_rfl
theorem acc (t : Int × Int × Int) (x : Bool) (h : F t.1 t.2.1 t.2.2 = some x) : ACc Try.prog 48 (encA t) [] true [] fun rv obs => (rv, obs) = encR x := by
  refine fun_okc (L := (L)) (jn := []) (cmds := []) (ks := []) (hin := []) (fn := Try.f48) (body := (bodyOf Try.f48)) Gok hm Try.func48 (by kernel_rfl) (by kernel_rfl) (by rw [e]; exact Lor.ok_nil _ _) ?_ h
  refine (main _ t.1 t.2.1 t.2.2).trans ?_
  refine congrArg (fun K => B t.1 t.2.1 t.2.2 K) ?_
  funext x1
  exact ofC_enc encRI some (x1)
theorem ac0 (t : Int × Int × Int) (x : Bool) (h : F t.1 t.2.1 t.2.2 = some x) : AC Try.prog 48 (encA t) [] true [] fun rv obs => (rv, obs) = encR x := ACc.ac (body := bodyOf Try.f48) Try.func48 (by kernel_rfl) (by kernel_rfl) (acc t x h)
theorem ac (args : List AV) (x : Bool) (h : Q args = some x) : AC Try.prog 48 args [] false [] fun rv obs => (rv, obs) = encR x := by
  obtain ⟨t, rfl, h2⟩ := ofC_some h
  refine (ac0 t x h2).flat fun rv obs e => ?_
  obtain rfl : rv = (encR x).1 := congrArg Prod.fst e
  obtain rfl : obs = (encR x).2 := congrArg Prod.snd e
  refine ⟨by simp [encR, AV.Flat, K.Flat, C.Flat], ?_⟩
  simp [encR]
end spec_l01In
/-! loop.example/g00073/spec.DiskOk -/
namespace spec_DiskOk
noncomputable def B0 {ρ : Type} (C_spec_l01In : Int → Int → Int → Option Bool) (v1 : Int) (v2 : Vec (ByteArray × ByteArray)) (W : Int → (Vec (ByteArray × ByteArray)) → Option ρ) (K0 : Unit → Option ρ) (Kr : Bool → Option ρ) : Option ρ :=
  sel (decide (v1 < (v2.n : Int))) (chk (decide (0 ≤ v1 ∧ v1 < (v2.n : Int))) ((C_spec_l01In (((v2.g v1.toNat).1).size : Int) (1 : Int) (24 : Int)).bind fun r1 => sel ((!r1)) (Kr false) (chk (decide (0 ≤ v1 ∧ v1 < (v2.n : Int))) (sel (decide ((60004 : Int) < (((v2.g v1.toNat).2).size : Int))) (Kr false) (sel (decide ((0 : Int) < v1)) (chk (decide (0 ≤ (wr (v1 - (1 : Int))) ∧ (wr (v1 - (1 : Int))) < (v2.n : Int))) (chk (decide (0 ≤ v1 ∧ v1 < (v2.n : Int))) (sel ((!decide (((v2.g (wr (v1 - (1 : Int))).toNat).1).toList < ((v2.g v1.toNat).1).toList))) (Kr false) (W (wr (v1 + (1 : Int))) v2)))) (W (wr (v1 + (1 : Int))) v2)))))) (K0 ())
noncomputable def F0 {ρ : Type} : Nat → Int → (Vec (ByteArray × ByteArray)) → (Unit → Option ρ) → (Bool → Option ρ) → Option ρ
  | 0, _, _, _, _ => none
  | k + 1, v1, v2, K0, Kr => B0 spec_l01In.F v1 v2 (fun v1' v2' => F0 k v1' v2' K0 Kr) K0 Kr
noncomputable def B {ρ : Type} (L0 : Int → (Vec (ByteArray × ByteArray)) → (Unit → Option ρ) → (Bool → Option ρ) → Option ρ) (a1 : Vec (ByteArray × ByteArray)) (K : Bool → Option ρ) : Option ρ :=
  sel (decide ((40 : Int) < (a1.n : Int))) (K false) (L0 (0 : Int) a1 (fun _ => K true) (fun x01 => K x01))
noncomputable def F (a1 : Vec (ByteArray × ByteArray)) : Option Bool := B (F0 fuelN) a1 (fun x1 => some (x1))
def encA (t : Vec (ByteArray × ByteArray)) : List AV := [.a [.n (.sl 2 (encRw t))]]
def encR (x : Bool) : AV × List Ob := (.c (.n (.v (.bool x))), [])
theorem encAI : ∀ a b, encA a = encA b → a = b := by
  intro a b h
  simp [encA, encRw_iff] at h
  simp_all
theorem encRI : ∀ a b, encR a = encR b → a = b := by
  intro a b h
  simp [encR, encRw_iff] at h
  simp_all
noncomputable def Q (args : List AV) : Option Bool := ofC encA (fun t => F t) args
theorem wrap : (fun (y1 : Vec (ByteArray × ByteArray)) => Q [.a [.n (.sl 2 (encRw y1))]]) = F := by
  funext y1
  exact ofC_enc encAI _ (y1)
noncomputable def G (q_spec_l01In : List AV → Option Bool) : Orc := ⟨fun f => sel (Nat.beq f 48) 0 (9), fun ρ f args K => sel (Nat.beq f 48) (qEntry spec_l01In.encR q_spec_l01In args K) (Option.none), noE⟩
noncomputable def L (W0 : (ρ : Type) → List AV → List Ob → (Unit → Option ρ) → (Bool → Option ρ) → Option ρ) : Lor := fun ρ j st K => sel (Nat.beq j 0) (cutO Try.prog 54 [1, 3] 0 [] [] st fun avs obs => W0 ρ avs obs (fun _ => K (.exit 0) (mkS 54 [] [] [] [])) (fun z1 => K .ret (mkS 54 [2] [.c (.n (.v (.bool z1)))] [] []))) (Option.none)
noncomputable def c0 : Code := loopC (atomN [] 0 (bodyOf Try.f47) 0)
def ct0 : Cut := ⟨[1, 3], []⟩
def lv0 : Exit → Cut
  | .exit 0 => ⟨[], []⟩
  | .ret => ⟨[2], []⟩
  | _ => ⟨[], []⟩
theorem step0 (q_spec_l01In : List AV → Option Bool) (W0 : (ρ : Type) → List AV → List Ob → (Unit → Option ρ) → (Bool → Option ρ) → Option ρ) {ρ : Type} (K : Exit → St → Option ρ) (W : List AV → List Ob → Option ρ) (v1 : Int) (v2 : Vec (ByteArray × ByteArray)) : exC Try.prog (G q_spec_l01In) (L W0) [] 1 c0 (mkS 54 [1, 3] [.c (.p 0 0), .c (.n (.v (.int .i64 v1)))] [.box [.n (.sl 2 (encRw v2))]] []) (bodyK Try.prog 54 0 [] ct0 W lv0 K) =
    B0 (fun y1 y2 y3 => q_spec_l01In [.c (.n (.v (.int .i64 y1))), .c (.n (.v (.int .i64 y2))), .c (.n (.v (.int .i64 y3)))]) v1 v2 (fun u1 u2 => W [.c (.p 0 0), .c (.n (.v (.int .i64 u1)))] [.box [.n (.sl 2 (encRw u2))]]) (fun _ => K (.exit 0) (mkS 54 [] [] [] [])) (fun z1 => K .ret (mkS 54 [2] [.c (.n (.v (.bool z1)))] [] [])) := by kernel_rfl
def enc0 (t : Int × (Vec (ByteArray × ByteArray))) : List AV × List Ob := ([.c (.p 0 0), .c (.n (.v (.int .i64 t.1)))], [.box [.n (.sl 2 (encRw t.2))]])
theorem enc0I : ∀ a b, enc0 a = enc0 b → a = b := by
  intro a b h
  obtain ⟨a0, a1⟩ := a
  obtain ⟨b0, b1⟩ := b
  simp [enc0, encRw_iff] at h
  simp_all
noncomputable def V0 : (ρ : Type) → List AV → List Ob → (Unit → Option ρ) → (Bool → Option ρ) → Option ρ := fun ρ avs obs k0 kr => ofC enc0 (fun t => F0 fuelN t.1 t.2 k0 kr) (avs, obs)
theorem V0_enc (ρ : Type) : (fun w1 w2 k0 kr => V0 ρ [.c (.p 0 0), .c (.n (.v (.int .i64 w1)))] [.box [.n (.sl 2 (encRw w2))]] k0 kr) = F0 fuelN := by
  funext w1 w2 k0 kr
  exact ofC_enc enc0I _ (w1, w2)
theorem main (q_spec_l01In : List AV → Option Bool) (W0 : (ρ : Type) → List AV → List Ob → (Unit → Option ρ) → (Bool → Option ρ) → Option ρ) {ρ : Type} (K : AV → List Ob → Option ρ) (a1 : Vec (ByteArray × ByteArray)) : exC Try.prog (G q_spec_l01In) (L W0) [] 0 (bodyOf Try.f47) (entry 54 [.a [.n (.sl 2 (encRw a1))]] [] []) (finO Try.prog Try.f47.results.toList 0 [] [] K) =
    B (fun w1 w2 k0 kr => W0 ρ [.c (.p 0 0), .c (.n (.v (.int .i64 w1)))] [.box [.n (.sl 2 (encRw w2))]] k0 kr) a1 (fun x1 => K (.c (.n (.v (.bool x1)))) []) := by kernel_rfl
theorem Gok : (G spec_l01In.Q).ok Try.prog := ⟨(by
    intro ρ f args K r h
    rcases sel_cases h with ⟨hb, h⟩ | ⟨-, h⟩
    · obtain rfl := beq_nat hb
      exact qEntry_ok spec_l01In.ac h
    cases h),
  (by
    intro ρ f args K
    simp only [G]
    cases Nat.beq f 48 with
    | true => exact qEntry_nat args K
    | false =>
    simp only [sel]
    rfl),
  (fun ρ f st caps args dst K r h => (by cases h))⟩
theorem hm : Try.prog.follows .mixedOrders = true := by kernel_rfl
theorem e0 : atomsL [] 1 c0 = [] := by kernel_rfl
theorem ok0 (ρ : Type) (st : St) (K : Exit → St → Option ρ) (r : ρ) (h : (L V0) ρ 0 st K = some r) : AW Try.prog (.loop c0) st fun e st' => K e st' = some r := by
  refine loop_ok (ct := ct0) (lv := lv0) (n := 54) (m := 0) (ks := []) (j := 0) (jn := []) (L := (L V0)) Gok hm (by rw [e0]; exact Lor.ok_nil _ _) enc0I (fun k t => F0 k t.1 t.2 (fun _ => K (.exit 0) (mkS 54 [] [] [] [])) (fun z1 => K .ret (mkS 54 [2] [.c (.n (.v (.bool z1)))] [] []))) (fun t => rfl) (fun k t => ?_) (fun _ => fuelN) h
  refine (step0 spec_l01In.Q V0 K _ t.1 t.2).trans ?_
  rw [spec_l01In.wrap]
  refine congrArg (fun W => B0 spec_l01In.F t.1 t.2 W (fun _ => K (.exit 0) (mkS 54 [] [] [] [])) (fun z1 => K .ret (mkS 54 [2] [.c (.n (.v (.bool z1)))] [] []))) ?_
  funext u1 u2
  exact ofC_enc enc0I _ (u1, u2)
theorem e : atomsL [] 0 (bodyOf Try.f47) = [(0, 0, .loop c0)] := by kernel_rfl
theorem acc (t : Vec (ByteArray × ByteArray)) (x : Bool) (h : F t = some x) : ACc Try.prog 47 (encA t) [] true [] fun rv obs => (rv, obs) = encR x := by
  refine fun_okc (L := (L V0)) (jn := []) (cmds := []) (ks := []) (hin := []) (fn := Try.f47) (body := (bodyOf Try.f47)) Gok hm Try.func47 (by kernel_rfl) (by kernel_rfl) (by rw [e]; exact Lor.ok_cons ok0 (Lor.ok_nil _ _)) ?_ h
  refine (main spec_l01In.Q V0 _ t).trans ?_
  rw [V0_enc]
  refine congrArg (fun K => B (F0 fuelN) t K) ?_
  funext x1
  exact ofC_enc encRI some (x1)
theorem ac0 (t : Vec (ByteArray × ByteArray)) (x : Bool) (h : F t = some x) : AC Try.prog 47 (encA t) [] true [] fun rv obs => (rv, obs) = encR x := ACc.ac (body := bodyOf Try.f47) Try.func47 (by kernel_rfl) (by kernel_rfl) (acc t x h)
theorem ac (args : List AV) (x : Bool) (h : Q args = some x) : AC Try.prog 47 args [] false [] fun rv obs => (rv, obs) = encR x := by
  obtain ⟨t, rfl, h2⟩ := ofC_some h
  refine (ac0 t x h2).flat fun rv obs e => ?_
  obtain rfl : rv = (encR x).1 := congrArg Prod.fst e
  obtain rfl : obs = (encR x).2 := congrArg Prod.snd e
  refine ⟨by simp [encR, AV.Flat, K.Flat, C.Flat], ?_⟩
  simp [encR]
end spec_DiskOk
/-! loop.example/g00073/spec.l16Put -/
namespace spec_l16Put
noncomputable def B1 {ρ : Type} (v1 : Int) (v2 : Vec (ByteArray × ByteArray)) (v3 : ByteArray) (v4 : ByteArray) (v5 : Vec (ByteArray × ByteArray)) (W : Int → (Vec (ByteArray × ByteArray)) → ByteArray → ByteArray → (Vec (ByteArray × ByteArray)) → Option ρ) (K2 : (Vec (ByteArray × ByteArray)) → Option ρ) : Option ρ :=
  sel (decide (v1 < (v2.n : Int))) (chk (decide (0 ≤ v1 ∧ v1 < (v2.n : Int))) (sel (decide (v3.toList < ((v2.g v1.toNat).1).toList)) (chk (decide (0 ≤ v1 ∧ v1 < (v2.n : Int))) (chk (decide ((v5.n + (Vec.lit [((v2.g v1.toNat).1, (v2.g v1.toNat).2)] : Vec (ByteArray × ByteArray)).n) * 33 ≤ maxN)) (W (wr (v1 + (1 : Int))) v2 v3 v4 (Vec.app v5 (Vec.lit [((v2.g v1.toNat).1, (v2.g v1.toNat).2)] : Vec (ByteArray × ByteArray)))))) (W (wr (v1 + (1 : Int))) v2 v3 v4 v5))) (K2 v5)
noncomputable def F1 {ρ : Type} : Nat → Int → (Vec (ByteArray × ByteArray)) → ByteArray → ByteArray → (Vec (ByteArray × ByteArray)) → ((Vec (ByteArray × ByteArray)) → Option ρ) → Option ρ
  | 0, _, _, _, _, _, _ => none
  | k + 1, v1, v2, v3, v4, v5, K2 => B1 v1 v2 v3 v4 v5 (fun v1' v2' v3' v4' v5' => F1 k v1' v2' v3' v4' v5' K2) K2
noncomputable def B0 {ρ : Type} (v1 : Int) (v2 : Vec (ByteArray × ByteArray)) (v3 : ByteArray) (v4 : ByteArray) (v5 : Vec (ByteArray × ByteArray)) (W : Int → (Vec (ByteArray × ByteArray)) → ByteArray → ByteArray → (Vec (ByteArray × ByteArray)) → Option ρ) (K0 : (Vec (ByteArray × ByteArray)) → ByteArray → ByteArray → (Vec (ByteArray × ByteArray)) → Option ρ) : Option ρ :=
  sel (decide (v1 < (v2.n : Int))) (chk (decide (0 ≤ v1 ∧ v1 < (v2.n : Int))) (sel (decide (((v2.g v1.toNat).1).toList < v3.toList)) (chk (decide (0 ≤ v1 ∧ v1 < (v2.n : Int))) (chk (decide ((v5.n + (Vec.lit [((v2.g v1.toNat).1, (v2.g v1.toNat).2)] : Vec (ByteArray × ByteArray)).n) * 33 ≤ maxN)) (W (wr (v1 + (1 : Int))) v2 v3 v4 (Vec.app v5 (Vec.lit [((v2.g v1.toNat).1, (v2.g v1.toNat).2)] : Vec (ByteArray × ByteArray)))))) (W (wr (v1 + (1 : Int))) v2 v3 v4 v5))) (K0 v2 v3 v4 v5)
noncomputable def F0 {ρ : Type} : Nat → Int → (Vec (ByteArray × ByteArray)) → ByteArray → ByteArray → (Vec (ByteArray × ByteArray)) → ((Vec (ByteArray × ByteArray)) → ByteArray → ByteArray → (Vec (ByteArray × ByteArray)) → Option ρ) → Option ρ
  | 0, _, _, _, _, _, _ => none
  | k + 1, v1, v2, v3, v4, v5, K0 => B0 v1 v2 v3 v4 v5 (fun v1' v2' v3' v4' v5' => F0 k v1' v2' v3' v4' v5' K0) K0
noncomputable def B {ρ : Type} (L0 : Int → (Vec (ByteArray × ByteArray)) → ByteArray → ByteArray → (Vec (ByteArray × ByteArray)) → ((Vec (ByteArray × ByteArray)) → ByteArray → ByteArray → (Vec (ByteArray × ByteArray)) → Option ρ) → Option ρ) (L1 : Int → (Vec (ByteArray × ByteArray)) → ByteArray → ByteArray → (Vec (ByteArray × ByteArray)) → ((Vec (ByteArray × ByteArray)) → Option ρ) → Option ρ) (a1 : Vec (ByteArray × ByteArray)) (a2 : ByteArray) (a3 : ByteArray) (K : (Vec (ByteArray × ByteArray)) → Option ρ) : Option ρ :=
  L0 (0 : Int) a1 a2 a3 (Vec.nil : Vec (ByteArray × ByteArray)) (fun e01 e02 e03 e04 => chk (decide ((e04.n + (Vec.lit [(e02, e03)] : Vec (ByteArray × ByteArray)).n) * 33 ≤ maxN)) (L1 (0 : Int) e01 e02 e03 (Vec.app e04 (Vec.lit [(e02, e03)] : Vec (ByteArray × ByteArray))) (fun e11 => K e11)))
noncomputable def F (a1 : Vec (ByteArray × ByteArray)) (a2 : ByteArray) (a3 : ByteArray) : Option (Vec (ByteArray × ByteArray)) := B (F0 fuelN) (F1 fuelN) a1 a2 a3 (fun x1 => some (x1))
def encA (t : (Vec (ByteArray × ByteArray)) × ByteArray × ByteArray) : List AV := [.a [.n (.sl 2 (encRw t.1))], .a [.n (.v (.string t.2.1)), .n (.v (.string t.2.2))]]
def encR (x : Vec (ByteArray × ByteArray)) : AV × List Ob := (.a [.h 0], [.row 2 (encRw x) []])
theorem encAI : ∀ a b, encA a = encA b → a = b := by
  intro a b h
  obtain ⟨a0, a1, a2⟩ := a
  obtain ⟨b0, b1, b2⟩ := b
  simp [encA, encRw_iff] at h
  simp_all
theorem encRI : ∀ a b, encR a = encR b → a = b := by
  intro a b h
  simp [encR, encRw_iff] at h
  simp_all
noncomputable def Q (args : List AV) : Option (Vec (ByteArray × ByteArray)) := ofC encA (fun t => F t.1 t.2.1 t.2.2) args
theorem wrap : (fun (y1 : Vec (ByteArray × ByteArray)) (y2 : ByteArray) (y3 : ByteArray) => Q [.a [.n (.sl 2 (encRw y1))], .a [.n (.v (.string y2)), .n (.v (.string y3))]]) = F := by
  funext y1 y2 y3
  exact ofC_enc encAI _ (y1, y2, y3)
noncomputable def G : Orc := ⟨fun f => 9, fun ρ f args K => Option.none, noE⟩
noncomputable def L (W1 : (ρ : Type) → List AV → List Ob → ((Vec (ByteArray × ByteArray)) → Option ρ) → Option ρ) (W0 : (ρ : Type) → List AV → List Ob → ((Vec (ByteArray × ByteArray)) → ByteArray → ByteArray → (Vec (ByteArray × ByteArray)) → Option ρ) → Option ρ) : Lor := fun ρ j st K => sel (Nat.beq j 0) (cutO Try.prog 68 [2, 3, 4, 5, 6] 0 [] [.ad (.p 5 0) 38] st fun avs obs => W0 ρ avs obs (fun z1 z2 z3 z4 => K (.exit 0) (mkS 68 [2, 3, 4, 5] [.c (.p 0 0), .c (.p 1 0), .c (.p 2 0), .c (.p 3 0)] [.box [.n (.sl 2 (encRw z1))], .box [.n (.v (.string z2)), .n (.v (.string z3))], .box [.z], .box [.h 4], .row 2 (encRw z4) []] []))) (sel (Nat.beq j 1) (cutO Try.prog 68 [2, 3, 4, 5, 7] 0 [] [] st fun avs obs => W1 ρ avs obs (fun z1 => K (.exit 2) (mkS 68 [4, 5] [.c (.p 0 0), .c (.p 1 0)] [.box [.z], .box [.h 2], .row 2 (encRw z1) []] []))) (Option.none))
noncomputable def c0 : Code := loopC (atomN [] 0 (bodyOf Try.f49) 0)
noncomputable def c1 : Code := loopC (atomN [] 0 (bodyOf Try.f49) 1)
def ct0 : Cut := ⟨[2, 3, 4, 5, 6], [.ad (.p 5 0) 38]⟩
def lv0 : Exit → Cut
  | .exit 0 => ⟨[2, 3, 4, 5], []⟩
  | _ => ⟨[], []⟩
theorem step0 (W1 : (ρ : Type) → List AV → List Ob → ((Vec (ByteArray × ByteArray)) → Option ρ) → Option ρ) (W0 : (ρ : Type) → List AV → List Ob → ((Vec (ByteArray × ByteArray)) → ByteArray → ByteArray → (Vec (ByteArray × ByteArray)) → Option ρ) → Option ρ) {ρ : Type} (K : Exit → St → Option ρ) (W : List AV → List Ob → Option ρ) (v1 : Int) (v2 : Vec (ByteArray × ByteArray)) (v3 : ByteArray) (v4 : ByteArray) (v5 : Vec (ByteArray × ByteArray)) : exC Try.prog (G) (L W1 W0) [] 1 c0 (mkS 68 [2, 3, 4, 5, 6] [.c (.p 0 0), .c (.p 1 0), .c (.p 2 0), .c (.p 3 0), .c (.n (.v (.int .i64 v1)))] [.box [.n (.sl 2 (encRw v2))], .box [.n (.v (.string v3)), .n (.v (.string v4))], .box [.z], .box [.h 4], .row 2 (encRw v5) []] []) (bodyK Try.prog 68 0 [] ct0 W lv0 K) =
    B0 v1 v2 v3 v4 v5 (fun u1 u2 u3 u4 u5 => W [.c (.p 0 0), .c (.p 1 0), .c (.p 2 0), .c (.p 3 0), .c (.n (.v (.int .i64 u1)))] [.box [.n (.sl 2 (encRw u2))], .box [.n (.v (.string u3)), .n (.v (.string u4))], .box [.z], .box [.h 4], .row 2 (encRw u5) []]) (fun z1 z2 z3 z4 => K (.exit 0) (mkS 68 [2, 3, 4, 5] [.c (.p 0 0), .c (.p 1 0), .c (.p 2 0), .c (.p 3 0)] [.box [.n (.sl 2 (encRw z1))], .box [.n (.v (.string z2)), .n (.v (.string z3))], .box [.z], .box [.h 4], .row 2 (encRw z4) []] [])) := by kernel_rfl
def enc0 (t : Int × (Vec (ByteArray × ByteArray)) × ByteArray × ByteArray × (Vec (ByteArray × ByteArray))) : List AV × List Ob := ([.c (.p 0 0), .c (.p 1 0), .c (.p 2 0), .c (.p 3 0), .c (.n (.v (.int .i64 t.1)))], [.box [.n (.sl 2 (encRw t.2.1))], .box [.n (.v (.string t.2.2.1)), .n (.v (.string t.2.2.2.1))], .box [.z], .box [.h 4], .row 2 (encRw t.2.2.2.2) []])
theorem enc0I : ∀ a b, enc0 a = enc0 b → a = b := by
  intro a b h
  obtain ⟨a0, a1, a2, a3, a4⟩ := a
  obtain ⟨b0, b1, b2, b3, b4⟩ := b
  simp [enc0, encRw_iff] at h
  simp_all
noncomputable def V0 : (ρ : Type) → List AV → List Ob → ((Vec (ByteArray × ByteArray)) → ByteArray → ByteArray → (Vec (ByteArray × ByteArray)) → Option ρ) → Option ρ := fun ρ avs obs k0 => ofC enc0 (fun t => F0 fuelN t.1 t.2.1 t.2.2.1 t.2.2.2.1 t.2.2.2.2 k0) (avs, obs)
theorem V0_enc (ρ : Type) : (fun w1 w2 w3 w4 w5 k0 => V0 ρ [.c (.p 0 0), .c (.p 1 0), .c (.p 2 0), .c (.p 3 0), .c (.n (.v (.int .i64 w1)))] [.box [.n (.sl 2 (encRw w2))], .box [.n (.v (.string w3)), .n (.v (.string w4))], .box [.z], .box [.h 4], .row 2 (encRw w5) []] k0) = F0 fuelN := by
  funext w1 w2 w3 w4 w5 k0
  exact ofC_enc enc0I _ (w1, w2, w3, w4, w5)
def ct1 : Cut := ⟨[2, 3, 4, 5, 7], []⟩
def lv1 : Exit → Cut
  | .exit 2 => ⟨[4, 5], []⟩
  | _ => ⟨[], []⟩
theorem step1 (W1 : (ρ : Type) → List AV → List Ob → ((Vec (ByteArray × ByteArray)) → Option ρ) → Option ρ) (W0 : (ρ : Type) → List AV → List Ob → ((Vec (ByteArray × ByteArray)) → ByteArray → ByteArray → (Vec (ByteArray × ByteArray)) → Option ρ) → Option ρ) {ρ : Type} (K : Exit → St → Option ρ) (W : List AV → List Ob → Option ρ) (v1 : Int) (v2 : Vec (ByteArray × ByteArray)) (v3 : ByteArray) (v4 : ByteArray) (v5 : Vec (ByteArray × ByteArray)) : exC Try.prog (G) (L W1 W0) [] 2 c1 (mkS 68 [2, 3, 4, 5, 7] [.c (.p 0 0), .c (.p 1 0), .c (.p 2 0), .c (.p 3 0), .c (.n (.v (.int .i64 v1)))] [.box [.n (.sl 2 (encRw v2))], .box [.n (.v (.string v3)), .n (.v (.string v4))], .box [.z], .box [.h 4], .row 2 (encRw v5) []] []) (bodyK Try.prog 68 0 [] ct1 W lv1 K) =
    B1 v1 v2 v3 v4 v5 (fun u1 u2 u3 u4 u5 => W [.c (.p 0 0), .c (.p 1 0), .c (.p 2 0), .c (.p 3 0), .c (.n (.v (.int .i64 u1)))] [.box [.n (.sl 2 (encRw u2))], .box [.n (.v (.string u3)), .n (.v (.string u4))], .box [.z], .box [.h 4], .row 2 (encRw u5) []]) (fun z1 => K (.exit 2) (mkS 68 [4, 5] [.c (.p 0 0), .c (.p 1 0)] [.box [.z], .box [.h 2], .row 2 (encRw z1) []] [])) := by kernel_rfl
def enc1 (t : Int × (Vec (ByteArray × ByteArray)) × ByteArray × ByteArray × (Vec (ByteArray × ByteArray))) : List AV × List Ob := ([.c (.p 0 0), .c (.p 1 0), .c (.p 2 0), .c (.p 3 0), .c (.n (.v (.int .i64 t.1)))], [.box [.n (.sl 2 (encRw t.2.1))], .box [.n (.v (.string t.2.2.1)), .n (.v (.string t.2.2.2.1))], .box [.z], .box [.h 4], .row 2 (encRw t.2.2.2.2) []])
theorem enc1I : ∀ a b, enc1 a = enc1 b → a = b := by
  intro a b h
  obtain ⟨a0, a1, a2, a3, a4⟩ := a
  obtain ⟨b0, b1, b2, b3, b4⟩ := b
  simp [enc1, encRw_iff] at h
  simp_all
noncomputable def V1 : (ρ : Type) → List AV → List Ob → ((Vec (ByteArray × ByteArray)) → Option ρ) → Option ρ := fun ρ avs obs k2 => ofC enc1 (fun t => F1 fuelN t.1 t.2.1 t.2.2.1 t.2.2.2.1 t.2.2.2.2 k2) (avs, obs)
theorem V1_enc (ρ : Type) : (fun w1 w2 w3 w4 w5 k2 => V1 ρ [.c (.p 0 0), .c (.p 1 0), .c (.p 2 0), .c (.p 3 0), .c (.n (.v (.int .i64 w1)))] [.box [.n (.sl 2 (encRw w2))], .box [.n (.v (.string w3)), .n (.v (.string w4))], .box [.z], .box [.h 4], .row 2 (encRw w5) []] k2) = F1 fuelN := by
  funext w1 w2 w3 w4 w5 k2
  exact ofC_enc enc1I _ (w1, w2, w3, w4, w5)
theorem main (W1 : (ρ : Type) → List AV → List Ob → ((Vec (ByteArray × ByteArray)) → Option ρ) → Option ρ) (W0 : (ρ : Type) → List AV → List Ob → ((Vec (ByteArray × ByteArray)) → ByteArray → ByteArray → (Vec (ByteArray × ByteArray)) → Option ρ) → Option ρ) {ρ : Type} (K : AV → List Ob → Option ρ) (a1 : Vec (ByteArray × ByteArray)) (a2 : ByteArray) (a3 : ByteArray) : exC Try.prog (G) (L W1 W0) [] 0 (bodyOf Try.f49) (entry 68 [.a [.n (.sl 2 (encRw a1))], .a [.n (.v (.string a2)), .n (.v (.string a3))]] [] []) (finO Try.prog Try.f49.results.toList 0 [] [] K) =
    B (fun w1 w2 w3 w4 w5 k0 => W0 ρ [.c (.p 0 0), .c (.p 1 0), .c (.p 2 0), .c (.p 3 0), .c (.n (.v (.int .i64 w1)))] [.box [.n (.sl 2 (encRw w2))], .box [.n (.v (.string w3)), .n (.v (.string w4))], .box [.z], .box [.h 4], .row 2 (encRw w5) []] k0) (fun w1 w2 w3 w4 w5 k2 => W1 ρ [.c (.p 0 0), .c (.p 1 0), .c (.p 2 0), .c (.p 3 0), .c (.n (.v (.int .i64 w1)))] [.box [.n (.sl 2 (encRw w2))], .box [.n (.v (.string w3)), .n (.v (.string w4))], .box [.z], .box [.h 4], .row 2 (encRw w5) []] k2) a1 a2 a3 (fun x1 => K (.a [.h 0]) [.row 2 (encRw x1) []]) := by kernel_rfl
theorem Gok : (G).ok Try.prog := ⟨(fun ρ f args K r h => (by cases h)),
  (fun ρ f args K => rfl),
  (fun ρ f st caps args dst K r h => (by cases h))⟩
theorem hm : Try.prog.follows .mixedOrders = true := by kernel_rfl
theorem e1 : atomsL [] 2 c1 = [] := by kernel_rfl
theorem ok1 (ρ : Type) (st : St) (K : Exit → St → Option ρ) (r : ρ) (h : (L V1 V0) ρ 1 st K = some r) : AW Try.prog (.loop c1) st fun e st' => K e st' = some r := by
  refine loop_ok (ct := ct1) (lv := lv1) (n := 68) (m := 0) (ks := []) (j := 1) (jn := []) (L := (L V1 V0)) Gok hm (by rw [e1]; exact Lor.ok_nil _ _) enc1I (fun k t => F1 k t.1 t.2.1 t.2.2.1 t.2.2.2.1 t.2.2.2.2 (fun z1 => K (.exit 2) (mkS 68 [4, 5] [.c (.p 0 0), .c (.p 1 0)] [.box [.z], .box [.h 2], .row 2 (encRw z1) []] []))) (fun t => rfl) (fun k t => ?_) (fun _ => fuelN) h
  refine (step1 V1 V0 K _ t.1 t.2.1 t.2.2.1 t.2.2.2.1 t.2.2.2.2).trans ?_
  refine congrArg (fun W => B1 t.1 t.2.1 t.2.2.1 t.2.2.2.1 t.2.2.2.2 W (fun z1 => K (.exit 2) (mkS 68 [4, 5] [.c (.p 0 0), .c (.p 1 0)] [.box [.z], .box [.h 2], .row 2 (encRw z1) []] []))) ?_
  funext u1 u2 u3 u4 u5
  exact ofC_enc enc1I _ (u1, u2, u3, u4, u5)
theorem e0 : atomsL [] 1 c0 = [] := by kernel_rfl
theorem ok0 (ρ : Type) (st : St) (K : Exit → St → Option ρ) (r : ρ) (h : (L V1 V0) ρ 0 st K = some r) : AW Try.prog (.loop c0) st fun e st' => K e st' = some r := by
  refine loop_ok (ct := ct0) (lv := lv0) (n := 68) (m := 0) (ks := []) (j := 0) (jn := []) (L := (L V1 V0)) Gok hm (by rw [e0]; exact Lor.ok_nil _ _) enc0I (fun k t => F0 k t.1 t.2.1 t.2.2.1 t.2.2.2.1 t.2.2.2.2 (fun z1 z2 z3 z4 => K (.exit 0) (mkS 68 [2, 3, 4, 5] [.c (.p 0 0), .c (.p 1 0), .c (.p 2 0), .c (.p 3 0)] [.box [.n (.sl 2 (encRw z1))], .box [.n (.v (.string z2)), .n (.v (.string z3))], .box [.z], .box [.h 4], .row 2 (encRw z4) []] []))) (fun t => rfl) (fun k t => ?_) (fun _ => fuelN) h
  refine (step0 V1 V0 K _ t.1 t.2.1 t.2.2.1 t.2.2.2.1 t.2.2.2.2).trans ?_
  refine congrArg (fun W => B0 t.1 t.2.1 t.2.2.1 t.2.2.2.1 t.2.2.2.2 W (fun z1 z2 z3 z4 => K (.exit 0) (mkS 68 [2, 3, 4, 5] [.c (.p 0 0), .c (.p 1 0), .c (.p 2 0), .c (.p 3 0)] [.box [.n (.sl 2 (encRw z1))], .box [.n (.v (.string z2)), .n (.v (.string z3))], .box [.z], .box [.h 4], .row 2 (encRw z4) []] []))) ?_
  funext u1 u2 u3 u4 u5
  exact ofC_enc enc0I _ (u1, u2, u3, u4, u5)
theorem e : atomsL [] 0 (bodyOf Try.f49) = [(0, 0, .loop c0), (1, 1, .loop c1)] := by kernel_rfl
theorem acc (t : (Vec (ByteArray × ByteArray)) × ByteArray × ByteArray) (x : Vec (ByteArray × ByteArray)) (h : F t.1 t.2.1 t.2.2 = some x) : ACc Try.prog 49 (encA t) [] true [] fun rv obs => (rv, obs) = encR x := by
  refine fun_okc (L := (L V1 V0)) (jn := []) (cmds := []) (ks := []) (hin := []) (fn := Try.f49) (body := (bodyOf Try.f49)) Gok hm Try.func49 (by kernel_rfl) (by kernel_rfl) (by rw [e]; exact Lor.ok_cons ok0 (Lor.ok_cons ok1 (Lor.ok_nil _ _))) ?_ h
  refine (main V1 V0 _ t.1 t.2.1 t.2.2).trans ?_
  rw [V0_enc, V1_enc]
  refine congrArg (fun K => B (F0 fuelN) (F1 fuelN) t.1 t.2.1 t.2.2 K) ?_
  funext x1
  exact ofC_enc encRI some (x1)
theorem ac0 (t : (Vec (ByteArray × ByteArray)) × ByteArray × ByteArray) (x : Vec (ByteArray × ByteArray)) (h : F t.1 t.2.1 t.2.2 = some x) : AC Try.prog 49 (encA t) [] true [] fun rv obs => (rv, obs) = encR x := ACc.ac (body := bodyOf Try.f49) Try.func49 (by kernel_rfl) (by kernel_rfl) (acc t x h)
theorem ac (args : List AV) (x : Vec (ByteArray × ByteArray)) (h : Q args = some x) : AC Try.prog 49 args [] false [] fun rv obs => (rv, obs) = encR x := by
  obtain ⟨t, rfl, h2⟩ := ofC_some h
  refine (ac0 t x h2).flat fun rv obs e => ?_
  obtain rfl : rv = (encR x).1 := congrArg Prod.fst e
  obtain rfl : obs = (encR x).2 := congrArg Prod.snd e
  refine ⟨by simp [encR, AV.Flat, K.Flat, C.Flat], ?_⟩
  intro o ho
  simp only [encR, List.mem_cons, List.not_mem_nil, or_false] at ho
  subst ho
  exact flat_rw rfl _
end spec_l16Put
/-! loop.example/g00073/spec.l16Drop -/
namespace spec_l16Drop
noncomputable def B0 {ρ : Type} (v1 : ByteArray) (v2 : Int) (v3 : Vec (ByteArray × ByteArray)) (v4 : Vec (ByteArray × ByteArray)) (W : ByteArray → Int → (Vec (ByteArray × ByteArray)) → (Vec (ByteArray × ByteArray)) → Option ρ) (K0 : (Vec (ByteArray × ByteArray)) → Option ρ) : Option ρ :=
  sel (decide (v2 < (v3.n : Int))) (chk (decide (0 ≤ v2 ∧ v2 < (v3.n : Int))) (sel ((!decide ((v3.g v2.toNat).1 = v1))) (chk (decide (0 ≤ v2 ∧ v2 < (v3.n : Int))) (chk (decide ((v4.n + (Vec.lit [((v3.g v2.toNat).1, (v3.g v2.toNat).2)] : Vec (ByteArray × ByteArray)).n) * 33 ≤ maxN)) (W v1 (wr (v2 + (1 : Int))) v3 (Vec.app v4 (Vec.lit [((v3.g v2.toNat).1, (v3.g v2.toNat).2)] : Vec (ByteArray × ByteArray)))))) (W v1 (wr (v2 + (1 : Int))) v3 v4))) (K0 v4)
noncomputable def F0 {ρ : Type} : Nat → ByteArray → Int → (Vec (ByteArray × ByteArray)) → (Vec (ByteArray × ByteArray)) → ((Vec (ByteArray × ByteArray)) → Option ρ) → Option ρ
  | 0, _, _, _, _, _ => none
  | k + 1, v1, v2, v3, v4, K0 => B0 v1 v2 v3 v4 (fun v1' v2' v3' v4' => F0 k v1' v2' v3' v4' K0) K0
noncomputable def B {ρ : Type} (L0 : ByteArray → Int → (Vec (ByteArray × ByteArray)) → (Vec (ByteArray × ByteArray)) → ((Vec (ByteArray × ByteArray)) → Option ρ) → Option ρ) (a1 : Vec (ByteArray × ByteArray)) (a2 : ByteArray) (K : (Vec (ByteArray × ByteArray)) → Option ρ) : Option ρ :=
  L0 a2 (0 : Int) a1 (Vec.nil : Vec (ByteArray × ByteArray)) (fun e01 => K e01)
noncomputable def F (a1 : Vec (ByteArray × ByteArray)) (a2 : ByteArray) : Option (Vec (ByteArray × ByteArray)) := B (F0 fuelN) a1 a2 (fun x1 => some (x1))
def encA (t : (Vec (ByteArray × ByteArray)) × ByteArray) : List AV := [.a [.n (.sl 2 (encRw t.1))], .c (.n (.v (.string t.2)))]
def encR (x : Vec (ByteArray × ByteArray)) : AV × List Ob := (.a [.h 0], [.row 2 (encRw x) []])
theorem encAI : ∀ a b, encA a = encA b → a = b := by
  intro a b h
  obtain ⟨a0, a1⟩ := a
  obtain ⟨b0, b1⟩ := b
  simp [encA, encRw_iff] at h
  simp_all
theorem encRI : ∀ a b, encR a = encR b → a = b := by
  intro a b h
  simp [encR, encRw_iff] at h
  simp_all
noncomputable def Q (args : List AV) : Option (Vec (ByteArray × ByteArray)) := ofC encA (fun t => F t.1 t.2) args
theorem wrap : (fun (y1 : Vec (ByteArray × ByteArray)) (y2 : ByteArray) => Q [.a [.n (.sl 2 (encRw y1))], .c (.n (.v (.string y2)))]) = F := by
  funext y1 y2
  exact ofC_enc encAI _ (y1, y2)
noncomputable def G : Orc := ⟨fun f => 9, fun ρ f args K => Option.none, noE⟩
noncomputable def L (W0 : (ρ : Type) → List AV → List Ob → ((Vec (ByteArray × ByteArray)) → Option ρ) → Option ρ) : Lor := fun ρ j st K => sel (Nat.beq j 0) (cutO Try.prog 34 [1, 2, 4, 5, 6] 0 [] [.ad (.p 5 0) 38] st fun avs obs => W0 ρ avs obs (fun z1 => K (.exit 0) (mkS 34 [4, 5] [.c (.p 0 0), .c (.p 1 0)] [.box [.z], .box [.h 2], .row 2 (encRw z1) []] []))) (Option.none)
noncomputable def c0 : Code := loopC (atomN [] 0 (bodyOf Try.f50) 0)
def ct0 : Cut := ⟨[1, 2, 4, 5, 6], [.ad (.p 5 0) 38]⟩
def lv0 : Exit → Cut
  | .exit 0 => ⟨[4, 5], []⟩
  | _ => ⟨[], []⟩
theorem step0 (W0 : (ρ : Type) → List AV → List Ob → ((Vec (ByteArray × ByteArray)) → Option ρ) → Option ρ) {ρ : Type} (K : Exit → St → Option ρ) (W : List AV → List Ob → Option ρ) (v1 : ByteArray) (v2 : Int) (v3 : Vec (ByteArray × ByteArray)) (v4 : Vec (ByteArray × ByteArray)) : exC Try.prog (G) (L W0) [] 1 c0 (mkS 34 [1, 2, 4, 5, 6] [.c (.n (.v (.string v1))), .c (.p 0 0), .c (.p 1 0), .c (.p 2 0), .c (.n (.v (.int .i64 v2)))] [.box [.n (.sl 2 (encRw v3))], .box [.z], .box [.h 3], .row 2 (encRw v4) []] []) (bodyK Try.prog 34 0 [] ct0 W lv0 K) =
    B0 v1 v2 v3 v4 (fun u1 u2 u3 u4 => W [.c (.n (.v (.string u1))), .c (.p 0 0), .c (.p 1 0), .c (.p 2 0), .c (.n (.v (.int .i64 u2)))] [.box [.n (.sl 2 (encRw u3))], .box [.z], .box [.h 3], .row 2 (encRw u4) []]) (fun z1 => K (.exit 0) (mkS 34 [4, 5] [.c (.p 0 0), .c (.p 1 0)] [.box [.z], .box [.h 2], .row 2 (encRw z1) []] [])) := by kernel_rfl
def enc0 (t : ByteArray × Int × (Vec (ByteArray × ByteArray)) × (Vec (ByteArray × ByteArray))) : List AV × List Ob := ([.c (.n (.v (.string t.1))), .c (.p 0 0), .c (.p 1 0), .c (.p 2 0), .c (.n (.v (.int .i64 t.2.1)))], [.box [.n (.sl 2 (encRw t.2.2.1))], .box [.z], .box [.h 3], .row 2 (encRw t.2.2.2) []])
theorem enc0I : ∀ a b, enc0 a = enc0 b → a = b := by
  intro a b h
  obtain ⟨a0, a1, a2, a3⟩ := a
  obtain ⟨b0, b1, b2, b3⟩ := b
  simp [enc0, encRw_iff] at h
  simp_all
noncomputable def V0 : (ρ : Type) → List AV → List Ob → ((Vec (ByteArray × ByteArray)) → Option ρ) → Option ρ := fun ρ avs obs k0 => ofC enc0 (fun t => F0 fuelN t.1 t.2.1 t.2.2.1 t.2.2.2 k0) (avs, obs)
theorem V0_enc (ρ : Type) : (fun w1 w2 w3 w4 k0 => V0 ρ [.c (.n (.v (.string w1))), .c (.p 0 0), .c (.p 1 0), .c (.p 2 0), .c (.n (.v (.int .i64 w2)))] [.box [.n (.sl 2 (encRw w3))], .box [.z], .box [.h 3], .row 2 (encRw w4) []] k0) = F0 fuelN := by
  funext w1 w2 w3 w4 k0
  exact ofC_enc enc0I _ (w1, w2, w3, w4)
theorem main (W0 : (ρ : Type) → List AV → List Ob → ((Vec (ByteArray × ByteArray)) → Option ρ) → Option ρ) {ρ : Type} (K : AV → List Ob → Option ρ) (a1 : Vec (ByteArray × ByteArray)) (a2 : ByteArray) : exC Try.prog (G) (L W0) [] 0 (bodyOf Try.f50) (entry 34 [.a [.n (.sl 2 (encRw a1))], .c (.n (.v (.string a2)))] [] []) (finO Try.prog Try.f50.results.toList 0 [] [] K) =
    B (fun w1 w2 w3 w4 k0 => W0 ρ [.c (.n (.v (.string w1))), .c (.p 0 0), .c (.p 1 0), .c (.p 2 0), .c (.n (.v (.int .i64 w2)))] [.box [.n (.sl 2 (encRw w3))], .box [.z], .box [.h 3], .row 2 (encRw w4) []] k0) a1 a2 (fun x1 => K (.a [.h 0]) [.row 2 (encRw x1) []]) := by kernel_rfl
theorem Gok : (G).ok Try.prog := ⟨(fun ρ f args K r h => (by cases h)),
  (fun ρ f args K => rfl),
  (fun ρ f st caps args dst K r h => (by cases h))⟩
theorem hm : Try.prog.follows .mixedOrders = true := by kernel_rfl
theorem e0 : atomsL [] 1 c0 = [] := by kernel_rfl
theorem ok0 (ρ : Type) (st : St) (K : Exit → St → Option ρ) (r : ρ) (h : (L V0) ρ 0 st K = some r) : AW Try.prog (.loop c0) st fun e st' => K e st' = some r := by
  refine loop_ok (ct := ct0) (lv := lv0) (n := 34) (m := 0) (ks := []) (j := 0) (jn := []) (L := (L V0)) Gok hm (by rw [e0]; exact Lor.ok_nil _ _) enc0I (fun k t => F0 k t.1 t.2.1 t.2.2.1 t.2.2.2 (fun z1 => K (.exit 0) (mkS 34 [4, 5] [.c (.p 0 0), .c (.p 1 0)] [.box [.z], .box [.h 2], .row 2 (encRw z1) []] []))) (fun t => rfl) (fun k t => ?_) (fun _ => fuelN) h
  refine (step0 V0 K _ t.1 t.2.1 t.2.2.1 t.2.2.2).trans ?_
  refine congrArg (fun W => B0 t.1 t.2.1 t.2.2.1 t.2.2.2 W (fun z1 => K (.exit 0) (mkS 34 [4, 5] [.c (.p 0 0), .c (.p 1 0)] [.box [.z], .box [.h 2], .row 2 (encRw z1) []] []))) ?_
  funext u1 u2 u3 u4
  exact ofC_enc enc0I _ (u1, u2, u3, u4)
theorem e : atomsL [] 0 (bodyOf Try.f50) = [(0, 0, .loop c0)] := by kernel_rfl
theorem acc (t : (Vec (ByteArray × ByteArray)) × ByteArray) (x : Vec (ByteArray × ByteArray)) (h : F t.1 t.2 = some x) : ACc Try.prog 50 (encA t) [] true [] fun rv obs => (rv, obs) = encR x := by
  refine fun_okc (L := (L V0)) (jn := []) (cmds := []) (ks := []) (hin := []) (fn := Try.f50) (body := (bodyOf Try.f50)) Gok hm Try.func50 (by kernel_rfl) (by kernel_rfl) (by rw [e]; exact Lor.ok_cons ok0 (Lor.ok_nil _ _)) ?_ h
  refine (main V0 _ t.1 t.2).trans ?_
  rw [V0_enc]
  refine congrArg (fun K => B (F0 fuelN) t.1 t.2 K) ?_
  funext x1
  exact ofC_enc encRI some (x1)
theorem ac0 (t : (Vec (ByteArray × ByteArray)) × ByteArray) (x : Vec (ByteArray × ByteArray)) (h : F t.1 t.2 = some x) : AC Try.prog 50 (encA t) [] true [] fun rv obs => (rv, obs) = encR x := ACc.ac (body := bodyOf Try.f50) Try.func50 (by kernel_rfl) (by kernel_rfl) (acc t x h)
theorem ac (args : List AV) (x : Vec (ByteArray × ByteArray)) (h : Q args = some x) : AC Try.prog 50 args [] false [] fun rv obs => (rv, obs) = encR x := by
  obtain ⟨t, rfl, h2⟩ := ofC_some h
  refine (ac0 t x h2).flat fun rv obs e => ?_
  obtain rfl : rv = (encR x).1 := congrArg Prod.fst e
  obtain rfl : obs = (encR x).2 := congrArg Prod.snd e
  refine ⟨by simp [encR, AV.Flat, K.Flat, C.Flat], ?_⟩
  intro o ho
  simp only [encR, List.mem_cons, List.not_mem_nil, or_false] at ho
  subst ho
  exact flat_rw rfl _
end spec_l16Drop
/-! loop.example/g00073/spec.PutRaw -/
namespace spec_PutRaw
noncomputable def B {ρ : Type} (C_spec_l16At : (Vec (ByteArray × ByteArray)) → ByteArray → Option Int) (C_spec_DiskOk : (Vec (ByteArray × ByteArray)) → Option Bool) (C_spec_l01In : Int → Int → Int → Option Bool) (C_spec_l16Put : (Vec (ByteArray × ByteArray)) → ByteArray → ByteArray → Option (Vec (ByteArray × ByteArray))) (C_spec_l16Drop : (Vec (ByteArray × ByteArray)) → ByteArray → Option (Vec (ByteArray × ByteArray))) (a1 : Vec (ByteArray × ByteArray)) (a2 : Int) (a3 : ByteArray) (a4 : ByteArray) (a5 : ByteArray) (K : Bool → (Vec (ByteArray × ByteArray)) → Option ρ) : Option ρ :=
  (C_spec_l16At a1 a3).bind fun r1 => (C_spec_DiskOk a1).bind fun r2 => sel ((!r2)) (K false (Vec.nil : Vec (ByteArray × ByteArray))) ((C_spec_l01In a2 (1 : Int) (4 : Int)).bind fun r3 => sel ((!r3)) (K false (Vec.nil : Vec (ByteArray × ByteArray))) (sel (decide (r1 < (0 : Int))) (sel (decide (a2 = (2 : Int))) (K false (Vec.nil : Vec (ByteArray × ByteArray))) (sel (decide (a2 = (3 : Int))) (K false (Vec.nil : Vec (ByteArray × ByteArray))) (chk (decide (a1.n * 33 ≤ maxN)) (sel (decide (a2 = (1 : Int))) ((C_spec_l16Put a1 a3 a5).bind fun r4 => (C_spec_DiskOk r4).bind fun r5 => sel ((!r5)) (K false (Vec.nil : Vec (ByteArray × ByteArray))) (K true r4)) (sel (decide (a2 = (2 : Int))) (sel ((!decide (a4 = a3))) ((C_spec_l16Drop a1 a3).bind fun r6 => chk (decide (0 ≤ r1 ∧ r1 < (a1.n : Int))) ((C_spec_l16Put r6 a4 ((a1.g r1.toNat).2)).bind fun r7 => (C_spec_DiskOk r7).bind fun r8 => sel ((!r8)) (K false (Vec.nil : Vec (ByteArray × ByteArray))) (K true r7))) ((C_spec_DiskOk a1).bind fun r9 => sel ((!r9)) (K false (Vec.nil : Vec (ByteArray × ByteArray))) (K true a1))) (sel (decide (a2 = (3 : Int))) ((C_spec_l16Drop a1 a3).bind fun r10 => (C_spec_DiskOk r10).bind fun r11 => sel ((!r11)) (K false (Vec.nil : Vec (ByteArray × ByteArray))) (K true r10)) ((C_spec_DiskOk a1).bind fun r12 => sel ((!r12)) (K false (Vec.nil : Vec (ByteArray × ByteArray))) (K true a1)))))))) (chk (decide (a1.n * 33 ≤ maxN)) (sel (decide (a2 = (1 : Int))) ((C_spec_l16Put a1 a3 a5).bind fun r13 => (C_spec_DiskOk r13).bind fun r14 => sel ((!r14)) (K false (Vec.nil : Vec (ByteArray × ByteArray))) (K true r13)) (sel (decide (a2 = (2 : Int))) (sel ((!decide (a4 = a3))) ((C_spec_l16Drop a1 a3).bind fun r15 => chk (decide (0 ≤ r1 ∧ r1 < (a1.n : Int))) ((C_spec_l16Put r15 a4 ((a1.g r1.toNat).2)).bind fun r16 => (C_spec_DiskOk r16).bind fun r17 => sel ((!r17)) (K false (Vec.nil : Vec (ByteArray × ByteArray))) (K true r16))) ((C_spec_DiskOk a1).bind fun r18 => sel ((!r18)) (K false (Vec.nil : Vec (ByteArray × ByteArray))) (K true a1))) (sel (decide (a2 = (3 : Int))) ((C_spec_l16Drop a1 a3).bind fun r19 => (C_spec_DiskOk r19).bind fun r20 => sel ((!r20)) (K false (Vec.nil : Vec (ByteArray × ByteArray))) (K true r19)) ((C_spec_DiskOk a1).bind fun r21 => sel ((!r21)) (K false (Vec.nil : Vec (ByteArray × ByteArray))) (K true a1))))))))
noncomputable def F (a1 : Vec (ByteArray × ByteArray)) (a2 : Int) (a3 : ByteArray) (a4 : ByteArray) (a5 : ByteArray) : Option (Bool × (Vec (ByteArray × ByteArray))) := B spec_l16At.F spec_DiskOk.F spec_l01In.F spec_l16Put.F spec_l16Drop.F a1 a2 a3 a4 a5 (fun x1 x2 => some (x1, x2))
def encA (t : (Vec (ByteArray × ByteArray)) × Int × ByteArray × ByteArray × ByteArray) : List AV := [.a [.n (.sl 2 (encRw t.1))], .a [.n (.v (.int .i64 t.2.1)), .n (.v (.string t.2.2.1)), .n (.v (.string t.2.2.2.1)), .n (.v (.string t.2.2.2.2))]]
def encR (x : Bool × (Vec (ByteArray × ByteArray))) : AV × List Ob := (.tup [.a [.h 0], .c (.n (.v (.bool x.1)))], [.row 2 (encRw x.2) []])
theorem encAI : ∀ a b, encA a = encA b → a = b := by
  intro a b h
  obtain ⟨a0, a1, a2, a3, a4⟩ := a
  obtain ⟨b0, b1, b2, b3, b4⟩ := b
  simp [encA, encRw_iff] at h
  simp_all
theorem encRI : ∀ a b, encR a = encR b → a = b := by
  intro a b h
  obtain ⟨a0, a1⟩ := a
  obtain ⟨b0, b1⟩ := b
  simp [encR, encRw_iff] at h
  simp_all
noncomputable def Q (args : List AV) : Option (Bool × (Vec (ByteArray × ByteArray))) := ofC encA (fun t => F t.1 t.2.1 t.2.2.1 t.2.2.2.1 t.2.2.2.2) args
theorem wrap : (fun (y1 : Vec (ByteArray × ByteArray)) (y2 : Int) (y3 : ByteArray) (y4 : ByteArray) (y5 : ByteArray) => Q [.a [.n (.sl 2 (encRw y1))], .a [.n (.v (.int .i64 y2)), .n (.v (.string y3)), .n (.v (.string y4)), .n (.v (.string y5))]]) = F := by
  funext y1 y2 y3 y4 y5
  exact ofC_enc encAI _ (y1, y2, y3, y4, y5)
noncomputable def G (q_spec_l16At : List AV → Option Int) (q_spec_DiskOk : List AV → Option Bool) (q_spec_l01In : List AV → Option Bool) (q_spec_l16Put : List AV → Option (Vec (ByteArray × ByteArray))) (q_spec_l16Drop : List AV → Option (Vec (ByteArray × ByteArray))) : Orc := ⟨fun f => sel (Nat.beq f 46) 0 (sel (Nat.beq f 47) 0 (sel (Nat.beq f 48) 0 (sel (Nat.beq f 49) 0 (sel (Nat.beq f 50) 0 (9))))), fun ρ f args K => sel (Nat.beq f 46) (qEntry spec_l16At.encR q_spec_l16At args K) (sel (Nat.beq f 47) (qEntry spec_DiskOk.encR q_spec_DiskOk args K) (sel (Nat.beq f 48) (qEntry spec_l01In.encR q_spec_l01In args K) (sel (Nat.beq f 49) (qEntry spec_l16Put.encR q_spec_l16Put args K) (sel (Nat.beq f 50) (qEntry spec_l16Drop.encR q_spec_l16Drop args K) (Option.none))))), noE⟩
noncomputable def L : Lor := fun ρ j st K => Option.none
theorem main (q_spec_l16At : List AV → Option Int) (q_spec_DiskOk : List AV → Option Bool) (q_spec_l01In : List AV → Option Bool) (q_spec_l16Put : List AV → Option (Vec (ByteArray × ByteArray))) (q_spec_l16Drop : List AV → Option (Vec (ByteArray × ByteArray))) {ρ : Type} (K : AV → List Ob → Option ρ) (a1 : Vec (ByteArray × ByteArray)) (a2 : Int) (a3 : ByteArray) (a4 : ByteArray) (a5 : ByteArray) : exC Try.prog (G q_spec_l16At q_spec_DiskOk q_spec_l01In q_spec_l16Put q_spec_l16Drop) (L) [] 0 (bodyOf Try.f18) (entry 84 [.a [.n (.sl 2 (encRw a1))], .a [.n (.v (.int .i64 a2)), .n (.v (.string a3)), .n (.v (.string a4)), .n (.v (.string a5))]] [] []) (finO Try.prog Try.f18.results.toList 0 [] [.ad (.p 4 0) 38] K) =
    B (fun y1 y2 => q_spec_l16At [.a [.n (.sl 2 (encRw y1))], .c (.n (.v (.string y2)))]) (fun y1 => q_spec_DiskOk [.a [.n (.sl 2 (encRw y1))]]) (fun y1 y2 y3 => q_spec_l01In [.c (.n (.v (.int .i64 y1))), .c (.n (.v (.int .i64 y2))), .c (.n (.v (.int .i64 y3)))]) (fun y1 y2 y3 => q_spec_l16Put [.a [.n (.sl 2 (encRw y1))], .a [.n (.v (.string y2)), .n (.v (.string y3))]]) (fun y1 y2 => q_spec_l16Drop [.a [.n (.sl 2 (encRw y1))], .c (.n (.v (.string y2)))]) a1 a2 a3 a4 a5 (fun x1 x2 => K (.tup [.a [.h 0], .c (.n (.v (.bool x1)))]) [.row 2 (encRw x2) []]) := by kernel_rfl
theorem Gok : (G spec_l16At.Q spec_DiskOk.Q spec_l01In.Q spec_l16Put.Q spec_l16Drop.Q).ok Try.prog := ⟨(by
    intro ρ f args K r h
    rcases sel_cases h with ⟨hb, h⟩ | ⟨-, h⟩
    · obtain rfl := beq_nat hb
      exact qEntry_ok spec_l16At.ac h
    rcases sel_cases h with ⟨hb, h⟩ | ⟨-, h⟩
    · obtain rfl := beq_nat hb
      exact qEntry_ok spec_DiskOk.ac h
    rcases sel_cases h with ⟨hb, h⟩ | ⟨-, h⟩
    · obtain rfl := beq_nat hb
      exact qEntry_ok spec_l01In.ac h
    rcases sel_cases h with ⟨hb, h⟩ | ⟨-, h⟩
    · obtain rfl := beq_nat hb
      exact qEntry_ok spec_l16Put.ac h
    rcases sel_cases h with ⟨hb, h⟩ | ⟨-, h⟩
    · obtain rfl := beq_nat hb
      exact qEntry_ok spec_l16Drop.ac h
    cases h),
  (by
    intro ρ f args K
    simp only [G]
    cases Nat.beq f 46 with
    | true => exact qEntry_nat args K
    | false =>
    simp only [sel]
    cases Nat.beq f 47 with
    | true => exact qEntry_nat args K
    | false =>
    simp only [sel]
    cases Nat.beq f 48 with
    | true => exact qEntry_nat args K
    | false =>
    simp only [sel]
    cases Nat.beq f 49 with
    | true => exact qEntry_nat args K
    | false =>
    simp only [sel]
    cases Nat.beq f 50 with
    | true => exact qEntry_nat args K
    | false =>
    simp only [sel]
    rfl),
  (fun ρ f st caps args dst K r h => (by cases h))⟩
theorem hm : Try.prog.follows .mixedOrders = true := by kernel_rfl
theorem e : atomsL [] 0 (bodyOf Try.f18) = [] := by kernel_rfl
theorem acc (t : (Vec (ByteArray × ByteArray)) × Int × ByteArray × ByteArray × ByteArray) (x : Bool × (Vec (ByteArray × ByteArray))) (h : F t.1 t.2.1 t.2.2.1 t.2.2.2.1 t.2.2.2.2 = some x) : ACc Try.prog 18 (encA t) [] true [] fun rv obs => (rv, obs) = encR x := by
  refine fun_okc (L := (L)) (jn := []) (cmds := [.ad (.p 4 0) 38]) (ks := []) (hin := []) (fn := Try.f18) (body := (bodyOf Try.f18)) Gok hm Try.func18 (by kernel_rfl) (by kernel_rfl) (by rw [e]; exact Lor.ok_nil _ _) ?_ h
  refine (main spec_l16At.Q spec_DiskOk.Q spec_l01In.Q spec_l16Put.Q spec_l16Drop.Q _ t.1 t.2.1 t.2.2.1 t.2.2.2.1 t.2.2.2.2).trans ?_
  rw [spec_l16At.wrap, spec_DiskOk.wrap, spec_l01In.wrap, spec_l16Put.wrap, spec_l16Drop.wrap]
  refine congrArg (fun K => B spec_l16At.F spec_DiskOk.F spec_l01In.F spec_l16Put.F spec_l16Drop.F t.1 t.2.1 t.2.2.1 t.2.2.2.1 t.2.2.2.2 K) ?_
  funext x1 x2
  exact ofC_enc encRI some (x1, x2)
theorem ac0 (t : (Vec (ByteArray × ByteArray)) × Int × ByteArray × ByteArray × ByteArray) (x : Bool × (Vec (ByteArray × ByteArray))) (h : F t.1 t.2.1 t.2.2.1 t.2.2.2.1 t.2.2.2.2 = some x) : AC Try.prog 18 (encA t) [] true [] fun rv obs => (rv, obs) = encR x := ACc.ac (body := bodyOf Try.f18) Try.func18 (by kernel_rfl) (by kernel_rfl) (acc t x h)
theorem ac (args : List AV) (x : Bool × (Vec (ByteArray × ByteArray))) (h : Q args = some x) : AC Try.prog 18 args [] false [] fun rv obs => (rv, obs) = encR x := by
  obtain ⟨t, rfl, h2⟩ := ofC_some h
  refine (ac0 t x h2).flat fun rv obs e => ?_
  obtain rfl : rv = (encR x).1 := congrArg Prod.fst e
  obtain rfl : obs = (encR x).2 := congrArg Prod.snd e
  refine ⟨by simp [encR, AV.Flat, K.Flat, C.Flat], ?_⟩
  intro o ho
  simp only [encR, List.mem_cons, List.not_mem_nil, or_false] at ho
  subst ho
  exact flat_rw rfl _
end spec_PutRaw
/-! slices.Clone -/
namespace slices_Clone_impl_File
noncomputable def F (a1 : Vec (ByteArray × ByteArray)) : Option (Vec (ByteArray × ByteArray)) := sel (decide (a1.n * 33 ≤ maxN)) (some a1) none
def encA (t : Vec (ByteArray × ByteArray)) : List AV := [vl t]
def encR (x : Vec (ByteArray × ByteArray)) : AV × List Ob := (.c (.h 0), [.row 2 (encRw x) []])
theorem encAI : ∀ a b, encA a = encA b → a = b := by
  intro a b h
  simp [encA, encRw_iff] at h
  simp_all
noncomputable def Q (args : List AV) : Option (Vec (ByteArray × ByteArray)) := ofC encA (fun t => F t) args
theorem wrap : (fun (y1 : Vec (ByteArray × ByteArray)) => Q [.c (.n (.sl 2 (encRw y1)))]) = F := by
  funext y1
  exact ofC_enc encAI _ y1
theorem ac0 (a : Vec (ByteArray × ByteArray)) (h : a.n * 33 ≤ maxN) : AC Try.prog 72 [vl a] [] true [] fun rv obs => rv = .c (.h 0) ∧ ∃ u : Vec (ByteArray × ByteArray), obs = [Go.Al.rw u] ∧ Vec.Same u a := by
  refine ACc.ac (body := bodyOf Try.f72) Try.func72 (by kernel_rfl) (by kernel_rfl) (ACc_intro (body := bodyOf Try.f72) Try.func72 (by kernel_rfl) (by kernel_rfl) ?_)
  refine AW.post (Φ := fun e st' => e = .ret ∧ ∃ (cmds : List Cmd) (u : Vec (ByteArray × ByteArray)), retO Try.prog Try.f72.results.toList 0 [] cmds st' (fun rv obs => some (rv, obs)) = some (.c (.h 0), [Go.Al.rw u]) ∧ Vec.Same u a) ?_ ?_
  · refine vcC_sound _ _ _ ?_
    refine ⟨by kernel_rfl, fun b hb => ?_⟩
    cases b with
    | true =>
      have h0 := hb rfl
      exact ⟨rfl, [.ad (.s 2) 38], Vec.nil, by kernel_rfl, h0.symm, fun i hi => absurd hi (Nat.not_lt_zero i)⟩
    | false =>
      repeat (refine ⟨by first | kernel_rfl | decide +kernel, ?_⟩)
      refine (show (2 = 2) ∧ (a.n * 33 ≤ maxN) ∧ _ from ⟨rfl, h, ?_⟩)
      exact ⟨rfl, [], a, by kernel_rfl, rfl, fun i hi => rfl⟩
  · rintro e st' ⟨rfl, cmds, u, h1, h2⟩
    obtain ⟨st'', q1, q2⟩ := retO_vc h1
    refine ⟨st'', q1, q2.1, is_mono q2.2 ?_⟩
    rintro rv0 ⟨ids, rv, obs, p1, p2, p3, p4, p5, p6, p7⟩
    simp only [Option.some.injEq, Prod.mk.injEq] at p7
    exact ⟨ids, rv, obs, p1, p2, p3, p4, p5, p6, p7.1, u, p7.2, h2⟩
theorem ac (args : List AV) (x : Vec (ByteArray × ByteArray)) (h : Q args = some x) : AC Try.prog 72 args [] false [] fun rv obs => (rv, obs) = encR x := by
  obtain ⟨t, rfl, h2⟩ := ofC_some h
  rcases sel_cases h2 with ⟨hb, h3⟩ | ⟨-, h3⟩
  · simp only [Option.some.injEq] at h3
    subst h3
    refine (AC.row (ac0 t (by simpa using hb))).flat fun rv obs e => ?_
    obtain rfl : rv = (encR t).1 := congrArg Prod.fst e
    obtain rfl : obs = (encR t).2 := congrArg Prod.snd e
    refine ⟨by simp [encR, AV.Flat, K.Flat, C.Flat], ?_⟩
    intro o ho
    simp only [encR, List.mem_cons, List.not_mem_nil, or_false] at ho
    subst ho
    exact flat_rw rfl _
  · cases h3
end slices_Clone_impl_File
/-! loop.example/g00073/impl.copyDisk -/
namespace impl_copyDisk
noncomputable def B {ρ : Type} (C_slices_Clone_impl_File : (Vec (ByteArray × ByteArray)) → Option (Vec (ByteArray × ByteArray))) (a1 : Vec (ByteArray × ByteArray)) (K : (Vec (ByteArray × ByteArray)) → Option ρ) : Option ρ :=
  (C_slices_Clone_impl_File a1).bind fun r1 => K r1
noncomputable def F (a1 : Vec (ByteArray × ByteArray)) : Option (Vec (ByteArray × ByteArray)) := B slices_Clone_impl_File.F a1 (fun x1 => some (x1))
def encA (t : Vec (ByteArray × ByteArray)) : List AV := [.a [.n (.sl 2 (encRw t))]]
def encR (x : Vec (ByteArray × ByteArray)) : AV × List Ob := (.a [.h 0], [.row 2 (encRw x) []])
theorem encAI : ∀ a b, encA a = encA b → a = b := by
  intro a b h
  simp [encA, encRw_iff] at h
  simp_all
theorem encRI : ∀ a b, encR a = encR b → a = b := by
  intro a b h
  simp [encR, encRw_iff] at h
  simp_all
noncomputable def Q (args : List AV) : Option (Vec (ByteArray × ByteArray)) := ofC encA (fun t => F t) args
theorem wrap : (fun (y1 : Vec (ByteArray × ByteArray)) => Q [.a [.n (.sl 2 (encRw y1))]]) = F := by
  funext y1
  exact ofC_enc encAI _ (y1)
noncomputable def G (q_slices_Clone_impl_File : List AV → Option (Vec (ByteArray × ByteArray))) : Orc := ⟨fun f => sel (Nat.beq f 72) 0 (9), fun ρ f args K => sel (Nat.beq f 72) (qEntry slices_Clone_impl_File.encR q_slices_Clone_impl_File args K) (Option.none), noE⟩
noncomputable def L : Lor := fun ρ j st K => Option.none
theorem main (q_slices_Clone_impl_File : List AV → Option (Vec (ByteArray × ByteArray))) {ρ : Type} (K : AV → List Ob → Option ρ) (a1 : Vec (ByteArray × ByteArray)) : exC Try.prog (G q_slices_Clone_impl_File) (L) [] 0 (bodyOf Try.f52) (entry 7 [.a [.n (.sl 2 (encRw a1))]] [] []) (finO Try.prog Try.f52.results.toList 0 [] [] K) =
    B (fun y1 => q_slices_Clone_impl_File [.c (.n (.sl 2 (encRw y1)))]) a1 (fun x1 => K (.a [.h 0]) [.row 2 (encRw x1) []]) := by kernel_rfl
theorem Gok : (G slices_Clone_impl_File.Q).ok Try.prog := ⟨(by
    intro ρ f args K r h
    rcases sel_cases h with ⟨hb, h⟩ | ⟨-, h⟩
    · obtain rfl := beq_nat hb
      exact qEntry_ok slices_Clone_impl_File.ac h
    cases h),
  (by
    intro ρ f args K
    simp only [G]
    cases Nat.beq f 72 with
    | true => exact qEntry_nat args K
    | false =>
    simp only [sel]
    rfl),
  (fun ρ f st caps args dst K r h => (by cases h))⟩
theorem hm : Try.prog.follows .mixedOrders = true := by kernel_rfl
theorem e : atomsL [] 0 (bodyOf Try.f52) = [] := by kernel_rfl
theorem acc (t : Vec (ByteArray × ByteArray)) (x : Vec (ByteArray × ByteArray)) (h : F t = some x) : ACc Try.prog 52 (encA t) [] true [] fun rv obs => (rv, obs) = encR x := by
  refine fun_okc (L := (L)) (jn := []) (cmds := []) (ks := []) (hin := []) (fn := Try.f52) (body := (bodyOf Try.f52)) Gok hm Try.func52 (by kernel_rfl) (by kernel_rfl) (by rw [e]; exact Lor.ok_nil _ _) ?_ h
  refine (main slices_Clone_impl_File.Q _ t).trans ?_
  rw [slices_Clone_impl_File.wrap]
  refine congrArg (fun K => B slices_Clone_impl_File.F t K) ?_
  funext x1
  exact ofC_enc encRI some (x1)
theorem ac0 (t : Vec (ByteArray × ByteArray)) (x : Vec (ByteArray × ByteArray)) (h : F t = some x) : AC Try.prog 52 (encA t) [] true [] fun rv obs => (rv, obs) = encR x := ACc.ac (body := bodyOf Try.f52) Try.func52 (by kernel_rfl) (by kernel_rfl) (acc t x h)
theorem ac (args : List AV) (x : Vec (ByteArray × ByteArray)) (h : Q args = some x) : AC Try.prog 52 args [] false [] fun rv obs => (rv, obs) = encR x := by
  obtain ⟨t, rfl, h2⟩ := ofC_some h
  refine (ac0 t x h2).flat fun rv obs e => ?_
  obtain rfl : rv = (encR x).1 := congrArg Prod.fst e
  obtain rfl : obs = (encR x).2 := congrArg Prod.snd e
  refine ⟨by simp [encR, AV.Flat, K.Flat, C.Flat], ?_⟩
  intro o ho
  simp only [encR, List.mem_cons, List.not_mem_nil, or_false] at ho
  subst ho
  exact flat_rw rfl _
end impl_copyDisk
/-! loop.example/g00073/impl.inRange -/
namespace impl_inRange
noncomputable def B {ρ : Type} (a1 : Int) (a2 : Int) (a3 : Int) (K : Bool → Option ρ) : Option ρ :=
  sel (decide (a2 ≤ a1)) (K (decide (a1 ≤ a3))) (K false)
noncomputable def F (a1 : Int) (a2 : Int) (a3 : Int) : Option Bool := B a1 a2 a3 (fun x1 => some (x1))
def encA (t : Int × Int × Int) : List AV := [.c (.n (.v (.int .i64 t.1))), .c (.n (.v (.int .i64 t.2.1))), .c (.n (.v (.int .i64 t.2.2)))]
def encR (x : Bool) : AV × List Ob := (.c (.n (.v (.bool x))), [])
theorem encAI : ∀ a b, encA a = encA b → a = b := by
  intro a b h
  obtain ⟨a0, a1, a2⟩ := a
  obtain ⟨b0, b1, b2⟩ := b
  simp [encA, encRw_iff] at h
  simp_all
theorem encRI : ∀ a b, encR a = encR b → a = b := by
  intro a b h
  simp [encR, encRw_iff] at h
  simp_all
noncomputable def Q (args : List AV) : Option Bool := ofC encA (fun t => F t.1 t.2.1 t.2.2) args
theorem wrap : (fun (y1 : Int) (y2 : Int) (y3 : Int) => Q [.c (.n (.v (.int .i64 y1))), .c (.n (.v (.int .i64 y2))), .c (.n (.v (.int .i64 y3)))]) = F := by
  funext y1 y2 y3
  exact ofC_enc encAI _ (y1, y2, y3)
noncomputable def G : Orc := ⟨fun f => 9, fun ρ f args K => Option.none, noE⟩
noncomputable def L : Lor := fun ρ j st K => Option.none
theorem main {ρ : Type} (K : AV → List Ob → Option ρ) (a1 : Int) (a2 : Int) (a3 : Int) : exC Try.prog (G) (L) [] 0 (bodyOf Try.f65) (entry 15 [.c (.n (.v (.int .i64 a1))), .c (.n (.v (.int .i64 a2))), .c (.n (.v (.int .i64 a3)))] [] []) (finO Try.prog Try.f65.results.toList 0 [] [] K) =
    B a1 a2 a3 (fun x1 => K (.c (.n (.v (.bool x1)))) []) := by kernel_rfl
theorem Gok : (G).ok Try.prog := ⟨(fun ρ f args K r h => (by cases h)),
  (fun ρ f args K => rfl),
  (fun ρ f st caps args dst K r h => (by cases h))⟩
theorem hm : Try.prog.follows .mixedOrders = true := by kernel_rfl
theorem e : atomsL [] 0 (bodyOf Try.f65) = [] := by kernel_rfl
theorem acc (t : Int × Int × Int) (x : Bool) (h : F t.1 t.2.1 t.2.2 = some x) : ACc Try.prog 65 (encA t) [] true [] fun rv obs => (rv, obs) = encR x := by
  refine fun_okc (L := (L)) (jn := []) (cmds := []) (ks := []) (hin := []) (fn := Try.f65) (body := (bodyOf Try.f65)) Gok hm Try.func65 (by kernel_rfl) (by kernel_rfl) (by rw [e]; exact Lor.ok_nil _ _) ?_ h
  refine (main _ t.1 t.2.1 t.2.2).trans ?_
  refine congrArg (fun K => B t.1 t.2.1 t.2.2 K) ?_
  funext x1
  exact ofC_enc encRI some (x1)
theorem ac0 (t : Int × Int × Int) (x : Bool) (h : F t.1 t.2.1 t.2.2 = some x) : AC Try.prog 65 (encA t) [] true [] fun rv obs => (rv, obs) = encR x := ACc.ac (body := bodyOf Try.f65) Try.func65 (by kernel_rfl) (by kernel_rfl) (acc t x h)
theorem ac (args : List AV) (x : Bool) (h : Q args = some x) : AC Try.prog 65 args [] false [] fun rv obs => (rv, obs) = encR x := by
  obtain ⟨t, rfl, h2⟩ := ofC_some h
  refine (ac0 t x h2).flat fun rv obs e => ?_
  obtain rfl : rv = (encR x).1 := congrArg Prod.fst e
  obtain rfl : obs = (encR x).2 := congrArg Prod.snd e
  refine ⟨by simp [encR, AV.Flat, K.Flat, C.Flat], ?_⟩
  simp [encR]
end impl_inRange
/-! loop.example/g00073/impl.fileOk -/
namespace impl_fileOk
noncomputable def B {ρ : Type} (C_impl_inRange : Int → Int → Int → Option Bool) (a1 : ByteArray) (a2 : ByteArray) (K : Bool → Option ρ) : Option ρ :=
  (C_impl_inRange (a1.size : Int) (1 : Int) (24 : Int)).bind fun r1 => sel (r1) (K (decide ((a2.size : Int) ≤ (60004 : Int)))) (K false)
noncomputable def F (a1 : ByteArray) (a2 : ByteArray) : Option Bool := B impl_inRange.F a1 a2 (fun x1 => some (x1))
def encA (t : ByteArray × ByteArray) : List AV := [.a [.n (.v (.string t.1)), .n (.v (.string t.2))]]
def encR (x : Bool) : AV × List Ob := (.c (.n (.v (.bool x))), [])
theorem encAI : ∀ a b, encA a = encA b → a = b := by
  intro a b h
  obtain ⟨a0, a1⟩ := a
  obtain ⟨b0, b1⟩ := b
  simp [encA, encRw_iff] at h
  simp_all
theorem encRI : ∀ a b, encR a = encR b → a = b := by
  intro a b h
  simp [encR, encRw_iff] at h
  simp_all
noncomputable def Q (args : List AV) : Option Bool := ofC encA (fun t => F t.1 t.2) args
theorem wrap : (fun (y1 : ByteArray) (y2 : ByteArray) => Q [.a [.n (.v (.string y1)), .n (.v (.string y2))]]) = F := by
  funext y1 y2
  exact ofC_enc encAI _ (y1, y2)
noncomputable def G (q_impl_inRange : List AV → Option Bool) : Orc := ⟨fun f => sel (Nat.beq f 65) 0 (9), fun ρ f args K => sel (Nat.beq f 65) (qEntry impl_inRange.encR q_impl_inRange args K) (Option.none), noE⟩
noncomputable def L : Lor := fun ρ j st K => Option.none
theorem main (q_impl_inRange : List AV → Option Bool) {ρ : Type} (K : AV → List Ob → Option ρ) (a1 : ByteArray) (a2 : ByteArray) : exC Try.prog (G q_impl_inRange) (L) [] 0 (bodyOf Try.f73) (entry 13 [.a [.n (.v (.string a1)), .n (.v (.string a2))]] [] []) (finO Try.prog Try.f73.results.toList 0 [] [] K) =
    B (fun y1 y2 y3 => q_impl_inRange [.c (.n (.v (.int .i64 y1))), .c (.n (.v (.int .i64 y2))), .c (.n (.v (.int .i64 y3)))]) a1 a2 (fun x1 => K (.c (.n (.v (.bool x1)))) []) := by kernel_rfl
theorem Gok : (G impl_inRange.Q).ok Try.prog := ⟨(by
    intro ρ f args K r h
    rcases sel_cases h with ⟨hb, h⟩ | ⟨-, h⟩
    · obtain rfl := beq_nat hb
      exact qEntry_ok impl_inRange.ac h
    cases h),
  (by
    intro ρ f args K
    simp only [G]
    cases Nat.beq f 65 with
    | true => exact qEntry_nat args K
    | false =>
    simp only [sel]
    rfl),
  (fun ρ f st caps args dst K r h => (by cases h))⟩
theorem hm : Try.prog.follows .mixedOrders = true := by kernel_rfl
theorem e : atomsL [] 0 (bodyOf Try.f73) = [] := by kernel_rfl
theorem acc (t : ByteArray × ByteArray) (x : Bool) (h : F t.1 t.2 = some x) : ACc Try.prog 73 (encA t) [] true [] fun rv obs => (rv, obs) = encR x := by
  refine fun_okc (L := (L)) (jn := []) (cmds := []) (ks := []) (hin := []) (fn := Try.f73) (body := (bodyOf Try.f73)) Gok hm Try.func73 (by kernel_rfl) (by kernel_rfl) (by rw [e]; exact Lor.ok_nil _ _) ?_ h
  refine (main impl_inRange.Q _ t.1 t.2).trans ?_
  rw [impl_inRange.wrap]
  refine congrArg (fun K => B impl_inRange.F t.1 t.2 K) ?_
  funext x1
  exact ofC_enc encRI some (x1)
theorem ac0 (t : ByteArray × ByteArray) (x : Bool) (h : F t.1 t.2 = some x) : AC Try.prog 73 (encA t) [] true [] fun rv obs => (rv, obs) = encR x := ACc.ac (body := bodyOf Try.f73) Try.func73 (by kernel_rfl) (by kernel_rfl) (acc t x h)
theorem ac (args : List AV) (x : Bool) (h : Q args = some x) : AC Try.prog 73 args [] false [] fun rv obs => (rv, obs) = encR x := by
  obtain ⟨t, rfl, h2⟩ := ofC_some h
  refine (ac0 t x h2).flat fun rv obs e => ?_
  obtain rfl : rv = (encR x).1 := congrArg Prod.fst e
  obtain rfl : obs = (encR x).2 := congrArg Prod.snd e
  refine ⟨by simp [encR, AV.Flat, K.Flat, C.Flat], ?_⟩
  simp [encR]
end impl_fileOk
/-! loop.example/g00073/impl.DiskOk -/
namespace impl_DiskOk
noncomputable def B0 {ρ : Type} (C_impl_fileOk : ByteArray → ByteArray → Option Bool) (v1 : Vec (ByteArray × ByteArray)) (v2 : Int) (v3 : Int) (v4 : Vec (ByteArray × ByteArray)) (W : (Vec (ByteArray × ByteArray)) → Int → Int → (Vec (ByteArray × ByteArray)) → Option ρ) (K0 : (Vec (ByteArray × ByteArray)) → Option ρ) (Kr : Bool → Option ρ) : Option ρ :=
  sel (decide (v3 < v2)) (chk (decide (0 ≤ v3 ∧ v3 < (v1.n : Int))) ((C_impl_fileOk ((v1.g v3.toNat).1) ((v1.g v3.toNat).2)).bind fun r1 => sel ((!r1)) (Kr false) (sel (decide ((0 : Int) < v3)) (chk (decide (0 ≤ (wr (v3 - (1 : Int))) ∧ (wr (v3 - (1 : Int))) < (v4.n : Int))) (sel ((!decide (((v4.g (wr (v3 - (1 : Int))).toNat).1).toList < ((v1.g v3.toNat).1).toList))) (Kr false) (W v1 v2 (wr (v3 + (1 : Int))) v4))) (W v1 v2 (wr (v3 + (1 : Int))) v4)))) (K0 v4)
noncomputable def F0 {ρ : Type} : Nat → (Vec (ByteArray × ByteArray)) → Int → Int → (Vec (ByteArray × ByteArray)) → ((Vec (ByteArray × ByteArray)) → Option ρ) → (Bool → Option ρ) → Option ρ
  | 0, _, _, _, _, _, _ => none
  | k + 1, v1, v2, v3, v4, K0, Kr => B0 impl_fileOk.F v1 v2 v3 v4 (fun v1' v2' v3' v4' => F0 k v1' v2' v3' v4' K0 Kr) K0 Kr
noncomputable def B {ρ : Type} (L0 : (Vec (ByteArray × ByteArray)) → Int → Int → (Vec (ByteArray × ByteArray)) → ((Vec (ByteArray × ByteArray)) → Option ρ) → (Bool → Option ρ) → Option ρ) (a1 : Vec (ByteArray × ByteArray)) (K : Bool → Option ρ) : Option ρ :=
  L0 a1 (a1.n : Int) (0 : Int) a1 (fun e01 => K (decide ((e01.n : Int) ≤ (40 : Int)))) (fun x01 => K x01)
noncomputable def F (a1 : Vec (ByteArray × ByteArray)) : Option Bool := B (F0 fuelN) a1 (fun x1 => some (x1))
def encA (t : Vec (ByteArray × ByteArray)) : List AV := [.a [.n (.sl 2 (encRw t))]]
def encR (x : Bool) : AV × List Ob := (.c (.n (.v (.bool x))), [])
theorem encAI : ∀ a b, encA a = encA b → a = b := by
  intro a b h
  simp [encA, encRw_iff] at h
  simp_all
theorem encRI : ∀ a b, encR a = encR b → a = b := by
  intro a b h
  simp [encR, encRw_iff] at h
  simp_all
noncomputable def Q (args : List AV) : Option Bool := ofC encA (fun t => F t) args
theorem wrap : (fun (y1 : Vec (ByteArray × ByteArray)) => Q [.a [.n (.sl 2 (encRw y1))]]) = F := by
  funext y1
  exact ofC_enc encAI _ (y1)
noncomputable def G (q_impl_fileOk : List AV → Option Bool) : Orc := ⟨fun f => sel (Nat.beq f 73) 0 (9), fun ρ f args K => sel (Nat.beq f 73) (qEntry impl_fileOk.encR q_impl_fileOk args K) (Option.none), noE⟩
noncomputable def L (W0 : (ρ : Type) → List AV → List Ob → ((Vec (ByteArray × ByteArray)) → Option ρ) → (Bool → Option ρ) → Option ρ) : Lor := fun ρ j st K => sel (Nat.beq j 0) (cutO Try.prog 37 [1, 6, 7, 8] 0 [] [] st fun avs obs => W0 ρ avs obs (fun z1 => K (.exit 0) (mkS 37 [1] [.c (.p 0 0)] [.box [.n (.sl 2 (encRw z1))]] [])) (fun z1 => K .ret (mkS 37 [2] [.c (.n (.v (.bool z1)))] [] []))) (Option.none)
noncomputable def c0 : Code := loopC (atomN [] 0 (bodyOf Try.f53) 0)
def ct0 : Cut := ⟨[1, 6, 7, 8], []⟩
def lv0 : Exit → Cut
  | .exit 0 => ⟨[1], []⟩
  | .ret => ⟨[2], []⟩
  | _ => ⟨[], []⟩
theorem step0 (q_impl_fileOk : List AV → Option Bool) (W0 : (ρ : Type) → List AV → List Ob → ((Vec (ByteArray × ByteArray)) → Option ρ) → (Bool → Option ρ) → Option ρ) {ρ : Type} (K : Exit → St → Option ρ) (W : List AV → List Ob → Option ρ) (v1 : Vec (ByteArray × ByteArray)) (v2 : Int) (v3 : Int) (v4 : Vec (ByteArray × ByteArray)) : exC Try.prog (G q_impl_fileOk) (L W0) [] 1 c0 (mkS 37 [1, 6, 7, 8] [.c (.p 0 0), .c (.n (.sl 2 (encRw v1))), .c (.n (.v (.int .i64 v2))), .c (.n (.v (.int .i64 v3)))] [.box [.n (.sl 2 (encRw v4))]] []) (bodyK Try.prog 37 0 [] ct0 W lv0 K) =
    B0 (fun y1 y2 => q_impl_fileOk [.a [.n (.v (.string y1)), .n (.v (.string y2))]]) v1 v2 v3 v4 (fun u1 u2 u3 u4 => W [.c (.p 0 0), .c (.n (.sl 2 (encRw u1))), .c (.n (.v (.int .i64 u2))), .c (.n (.v (.int .i64 u3)))] [.box [.n (.sl 2 (encRw u4))]]) (fun z1 => K (.exit 0) (mkS 37 [1] [.c (.p 0 0)] [.box [.n (.sl 2 (encRw z1))]] [])) (fun z1 => K .ret (mkS 37 [2] [.c (.n (.v (.bool z1)))] [] [])) := by kernel_rfl
def enc0 (t : (Vec (ByteArray × ByteArray)) × Int × Int × (Vec (ByteArray × ByteArray))) : List AV × List Ob := ([.c (.p 0 0), .c (.n (.sl 2 (encRw t.1))), .c (.n (.v (.int .i64 t.2.1))), .c (.n (.v (.int .i64 t.2.2.1)))], [.box [.n (.sl 2 (encRw t.2.2.2))]])
theorem enc0I : ∀ a b, enc0 a = enc0 b → a = b := by
  intro a b h
  obtain ⟨a0, a1, a2, a3⟩ := a
  obtain ⟨b0, b1, b2, b3⟩ := b
  simp [enc0, encRw_iff] at h
  simp_all
noncomputable def V0 : (ρ : Type) → List AV → List Ob → ((Vec (ByteArray × ByteArray)) → Option ρ) → (Bool → Option ρ) → Option ρ := fun ρ avs obs k0 kr => ofC enc0 (fun t => F0 fuelN t.1 t.2.1 t.2.2.1 t.2.2.2 k0 kr) (avs, obs)
theorem V0_enc (ρ : Type) : (fun w1 w2 w3 w4 k0 kr => V0 ρ [.c (.p 0 0), .c (.n (.sl 2 (encRw w1))), .c (.n (.v (.int .i64 w2))), .c (.n (.v (.int .i64 w3)))] [.box [.n (.sl 2 (encRw w4))]] k0 kr) = F0 fuelN := by
  funext w1 w2 w3 w4 k0 kr
  exact ofC_enc enc0I _ (w1, w2, w3, w4)
theorem main (q_impl_fileOk : List AV → Option Bool) (W0 : (ρ : Type) → List AV → List Ob → ((Vec (ByteArray × ByteArray)) → Option ρ) → (Bool → Option ρ) → Option ρ) {ρ : Type} (K : AV → List Ob → Option ρ) (a1 : Vec (ByteArray × ByteArray)) : exC Try.prog (G q_impl_fileOk) (L W0) [] 0 (bodyOf Try.f53) (entry 37 [.a [.n (.sl 2 (encRw a1))]] [] []) (finO Try.prog Try.f53.results.toList 0 [] [] K) =
    B (fun w1 w2 w3 w4 k0 kr => W0 ρ [.c (.p 0 0), .c (.n (.sl 2 (encRw w1))), .c (.n (.v (.int .i64 w2))), .c (.n (.v (.int .i64 w3)))] [.box [.n (.sl 2 (encRw w4))]] k0 kr) a1 (fun x1 => K (.c (.n (.v (.bool x1)))) []) := by kernel_rfl
theorem Gok : (G impl_fileOk.Q).ok Try.prog := ⟨(by
    intro ρ f args K r h
    rcases sel_cases h with ⟨hb, h⟩ | ⟨-, h⟩
    · obtain rfl := beq_nat hb
      exact qEntry_ok impl_fileOk.ac h
    cases h),
  (by
    intro ρ f args K
    simp only [G]
    cases Nat.beq f 73 with
    | true => exact qEntry_nat args K
    | false =>
    simp only [sel]
    rfl),
  (fun ρ f st caps args dst K r h => (by cases h))⟩
theorem hm : Try.prog.follows .mixedOrders = true := by kernel_rfl
theorem e0 : atomsL [] 1 c0 = [] := by kernel_rfl
theorem ok0 (ρ : Type) (st : St) (K : Exit → St → Option ρ) (r : ρ) (h : (L V0) ρ 0 st K = some r) : AW Try.prog (.loop c0) st fun e st' => K e st' = some r := by
  refine loop_ok (ct := ct0) (lv := lv0) (n := 37) (m := 0) (ks := []) (j := 0) (jn := []) (L := (L V0)) Gok hm (by rw [e0]; exact Lor.ok_nil _ _) enc0I (fun k t => F0 k t.1 t.2.1 t.2.2.1 t.2.2.2 (fun z1 => K (.exit 0) (mkS 37 [1] [.c (.p 0 0)] [.box [.n (.sl 2 (encRw z1))]] [])) (fun z1 => K .ret (mkS 37 [2] [.c (.n (.v (.bool z1)))] [] []))) (fun t => rfl) (fun k t => ?_) (fun _ => fuelN) h
  refine (step0 impl_fileOk.Q V0 K _ t.1 t.2.1 t.2.2.1 t.2.2.2).trans ?_
  rw [impl_fileOk.wrap]
  refine congrArg (fun W => B0 impl_fileOk.F t.1 t.2.1 t.2.2.1 t.2.2.2 W (fun z1 => K (.exit 0) (mkS 37 [1] [.c (.p 0 0)] [.box [.n (.sl 2 (encRw z1))]] [])) (fun z1 => K .ret (mkS 37 [2] [.c (.n (.v (.bool z1)))] [] []))) ?_
  funext u1 u2 u3 u4
  exact ofC_enc enc0I _ (u1, u2, u3, u4)
theorem e : atomsL [] 0 (bodyOf Try.f53) = [(0, 0, .loop c0)] := by kernel_rfl
theorem acc (t : Vec (ByteArray × ByteArray)) (x : Bool) (h : F t = some x) : ACc Try.prog 53 (encA t) [] true [] fun rv obs => (rv, obs) = encR x := by
  refine fun_okc (L := (L V0)) (jn := []) (cmds := []) (ks := []) (hin := []) (fn := Try.f53) (body := (bodyOf Try.f53)) Gok hm Try.func53 (by kernel_rfl) (by kernel_rfl) (by rw [e]; exact Lor.ok_cons ok0 (Lor.ok_nil _ _)) ?_ h
  refine (main impl_fileOk.Q V0 _ t).trans ?_
  rw [V0_enc]
  refine congrArg (fun K => B (F0 fuelN) t K) ?_
  funext x1
  exact ofC_enc encRI some (x1)
theorem ac0 (t : Vec (ByteArray × ByteArray)) (x : Bool) (h : F t = some x) : AC Try.prog 53 (encA t) [] true [] fun rv obs => (rv, obs) = encR x := ACc.ac (body := bodyOf Try.f53) Try.func53 (by kernel_rfl) (by kernel_rfl) (acc t x h)
theorem ac (args : List AV) (x : Bool) (h : Q args = some x) : AC Try.prog 53 args [] false [] fun rv obs => (rv, obs) = encR x := by
  obtain ⟨t, rfl, h2⟩ := ofC_some h
  refine (ac0 t x h2).flat fun rv obs e => ?_
  obtain rfl : rv = (encR x).1 := congrArg Prod.fst e
  obtain rfl : obs = (encR x).2 := congrArg Prod.snd e
  refine ⟨by simp [encR, AV.Flat, K.Flat, C.Flat], ?_⟩
  simp [encR]
end impl_DiskOk
/-! (*loop.example/g00073/impl.Disk).place -/
namespace impl_Disk_place
noncomputable def B0 {ρ : Type} (v1 : Vec (ByteArray × ByteArray)) (v2 : ByteArray) (v3 : Int) (W : (Vec (ByteArray × ByteArray)) → ByteArray → Int → Option ρ) (K0 : (Vec (ByteArray × ByteArray)) → ByteArray → Int → Option ρ) : Option ρ :=
  sel (decide (v3 < (v1.n : Int))) (chk (decide (0 ≤ v3 ∧ v3 < (v1.n : Int))) (sel (decide (((v1.g v3.toNat).1).toList < v2.toList)) (W v1 v2 (wr (v3 + (1 : Int)))) (K0 v1 v2 v3))) (K0 v1 v2 v3)
noncomputable def F0 {ρ : Type} : Nat → (Vec (ByteArray × ByteArray)) → ByteArray → Int → ((Vec (ByteArray × ByteArray)) → ByteArray → Int → Option ρ) → Option ρ
  | 0, _, _, _, _ => none
  | k + 1, v1, v2, v3, K0 => B0 v1 v2 v3 (fun v1' v2' v3' => F0 k v1' v2' v3' K0) K0
noncomputable def B {ρ : Type} (L0 : (Vec (ByteArray × ByteArray)) → ByteArray → Int → ((Vec (ByteArray × ByteArray)) → ByteArray → Int → Option ρ) → Option ρ) (a1 : Vec (ByteArray × ByteArray)) (a2 : ByteArray) (K : Int → Bool → Option ρ) : Option ρ :=
  L0 a1 a2 (0 : Int) (fun e01 e02 e03 => sel (decide (e03 < (e01.n : Int))) (chk (decide (0 ≤ e03 ∧ e03 < (e01.n : Int))) (K e03 (decide ((e01.g e03.toNat).1 = e02)))) (K e03 false))
noncomputable def F (a1 : Vec (ByteArray × ByteArray)) (a2 : ByteArray) : Option (Int × Bool) := B (F0 fuelN) a1 a2 (fun x1 x2 => some (x1, x2))
def encA (t : (Vec (ByteArray × ByteArray)) × ByteArray) : List AV := [.ra [.sl 2 (encRw t.1)], .c (.n (.v (.string t.2)))]
def encR (x : Int × Bool) : AV × List Ob := (.tup [.c (.n (.v (.int .i64 x.1))), .c (.n (.v (.bool x.2)))], [])
theorem encAI : ∀ a b, encA a = encA b → a = b := by
  intro a b h
  obtain ⟨a0, a1⟩ := a
  obtain ⟨b0, b1⟩ := b
  simp [encA, encRw_iff] at h
  simp_all
theorem encRI : ∀ a b, encR a = encR b → a = b := by
  intro a b h
  obtain ⟨a0, a1⟩ := a
  obtain ⟨b0, b1⟩ := b
  simp [encR, encRw_iff] at h
  simp_all
noncomputable def Q (args : List AV) : Option (Int × Bool) := ofC encA (fun t => F t.1 t.2) args
theorem wrap : (fun (y1 : Vec (ByteArray × ByteArray)) (y2 : ByteArray) => Q [.ra [.sl 2 (encRw y1)], .c (.n (.v (.string y2)))]) = F := by
  funext y1 y2
  exact ofC_enc encAI _ (y1, y2)
noncomputable def G : Orc := ⟨fun f => 9, fun ρ f args K => Option.none, noE⟩
noncomputable def L (W0 : (ρ : Type) → List AV → List Ob → ((Vec (ByteArray × ByteArray)) → ByteArray → Int → Option ρ) → Option ρ) : Lor := fun ρ j st K => sel (Nat.beq j 0) (cutO Try.prog 48 [0, 1, 6] 0 [] [] st fun avs obs => W0 ρ avs obs (fun z1 z2 z3 => K (.exit 0) (mkS 48 [0, 1, 6] [.ra [.sl 2 (encRw z1)], .c (.n (.v (.string z2))), .c (.n (.v (.int .i64 z3)))] [] []))) (Option.none)
noncomputable def c0 : Code := loopC (atomN [] 0 (bodyOf Try.f75) 0)
def ct0 : Cut := ⟨[0, 1, 6], []⟩
def lv0 : Exit → Cut
  | .exit 0 => ⟨[0, 1, 6], []⟩
  | _ => ⟨[], []⟩
theorem step0 (W0 : (ρ : Type) → List AV → List Ob → ((Vec (ByteArray × ByteArray)) → ByteArray → Int → Option ρ) → Option ρ) {ρ : Type} (K : Exit → St → Option ρ) (W : List AV → List Ob → Option ρ) (v1 : Vec (ByteArray × ByteArray)) (v2 : ByteArray) (v3 : Int) : exC Try.prog (G) (L W0) [] 1 c0 (mkS 48 [0, 1, 6] [.ra [.sl 2 (encRw v1)], .c (.n (.v (.string v2))), .c (.n (.v (.int .i64 v3)))] [] []) (bodyK Try.prog 48 0 [] ct0 W lv0 K) =
    B0 v1 v2 v3 (fun u1 u2 u3 => W [.ra [.sl 2 (encRw u1)], .c (.n (.v (.string u2))), .c (.n (.v (.int .i64 u3)))] []) (fun z1 z2 z3 => K (.exit 0) (mkS 48 [0, 1, 6] [.ra [.sl 2 (encRw z1)], .c (.n (.v (.string z2))), .c (.n (.v (.int .i64 z3)))] [] [])) := by kernel_rfl
def enc0 (t : (Vec (ByteArray × ByteArray)) × ByteArray × Int) : List AV × List Ob := ([.ra [.sl 2 (encRw t.1)], .c (.n (.v (.string t.2.1))), .c (.n (.v (.int .i64 t.2.2)))], [])
theorem enc0I : ∀ a b, enc0 a = enc0 b → a = b := by
  intro a b h
  obtain ⟨a0, a1, a2⟩ := a
  obtain ⟨b0, b1, b2⟩ := b
  simp [enc0, encRw_iff] at h
  simp_all
noncomputable def V0 : (ρ : Type) → List AV → List Ob → ((Vec (ByteArray × ByteArray)) → ByteArray → Int → Option ρ) → Option ρ := fun ρ avs obs k0 => ofC enc0 (fun t => F0 fuelN t.1 t.2.1 t.2.2 k0) (avs, obs)
theorem V0_enc (ρ : Type) : (fun w1 w2 w3 k0 => V0 ρ [.ra [.sl 2 (encRw w1)], .c (.n (.v (.string w2))), .c (.n (.v (.int .i64 w3)))] [] k0) = F0 fuelN := by
  funext w1 w2 w3 k0
  exact ofC_enc enc0I _ (w1, w2, w3)
theorem main (W0 : (ρ : Type) → List AV → List Ob → ((Vec (ByteArray × ByteArray)) → ByteArray → Int → Option ρ) → Option ρ) {ρ : Type} (K : AV → List Ob → Option ρ) (a1 : Vec (ByteArray × ByteArray)) (a2 : ByteArray) : exC Try.prog (G) (L W0) [] 0 (bodyOf Try.f75) (entry 48 [.ra [.sl 2 (encRw a1)], .c (.n (.v (.string a2)))] [] []) (finO Try.prog Try.f75.results.toList 0 [] [] K) =
    B (fun w1 w2 w3 k0 => W0 ρ [.ra [.sl 2 (encRw w1)], .c (.n (.v (.string w2))), .c (.n (.v (.int .i64 w3)))] [] k0) a1 a2 (fun x1 x2 => K (.tup [.c (.n (.v (.int .i64 x1))), .c (.n (.v (.bool x2)))]) []) := by kernel_rfl
theorem Gok : (G).ok Try.prog := ⟨(fun ρ f args K r h => (by cases h)),
  (fun ρ f args K => rfl),
  (fun ρ f st caps args dst K r h => (by cases h))⟩
theorem hm : Try.prog.follows .mixedOrders = true := by kernel_rfl
theorem e0 : atomsL [] 1 c0 = [] := by kernel_rfl
theorem ok0 (ρ : Type) (st : St) (K : Exit → St → Option ρ) (r : ρ) (h : (L V0) ρ 0 st K = some r) : AW Try.prog (.loop c0) st fun e st' => K e st' = some r := by
  refine loop_ok (ct := ct0) (lv := lv0) (n := 48) (m := 0) (ks := []) (j := 0) (jn := []) (L := (L V0)) Gok hm (by rw [e0]; exact Lor.ok_nil _ _) enc0I (fun k t => F0 k t.1 t.2.1 t.2.2 (fun z1 z2 z3 => K (.exit 0) (mkS 48 [0, 1, 6] [.ra [.sl 2 (encRw z1)], .c (.n (.v (.string z2))), .c (.n (.v (.int .i64 z3)))] [] []))) (fun t => rfl) (fun k t => ?_) (fun _ => fuelN) h
  refine (step0 V0 K _ t.1 t.2.1 t.2.2).trans ?_
  refine congrArg (fun W => B0 t.1 t.2.1 t.2.2 W (fun z1 z2 z3 => K (.exit 0) (mkS 48 [0, 1, 6] [.ra [.sl 2 (encRw z1)], .c (.n (.v (.string z2))), .c (.n (.v (.int .i64 z3)))] [] []))) ?_
  funext u1 u2 u3
  exact ofC_enc enc0I _ (u1, u2, u3)
theorem e : atomsL [] 0 (bodyOf Try.f75) = [(0, 0, .loop c0)] := by kernel_rfl
theorem acc (t : (Vec (ByteArray × ByteArray)) × ByteArray) (x : Int × Bool) (h : F t.1 t.2 = some x) : ACc Try.prog 75 (encA t) [] true [] fun rv obs => (rv, obs) = encR x := by
  refine fun_okc (L := (L V0)) (jn := []) (cmds := []) (ks := []) (hin := []) (fn := Try.f75) (body := (bodyOf Try.f75)) Gok hm Try.func75 (by kernel_rfl) (by kernel_rfl) (by rw [e]; exact Lor.ok_cons ok0 (Lor.ok_nil _ _)) ?_ h
  refine (main V0 _ t.1 t.2).trans ?_
  rw [V0_enc]
  refine congrArg (fun K => B (F0 fuelN) t.1 t.2 K) ?_
  funext x1 x2
  exact ofC_enc encRI some (x1, x2)
theorem ac0 (t : (Vec (ByteArray × ByteArray)) × ByteArray) (x : Int × Bool) (h : F t.1 t.2 = some x) : AC Try.prog 75 (encA t) [] true [] fun rv obs => (rv, obs) = encR x := ACc.ac (body := bodyOf Try.f75) Try.func75 (by kernel_rfl) (by kernel_rfl) (acc t x h)
theorem ac (args : List AV) (x : Int × Bool) (h : Q args = some x) : AC Try.prog 75 args [] false [] fun rv obs => (rv, obs) = encR x := by
  obtain ⟨t, rfl, h2⟩ := ofC_some h
  refine (ac0 t x h2).flat fun rv obs e => ?_
  obtain rfl : rv = (encR x).1 := congrArg Prod.fst e
  obtain rfl : obs = (encR x).2 := congrArg Prod.snd e
  refine ⟨by simp [encR, AV.Flat, K.Flat, C.Flat], ?_⟩
  simp [encR]
end impl_Disk_place
/-! slices.Insert(()loop.example/g00073/impl.File,loop.example/g00073/impl.File) -/
end Go.Al
namespace Go.AlW.slices_Insert_impl_File_s0fce
open Go.Proofs Go.Shelf Go.RowKit Go.Lib
theorem insI : (Try.prog.info? 80).map (fun i => (i.size, i.bytes, i.zero.isSome, (i.zero.map (·.cells.size)))) = some (2, 32, true, some 2) := by kernel_rfl
set_option maxHeartbeats 4000000 in
set_option maxRecDepth 100000 in
theorem insT_room (b n c vb vc : Nat) (vs : List Value) (w : World) (hroom : n + 1 ≤ c) (hc63 : c ≤ 9223372036854775807) (hvl : vs.length = 2)
    (hsp : ∀ k, k < c * 2 → (w.cell? ⟨b, k, none⟩).isSome = true) (hfz : ∀ k, k < c * 2 → w.frozen? ⟨b, k, none⟩ = false)
    (hvs : ∀ k v, vs[k]? = some v → w.cell? ⟨vb, k, none⟩ = some v) (h1v : ∀ v ∈ vs, v.oneCell' = true) :
    Calls Try.prog 84 #[.slice (some ⟨b, 0, none⟩) n c, .int .i64 n, .slice (some ⟨vb, 0, none⟩) 1 vc] w fun e w' =>
      e = .returned (.slice (some ⟨b, 0, none⟩) (n + 1) c) ∧ w' = w.setCells b (n * 2) vs := by
  obtain ⟨i0, hi0, hii⟩ := Option.map_eq_some_iff.1 insI
  simp only [Prod.mk.injEq] at hii
  have mixed : Try.prog.follows .mixedOrders = true := by kernel_rfl
  have hsrc : Src Try.prog i0.size 38 (.slice (some ⟨vb, 0, none⟩) 1 vc) 1 vs w := Src.ofSlice w Try.underlying38 ⟨vb, 0, none⟩ 1 vc vs (by rw [hii.1]; omega) (fun k u hj => by rw [Al.add0]; exact hvs k u hj) h1v
  have hsp' : ∀ k, k < vs.length → (w.cell? ⟨b, 0 + n * i0.size + k, none⟩).isSome = true := fun k hk => by rw [hii.1]; exact hsp _ (by omega)
  have hfz' : ∀ k, k < vs.length → w.frozen? ⟨b, 0 + n * i0.size + k, none⟩ = false := fun k hk => by rw [hii.1]; exact hfz _ (by omega)
  have hX : Hid (w.setCells b (0 + n * i0.size) vs = w.setCells b (n * 2) vs) := by rw [hii.1, Nat.zero_add]; rfl
  clear hsp hfz
  go_enter Try.func84, Try.ntmps84
  go_wp2_with (at_builtin; refine wpList_append_room_src _ rfl _ _ 38 38 rfl 80 i0 Try.underlying38 hi0 b 0 n c rfl _ rfl 1 vs hsrc hroom hsp' hfz' ?_)
  go_ret
  exact ⟨rfl, by first | rfl | exact hX.out⟩

set_option maxHeartbeats 4000000 in
set_option maxRecDepth 100000 in
theorem insT_end (base : Option Addr) (n c vb vc : Nat) (cs vs : List Value) (w : World) (hnc : n ≤ c) (hroom : c < n + 1) (hbig : (n + 1) * 32 ≤ 140737488355328)
    (hcl : cs.length = n * 2) (hvl : vs.length = 2) (hnil : n ≠ 0 → ∃ b, base = some ⟨b, 0, none⟩ ∧ ∀ k v, cs[k]? = some v → w.cell? ⟨b, k, none⟩ = some v)
    (hvs : ∀ k v, vs[k]? = some v → w.cell? ⟨vb, k, none⟩ = some v) (h1v : ∀ v ∈ vs, v.oneCell' = true) (zv : Value) (hzv : (Try.prog.info? 80).bind (·.zero) = some zv) :
    Calls Try.prog 84 #[.slice base n c, .int .i64 n, .slice (some ⟨vb, 0, none⟩) 1 vc] w fun e w' =>
      e = .returned (.slice (some ⟨w.heap.size, 0, none⟩) (n + 1) (grownCap w (n + 1) c 80)) ∧
      w' = w.drew.alloc (.cells ((cs ++ vs).toArray ++ Builtin.zeroCells zv.cells (grownCap w (n + 1) c 80 - (n + 1))) 80) := by
  obtain ⟨i0, hi0, hii⟩ := Option.map_eq_some_iff.1 insI
  simp only [Prod.mk.injEq] at hii
  obtain ⟨hzs, hzb, -, -⟩ := hii
  have hz0 : i0.zero = some zv := by rw [hi0] at hzv; exact hzv
  have mixed : Try.prog.follows .mixedOrders = true := by kernel_rfl
  have hsrc : Src Try.prog i0.size 38 (.slice (some ⟨vb, 0, none⟩) 1 vc) 1 vs w := Src.ofSlice w Try.underlying38 ⟨vb, 0, none⟩ 1 vc vs (by rw [hzs]; omega) (fun k u hj => by rw [Al.add0]; exact hvs k u hj) h1v
  have hold : (Builtin.firstCells i0.size n (.slice base n c)).run Try.prog w.drew = .ok cs.toArray w.drew := by
    rw [hzs]
    by_cases h0 : n = 0
    · subst h0
      rw [List.length_eq_zero_iff.1 (by omega : cs.length = 0)]
      cases base with
      | none => exact run_firstCells_none w.drew 2 0 0 c
      | some a => exact run_firstCells_some w.drew 2 0 a 0 c [] (by simp) (by simp)
    · obtain ⟨b, rfl, hcs⟩ := hnil h0
      exact run_firstCells_some w.drew 2 n ⟨b, 0, none⟩ n c cs hcl (fun k v hk => by rw [Al.add0]; exact hcs k v hk)
  have hrun : ∀ ty, (Builtin.append_ #[38, 38] ty #[.slice base n c, .slice (some ⟨vb, 0, none⟩) 1 vc]).run Try.prog w = _ := fun ty =>
    run_append_grow_src w 38 38 ty 80 i0 _ Try.underlying38 hi0 hz0 base n c cs hold _ 1 vs hsrc hroom (by omega) (by rw [hzb]; exact growslice_fits hroom hbig)
  obtain ⟨ROW, hROW⟩ : ∃ ROW, ROW = (cs ++ vs).toArray ++ Builtin.zeroCells zv.cells (grownCap w (n + 1) c 80 - (n + 1)) := ⟨_, rfl⟩
  rw [← hROW] at hrun ⊢
  clear hold hsrc hi0 hzv hz0 hzs hzb hROW
  go_enter Try.func84, Try.ntmps84
  cases base with
  | none =>
    have h0 : n = 0 := by
      apply Classical.byContradiction
      intro h0
      obtain ⟨b, hb, -⟩ := hnil h0
      cases hb
    subst h0
    clear hnil
    go_wp2_with (at_builtin; refine Lib.wpList_append_run _ rfl _ _ _ _ rfl _ _ rfl rfl _ _ (hrun _) ?_)
    go_ret
    exact ⟨rfl, rfl⟩
  | some a =>
    clear hnil
    obtain ⟨ab, ao, asp⟩ := a
    go_wp2_with (at_builtin; refine Lib.wpList_append_run _ rfl _ _ _ _ rfl _ _ rfl rfl _ _ (hrun _) ?_)
    all_goals (go_ret; exact ⟨rfl, rfl⟩)

set_option maxHeartbeats 4000000 in
set_option maxRecDepth 100000 in
theorem insT_shift (b n c i vb vc kA : Nat) (cs vs : List Value) (w : World) (hi : i < n) (hroom : n + 1 ≤ c) (hc63 : c ≤ 9223372036854775807) (hvb : vb ≠ b)
    (hcl : cs.length = n * 2) (hvl : vs.length = 2)
    (hcs : ∀ k v, cs[k]? = some v → w.cell? ⟨b, k, none⟩ = some v) (hsp : ∀ k, k < c * 2 → (w.cell? ⟨b, k, none⟩).isSome = true) (hfz : ∀ k, k < c * 2 → w.frozen? ⟨b, k, none⟩ = false)
    (hvs : ∀ k v, vs[k]? = some v → w.cell? ⟨vb, k, none⟩ = some v) (h1c : ∀ v ∈ cs, v.oneCell' = true) (h1v : ∀ v ∈ vs, v.oneCell' = true)
    (tA tB : TypeId) (hsa : w.shape? vb = some (tA, kA)) (hsb : w.shape? b = some (tB, c * 2)) (hfa : w.frozen? ⟨vb, 0, none⟩ = false) (hfe : w.frozen? ⟨vb, kA, none⟩ = false) :
    Calls Try.prog 84 #[.slice (some ⟨b, 0, none⟩) n c, .int .i64 i, .slice (some ⟨vb, 0, none⟩) 1 vc] w fun e w' =>
      e = .returned (.slice (some ⟨b, 0, none⟩) (n + 1) c) ∧ w' = (w.drew.setCells b ((i + 1) * 2) (cs.drop (i * 2))).setCells b (i * 2) vs := by
  have mixed : Try.prog.follows .mixedOrders = true := by kernel_rfl
  have hz2 : ¬ ((i : Int) = (n : Int)) := by omega
  have hsz : (Try.prog.info? 80).map (·.size) = some 2 := by kernel_rfl
  have hov : ∀ lb cb, (callFunc 90 #[.slice (some ⟨vb, 0, none⟩) 1 vc, .slice (some ⟨b, (i + 1) * 2, none⟩) lb cb]).run Try.prog w = .ok (.value (.bool false)) w := fun lb cb => by
    rw [run_callFunc_extern Try.func90 (by kernel_rfl) (by kernel_rfl) (by kernel_rfl) (e := Extern.SlicesOverlaps.overlaps #[38, 38] #[4]) (by kernel_rfl),
      Lib.run_overlaps_apart w 38 4 80 Try.underlying38 2 Try.sizeOf80 ⟨vb, 0, none⟩ ⟨b, (i + 1) * 2, none⟩ 1 vc lb cb hvb tA tB kA (c * 2) hsa hsb (by omega) hfa hfe]
    rfl
  have hdl : (cs.drop (i * 2)).length = (n - i) * 2 := by rw [List.length_drop, hcl]; omega
  have hw1 : IntKind.i64.wrap ((i : Int) + 1) = (i : Int) + 1 := by rw [IntKind.wrap_i64]; omega
  have hb1 : (0 : Int) ≤ (i : Int) + 1 := by omega
  have hin : i ≤ n := by omega
  have htn : ((i : Int) + 1).toNat = i + 1 := by omega
  have hb2 : ¬ (c = i + 1) := by omega
  have hb3 : (i : Int) ≤ (n : Int) + 1 := by omega
  have hb4 : ¬ (c = i) := by omega
  have hb5 : i + 1 ≤ c := by omega
  have hb6 : i ≤ c := by omega
  have hcp1 : ∀ ty dc sc, (Builtin.copy_ #[38, 38] ty #[.slice (some ⟨b, (i + 1) * 2, none⟩) (n - i) dc, .slice (some ⟨b, i * 2, none⟩) (n + 1 - i) sc]).run Try.prog w.drew = .ok (goInt (Nat.min (n + 1 - i) (n - i))) (w.drew.setCells b ((i + 1) * 2) (cs.drop (i * 2))) := fun ty dc sc =>
    Al.run_copy_z w.drew _ _ ty 80 2 b ((i + 1) * 2) (n - i) dc ⟨b, i * 2, none⟩ (n + 1 - i) sc (cs.drop (i * 2)) Try.underlying38 hsz (by rw [hdl]; simp only [Nat.min_def]; split <;> omega)
      (fun k v hk => by rw [Al.add00]; exact hcs (i * 2 + k) v (by rwa [List.getElem?_drop] at hk))
      (fun k hk => hsp _ (by omega)) (fun k hk => hfz _ (by omega)) (fun v hv => h1c v (List.mem_of_mem_drop hv))
  obtain ⟨W1, hW1⟩ : ∃ W1, W1 = w.drew.setCells b ((i + 1) * 2) (cs.drop (i * 2)) := ⟨_, rfl⟩
  have hsp1 : ∀ k, k < c * 2 → (W1.cell? ⟨b, k, none⟩).isSome = true := fun k hk => by
    rw [hW1]
    exact isSome_setCells b (cs.drop (i * 2)) ((i + 1) * 2) w.drew (fun j hj => hsp _ (by rw [hdl] at hj; omega)) k (hsp k hk)
  have hcp2 : ∀ (W : World), (∀ x, W.cell? x = W1.cell? x) → (∀ x, W.frozen? x = W1.frozen? x) → ∀ ty dc, (Builtin.copy_ #[38, 38] ty #[.slice (some ⟨b, i * 2, none⟩) (n + 1 - i) dc, .slice (some ⟨vb, 0, none⟩) 1 vc]).run Try.prog W = .ok (goInt (Nat.min 1 (n + 1 - i))) (W.setCells b (i * 2) vs) := fun W hWc hWf ty dc =>
    Al.run_copy_z W _ _ ty 80 2 b (i * 2) (n + 1 - i) dc ⟨vb, 0, none⟩ 1 vc vs Try.underlying38 hsz (by rw [hvl]; simp only [Nat.min_def]; split <;> omega)
      (fun k v hk => by
        rw [Al.add0, hWc, hW1, World.cell?_setCells_out b _ _ _ _ (fun h _ => absurd h hvb)]
        exact hvs k v hk)
      (fun k hk => by rw [hWc]; exact hsp1 _ (by omega)) (fun k hk => by rw [hWf, hW1, World.frozen?_setCells]; exact hfz _ (by omega)) h1v
  rw [← hW1] at hcp1
  have hX : Hid (W1 = w.drew.setCells b ((i + 1) * 2) (cs.drop (i * 2))) := hW1
  clear hW1 hsp hfz hcs hvs h1c h1v hsp1 hsa hsb hfa hfe hdl hsz
  go_enter Try.func84, Try.ntmps84
  go_wp2_with (simp only [hov])
  go_region_law_o (refine step_copy_runI rfl _ _ 38 38 rfl _ _ (by simp [Act.eval, Act.put]) (by simp [Act.eval, Act.put]) (hcp1 _ _ _) ?_)
  go_wp2_with (at_builtin; refine wpList_copy_runI _ rfl _ _ 38 38 rfl _ _ rfl rfl (hcp2 _ (fun _ => rfl) (fun _ => rfl) _ _) ?_)
  go_ret
  exact ⟨rfl, by rw [← hX.out]⟩

set_option maxHeartbeats 4000000 in
set_option maxRecDepth 100000 in
theorem insT_grow (b n c i vb vc : Nat) (cs vs : List Value) (w : World) (hi : i < n) (hnc : n ≤ c) (hroom : c < n + 1) (hbig : (n + 1) * 32 ≤ 140737488355328)
    (hcl : cs.length = n * 2) (hvl : vs.length = 2)
    (hcs : ∀ k v, cs[k]? = some v → w.cell? ⟨b, k, none⟩ = some v)
    (hvs : ∀ k v, vs[k]? = some v → w.cell? ⟨vb, k, none⟩ = some v) (h1c : ∀ v ∈ cs, v.oneCell' = true) (h1v : ∀ v ∈ vs, v.oneCell' = true) (hbw : b < w.heap.size) (hvw : vb < w.heap.size)
    (zv : Value) (hzv : (Try.prog.info? 80).bind (·.zero) = some zv) :
    Calls Try.prog 84 #[.slice (some ⟨b, 0, none⟩) n c, .int .i64 i, .slice (some ⟨vb, 0, none⟩) 1 vc] w fun e w' =>
      e = .returned (.slice (some ⟨w.heap.size, 0, none⟩) (n + 1) (grownCap w (n + 1) c 80)) ∧
      w' = (((w.alloc (.cells ((cs.take (i * 2)).toArray ++ Builtin.zeroCells zv.cells (n + 1 - i) ++ Builtin.zeroCells zv.cells (grownCap w (n + 1) c 80 - (n + 1))) 80)).drew.setCells w.heap.size (i * 2) vs).drew).setCells w.heap.size ((i + 1) * 2) (cs.drop (i * 2)) := by
  have mixed : Try.prog.follows .mixedOrders = true := by kernel_rfl
  obtain ⟨i0, hi0, hii⟩ := Option.map_eq_some_iff.1 insI
  simp only [Prod.mk.injEq] at hii
  obtain ⟨hzs, hzb, -, hzc⟩ := hii
  have hz0 : i0.zero = some zv := by rw [hi0] at hzv; exact hzv
  have hzc2 : zv.cells.size = 2 := by rw [hz0] at hzc; simpa using hzc
  have hz2 : ¬ ((i : Int) = (n : Int)) := by omega
  have hz3 : (c : Int) < (n : Int) + 1 := by omega
  have hsz : (Try.prog.info? 80).map (·.size) = some 2 := by kernel_rfl
  have hkk : (n : Int) + 1 - (i : Int) = ((n + 1 - i : Nat) : Int) := by omega
  have hik : i + (n + 1 - i) = n + 1 := by omega
  have hold : (Builtin.firstCells i0.size i (.slice (some ⟨b, 0, none⟩) i c)).run Try.prog w.drew = .ok (cs.take (i * 2)).toArray w.drew := by
    rw [hzs]
    exact run_firstCells_some w.drew 2 i ⟨b, 0, none⟩ i c (cs.take (i * 2)) (by rw [List.length_take]; omega) (fun j v hj => by
      rw [Al.add0]
      rw [List.getElem?_take] at hj
      split at hj
      · exact hcs j v hj
      · cases hj)
  have hrz : ∀ ty, (Builtin.append_ #[38, 3] ty #[.slice (some ⟨b, 0, none⟩) i c, .int .i64 ((n : Int) + 1 - (i : Int))]).run Try.prog w =
      .ok (.slice (some ⟨w.heap.size, 0, none⟩) (n + 1) (grownCap w (n + 1) c 80)) (w.drew.alloc (.cells ((cs.take (i * 2)).toArray ++ Builtin.zeroCells zv.cells (n + 1 - i) ++ Builtin.zeroCells zv.cells (grownCap w (n + 1) c 80 - (n + 1))) 80)) := fun ty => by
    have h := Lib.run_append_grow_zeros w 38 3 ty 80 i0 _ .i64 .i64 Try.underlying38 Try.underlying3 hi0 hz0 (some ⟨b, 0, none⟩) i c (cs.take (i * 2)) hold (n + 1 - i) (by omega) (by omega) (by omega) (by omega) (by rw [hzb]; omega) (by rw [hzb, hik]; exact growslice_fits hroom hbig)
    rw [hik] at h
    rw [hkk]
    exact h
  obtain ⟨G, hG⟩ : ∃ G, G = grownCap w (n + 1) c 80 := ⟨_, rfl⟩
  obtain ⟨ROW, hROW⟩ : ∃ ROW : Array Value, ROW = (cs.take (i * 2)).toArray ++ Builtin.zeroCells zv.cells (n + 1 - i) ++ Builtin.zeroCells zv.cells (G - (n + 1)) := ⟨_, rfl⟩
  rw [← hG] at hrz ⊢
  rw [← hROW] at hrz ⊢
  have hGn : n + 1 ≤ G := by rw [hG]; exact grownCap_ge w _ _ _
  have hG63 : G ≤ 9223372036854775807 := by
    have := grownCap_le_maxLen w (n + 1) c 80 (by unfold maxLen; omega)
    rw [← hG] at this
    unfold maxLen at this
    omega
  have hRl : (n + 1) * 2 ≤ ROW.size := by
    rw [hROW]
    simp only [Array.size_append, List.size_toArray, List.length_take, Builtin.zeroCells, Array.size_map, Array.size_range, hzc2, hcl]
    omega
  obtain ⟨W1, hW1⟩ : ∃ W1, W1 = w.drew.alloc (.cells ROW 80) := ⟨_, rfl⟩
  rw [← hW1] at hrz
  have hN : ∀ j, j < (n + 1) * 2 → (W1.cell? ⟨w.heap.size, j, none⟩).isSome = true := fun j hj => by
    rw [hW1, World.cell?_alloc_at (w := w.drew) ROW _ w.heap.size j rfl, Array.getElem?_eq_getElem (by omega)]; rfl
  have hNf : ∀ j, W1.frozen? ⟨w.heap.size, j, none⟩ = false := fun j => by rw [hW1]; exact World.frozen?_alloc_at (w := w.drew) ROW _ w.heap.size j rfl
  have hOb : ∀ j v, w.cell? ⟨b, j, none⟩ = some v → W1.cell? ⟨b, j, none⟩ = some v := fun j v h => by rw [hW1, World.cell?_alloc_past (w := w.drew) _ b j hbw]; exact h
  have hOv : ∀ j v, w.cell? ⟨vb, j, none⟩ = some v → W1.cell? ⟨vb, j, none⟩ = some v := fun j v h => by rw [hW1, World.cell?_alloc_past (w := w.drew) _ vb j hvw]; exact h
  have hcpA : ∀ (W : World), (∀ x, W.cell? x = W1.cell? x) → (∀ x, W.frozen? x = W1.frozen? x) → ∀ ty dc, (Builtin.copy_ #[38, 38] ty #[.slice (some ⟨w.heap.size, i * 2, none⟩) (n + 1 - i) dc, .slice (some ⟨vb, 0, none⟩) 1 vc]).run Try.prog W = .ok (goInt (Nat.min 1 (n + 1 - i))) (W.setCells w.heap.size (i * 2) vs) := fun W hWc hWf ty dc =>
    Al.run_copy_z W _ _ ty 80 2 w.heap.size (i * 2) (n + 1 - i) dc ⟨vb, 0, none⟩ 1 vc vs Try.underlying38 hsz (by rw [hvl]; simp only [Nat.min_def]; split <;> omega)
      (fun j v hj => by rw [Al.add0, hWc]; exact hOv _ v (hvs j v hj))
      (fun j hj => by rw [hWc]; exact hN _ (by omega)) (fun j hj => by rw [hWf]; exact hNf _) h1v
  have hGi : ¬ (G = i) := by omega
  have hGim : ¬ (G = i + 1) := by omega
  have hci : ¬ (c = i) := by omega
  have hbN : b ≠ w.heap.size := by omega
  have hdl : (cs.drop (i * 2)).length = (n - i) * 2 := by rw [List.length_drop, hcl]; omega
  have hcpB : ∀ (W : World), (∀ x, W.cell? x = (W1.setCells w.heap.size (i * 2) vs).cell? x) → (∀ x, W.frozen? x = (W1.setCells w.heap.size (i * 2) vs).frozen? x) → ∀ ty dc sc, (Builtin.copy_ #[38, 38] ty #[.slice (some ⟨w.heap.size, (i + 1) * 2, none⟩) (n - i) dc, .slice (some ⟨b, i * 2, none⟩) (n - i) sc]).run Try.prog W = .ok (goInt (Nat.min (n - i) (n - i))) (W.setCells w.heap.size ((i + 1) * 2) (cs.drop (i * 2))) := fun W hWc hWf ty dc sc =>
    Al.run_copy_z W _ _ ty 80 2 w.heap.size ((i + 1) * 2) (n - i) dc ⟨b, i * 2, none⟩ (n - i) sc (cs.drop (i * 2)) Try.underlying38 hsz (by rw [hdl]; simp only [Nat.min_def]; split <;> omega)
      (fun j v hj => by
        rw [Al.add00, hWc, World.cell?_setCells_out _ _ _ _ _ (fun h _ => absurd h hbN)]
        exact hOb _ v (hcs (i * 2 + j) v (by rwa [List.getElem?_drop] at hj)))
      (fun j hj => by rw [hWc]; exact isSome_setCells _ _ _ _ (fun t ht => hN _ (by omega)) _ (hN _ (by omega)))
      (fun j hj => by rw [hWf, World.frozen?_setCells]; exact hNf _) (fun v hv => h1c v (List.mem_of_mem_drop hv))
  subst hW1
  have hE1 : ∀ x, ((w.alloc (.cells ROW 80)).drew).cell? x = (w.drew.alloc (.cells ROW 80)).cell? x := fun x => rfl
  have hE2 : ∀ x, ((w.alloc (.cells ROW 80)).drew).frozen? x = (w.drew.alloc (.cells ROW 80)).frozen? x := fun x => rfl
  have hF1 : ∀ x, (((w.alloc (.cells ROW 80)).drew.setCells w.heap.size (i * 2) vs).drew).cell? x = ((w.drew.alloc (.cells ROW 80)).setCells w.heap.size (i * 2) vs).cell? x := fun x => rfl
  have hF2 : ∀ x, (((w.alloc (.cells ROW 80)).drew.setCells w.heap.size (i * 2) vs).drew).frozen? x = ((w.drew.alloc (.cells ROW 80)).setCells w.heap.size (i * 2) vs).frozen? x := fun x => rfl
  have hw1 : IntKind.i64.wrap ((i : Int) + 1) = (i : Int) + 1 := by rw [IntKind.wrap_i64]; omega
  have hb1 : (0 : Int) ≤ (i : Int) + 1 := by omega
  have hin : i ≤ n := by omega
  have htn : ((i : Int) + 1).toNat = i + 1 := by omega
  have hb3 : (i : Int) ≤ (n : Int) := by omega
  have hb4 : i ≤ c := by omega
  have hb5 : i ≤ G := by omega
  have hb6 : i + 1 ≤ G := by omega
  clear hkk hik hold hROW hG hRl hi0 hzv hz0 hzs hzb hzc hzc2 hsz hN hNf hOb hOv hcs hvs h1c h1v
  go_enter Try.func84, Try.ntmps84
  go_wp2_with (first
    | (at_builtin; refine Lib.wpList_append_run _ rfl _ _ _ _ rfl _ _ rfl rfl _ _ (hrz _) ?_)
    | (at_builtin; refine wpList_copy_runI _ rfl _ _ 38 38 rfl _ _ rfl rfl (hcpA _ hE1 hE2 _ _) ?_)
    | (at_builtin; refine wpList_copy_runI _ rfl _ _ 38 38 rfl _ _ rfl rfl (hcpB _ (fun _ => rfl) (fun _ => rfl) _ _ _) ?_))
  go_region_law_o (refine step_copy_runI rfl _ _ 38 38 rfl (.slice (some ⟨w.heap.size, (i + 1) * 2, none⟩) (n - i) (G - (i + 1))) (.slice (some ⟨b, i * 2, none⟩) (n - i) (c - i)) (by simp [Act.eval, Act.put]) (by simp [Act.eval, Act.put]) (hcpB _ hF1 hF2 3 (G - (i + 1)) (c - i)) ?_)
  go_wp2
  go_ret
  exact ⟨rfl, rfl⟩

theorem insS : ∃ zv, Al.InsSpec Try.prog 84 2 32 80 zv := by
  obtain ⟨i0, hi0, hii⟩ := Option.map_eq_some_iff.1 insI
  simp only [Prod.mk.injEq] at hii
  obtain ⟨zv, hz⟩ := Option.isSome_iff_exists.1 hii.2.2.1
  have hzv : (Try.prog.info? 80).bind (·.zero) = some zv := by rw [hi0]; exact hz
  exact ⟨zv, ⟨by have := hii.2.2.2; rw [hz] at this; simpa using this, insT_room, fun base n c vb vc cs vs w h1 h2 h3 h4 h5 h6 h7 h8 => insT_end base n c vb vc cs vs w h1 h2 h3 h4 h5 h6 h7 h8 zv hzv, insT_shift,
    fun b n c i vb vc cs vs w h1 h2 h3 h4 h5 h6 h7 h8 h9 h10 h11 h12 => insT_grow b n c i vb vc cs vs w h1 h2 h3 h4 h5 h6 h7 h8 h9 h10 h11 h12 zv hzv⟩⟩
end Go.AlW.slices_Insert_impl_File_s0fce
namespace Go.Al
open Go.Proofs
namespace slices_Insert_impl_File_s0fce
noncomputable def F (a1 : Int) (a2 a3 : Vec (ByteArray × ByteArray)) : Option (Vec (ByteArray × ByteArray)) := sel (decide (0 ≤ a1 ∧ a1 ≤ (a2.n : Int) ∧ a3.n = 1 ∧ (a2.n + 1) * (32 + 1) ≤ maxN)) (some (Vec.ins a2 a1 a3)) none
def encA (t : Int × (Vec (ByteArray × ByteArray)) × (Vec (ByteArray × ByteArray))) : List AV × List Ob := ([.c (.h 0), .c (.n (.v (.int .i64 t.1))), .c (.h 1)], [.row 2 (encRw t.2.1) [], .row 2 (encRw t.2.2) []])
def encR (x : Vec (ByteArray × ByteArray)) : AV × List Ob := (.c (.h 0), [.row 2 (encRw x) [], .none])
theorem encAI : ∀ a b, encA a = encA b → a = b := by
  intro a b h
  obtain ⟨a0, a1, a2⟩ := a
  obtain ⟨b0, b1, b2⟩ := b
  simp [encA, encRw_iff] at h
  simp_all
noncomputable def Q (args : List AV) (hin : List Ob) : Option (Vec (ByteArray × ByteArray)) := ofC encA (fun t => F t.1 t.2.1 t.2.2) (args, hin)
theorem wrap : (fun (y1 : Int) (y2 : Vec (ByteArray × ByteArray)) (y3 : Vec (ByteArray × ByteArray)) => Q [.c (.h 0), .c (.n (.v (.int .i64 y1))), .c (.h 1)] [.row 2 (encRw y2) [], .row 2 (encRw y3) []]) = F := by
  funext y1 y2 y3
  exact ofC_enc encAI _ (y1, y2, y3)
theorem ac (args : List AV) (hin : List Ob) (x : Vec (ByteArray × ByteArray)) (h : Q args hin = some x) : AC Try.prog 84 args hin false [false, false] fun rv obs => (rv, obs) = encR x := by
  obtain ⟨t, he, h2⟩ := ofC_some h
  obtain rfl : args = (encA t).1 := (congrArg Prod.fst he).symm
  obtain rfl : hin = (encA t).2 := (congrArg Prod.snd he).symm
  rcases sel_cases h2 with ⟨hb, h3⟩ | ⟨-, h3⟩
  · simp only [Option.some.injEq] at h3
    subst h3
    have hb := of_decide_eq_true hb
    obtain ⟨zv, hs⟩ := AlW.slices_Insert_impl_File_s0fce.insS
    have hm := AC.ins Try.func84 (by kernel_rfl) (by kernel_rfl) (show InsSpec Try.prog 84 (Enc.sz (ByteArray × ByteArray)) 32 80 zv from hs) (by decide) hb
    refine AC.flat hm fun rv obs e => ?_
    obtain rfl : rv = .c (.h 0) := congrArg Prod.fst e
    obtain rfl : obs = [Go.Al.rw (Vec.ins t.2.1 t.1 t.2.2), .none] := congrArg Prod.snd e
    refine ⟨by simp [AV.Flat, K.Flat, C.Flat], ?_⟩
    intro o ho
    simp only [List.mem_cons, List.not_mem_nil, or_false] at ho
    rcases ho with rfl | rfl
    · exact flat_rw rfl _
    · simp [Ob.Flat, C.Flat, N.Flat]
  · cases h3
end slices_Insert_impl_File_s0fce
/-! (*loop.example/g00073/impl.Disk).put -/
namespace impl_Disk_put_s22c0
noncomputable def B {ρ : Type} (C_impl_Disk_place : (Vec (ByteArray × ByteArray)) → ByteArray → Option (Int × Bool)) (C_slices_Insert_impl_File_s0fce : Int → (Vec (ByteArray × ByteArray)) → (Vec (ByteArray × ByteArray)) → Option (Vec (ByteArray × ByteArray))) (a1 : ByteArray) (a2 : ByteArray) (a3 : Vec (ByteArray × ByteArray)) (K : (Vec (ByteArray × ByteArray)) → Option ρ) : Option ρ :=
  (C_impl_Disk_place a3 a1).bind fun r1 => sel (r1.2) (chk (decide (0 ≤ r1.1 ∧ r1.1 < (a3.n : Int))) (chk (decide ((r1.1).toNat < a3.n)) (K (Vec.set a3 ((r1.1).toNat) (a1, a2))))) ((C_slices_Insert_impl_File_s0fce r1.1 a3 (Vec.lit [(a1, a2)] : Vec (ByteArray × ByteArray))).bind fun r2 => K r2)
noncomputable def F (a1 : ByteArray) (a2 : ByteArray) (a3 : Vec (ByteArray × ByteArray)) : Option (Vec (ByteArray × ByteArray)) := B impl_Disk_place.F slices_Insert_impl_File_s0fce.F a1 a2 a3 (fun x1 => some (x1))
def encA (t : ByteArray × ByteArray × (Vec (ByteArray × ByteArray))) : List AV × List Ob := ([.c (.p 0 0), .a [.n (.v (.string t.1)), .n (.v (.string t.2.1))]], [.box [.h 1], .row 2 (encRw t.2.2) []])
def encR (x : Vec (ByteArray × ByteArray)) : AV × List Ob := (.tup [], [.box [.h 1], .row 2 (encRw x) []])
theorem encAI : ∀ a b, encA a = encA b → a = b := by
  intro a b h
  obtain ⟨a0, a1, a2⟩ := a
  obtain ⟨b0, b1, b2⟩ := b
  simp [encA, encRw_iff] at h
  simp_all
theorem encRI : ∀ a b, encR a = encR b → a = b := by
  intro a b h
  simp [encR, encRw_iff] at h
  simp_all
noncomputable def Q (args : List AV) (hin : List Ob) : Option (Vec (ByteArray × ByteArray)) := ofC encA (fun t => F t.1 t.2.1 t.2.2) (args, hin)
theorem wrap : (fun (y1 : ByteArray) (y2 : ByteArray) (y3 : Vec (ByteArray × ByteArray)) => Q [.c (.p 0 0), .a [.n (.v (.string y1)), .n (.v (.string y2))]] [.box [.h 1], .row 2 (encRw y3) []]) = F := by
  funext y1 y2 y3
  exact ofC_enc encAI _ (y1, y2, y3)
noncomputable def G (q_impl_Disk_place : List AV → Option (Int × Bool)) (q_slices_Insert_impl_File_s0fce : List AV → List Ob → Option (Vec (ByteArray × ByteArray))) : Orc := ⟨fun f => sel (Nat.beq f 75) 0 (9), fun ρ f args K => sel (Nat.beq f 75) (qEntry impl_Disk_place.encR q_impl_Disk_place args K) (Option.none), fun ρ f st args dst K => sel (Nat.beq f 84) (callE Try.prog 84 [true, false, true] false [false, false] slices_Insert_impl_File_s0fce.encR q_slices_Insert_impl_File_s0fce st args dst K) (Option.none)⟩
noncomputable def L : Lor := fun ρ j st K => Option.none
theorem main (q_impl_Disk_place : List AV → Option (Int × Bool)) (q_slices_Insert_impl_File_s0fce : List AV → List Ob → Option (Vec (ByteArray × ByteArray))) {ρ : Type} (K : AV → List Ob → Option ρ) (a1 : ByteArray) (a2 : ByteArray) (a3 : Vec (ByteArray × ByteArray)) : exC Try.prog (G q_impl_Disk_place q_slices_Insert_impl_File_s0fce) (L) [] 0 (bodyOf Try.f74) (entry 32 [.c (.p 0 0), .a [.n (.v (.string a1)), .n (.v (.string a2))]] [.box [.h 1], .row 2 (encRw a3) []] [true, false]) (finO Try.prog Try.f74.results.toList 2 [true, false] [] K) =
    B (fun y1 y2 => q_impl_Disk_place [.ra [.sl 2 (encRw y1)], .c (.n (.v (.string y2)))]) (fun y1 y2 y3 => q_slices_Insert_impl_File_s0fce [.c (.h 0), .c (.n (.v (.int .i64 y1))), .c (.h 1)] [.row 2 (encRw y2) [], .row 2 (encRw y3) []]) a1 a2 a3 (fun x1 => K (.tup []) [.box [.h 1], .row 2 (encRw x1) []]) := by kernel_rfl
theorem Gok : (G impl_Disk_place.Q slices_Insert_impl_File_s0fce.Q).ok Try.prog := ⟨(by
    intro ρ f args K r h
    rcases sel_cases h with ⟨hb, h⟩ | ⟨-, h⟩
    · obtain rfl := beq_nat hb
      exact qEntry_ok impl_Disk_place.ac h
    cases h),
  (by
    intro ρ f args K
    simp only [G]
    cases Nat.beq f 75 with
    | true => exact qEntry_nat args K
    | false =>
    simp only [sel]
    rfl),
  (by
    intro ρ f st caps args dst K r h
    rcases sel_cases h with ⟨hb, h⟩ | ⟨-, h⟩
    · obtain rfl := beq_nat hb
      exact callE_ok (fun h => by cases h) slices_Insert_impl_File_s0fce.ac h
    cases h)⟩
theorem hm : Try.prog.follows .mixedOrders = true := by kernel_rfl
theorem e : atomsL [] 0 (bodyOf Try.f74) = [] := by kernel_rfl
theorem acc (t : ByteArray × ByteArray × (Vec (ByteArray × ByteArray))) (x : Vec (ByteArray × ByteArray)) (h : F t.1 t.2.1 t.2.2 = some x) : ACc Try.prog 74 (encA t).1 (encA t).2 true [true, false] fun rv obs => (rv, obs) = encR x := by
  refine fun_okc (L := (L)) (jn := []) (cmds := []) (ks := [true, false]) (hin := (encA t).2) (fn := Try.f74) (body := (bodyOf Try.f74)) Gok hm Try.func74 (by kernel_rfl) (by kernel_rfl) (by rw [e]; exact Lor.ok_nil _ _) ?_ h
  refine (main impl_Disk_place.Q slices_Insert_impl_File_s0fce.Q _ t.1 t.2.1 t.2.2).trans ?_
  rw [impl_Disk_place.wrap, slices_Insert_impl_File_s0fce.wrap]
  refine congrArg (fun K => B impl_Disk_place.F slices_Insert_impl_File_s0fce.F t.1 t.2.1 t.2.2 K) ?_
  funext x1
  exact ofC_enc encRI some (x1)
theorem ac0 (t : ByteArray × ByteArray × (Vec (ByteArray × ByteArray))) (x : Vec (ByteArray × ByteArray)) (h : F t.1 t.2.1 t.2.2 = some x) : AC Try.prog 74 (encA t).1 (encA t).2 true [true, false] fun rv obs => (rv, obs) = encR x := ACc.ac (body := bodyOf Try.f74) Try.func74 (by kernel_rfl) (by kernel_rfl) (acc t x h)
theorem ac (args : List AV) (hin : List Ob) (x : Vec (ByteArray × ByteArray)) (h : Q args hin = some x) : AC Try.prog 74 args hin false [true, false] fun rv obs => (rv, obs) = encR x := by
  obtain ⟨t, he, h2⟩ := ofC_some h
  obtain rfl : args = (encA t).1 := (congrArg Prod.fst he).symm
  obtain rfl : hin = (encA t).2 := (congrArg Prod.snd he).symm
  refine (ac0 t x h2).flat fun rv obs e => ?_
  obtain rfl : rv = (encR x).1 := congrArg Prod.fst e
  obtain rfl : obs = (encR x).2 := congrArg Prod.snd e
  refine ⟨by simp [encR, AV.Flat, K.Flat, C.Flat], ?_⟩
  intro o ho
  simp only [encR, List.mem_cons, List.not_mem_nil, or_false] at ho
  rcases ho with rfl | rfl
  · simp [Ob.Flat, C.Flat, N.Flat]
  · exact flat_rw rfl _
end impl_Disk_put_s22c0
/-! slices.Delete(()loop.example/g00073/impl.File,loop.example/g00073/impl.File) -/
end Go.Al
namespace Go.AlW.slices_Delete_impl_File_s5d7b
open Go.Proofs Go.Shelf Go.RowKit Go.Lib
set_option maxHeartbeats 4000000 in
set_option maxRecDepth 1000000 in
theorem delW : Al.DelSpec Try.prog 76 2 := by
  intro w g n cap i j cur e fr hb hfr hs hn hm hij hj h1
  obtain ⟨news, hnews⟩ : ∃ news, news = (cur.toList.drop (j * 2)).take ((n - j) * 2) := ⟨_, rfl⟩
  have hm' : cap ≤ 9223372036854775807 := by unfold maxLen at hm; omega
  have hlen : news.length = (n - j) * 2 := by rw [hnews]; simp; omega
  have hcell : ∀ k, k < cur.size → w.cell? ⟨g, k, none⟩ = some cur[k]! := fun k hk => by rw [Al.cells_at hb, getElem!_pos cur k hk]; simp [hk]
  have hfz : ∀ k, k < cur.size → w.frozen? ⟨g, k, none⟩ = false := fun k hk => Al.not_frozen hb hfr hk
  have hget : ∀ t u, news[t]? = some u → t < (n - j) * 2 ∧ cur[j * 2 + t]? = some u := fun t u hu => by
    have ht : t < news.length := (List.getElem?_eq_some_iff.1 hu).1
    rw [hlen] at ht
    refine ⟨ht, ?_⟩
    rw [hnews, List.getElem?_take, if_pos ht, List.getElem?_drop] at hu
    simpa using hu
  obtain ⟨A, hA, hsrc⟩ : ∃ A : Addr, (if cap = j then (some ⟨g, 0, none⟩ : Option Addr) else some ⟨g, j * 2, none⟩) = some A ∧ Hid (∀ t u, news[t]? = some u → w.drew.cell? (A.add t) = some u) := by
    by_cases h : cap = j
    · refine ⟨⟨g, 0, none⟩, by simp [h], fun t u hu => ?_⟩
      have := (hget t u hu).1
      omega
    · refine ⟨⟨g, j * 2, none⟩, by simp [h], fun t u hu => ?_⟩
      obtain ⟨ht, hu⟩ := hget t u hu
      rw [Al.add00]
      show w.cell? _ = _
      rw [Al.cells_at hb]
      exact hu
  have s1 : Hid (news.length = (n - j) * 2) := hlen
  have s2 : Hid (∀ u ∈ news, u.oneCell' = true) := by
    intro u hu
    obtain ⟨t, ht⟩ := List.mem_iff_getElem?.1 hu
    obtain ⟨h3, h4⟩ := hget t u ht
    exact h1 _ u (by omega) h4
  have s3 : Hid (∀ t, t < news.length → (w.drew.cell? ⟨g, 0 + i * 2 + t, none⟩).isSome = true ∧ w.drew.frozen? ⟨g, 0 + i * 2 + t, none⟩ = false) := by
    intro t ht
    rw [hlen] at ht
    exact ⟨by show (w.cell? _).isSome = true; rw [hcell _ (by omega)]; rfl, hfz _ (by omega)⟩
  obtain ⟨W1, hW1⟩ : ∃ W1, W1 = w.drew.setCells g (i * 2) news := ⟨_, rfl⟩
  have hbW : W1.heap[g]? = some (.cells (Al.putCells cur (i * 2) news) e fr) := by rw [hW1]; exact Al.setCells_heap news (i * 2) w.drew cur hb
  obtain ⟨zv, hzv⟩ : ∃ zv : Value, ∀ w, (zeroValue 80).run Try.prog w = .ok zv w := ⟨_, Try.zeroValue80⟩
  have hz12 : zv.cells.size = 2 ∧ zv.cells.toList.all (·.oneCell') = true := by
    have h := hzv w
    rw [Try.zeroValue80] at h
    cases h
    exact ⟨by kernel_rfl, by kernel_rfl⟩
  have hz2 : zv.cells.size = 2 := hz12.1
  have hz1 : ∀ u ∈ zv.cells.toList, u.oneCell' = true := fun u hu => List.all_eq_true.1 hz12.2 u hu
  have hcl : ∀ ty, (Builtin.clear_ #[38] ty #[.slice (some ⟨g, (i + (n - j)) * 2, none⟩) (n - (i + (n - j))) (cap - (i + (n - j)))]).run Try.prog W1 = .ok (.tuple #[]) (W1.setCells g ((i + (n - j)) * 2) (Builtin.zeroCells zv.cells (n - (i + (n - j)))).toList) :=
    fun ty => Al.run_clear_z W1 38 80 ty zv Try.underlying38 hzv hz1 g _ _ _ (by omega) (fun t ht => by
      rw [hz2] at ht
      rw [Al.cells_at hbW]
      have : (i + (n - j)) * 2 + t < (Al.putCells cur (i * 2) news).size := by rw [Al.putCells_size]; omega
      simp [this]) (fun t ht => by
      rw [hz2] at ht
      exact Al.not_frozen hbW (by rw [Al.putCells_size]; exact hfr) (by rw [Al.putCells_size]; omega))
  have hW : Hid (W1 = w.drew.setCells g (0 + i * 2) news) := by rw [Nat.zero_add]; exact hW1
  have hX : Hid (W1 = w.drew.setCells g (i * 2) ((cur.toList.drop (j * 2)).take ((n - j) * 2))) := by rw [← hnews]; exact hW1
  have hZ : Hid ((Builtin.zeroCells zv.cells (n - (i + (n - j)))).toList.length = (j - i) * 2) := by rw [Al.zeroCells_length, hz2]; congr 1; omega
  obtain ⟨i0, hi0⟩ : ∃ i0, Try.prog.info? 80 = some i0 := ⟨_, rfl⟩
  have his : i0.size = 2 := by
    have : (Try.prog.info? 80).map (·.size) = some 2 := by kernel_rfl
    rw [hi0] at this
    simpa using this
  obtain ⟨zs, hzs⟩ : ∃ zs, zs = (Builtin.zeroCells zv.cells (n - (i + (n - j)))).toList := ⟨_, rfl⟩
  rw [← hzs] at hcl hZ
  have hic : i ≤ cap := by omega
  have hjc : j ≤ cap := by omega
  have hin : i ≤ n := by omega
  have hne : ¬ i = j := by omega
  clear hW1 hget hnews hlen hbW hcell hfz hb hfr hs h1 hzs hz12 hz1 hz2 hzv
  have mixed : Try.prog.follows .mixedOrders = true := by kernel_rfl
  go_enter Try.func76, Try.ntmps76
  go_wp2_with fail
  go_region_law_o (refine step_append_room rfl (.tmp 22) (.tmp 25) 38 rfl 80 i0 2 Try.underlying38 hi0 his g 0 i cap (by simp [Act.eval, Act.put]) A (n - j) (cap - j) news (by simp [Act.eval, Act.put, hA]) s1.out hsrc.out s2.out (by omega) s3.out ?_; rw [← hW.out])
  go_wp2
  go_ret
  refine ⟨by rw [show n - (j - i) = i + (n - j) by omega]; rfl, zs, hZ.out, by rw [← hX.out]⟩
end Go.AlW.slices_Delete_impl_File_s5d7b
namespace Go.Al
open Go.Proofs
namespace slices_Delete_impl_File_s5d7b
noncomputable def F (a1 a2 : Int) (a3 : Vec (ByteArray × ByteArray)) : Option (Vec (ByteArray × ByteArray)) := sel (decide (0 ≤ a1 ∧ a1 < a2 ∧ a2 ≤ (a3.n : Int))) (some (Vec.del a3 a1 a2)) none
def encA (t : Int × Int × (Vec (ByteArray × ByteArray))) : List AV × List Ob := ([.c (.h 0), .c (.n (.v (.int .i64 t.1))), .c (.n (.v (.int .i64 t.2.1)))], [.row 2 (encRw t.2.2) []])
def encR (x : Vec (ByteArray × ByteArray)) : AV × List Ob := (.c (.h 0), [.row 2 (encRw x) []])
theorem encAI : ∀ a b, encA a = encA b → a = b := by
  intro a b h
  obtain ⟨a0, a1, a2⟩ := a
  obtain ⟨b0, b1, b2⟩ := b
  simp [encA, encRw_iff] at h
  simp_all
noncomputable def Q (args : List AV) (hin : List Ob) : Option (Vec (ByteArray × ByteArray)) := ofC encA (fun t => F t.1 t.2.1 t.2.2) (args, hin)
theorem wrap : (fun (y1 : Int) (y2 : Int) (y3 : Vec (ByteArray × ByteArray)) => Q [.c (.h 0), .c (.n (.v (.int .i64 y1))), .c (.n (.v (.int .i64 y2)))] [.row 2 (encRw y3) []]) = F := by
  funext y1 y2 y3
  exact ofC_enc encAI _ (y1, y2, y3)
theorem ac (args : List AV) (hin : List Ob) (x : Vec (ByteArray × ByteArray)) (h : Q args hin = some x) : AC Try.prog 76 args hin false [false] fun rv obs => (rv, obs) = encR x := by
  obtain ⟨t, he, h2⟩ := ofC_some h
  obtain rfl : args = (encA t).1 := (congrArg Prod.fst he).symm
  obtain rfl : hin = (encA t).2 := (congrArg Prod.snd he).symm
  rcases sel_cases h2 with ⟨hb, h3⟩ | ⟨-, h3⟩
  · simp only [Option.some.injEq] at h3
    subst h3
    have hb := of_decide_eq_true hb
    have hm := AC.del Try.func76 (by kernel_rfl) (by kernel_rfl) (show DelSpec Try.prog 76 (Enc.sz (ByteArray × ByteArray)) from AlW.slices_Delete_impl_File_s5d7b.delW) hb
    refine AC.flat hm fun rv obs e => ?_
    obtain rfl : rv = .c (.h 0) := congrArg Prod.fst e
    obtain rfl : obs = [Go.Al.rw (Vec.del t.2.2 t.1 t.2.1)] := congrArg Prod.snd e
    refine ⟨by simp [AV.Flat, K.Flat, C.Flat], ?_⟩
    intro o ho
    simp only [List.mem_cons, List.not_mem_nil, or_false] at ho
    subst ho
    exact flat_rw rfl _
  · cases h3
end slices_Delete_impl_File_s5d7b
/-! (*loop.example/g00073/impl.Disk).do -/
namespace impl_Disk_do_s08b6
noncomputable def B {ρ : Type} (C_impl_Disk_put_s22c0 : ByteArray → ByteArray → (Vec (ByteArray × ByteArray)) → Option (Vec (ByteArray × ByteArray))) (C_impl_fileOk : ByteArray → ByteArray → Option Bool) (C_impl_Disk_place : (Vec (ByteArray × ByteArray)) → ByteArray → Option (Int × Bool)) (C_slices_Delete_impl_File_s5d7b : Int → Int → (Vec (ByteArray × ByteArray)) → Option (Vec (ByteArray × ByteArray))) (a1 : Int) (a2 : ByteArray) (a3 : ByteArray) (a4 : ByteArray) (a5 : Vec (ByteArray × ByteArray)) (K : Bool → (Vec (ByteArray × ByteArray)) → Option ρ) : Option ρ :=
  sel (decide (a1 = (4 : Int))) (K true a5) (sel (decide (a1 = (1 : Int))) ((C_impl_Disk_put_s22c0 a2 a4 a5).bind fun r1 => (C_impl_fileOk a2 a4).bind fun r2 => sel (r2) (K (decide ((r1.n : Int) ≤ (40 : Int))) r1) (K false r1)) ((C_impl_Disk_place a5 a2).bind fun r3 => sel ((!r3.2)) (K false a5) (chk (decide (0 ≤ r3.1 ∧ r3.1 < (a5.n : Int))) (chk (decide ((r3.1).toNat < a5.n)) (sel (decide (a1 = (3 : Int))) ((C_slices_Delete_impl_File_s5d7b r3.1 (wr (r3.1 + (1 : Int))) a5).bind fun r4 => K true r4) (sel (decide (a1 = (2 : Int))) ((C_slices_Delete_impl_File_s5d7b r3.1 (wr (r3.1 + (1 : Int))) a5).bind fun r5 => (C_impl_Disk_put_s22c0 a3 ((a5.g ((r3.1).toNat)).2) r5).bind fun r6 => (C_impl_fileOk a3 ((a5.g ((r3.1).toNat)).2)).bind fun r7 => K r7 r6) (K false a5)))))))
noncomputable def F (a1 : Int) (a2 : ByteArray) (a3 : ByteArray) (a4 : ByteArray) (a5 : Vec (ByteArray × ByteArray)) : Option (Bool × (Vec (ByteArray × ByteArray))) := B impl_Disk_put_s22c0.F impl_fileOk.F impl_Disk_place.F slices_Delete_impl_File_s5d7b.F a1 a2 a3 a4 a5 (fun x1 x2 => some (x1, x2))
def encA (t : Int × ByteArray × ByteArray × ByteArray × (Vec (ByteArray × ByteArray))) : List AV × List Ob := ([.c (.p 0 0), .a [.n (.v (.int .i64 t.1)), .n (.v (.string t.2.1)), .n (.v (.string t.2.2.1)), .n (.v (.string t.2.2.2.1))]], [.box [.h 1], .row 2 (encRw t.2.2.2.2) []])
def encR (x : Bool × (Vec (ByteArray × ByteArray))) : AV × List Ob := (.c (.n (.v (.bool x.1))), [.box [.h 1], .row 2 (encRw x.2) []])
theorem encAI : ∀ a b, encA a = encA b → a = b := by
  intro a b h
  obtain ⟨a0, a1, a2, a3, a4⟩ := a
  obtain ⟨b0, b1, b2, b3, b4⟩ := b
  simp [encA, encRw_iff] at h
  simp_all
theorem encRI : ∀ a b, encR a = encR b → a = b := by
  intro a b h
  obtain ⟨a0, a1⟩ := a
  obtain ⟨b0, b1⟩ := b
  simp [encR, encRw_iff] at h
  simp_all
noncomputable def Q (args : List AV) (hin : List Ob) : Option (Bool × (Vec (ByteArray × ByteArray))) := ofC encA (fun t => F t.1 t.2.1 t.2.2.1 t.2.2.2.1 t.2.2.2.2) (args, hin)
theorem wrap : (fun (y1 : Int) (y2 : ByteArray) (y3 : ByteArray) (y4 : ByteArray) (y5 : Vec (ByteArray × ByteArray)) => Q [.c (.p 0 0), .a [.n (.v (.int .i64 y1)), .n (.v (.string y2)), .n (.v (.string y3)), .n (.v (.string y4))]] [.box [.h 1], .row 2 (encRw y5) []]) = F := by
  funext y1 y2 y3 y4 y5
  exact ofC_enc encAI _ (y1, y2, y3, y4, y5)
noncomputable def G (q_impl_Disk_put_s22c0 : List AV → List Ob → Option (Vec (ByteArray × ByteArray))) (q_impl_fileOk : List AV → Option Bool) (q_impl_Disk_place : List AV → Option (Int × Bool)) (q_slices_Delete_impl_File_s5d7b : List AV → List Ob → Option (Vec (ByteArray × ByteArray))) : Orc := ⟨fun f => sel (Nat.beq f 73) 0 (sel (Nat.beq f 75) 0 (9)), fun ρ f args K => sel (Nat.beq f 73) (qEntry impl_fileOk.encR q_impl_fileOk args K) (sel (Nat.beq f 75) (qEntry impl_Disk_place.encR q_impl_Disk_place args K) (Option.none)), fun ρ f st args dst K => sel (Nat.beq f 74) (callE Try.prog 74 [true, false] false [true, false] impl_Disk_put_s22c0.encR q_impl_Disk_put_s22c0 st args dst K) (sel (Nat.beq f 76) (callE Try.prog 76 [true, false, false] false [false] slices_Delete_impl_File_s5d7b.encR q_slices_Delete_impl_File_s5d7b st args dst K) (Option.none))⟩
noncomputable def L : Lor := fun ρ j st K => Option.none
theorem main (q_impl_Disk_put_s22c0 : List AV → List Ob → Option (Vec (ByteArray × ByteArray))) (q_impl_fileOk : List AV → Option Bool) (q_impl_Disk_place : List AV → Option (Int × Bool)) (q_slices_Delete_impl_File_s5d7b : List AV → List Ob → Option (Vec (ByteArray × ByteArray))) {ρ : Type} (K : AV → List Ob → Option ρ) (a1 : Int) (a2 : ByteArray) (a3 : ByteArray) (a4 : ByteArray) (a5 : Vec (ByteArray × ByteArray)) : exC Try.prog (G q_impl_Disk_put_s22c0 q_impl_fileOk q_impl_Disk_place q_slices_Delete_impl_File_s5d7b) (L) [] 0 (bodyOf Try.f54) (entry 85 [.c (.p 0 0), .a [.n (.v (.int .i64 a1)), .n (.v (.string a2)), .n (.v (.string a3)), .n (.v (.string a4))]] [.box [.h 1], .row 2 (encRw a5) []] [true, false]) (finO Try.prog Try.f54.results.toList 2 [true, false] [] K) =
    B (fun y1 y2 y3 => q_impl_Disk_put_s22c0 [.c (.p 0 0), .a [.n (.v (.string y1)), .n (.v (.string y2))]] [.box [.h 1], .row 2 (encRw y3) []]) (fun y1 y2 => q_impl_fileOk [.a [.n (.v (.string y1)), .n (.v (.string y2))]]) (fun y1 y2 => q_impl_Disk_place [.ra [.sl 2 (encRw y1)], .c (.n (.v (.string y2)))]) (fun y1 y2 y3 => q_slices_Delete_impl_File_s5d7b [.c (.h 0), .c (.n (.v (.int .i64 y1))), .c (.n (.v (.int .i64 y2)))] [.row 2 (encRw y3) []]) a1 a2 a3 a4 a5 (fun x1 x2 => K (.c (.n (.v (.bool x1)))) [.box [.h 1], .row 2 (encRw x2) []]) := by kernel_rfl
theorem Gok : (G impl_Disk_put_s22c0.Q impl_fileOk.Q impl_Disk_place.Q slices_Delete_impl_File_s5d7b.Q).ok Try.prog := ⟨(by
    intro ρ f args K r h
    rcases sel_cases h with ⟨hb, h⟩ | ⟨-, h⟩
    · obtain rfl := beq_nat hb
      exact qEntry_ok impl_fileOk.ac h
    rcases sel_cases h with ⟨hb, h⟩ | ⟨-, h⟩
    · obtain rfl := beq_nat hb
      exact qEntry_ok impl_Disk_place.ac h
    cases h),
  (by
    intro ρ f args K
    simp only [G]
    cases Nat.beq f 73 with
    | true => exact qEntry_nat args K
    | false =>
    simp only [sel]
    cases Nat.beq f 75 with
    | true => exact qEntry_nat args K
    | false =>
    simp only [sel]
    rfl),
  (by
    intro ρ f st caps args dst K r h
    rcases sel_cases h with ⟨hb, h⟩ | ⟨-, h⟩
    · obtain rfl := beq_nat hb
      exact callE_ok (fun h => by cases h) impl_Disk_put_s22c0.ac h
    rcases sel_cases h with ⟨hb, h⟩ | ⟨-, h⟩
    · obtain rfl := beq_nat hb
      exact callE_ok (fun h => by cases h) slices_Delete_impl_File_s5d7b.ac h
    cases h)⟩
theorem hm : Try.prog.follows .mixedOrders = true := by kernel_rfl
theorem e : atomsL [] 0 (bodyOf Try.f54) = [] := by kernel_rfl
theorem acc (t : Int × ByteArray × ByteArray × ByteArray × (Vec (ByteArray × ByteArray))) (x : Bool × (Vec (ByteArray × ByteArray))) (h : F t.1 t.2.1 t.2.2.1 t.2.2.2.1 t.2.2.2.2 = some x) : ACc Try.prog 54 (encA t).1 (encA t).2 true [true, false] fun rv obs => (rv, obs) = encR x := by
  refine fun_okc (L := (L)) (jn := []) (cmds := []) (ks := [true, false]) (hin := (encA t).2) (fn := Try.f54) (body := (bodyOf Try.f54)) Gok hm Try.func54 (by kernel_rfl) (by kernel_rfl) (by rw [e]; exact Lor.ok_nil _ _) ?_ h
  refine (main impl_Disk_put_s22c0.Q impl_fileOk.Q impl_Disk_place.Q slices_Delete_impl_File_s5d7b.Q _ t.1 t.2.1 t.2.2.1 t.2.2.2.1 t.2.2.2.2).trans ?_
  rw [impl_Disk_put_s22c0.wrap, impl_fileOk.wrap, impl_Disk_place.wrap, slices_Delete_impl_File_s5d7b.wrap]
  refine congrArg (fun K => B impl_Disk_put_s22c0.F impl_fileOk.F impl_Disk_place.F slices_Delete_impl_File_s5d7b.F t.1 t.2.1 t.2.2.1 t.2.2.2.1 t.2.2.2.2 K) ?_
  funext x1 x2
  exact ofC_enc encRI some (x1, x2)
theorem ac0 (t : Int × ByteArray × ByteArray × ByteArray × (Vec (ByteArray × ByteArray))) (x : Bool × (Vec (ByteArray × ByteArray))) (h : F t.1 t.2.1 t.2.2.1 t.2.2.2.1 t.2.2.2.2 = some x) : AC Try.prog 54 (encA t).1 (encA t).2 true [true, false] fun rv obs => (rv, obs) = encR x := ACc.ac (body := bodyOf Try.f54) Try.func54 (by kernel_rfl) (by kernel_rfl) (acc t x h)
theorem ac (args : List AV) (hin : List Ob) (x : Bool × (Vec (ByteArray × ByteArray))) (h : Q args hin = some x) : AC Try.prog 54 args hin false [true, false] fun rv obs => (rv, obs) = encR x := by
  obtain ⟨t, he, h2⟩ := ofC_some h
  obtain rfl : args = (encA t).1 := (congrArg Prod.fst he).symm
  obtain rfl : hin = (encA t).2 := (congrArg Prod.snd he).symm
  refine (ac0 t x h2).flat fun rv obs e => ?_
  obtain rfl : rv = (encR x).1 := congrArg Prod.fst e
  obtain rfl : obs = (encR x).2 := congrArg Prod.snd e
  refine ⟨by simp [encR, AV.Flat, K.Flat, C.Flat], ?_⟩
  intro o ho
  simp only [encR, List.mem_cons, List.not_mem_nil, or_false] at ho
  rcases ho with rfl | rfl
  · simp [Ob.Flat, C.Flat, N.Flat]
  · exact flat_rw rfl _
end impl_Disk_do_s08b6
/-! loop.example/g00073/impl.PutRaw -/
namespace impl_PutRaw
noncomputable def B {ρ : Type} (C_impl_copyDisk : (Vec (ByteArray × ByteArray)) → Option (Vec (ByteArray × ByteArray))) (C_impl_DiskOk : (Vec (ByteArray × ByteArray)) → Option Bool) (C_impl_Disk_do_s08b6 : Int → ByteArray → ByteArray → ByteArray → (Vec (ByteArray × ByteArray)) → Option (Bool × (Vec (ByteArray × ByteArray)))) (a1 : Vec (ByteArray × ByteArray)) (a2 : Int) (a3 : ByteArray) (a4 : ByteArray) (a5 : ByteArray) (K : Bool → (Vec (ByteArray × ByteArray)) → Option ρ) : Option ρ :=
  (C_impl_copyDisk a1).bind fun r1 => (C_impl_DiskOk a1).bind fun r2 => sel ((!r2)) (K false (Vec.nil : Vec (ByteArray × ByteArray))) ((C_impl_Disk_do_s08b6 a2 a3 a4 a5 r1).bind fun r3 => sel ((!r3.1)) (K false (Vec.nil : Vec (ByteArray × ByteArray))) (K true r3.2))
noncomputable def F (a1 : Vec (ByteArray × ByteArray)) (a2 : Int) (a3 : ByteArray) (a4 : ByteArray) (a5 : ByteArray) : Option (Bool × (Vec (ByteArray × ByteArray))) := B impl_copyDisk.F impl_DiskOk.F impl_Disk_do_s08b6.F a1 a2 a3 a4 a5 (fun x1 x2 => some (x1, x2))
def encA (t : (Vec (ByteArray × ByteArray)) × Int × ByteArray × ByteArray × ByteArray) : List AV := [.a [.n (.sl 2 (encRw t.1))], .a [.n (.v (.int .i64 t.2.1)), .n (.v (.string t.2.2.1)), .n (.v (.string t.2.2.2.1)), .n (.v (.string t.2.2.2.2))]]
def encR (x : Bool × (Vec (ByteArray × ByteArray))) : AV × List Ob := (.tup [.a [.h 0], .c (.n (.v (.bool x.1)))], [.row 2 (encRw x.2) []])
theorem encAI : ∀ a b, encA a = encA b → a = b := by
  intro a b h
  obtain ⟨a0, a1, a2, a3, a4⟩ := a
  obtain ⟨b0, b1, b2, b3, b4⟩ := b
  simp [encA, encRw_iff] at h
  simp_all
theorem encRI : ∀ a b, encR a = encR b → a = b := by
  intro a b h
  obtain ⟨a0, a1⟩ := a
  obtain ⟨b0, b1⟩ := b
  simp [encR, encRw_iff] at h
  simp_all
noncomputable def Q (args : List AV) : Option (Bool × (Vec (ByteArray × ByteArray))) := ofC encA (fun t => F t.1 t.2.1 t.2.2.1 t.2.2.2.1 t.2.2.2.2) args
theorem wrap : (fun (y1 : Vec (ByteArray × ByteArray)) (y2 : Int) (y3 : ByteArray) (y4 : ByteArray) (y5 : ByteArray) => Q [.a [.n (.sl 2 (encRw y1))], .a [.n (.v (.int .i64 y2)), .n (.v (.string y3)), .n (.v (.string y4)), .n (.v (.string y5))]]) = F := by
  funext y1 y2 y3 y4 y5
  exact ofC_enc encAI _ (y1, y2, y3, y4, y5)
noncomputable def G (q_impl_copyDisk : List AV → Option (Vec (ByteArray × ByteArray))) (q_impl_DiskOk : List AV → Option Bool) (q_impl_Disk_do_s08b6 : List AV → List Ob → Option (Bool × (Vec (ByteArray × ByteArray)))) : Orc := ⟨fun f => sel (Nat.beq f 52) 0 (sel (Nat.beq f 53) 0 (9)), fun ρ f args K => sel (Nat.beq f 52) (qEntry impl_copyDisk.encR q_impl_copyDisk args K) (sel (Nat.beq f 53) (qEntry impl_DiskOk.encR q_impl_DiskOk args K) (Option.none)), fun ρ f st args dst K => sel (Nat.beq f 54) (callE Try.prog 54 [true, false] false [true, false] impl_Disk_do_s08b6.encR q_impl_Disk_do_s08b6 st args dst K) (Option.none)⟩
noncomputable def L : Lor := fun ρ j st K => Option.none
theorem main (q_impl_copyDisk : List AV → Option (Vec (ByteArray × ByteArray))) (q_impl_DiskOk : List AV → Option Bool) (q_impl_Disk_do_s08b6 : List AV → List Ob → Option (Bool × (Vec (ByteArray × ByteArray)))) {ρ : Type} (K : AV → List Ob → Option ρ) (a1 : Vec (ByteArray × ByteArray)) (a2 : Int) (a3 : ByteArray) (a4 : ByteArray) (a5 : ByteArray) : exC Try.prog (G q_impl_copyDisk q_impl_DiskOk q_impl_Disk_do_s08b6) (L) [] 0 (bodyOf Try.f21) (entry 19 [.a [.n (.sl 2 (encRw a1))], .a [.n (.v (.int .i64 a2)), .n (.v (.string a3)), .n (.v (.string a4)), .n (.v (.string a5))]] [] []) (finO Try.prog Try.f21.results.toList 0 [] [.ad (.p 4 0) 38] K) =
    B (fun y1 => q_impl_copyDisk [.a [.n (.sl 2 (encRw y1))]]) (fun y1 => q_impl_DiskOk [.a [.n (.sl 2 (encRw y1))]]) (fun y1 y2 y3 y4 y5 => q_impl_Disk_do_s08b6 [.c (.p 0 0), .a [.n (.v (.int .i64 y1)), .n (.v (.string y2)), .n (.v (.string y3)), .n (.v (.string y4))]] [.box [.h 1], .row 2 (encRw y5) []]) a1 a2 a3 a4 a5 (fun x1 x2 => K (.tup [.a [.h 0], .c (.n (.v (.bool x1)))]) [.row 2 (encRw x2) []]) := by kernel_rfl
theorem Gok : (G impl_copyDisk.Q impl_DiskOk.Q impl_Disk_do_s08b6.Q).ok Try.prog := ⟨(by
    intro ρ f args K r h
    rcases sel_cases h with ⟨hb, h⟩ | ⟨-, h⟩
    · obtain rfl := beq_nat hb
      exact qEntry_ok impl_copyDisk.ac h
    rcases sel_cases h with ⟨hb, h⟩ | ⟨-, h⟩
    · obtain rfl := beq_nat hb
      exact qEntry_ok impl_DiskOk.ac h
    cases h),
  (by
    intro ρ f args K
    simp only [G]
    cases Nat.beq f 52 with
    | true => exact qEntry_nat args K
    | false =>
    simp only [sel]
    cases Nat.beq f 53 with
    | true => exact qEntry_nat args K
    | false =>
    simp only [sel]
    rfl),
  (by
    intro ρ f st caps args dst K r h
    rcases sel_cases h with ⟨hb, h⟩ | ⟨-, h⟩
    · obtain rfl := beq_nat hb
      exact callE_ok (fun h => by cases h) impl_Disk_do_s08b6.ac h
    cases h)⟩
theorem hm : Try.prog.follows .mixedOrders = true := by kernel_rfl
theorem e : atomsL [] 0 (bodyOf Try.f21) = [] := by kernel_rfl
theorem acc (t : (Vec (ByteArray × ByteArray)) × Int × ByteArray × ByteArray × ByteArray) (x : Bool × (Vec (ByteArray × ByteArray))) (h : F t.1 t.2.1 t.2.2.1 t.2.2.2.1 t.2.2.2.2 = some x) : ACc Try.prog 21 (encA t) [] true [] fun rv obs => (rv, obs) = encR x := by
  refine fun_okc (L := (L)) (jn := []) (cmds := [.ad (.p 4 0) 38]) (ks := []) (hin := []) (fn := Try.f21) (body := (bodyOf Try.f21)) Gok hm Try.func21 (by kernel_rfl) (by kernel_rfl) (by rw [e]; exact Lor.ok_nil _ _) ?_ h
  refine (main impl_copyDisk.Q impl_DiskOk.Q impl_Disk_do_s08b6.Q _ t.1 t.2.1 t.2.2.1 t.2.2.2.1 t.2.2.2.2).trans ?_
  rw [impl_copyDisk.wrap, impl_DiskOk.wrap, impl_Disk_do_s08b6.wrap]
  refine congrArg (fun K => B impl_copyDisk.F impl_DiskOk.F impl_Disk_do_s08b6.F t.1 t.2.1 t.2.2.1 t.2.2.2.1 t.2.2.2.2 K) ?_
  funext x1 x2
  exact ofC_enc encRI some (x1, x2)
theorem ac0 (t : (Vec (ByteArray × ByteArray)) × Int × ByteArray × ByteArray × ByteArray) (x : Bool × (Vec (ByteArray × ByteArray))) (h : F t.1 t.2.1 t.2.2.1 t.2.2.2.1 t.2.2.2.2 = some x) : AC Try.prog 21 (encA t) [] true [] fun rv obs => (rv, obs) = encR x := ACc.ac (body := bodyOf Try.f21) Try.func21 (by kernel_rfl) (by kernel_rfl) (acc t x h)
theorem ac (args : List AV) (x : Bool × (Vec (ByteArray × ByteArray))) (h : Q args = some x) : AC Try.prog 21 args [] false [] fun rv obs => (rv, obs) = encR x := by
  obtain ⟨t, rfl, h2⟩ := ofC_some h
  refine (ac0 t x h2).flat fun rv obs e => ?_
  obtain rfl : rv = (encR x).1 := congrArg Prod.fst e
  obtain rfl : obs = (encR x).2 := congrArg Prod.snd e
  refine ⟨by simp [encR, AV.Flat, K.Flat, C.Flat], ?_⟩
  intro o ho
  simp only [encR, List.mem_cons, List.not_mem_nil, or_false] at ho
  subst ho
  exact flat_rw rfl _
end impl_PutRaw
/-! loop.example/g00073/laws.eqFile -/
namespace laws_eqFile
noncomputable def B {ρ : Type} (a1 : ByteArray) (a2 : ByteArray) (a3 : ByteArray) (a4 : ByteArray) (K : Bool → Option ρ) : Option ρ :=
  sel ((!decide (a1 = a3))) (K false) (sel ((!decide (a2 = a4))) (K false) (K true))
noncomputable def F (a1 : ByteArray) (a2 : ByteArray) (a3 : ByteArray) (a4 : ByteArray) : Option Bool := B a1 a2 a3 a4 (fun x1 => some (x1))
def encA (t : ByteArray × ByteArray × ByteArray × ByteArray) : List AV := [.a [.n (.v (.string t.1)), .n (.v (.string t.2.1))], .a [.n (.v (.string t.2.2.1)), .n (.v (.string t.2.2.2))]]
def encR (x : Bool) : AV × List Ob := (.c (.n (.v (.bool x))), [])
theorem encAI : ∀ a b, encA a = encA b → a = b := by
  intro a b h
  obtain ⟨a0, a1, a2, a3⟩ := a
  obtain ⟨b0, b1, b2, b3⟩ := b
  simp [encA, encRw_iff] at h
  simp_all
theorem encRI : ∀ a b, encR a = encR b → a = b := by
  intro a b h
  simp [encR, encRw_iff] at h
  simp_all
noncomputable def Q (args : List AV) : Option Bool := ofC encA (fun t => F t.1 t.2.1 t.2.2.1 t.2.2.2) args
theorem wrap : (fun (y1 : ByteArray) (y2 : ByteArray) (y3 : ByteArray) (y4 : ByteArray) => Q [.a [.n (.v (.string y1)), .n (.v (.string y2))], .a [.n (.v (.string y3)), .n (.v (.string y4))]]) = F := by
  funext y1 y2 y3 y4
  exact ofC_enc encAI _ (y1, y2, y3, y4)
noncomputable def G : Orc := ⟨fun f => 9, fun ρ f args K => Option.none, noE⟩
noncomputable def L : Lor := fun ρ j st K => Option.none
theorem main {ρ : Type} (K : AV → List Ob → Option ρ) (a1 : ByteArray) (a2 : ByteArray) (a3 : ByteArray) (a4 : ByteArray) : exC Try.prog (G) (L) [] 0 (bodyOf Try.f77) (entry 15 [.a [.n (.v (.string a1)), .n (.v (.string a2))], .a [.n (.v (.string a3)), .n (.v (.string a4))]] [] []) (finO Try.prog Try.f77.results.toList 0 [] [] K) =
    B a1 a2 a3 a4 (fun x1 => K (.c (.n (.v (.bool x1)))) []) := by kernel_rfl
theorem Gok : (G).ok Try.prog := ⟨(fun ρ f args K r h => (by cases h)),
  (fun ρ f args K => rfl),
  (fun ρ f st caps args dst K r h => (by cases h))⟩
theorem hm : Try.prog.follows .mixedOrders = true := by kernel_rfl
theorem e : atomsL [] 0 (bodyOf Try.f77) = [] := by kernel_rfl
theorem acc (t : ByteArray × ByteArray × ByteArray × ByteArray) (x : Bool) (h : F t.1 t.2.1 t.2.2.1 t.2.2.2 = some x) : ACc Try.prog 77 (encA t) [] true [] fun rv obs => (rv, obs) = encR x := by
  refine fun_okc (L := (L)) (jn := []) (cmds := []) (ks := []) (hin := []) (fn := Try.f77) (body := (bodyOf Try.f77)) Gok hm Try.func77 (by kernel_rfl) (by kernel_rfl) (by rw [e]; exact Lor.ok_nil _ _) ?_ h
  refine (main _ t.1 t.2.1 t.2.2.1 t.2.2.2).trans ?_
  refine congrArg (fun K => B t.1 t.2.1 t.2.2.1 t.2.2.2 K) ?_
  funext x1
  exact ofC_enc encRI some (x1)
theorem ac0 (t : ByteArray × ByteArray × ByteArray × ByteArray) (x : Bool) (h : F t.1 t.2.1 t.2.2.1 t.2.2.2 = some x) : AC Try.prog 77 (encA t) [] true [] fun rv obs => (rv, obs) = encR x := ACc.ac (body := bodyOf Try.f77) Try.func77 (by kernel_rfl) (by kernel_rfl) (acc t x h)
theorem ac (args : List AV) (x : Bool) (h : Q args = some x) : AC Try.prog 77 args [] false [] fun rv obs => (rv, obs) = encR x := by
  obtain ⟨t, rfl, h2⟩ := ofC_some h
  refine (ac0 t x h2).flat fun rv obs e => ?_
  obtain rfl : rv = (encR x).1 := congrArg Prod.fst e
  obtain rfl : obs = (encR x).2 := congrArg Prod.snd e
  refine ⟨by simp [encR, AV.Flat, K.Flat, C.Flat], ?_⟩
  simp [encR]
end laws_eqFile
/-! loop.example/g00073/laws.eqFileS -/
namespace laws_eqFileS
noncomputable def B0 {ρ : Type} (C_laws_eqFile : ByteArray → ByteArray → ByteArray → ByteArray → Option Bool) (v1 : Vec (ByteArray × ByteArray)) (v2 : Vec (ByteArray × ByteArray)) (v3 : Int) (W : (Vec (ByteArray × ByteArray)) → (Vec (ByteArray × ByteArray)) → Int → Option ρ) (K0 : Unit → Option ρ) (Kr : Bool → Option ρ) : Option ρ :=
  sel (decide (v3 < (v1.n : Int))) (chk (decide (0 ≤ v3 ∧ v3 < (v1.n : Int))) (chk (decide (0 ≤ v3 ∧ v3 < (v2.n : Int))) ((C_laws_eqFile ((v1.g v3.toNat).1) ((v1.g v3.toNat).2) ((v2.g v3.toNat).1) ((v2.g v3.toNat).2)).bind fun r1 => sel ((!r1)) (Kr false) (W v1 v2 (wr (v3 + (1 : Int))))))) (K0 ())
noncomputable def F0 {ρ : Type} : Nat → (Vec (ByteArray × ByteArray)) → (Vec (ByteArray × ByteArray)) → Int → (Unit → Option ρ) → (Bool → Option ρ) → Option ρ
  | 0, _, _, _, _, _ => none
  | k + 1, v1, v2, v3, K0, Kr => B0 laws_eqFile.F v1 v2 v3 (fun v1' v2' v3' => F0 k v1' v2' v3' K0 Kr) K0 Kr
noncomputable def B {ρ : Type} (L0 : (Vec (ByteArray × ByteArray)) → (Vec (ByteArray × ByteArray)) → Int → (Unit → Option ρ) → (Bool → Option ρ) → Option ρ) (a1 : Vec (ByteArray × ByteArray)) (a2 : Vec (ByteArray × ByteArray)) (K : Bool → Option ρ) : Option ρ :=
  sel ((!decide ((a1.n : Int) = (a2.n : Int)))) (K false) (L0 a1 a2 (0 : Int) (fun _ => K true) (fun x01 => K x01))
noncomputable def F (a1 : Vec (ByteArray × ByteArray)) (a2 : Vec (ByteArray × ByteArray)) : Option Bool := B (F0 fuelN) a1 a2 (fun x1 => some (x1))
def encA (t : (Vec (ByteArray × ByteArray)) × (Vec (ByteArray × ByteArray))) : List AV := [.c (.n (.sl 2 (encRw t.1))), .c (.n (.sl 2 (encRw t.2)))]
def encR (x : Bool) : AV × List Ob := (.c (.n (.v (.bool x))), [])
theorem encAI : ∀ a b, encA a = encA b → a = b := by
  intro a b h
  obtain ⟨a0, a1⟩ := a
  obtain ⟨b0, b1⟩ := b
  simp [encA, encRw_iff] at h
  simp_all
theorem encRI : ∀ a b, encR a = encR b → a = b := by
  intro a b h
  simp [encR, encRw_iff] at h
  simp_all
noncomputable def Q (args : List AV) : Option Bool := ofC encA (fun t => F t.1 t.2) args
theorem wrap : (fun (y1 : Vec (ByteArray × ByteArray)) (y2 : Vec (ByteArray × ByteArray)) => Q [.c (.n (.sl 2 (encRw y1))), .c (.n (.sl 2 (encRw y2)))]) = F := by
  funext y1 y2
  exact ofC_enc encAI _ (y1, y2)
noncomputable def G (q_laws_eqFile : List AV → Option Bool) : Orc := ⟨fun f => sel (Nat.beq f 77) 0 (9), fun ρ f args K => sel (Nat.beq f 77) (qEntry laws_eqFile.encR q_laws_eqFile args K) (Option.none), noE⟩
noncomputable def L (W0 : (ρ : Type) → List AV → List Ob → (Unit → Option ρ) → (Bool → Option ρ) → Option ρ) : Lor := fun ρ j st K => sel (Nat.beq j 0) (cutO Try.prog 27 [0, 1, 5] 0 [] [] st fun avs obs => W0 ρ avs obs (fun _ => K (.exit 0) (mkS 27 [] [] [] [])) (fun z1 => K .ret (mkS 27 [4] [.c (.n (.v (.bool z1)))] [] []))) (Option.none)
noncomputable def c0 : Code := loopC (atomN [] 0 (bodyOf Try.f55) 0)
def ct0 : Cut := ⟨[0, 1, 5], []⟩
def lv0 : Exit → Cut
  | .exit 0 => ⟨[], []⟩
  | .ret => ⟨[4], []⟩
  | _ => ⟨[], []⟩
theorem step0 (q_laws_eqFile : List AV → Option Bool) (W0 : (ρ : Type) → List AV → List Ob → (Unit → Option ρ) → (Bool → Option ρ) → Option ρ) {ρ : Type} (K : Exit → St → Option ρ) (W : List AV → List Ob → Option ρ) (v1 : Vec (ByteArray × ByteArray)) (v2 : Vec (ByteArray × ByteArray)) (v3 : Int) : exC Try.prog (G q_laws_eqFile) (L W0) [] 1 c0 (mkS 27 [0, 1, 5] [.c (.n (.sl 2 (encRw v1))), .c (.n (.sl 2 (encRw v2))), .c (.n (.v (.int .i64 v3)))] [] []) (bodyK Try.prog 27 0 [] ct0 W lv0 K) =
    B0 (fun y1 y2 y3 y4 => q_laws_eqFile [.a [.n (.v (.string y1)), .n (.v (.string y2))], .a [.n (.v (.string y3)), .n (.v (.string y4))]]) v1 v2 v3 (fun u1 u2 u3 => W [.c (.n (.sl 2 (encRw u1))), .c (.n (.sl 2 (encRw u2))), .c (.n (.v (.int .i64 u3)))] []) (fun _ => K (.exit 0) (mkS 27 [] [] [] [])) (fun z1 => K .ret (mkS 27 [4] [.c (.n (.v (.bool z1)))] [] [])) := by kernel_rfl
def enc0 (t : (Vec (ByteArray × ByteArray)) × (Vec (ByteArray × ByteArray)) × Int) : List AV × List Ob := ([.c (.n (.sl 2 (encRw t.1))), .c (.n (.sl 2 (encRw t.2.1))), .c (.n (.v (.int .i64 t.2.2)))], [])
theorem enc0I : ∀ a b, enc0 a = enc0 b → a = b := by
  intro a b h
  obtain ⟨a0, a1, a2⟩ := a
  obtain ⟨b0, b1, b2⟩ := b
  simp [enc0, encRw_iff] at h
  simp_all
noncomputable def V0 : (ρ : Type) → List AV → List Ob → (Unit → Option ρ) → (Bool → Option ρ) → Option ρ := fun ρ avs obs k0 kr => ofC enc0 (fun t => F0 fuelN t.1 t.2.1 t.2.2 k0 kr) (avs, obs)
theorem V0_enc (ρ : Type) : (fun w1 w2 w3 k0 kr => V0 ρ [.c (.n (.sl 2 (encRw w1))), .c (.n (.sl 2 (encRw w2))), .c (.n (.v (.int .i64 w3)))] [] k0 kr) = F0 fuelN := by
  funext w1 w2 w3 k0 kr
  exact ofC_enc enc0I _ (w1, w2, w3)
theorem main (q_laws_eqFile : List AV → Option Bool) (W0 : (ρ : Type) → List AV → List Ob → (Unit → Option ρ) → (Bool → Option ρ) → Option ρ) {ρ : Type} (K : AV → List Ob → Option ρ) (a1 : Vec (ByteArray × ByteArray)) (a2 : Vec (ByteArray × ByteArray)) : exC Try.prog (G q_laws_eqFile) (L W0) [] 0 (bodyOf Try.f55) (entry 27 [.c (.n (.sl 2 (encRw a1))), .c (.n (.sl 2 (encRw a2)))] [] []) (finO Try.prog Try.f55.results.toList 0 [] [] K) =
    B (fun w1 w2 w3 k0 kr => W0 ρ [.c (.n (.sl 2 (encRw w1))), .c (.n (.sl 2 (encRw w2))), .c (.n (.v (.int .i64 w3)))] [] k0 kr) a1 a2 (fun x1 => K (.c (.n (.v (.bool x1)))) []) := by kernel_rfl
theorem Gok : (G laws_eqFile.Q).ok Try.prog := ⟨(by
    intro ρ f args K r h
    rcases sel_cases h with ⟨hb, h⟩ | ⟨-, h⟩
    · obtain rfl := beq_nat hb
      exact qEntry_ok laws_eqFile.ac h
    cases h),
  (by
    intro ρ f args K
    simp only [G]
    cases Nat.beq f 77 with
    | true => exact qEntry_nat args K
    | false =>
    simp only [sel]
    rfl),
  (fun ρ f st caps args dst K r h => (by cases h))⟩
theorem hm : Try.prog.follows .mixedOrders = true := by kernel_rfl
theorem e0 : atomsL [] 1 c0 = [] := by kernel_rfl
theorem ok0 (ρ : Type) (st : St) (K : Exit → St → Option ρ) (r : ρ) (h : (L V0) ρ 0 st K = some r) : AW Try.prog (.loop c0) st fun e st' => K e st' = some r := by
  refine loop_ok (ct := ct0) (lv := lv0) (n := 27) (m := 0) (ks := []) (j := 0) (jn := []) (L := (L V0)) Gok hm (by rw [e0]; exact Lor.ok_nil _ _) enc0I (fun k t => F0 k t.1 t.2.1 t.2.2 (fun _ => K (.exit 0) (mkS 27 [] [] [] [])) (fun z1 => K .ret (mkS 27 [4] [.c (.n (.v (.bool z1)))] [] []))) (fun t => rfl) (fun k t => ?_) (fun _ => fuelN) h
  refine (step0 laws_eqFile.Q V0 K _ t.1 t.2.1 t.2.2).trans ?_
  rw [laws_eqFile.wrap]
  refine congrArg (fun W => B0 laws_eqFile.F t.1 t.2.1 t.2.2 W (fun _ => K (.exit 0) (mkS 27 [] [] [] [])) (fun z1 => K .ret (mkS 27 [4] [.c (.n (.v (.bool z1)))] [] []))) ?_
  funext u1 u2 u3
  exact ofC_enc enc0I _ (u1, u2, u3)
theorem e : atomsL [] 0 (bodyOf Try.f55) = [(0, 0, .loop c0)] := by kernel_rfl
theorem acc (t : (Vec (ByteArray × ByteArray)) × (Vec (ByteArray × ByteArray))) (x : Bool) (h : F t.1 t.2 = some x) : ACc Try.prog 55 (encA t) [] true [] fun rv obs => (rv, obs) = encR x := by
  refine fun_okc (L := (L V0)) (jn := []) (cmds := []) (ks := []) (hin := []) (fn := Try.f55) (body := (bodyOf Try.f55)) Gok hm Try.func55 (by kernel_rfl) (by kernel_rfl) (by rw [e]; exact Lor.ok_cons ok0 (Lor.ok_nil _ _)) ?_ h
  refine (main laws_eqFile.Q V0 _ t.1 t.2).trans ?_
  rw [V0_enc]
  refine congrArg (fun K => B (F0 fuelN) t.1 t.2 K) ?_
  funext x1
  exact ofC_enc encRI some (x1)
theorem ac0 (t : (Vec (ByteArray × ByteArray)) × (Vec (ByteArray × ByteArray))) (x : Bool) (h : F t.1 t.2 = some x) : AC Try.prog 55 (encA t) [] true [] fun rv obs => (rv, obs) = encR x := ACc.ac (body := bodyOf Try.f55) Try.func55 (by kernel_rfl) (by kernel_rfl) (acc t x h)
theorem ac (args : List AV) (x : Bool) (h : Q args = some x) : AC Try.prog 55 args [] false [] fun rv obs => (rv, obs) = encR x := by
  obtain ⟨t, rfl, h2⟩ := ofC_some h
  refine (ac0 t x h2).flat fun rv obs e => ?_
  obtain rfl : rv = (encR x).1 := congrArg Prod.fst e
  obtain rfl : obs = (encR x).2 := congrArg Prod.snd e
  refine ⟨by simp [encR, AV.Flat, K.Flat, C.Flat], ?_⟩
  simp [encR]
end laws_eqFileS
/-! loop.example/g00073/laws.eqDisk -/
namespace laws_eqDisk
noncomputable def B {ρ : Type} (C_laws_eqFileS : (Vec (ByteArray × ByteArray)) → (Vec (ByteArray × ByteArray)) → Option Bool) (a1 : Vec (ByteArray × ByteArray)) (a2 : Vec (ByteArray × ByteArray)) (K : Bool → Option ρ) : Option ρ :=
  (C_laws_eqFileS a1 a2).bind fun r1 => sel ((!r1)) (K false) (K true)
noncomputable def F (a1 : Vec (ByteArray × ByteArray)) (a2 : Vec (ByteArray × ByteArray)) : Option Bool := B laws_eqFileS.F a1 a2 (fun x1 => some (x1))
def encA (t : (Vec (ByteArray × ByteArray)) × (Vec (ByteArray × ByteArray))) : List AV := [.a [.n (.sl 2 (encRw t.1))], .a [.n (.sl 2 (encRw t.2))]]
def encR (x : Bool) : AV × List Ob := (.c (.n (.v (.bool x))), [])
theorem encAI : ∀ a b, encA a = encA b → a = b := by
  intro a b h
  obtain ⟨a0, a1⟩ := a
  obtain ⟨b0, b1⟩ := b
  simp [encA, encRw_iff] at h
  simp_all
theorem encRI : ∀ a b, encR a = encR b → a = b := by
  intro a b h
  simp [encR, encRw_iff] at h
  simp_all
noncomputable def Q (args : List AV) : Option Bool := ofC encA (fun t => F t.1 t.2) args
theorem wrap : (fun (y1 : Vec (ByteArray × ByteArray)) (y2 : Vec (ByteArray × ByteArray)) => Q [.a [.n (.sl 2 (encRw y1))], .a [.n (.sl 2 (encRw y2))]]) = F := by
  funext y1 y2
  exact ofC_enc encAI _ (y1, y2)
noncomputable def G (q_laws_eqFileS : List AV → Option Bool) : Orc := ⟨fun f => sel (Nat.beq f 55) 0 (9), fun ρ f args K => sel (Nat.beq f 55) (qEntry laws_eqFileS.encR q_laws_eqFileS args K) (Option.none), noE⟩
noncomputable def L : Lor := fun ρ j st K => Option.none
theorem main (q_laws_eqFileS : List AV → Option Bool) {ρ : Type} (K : AV → List Ob → Option ρ) (a1 : Vec (ByteArray × ByteArray)) (a2 : Vec (ByteArray × ByteArray)) : exC Try.prog (G q_laws_eqFileS) (L) [] 0 (bodyOf Try.f22) (entry 11 [.a [.n (.sl 2 (encRw a1))], .a [.n (.sl 2 (encRw a2))]] [] []) (finO Try.prog Try.f22.results.toList 0 [] [] K) =
    B (fun y1 y2 => q_laws_eqFileS [.c (.n (.sl 2 (encRw y1))), .c (.n (.sl 2 (encRw y2)))]) a1 a2 (fun x1 => K (.c (.n (.v (.bool x1)))) []) := by kernel_rfl
theorem Gok : (G laws_eqFileS.Q).ok Try.prog := ⟨(by
    intro ρ f args K r h
    rcases sel_cases h with ⟨hb, h⟩ | ⟨-, h⟩
    · obtain rfl := beq_nat hb
      exact qEntry_ok laws_eqFileS.ac h
    cases h),
  (by
    intro ρ f args K
    simp only [G]
    cases Nat.beq f 55 with
    | true => exact qEntry_nat args K
    | false =>
    simp only [sel]
    rfl),
  (fun ρ f st caps args dst K r h => (by cases h))⟩
theorem hm : Try.prog.follows .mixedOrders = true := by kernel_rfl
theorem e : atomsL [] 0 (bodyOf Try.f22) = [] := by kernel_rfl
theorem acc (t : (Vec (ByteArray × ByteArray)) × (Vec (ByteArray × ByteArray))) (x : Bool) (h : F t.1 t.2 = some x) : ACc Try.prog 22 (encA t) [] true [] fun rv obs => (rv, obs) = encR x := by
  refine fun_okc (L := (L)) (jn := []) (cmds := []) (ks := []) (hin := []) (fn := Try.f22) (body := (bodyOf Try.f22)) Gok hm Try.func22 (by kernel_rfl) (by kernel_rfl) (by rw [e]; exact Lor.ok_nil _ _) ?_ h
  refine (main laws_eqFileS.Q _ t.1 t.2).trans ?_
  rw [laws_eqFileS.wrap]
  refine congrArg (fun K => B laws_eqFileS.F t.1 t.2 K) ?_
  funext x1
  exact ofC_enc encRI some (x1)
theorem ac0 (t : (Vec (ByteArray × ByteArray)) × (Vec (ByteArray × ByteArray))) (x : Bool) (h : F t.1 t.2 = some x) : AC Try.prog 22 (encA t) [] true [] fun rv obs => (rv, obs) = encR x := ACc.ac (body := bodyOf Try.f22) Try.func22 (by kernel_rfl) (by kernel_rfl) (acc t x h)
theorem ac (args : List AV) (x : Bool) (h : Q args = some x) : AC Try.prog 22 args [] false [] fun rv obs => (rv, obs) = encR x := by
  obtain ⟨t, rfl, h2⟩ := ofC_some h
  refine (ac0 t x h2).flat fun rv obs e => ?_
  obtain rfl : rv = (encR x).1 := congrArg Prod.fst e
  obtain rfl : obs = (encR x).2 := congrArg Prod.snd e
  refine ⟨by simp [encR, AV.Flat, K.Flat, C.Flat], ?_⟩
  simp [encR]
end laws_eqDisk
/-! loop.example/g00073/laws.markText -/
namespace laws_markText
noncomputable def B0 {ρ : Type} (v1 : Int) (v2 : ByteArray) (W : Int → ByteArray → Option ρ) (K0 : ByteArray → Option ρ) : Option ρ :=
  sel (decide ((0 : Int) < v1)) (chk (okBytes (Vec.lit [⟨(IntKind.wrap .u8 (wr ((48 : Int) + (Int.tmod v1 (10 : Int)))))⟩] : Vec (IK .u8))) (chk (decide ((toBytes (Vec.lit [⟨(IntKind.wrap .u8 (wr ((48 : Int) + (Int.tmod v1 (10 : Int)))))⟩] : Vec (IK .u8))).size + v2.size ≤ maxN)) (W (wr (Int.tdiv v1 (10 : Int))) ((toBytes (Vec.lit [⟨(IntKind.wrap .u8 (wr ((48 : Int) + (Int.tmod v1 (10 : Int)))))⟩] : Vec (IK .u8))) ++ v2)))) (K0 v2)
noncomputable def F0 {ρ : Type} : Nat → Int → ByteArray → (ByteArray → Option ρ) → Option ρ
  | 0, _, _, _ => none
  | k + 1, v1, v2, K0 => B0 v1 v2 (fun v1' v2' => F0 k v1' v2' K0) K0
noncomputable def B {ρ : Type} (L0 : Int → ByteArray → (ByteArray → Option ρ) → Option ρ) (a1 : Int) (K : ByteArray → Option ρ) : Option ρ :=
  sel (decide (a1 ≤ (0 : Int))) (K (ByteArray.mk #[109, 48])) (L0 a1 ByteArray.empty (fun e01 => chk (decide ((ByteArray.mk #[109]).size + e01.size ≤ maxN)) (K ((ByteArray.mk #[109]) ++ e01))))
noncomputable def F (a1 : Int) : Option ByteArray := B (F0 fuelN) a1 (fun x1 => some (x1))
def encA (t : Int) : List AV := [.c (.n (.v (.int .i64 t)))]
def encR (x : ByteArray) : AV × List Ob := (.c (.n (.v (.string x))), [])
theorem encAI : ∀ a b, encA a = encA b → a = b := by
  intro a b h
  simp [encA, encRw_iff] at h
  simp_all
theorem encRI : ∀ a b, encR a = encR b → a = b := by
  intro a b h
  simp [encR, encRw_iff] at h
  simp_all
noncomputable def Q (args : List AV) : Option ByteArray := ofC encA (fun t => F t) args
theorem wrap : (fun (y1 : Int) => Q [.c (.n (.v (.int .i64 y1)))]) = F := by
  funext y1
  exact ofC_enc encAI _ (y1)
noncomputable def G : Orc := ⟨fun f => 9, fun ρ f args K => Option.none, noE⟩
noncomputable def L (W0 : (ρ : Type) → List AV → List Ob → (ByteArray → Option ρ) → Option ρ) : Lor := fun ρ j st K => sel (Nat.beq j 0) (cutO Try.prog 20 [0, 3] 0 [] [] st fun avs obs => W0 ρ avs obs (fun z1 => K (.exit 0) (mkS 20 [3] [.c (.n (.v (.string z1)))] [] []))) (Option.none)
noncomputable def c0 : Code := loopC (atomN [] 0 (bodyOf Try.f44) 0)
def ct0 : Cut := ⟨[0, 3], []⟩
def lv0 : Exit → Cut
  | .exit 0 => ⟨[3], []⟩
  | _ => ⟨[], []⟩
theorem step0 (W0 : (ρ : Type) → List AV → List Ob → (ByteArray → Option ρ) → Option ρ) {ρ : Type} (K : Exit → St → Option ρ) (W : List AV → List Ob → Option ρ) (v1 : Int) (v2 : ByteArray) : exC Try.prog (G) (L W0) [] 1 c0 (mkS 20 [0, 3] [.c (.n (.v (.int .i64 v1))), .c (.n (.v (.string v2)))] [] []) (bodyK Try.prog 20 0 [] ct0 W lv0 K) =
    B0 v1 v2 (fun u1 u2 => W [.c (.n (.v (.int .i64 u1))), .c (.n (.v (.string u2)))] []) (fun z1 => K (.exit 0) (mkS 20 [3] [.c (.n (.v (.string z1)))] [] [])) := by kernel_rfl
def enc0 (t : Int × ByteArray) : List AV × List Ob := ([.c (.n (.v (.int .i64 t.1))), .c (.n (.v (.string t.2)))], [])
theorem enc0I : ∀ a b, enc0 a = enc0 b → a = b := by
  intro a b h
  obtain ⟨a0, a1⟩ := a
  obtain ⟨b0, b1⟩ := b
  simp [enc0, encRw_iff] at h
  simp_all
noncomputable def V0 : (ρ : Type) → List AV → List Ob → (ByteArray → Option ρ) → Option ρ := fun ρ avs obs k0 => ofC enc0 (fun t => F0 fuelN t.1 t.2 k0) (avs, obs)
theorem V0_enc (ρ : Type) : (fun w1 w2 k0 => V0 ρ [.c (.n (.v (.int .i64 w1))), .c (.n (.v (.string w2)))] [] k0) = F0 fuelN := by
  funext w1 w2 k0
  exact ofC_enc enc0I _ (w1, w2)
theorem main (W0 : (ρ : Type) → List AV → List Ob → (ByteArray → Option ρ) → Option ρ) {ρ : Type} (K : AV → List Ob → Option ρ) (a1 : Int) : exC Try.prog (G) (L W0) [] 0 (bodyOf Try.f44) (entry 20 [.c (.n (.v (.int .i64 a1)))] [] []) (finO Try.prog Try.f44.results.toList 0 [] [] K) =
    B (fun w1 w2 k0 => W0 ρ [.c (.n (.v (.int .i64 w1))), .c (.n (.v (.string w2)))] [] k0) a1 (fun x1 => K (.c (.n (.v (.string x1)))) []) := by kernel_rfl
theorem Gok : (G).ok Try.prog := ⟨(fun ρ f args K r h => (by cases h)),
  (fun ρ f args K => rfl),
  (fun ρ f st caps args dst K r h => (by cases h))⟩
theorem hm : Try.prog.follows .mixedOrders = true := by kernel_rfl
theorem e0 : atomsL [] 1 c0 = [] := by kernel_rfl
theorem ok0 (ρ : Type) (st : St) (K : Exit → St → Option ρ) (r : ρ) (h : (L V0) ρ 0 st K = some r) : AW Try.prog (.loop c0) st fun e st' => K e st' = some r := by
  refine loop_ok (ct := ct0) (lv := lv0) (n := 20) (m := 0) (ks := []) (j := 0) (jn := []) (L := (L V0)) Gok hm (by rw [e0]; exact Lor.ok_nil _ _) enc0I (fun k t => F0 k t.1 t.2 (fun z1 => K (.exit 0) (mkS 20 [3] [.c (.n (.v (.string z1)))] [] []))) (fun t => rfl) (fun k t => ?_) (fun _ => fuelN) h
  refine (step0 V0 K _ t.1 t.2).trans ?_
  refine congrArg (fun W => B0 t.1 t.2 W (fun z1 => K (.exit 0) (mkS 20 [3] [.c (.n (.v (.string z1)))] [] []))) ?_
  funext u1 u2
  exact ofC_enc enc0I _ (u1, u2)
theorem e : atomsL [] 0 (bodyOf Try.f44) = [(0, 0, .loop c0)] := by kernel_rfl
theorem acc (t : Int) (x : ByteArray) (h : F t = some x) : ACc Try.prog 44 (encA t) [] true [] fun rv obs => (rv, obs) = encR x := by
  refine fun_okc (L := (L V0)) (jn := []) (cmds := []) (ks := []) (hin := []) (fn := Try.f44) (body := (bodyOf Try.f44)) Gok hm Try.func44 (by kernel_rfl) (by kernel_rfl) (by rw [e]; exact Lor.ok_cons ok0 (Lor.ok_nil _ _)) ?_ h
  refine (main V0 _ t).trans ?_
  rw [V0_enc]
  refine congrArg (fun K => B (F0 fuelN) t K) ?_
  funext x1
  exact ofC_enc encRI some (x1)
theorem ac0 (t : Int) (x : ByteArray) (h : F t = some x) : AC Try.prog 44 (encA t) [] true [] fun rv obs => (rv, obs) = encR x := ACc.ac (body := bodyOf Try.f44) Try.func44 (by kernel_rfl) (by kernel_rfl) (acc t x h)
theorem ac (args : List AV) (x : ByteArray) (h : Q args = some x) : AC Try.prog 44 args [] false [] fun rv obs => (rv, obs) = encR x := by
  obtain ⟨t, rfl, h2⟩ := ofC_some h
  refine (ac0 t x h2).flat fun rv obs e => ?_
  obtain rfl : rv = (encR x).1 := congrArg Prod.fst e
  obtain rfl : obs = (encR x).2 := congrArg Prod.snd e
  refine ⟨by simp [encR, AV.Flat, K.Flat, C.Flat], ?_⟩
  simp [encR]
end laws_markText
/-! loop.example/g00073/laws.markFileS -/
namespace laws_markFileS_s3394
noncomputable def B0 {ρ : Type} (C_laws_markText : Int → Option ByteArray) (v1 : Int) (v2 : Int) (v3 : Vec (ByteArray × ByteArray)) (W : Int → Int → (Vec (ByteArray × ByteArray)) → Option ρ) (K0 : Int → (Vec (ByteArray × ByteArray)) → Option ρ) : Option ρ :=
  sel (decide (v2 < (v3.n : Int))) ((C_laws_markText v1).bind fun r1 => chk (decide (0 ≤ v2 ∧ v2 < (v3.n : Int))) (chk (decide (v2.toNat < v3.n)) ((C_laws_markText (wr (v1 + (1 : Int)))).bind fun r2 => chk (decide (0 ≤ v2 ∧ v2 < ((Vec.set v3 v2.toNat (r1, (v3.g v2.toNat).2)).n : Int))) (chk (decide (v2.toNat < (Vec.set v3 v2.toNat (r1, (v3.g v2.toNat).2)).n)) (W (wr ((wr (v1 + (1 : Int))) + (1 : Int))) (wr (v2 + (1 : Int))) (Vec.set (Vec.set v3 v2.toNat (r1, (v3.g v2.toNat).2)) v2.toNat (((Vec.set v3 v2.toNat (r1, (v3.g v2.toNat).2)).g v2.toNat).1, r2))))))) (K0 v1 v3)
noncomputable def F0 {ρ : Type} : Nat → Int → Int → (Vec (ByteArray × ByteArray)) → (Int → (Vec (ByteArray × ByteArray)) → Option ρ) → Option ρ
  | 0, _, _, _, _ => none
  | k + 1, v1, v2, v3, K0 => B0 laws_markText.F v1 v2 v3 (fun v1' v2' v3' => F0 k v1' v2' v3' K0) K0
noncomputable def B {ρ : Type} (L0 : Int → Int → (Vec (ByteArray × ByteArray)) → (Int → (Vec (ByteArray × ByteArray)) → Option ρ) → Option ρ) (a1 : Int) (a2 : Vec (ByteArray × ByteArray)) (K : Int → (Vec (ByteArray × ByteArray)) → Option ρ) : Option ρ :=
  L0 a1 (0 : Int) a2 (fun e01 e02 => K e01 e02)
noncomputable def F (a1 : Int) (a2 : Vec (ByteArray × ByteArray)) : Option (Int × (Vec (ByteArray × ByteArray))) := B (F0 fuelN) a1 a2 (fun x1 x2 => some (x1, x2))
def encA (t : Int × (Vec (ByteArray × ByteArray))) : List AV × List Ob := ([.c (.h 0), .c (.n (.v (.int .i64 t.1)))], [.row 2 (encRw t.2) []])
def encR (x : Int × (Vec (ByteArray × ByteArray))) : AV × List Ob := (.c (.n (.v (.int .i64 x.1))), [.row 2 (encRw x.2) []])
theorem encAI : ∀ a b, encA a = encA b → a = b := by
  intro a b h
  obtain ⟨a0, a1⟩ := a
  obtain ⟨b0, b1⟩ := b
  simp [encA, encRw_iff] at h
  simp_all
theorem encRI : ∀ a b, encR a = encR b → a = b := by
  intro a b h
  obtain ⟨a0, a1⟩ := a
  obtain ⟨b0, b1⟩ := b
  simp [encR, encRw_iff] at h
  simp_all
noncomputable def Q (args : List AV) (hin : List Ob) : Option (Int × (Vec (ByteArray × ByteArray))) := ofC encA (fun t => F t.1 t.2) (args, hin)
theorem wrap : (fun (y1 : Int) (y2 : Vec (ByteArray × ByteArray)) => Q [.c (.h 0), .c (.n (.v (.int .i64 y1)))] [.row 2 (encRw y2) []]) = F := by
  funext y1 y2
  exact ofC_enc encAI _ (y1, y2)
noncomputable def G (q_laws_markText : List AV → Option ByteArray) : Orc := ⟨fun f => sel (Nat.beq f 44) 0 (9), fun ρ f args K => sel (Nat.beq f 44) (qEntry laws_markText.encR q_laws_markText args K) (Option.none), noE⟩
noncomputable def L (W0 : (ρ : Type) → List AV → List Ob → (Int → (Vec (ByteArray × ByteArray)) → Option ρ) → Option ρ) : Lor := fun ρ j st K => sel (Nat.beq j 0) (cutO Try.prog 29 [0, 1, 5] 1 [true] [] st fun avs obs => W0 ρ avs obs (fun z1 z2 => K (.exit 0) (mkS 29 [1] [.c (.n (.v (.int .i64 z1)))] [.row 2 (encRw z2) []] [true]))) (Option.none)
noncomputable def c0 : Code := loopC (atomN [] 0 (bodyOf Try.f56) 0)
def ct0 : Cut := ⟨[0, 1, 5], []⟩
def lv0 : Exit → Cut
  | .exit 0 => ⟨[1], []⟩
  | _ => ⟨[], []⟩
theorem step0 (q_laws_markText : List AV → Option ByteArray) (W0 : (ρ : Type) → List AV → List Ob → (Int → (Vec (ByteArray × ByteArray)) → Option ρ) → Option ρ) {ρ : Type} (K : Exit → St → Option ρ) (W : List AV → List Ob → Option ρ) (v1 : Int) (v2 : Int) (v3 : Vec (ByteArray × ByteArray)) : exC Try.prog (G q_laws_markText) (L W0) [] 1 c0 (mkS 29 [0, 1, 5] [.c (.h 0), .c (.n (.v (.int .i64 v1))), .c (.n (.v (.int .i64 v2)))] [.row 2 (encRw v3) []] [true]) (bodyK Try.prog 29 1 [true] ct0 W lv0 K) =
    B0 (fun y1 => q_laws_markText [.c (.n (.v (.int .i64 y1)))]) v1 v2 v3 (fun u1 u2 u3 => W [.c (.h 0), .c (.n (.v (.int .i64 u1))), .c (.n (.v (.int .i64 u2)))] [.row 2 (encRw u3) []]) (fun z1 z2 => K (.exit 0) (mkS 29 [1] [.c (.n (.v (.int .i64 z1)))] [.row 2 (encRw z2) []] [true])) := by kernel_rfl
def enc0 (t : Int × Int × (Vec (ByteArray × ByteArray))) : List AV × List Ob := ([.c (.h 0), .c (.n (.v (.int .i64 t.1))), .c (.n (.v (.int .i64 t.2.1)))], [.row 2 (encRw t.2.2) []])
theorem enc0I : ∀ a b, enc0 a = enc0 b → a = b := by
  intro a b h
  obtain ⟨a0, a1, a2⟩ := a
  obtain ⟨b0, b1, b2⟩ := b
  simp [enc0, encRw_iff] at h
  simp_all
noncomputable def V0 : (ρ : Type) → List AV → List Ob → (Int → (Vec (ByteArray × ByteArray)) → Option ρ) → Option ρ := fun ρ avs obs k0 => ofC enc0 (fun t => F0 fuelN t.1 t.2.1 t.2.2 k0) (avs, obs)
theorem V0_enc (ρ : Type) : (fun w1 w2 w3 k0 => V0 ρ [.c (.h 0), .c (.n (.v (.int .i64 w1))), .c (.n (.v (.int .i64 w2)))] [.row 2 (encRw w3) []] k0) = F0 fuelN := by
  funext w1 w2 w3 k0
  exact ofC_enc enc0I _ (w1, w2, w3)
theorem main (q_laws_markText : List AV → Option ByteArray) (W0 : (ρ : Type) → List AV → List Ob → (Int → (Vec (ByteArray × ByteArray)) → Option ρ) → Option ρ) {ρ : Type} (K : AV → List Ob → Option ρ) (a1 : Int) (a2 : Vec (ByteArray × ByteArray)) : exC Try.prog (G q_laws_markText) (L W0) [] 0 (bodyOf Try.f56) (entry 29 [.c (.h 0), .c (.n (.v (.int .i64 a1)))] [.row 2 (encRw a2) []] [true]) (finO Try.prog Try.f56.results.toList 1 [true] [] K) =
    B (fun w1 w2 w3 k0 => W0 ρ [.c (.h 0), .c (.n (.v (.int .i64 w1))), .c (.n (.v (.int .i64 w2)))] [.row 2 (encRw w3) []] k0) a1 a2 (fun x1 x2 => K (.c (.n (.v (.int .i64 x1)))) [.row 2 (encRw x2) []]) := by kernel_rfl
theorem Gok : (G laws_markText.Q).ok Try.prog := ⟨(by
    intro ρ f args K r h
    rcases sel_cases h with ⟨hb, h⟩ | ⟨-, h⟩
    · obtain rfl := beq_nat hb
      exact qEntry_ok laws_markText.ac h
    cases h),
  (by
    intro ρ f args K
    simp only [G]
    cases Nat.beq f 44 with
    | true => exact qEntry_nat args K
    | false =>
    simp only [sel]
    rfl),
  (fun ρ f st caps args dst K r h => (by cases h))⟩
theorem hm : Try.prog.follows .mixedOrders = true := by kernel_rfl
theorem e0 : atomsL [] 1 c0 = [] := by kernel_rfl
theorem ok0 (ρ : Type) (st : St) (K : Exit → St → Option ρ) (r : ρ) (h : (L V0) ρ 0 st K = some r) : AW Try.prog (.loop c0) st fun e st' => K e st' = some r := by
  refine loop_ok (ct := ct0) (lv := lv0) (n := 29) (m := 1) (ks := [true]) (j := 0) (jn := []) (L := (L V0)) Gok hm (by rw [e0]; exact Lor.ok_nil _ _) enc0I (fun k t => F0 k t.1 t.2.1 t.2.2 (fun z1 z2 => K (.exit 0) (mkS 29 [1] [.c (.n (.v (.int .i64 z1)))] [.row 2 (encRw z2) []] [true]))) (fun t => rfl) (fun k t => ?_) (fun _ => fuelN) h
  refine (step0 laws_markText.Q V0 K _ t.1 t.2.1 t.2.2).trans ?_
  rw [laws_markText.wrap]
  refine congrArg (fun W => B0 laws_markText.F t.1 t.2.1 t.2.2 W (fun z1 z2 => K (.exit 0) (mkS 29 [1] [.c (.n (.v (.int .i64 z1)))] [.row 2 (encRw z2) []] [true]))) ?_
  funext u1 u2 u3
  exact ofC_enc enc0I _ (u1, u2, u3)
theorem e : atomsL [] 0 (bodyOf Try.f56) = [(0, 0, .loop c0)] := by kernel_rfl
theorem acc (t : Int × (Vec (ByteArray × ByteArray))) (x : Int × (Vec (ByteArray × ByteArray))) (h : F t.1 t.2 = some x) : ACc Try.prog 56 (encA t).1 (encA t).2 true [true] fun rv obs => (rv, obs) = encR x := by
  refine fun_okc (L := (L V0)) (jn := []) (cmds := []) (ks := [true]) (hin := (encA t).2) (fn := Try.f56) (body := (bodyOf Try.f56)) Gok hm Try.func56 (by kernel_rfl) (by kernel_rfl) (by rw [e]; exact Lor.ok_cons ok0 (Lor.ok_nil _ _)) ?_ h
  refine (main laws_markText.Q V0 _ t.1 t.2).trans ?_
  rw [V0_enc]
  refine congrArg (fun K => B (F0 fuelN) t.1 t.2 K) ?_
  funext x1 x2
  exact ofC_enc encRI some (x1, x2)
theorem ac0 (t : Int × (Vec (ByteArray × ByteArray))) (x : Int × (Vec (ByteArray × ByteArray))) (h : F t.1 t.2 = some x) : AC Try.prog 56 (encA t).1 (encA t).2 true [true] fun rv obs => (rv, obs) = encR x := ACc.ac (body := bodyOf Try.f56) Try.func56 (by kernel_rfl) (by kernel_rfl) (acc t x h)
theorem ac (args : List AV) (hin : List Ob) (x : Int × (Vec (ByteArray × ByteArray))) (h : Q args hin = some x) : AC Try.prog 56 args hin false [true] fun rv obs => (rv, obs) = encR x := by
  obtain ⟨t, he, h2⟩ := ofC_some h
  obtain rfl : args = (encA t).1 := (congrArg Prod.fst he).symm
  obtain rfl : hin = (encA t).2 := (congrArg Prod.snd he).symm
  refine (ac0 t x h2).flat fun rv obs e => ?_
  obtain rfl : rv = (encR x).1 := congrArg Prod.fst e
  obtain rfl : obs = (encR x).2 := congrArg Prod.snd e
  refine ⟨by simp [encR, AV.Flat, K.Flat, C.Flat], ?_⟩
  intro o ho
  simp only [encR, List.mem_cons, List.not_mem_nil, or_false] at ho
  subst ho
  exact flat_rw rfl _
end laws_markFileS_s3394
/-! loop.example/g00073/laws.markDisk -/
namespace laws_markDisk_s3b3c
noncomputable def B {ρ : Type} (C_laws_markFileS_s3394 : Int → (Vec (ByteArray × ByteArray)) → Option (Int × (Vec (ByteArray × ByteArray)))) (a1 : Int) (a2 : Vec (ByteArray × ByteArray)) (K : Int → (Vec (ByteArray × ByteArray)) → Option ρ) : Option ρ :=
  (C_laws_markFileS_s3394 a1 a2).bind fun r1 => K r1.1 r1.2
noncomputable def F (a1 : Int) (a2 : Vec (ByteArray × ByteArray)) : Option (Int × (Vec (ByteArray × ByteArray))) := B laws_markFileS_s3394.F a1 a2 (fun x1 x2 => some (x1, x2))
def encA (t : Int × (Vec (ByteArray × ByteArray))) : List AV × List Ob := ([.a [.h 0], .c (.n (.v (.int .i64 t.1)))], [.row 2 (encRw t.2) []])
def encR (x : Int × (Vec (ByteArray × ByteArray))) : AV × List Ob := (.c (.n (.v (.int .i64 x.1))), [.row 2 (encRw x.2) []])
theorem encAI : ∀ a b, encA a = encA b → a = b := by
  intro a b h
  obtain ⟨a0, a1⟩ := a
  obtain ⟨b0, b1⟩ := b
  simp [encA, encRw_iff] at h
  simp_all
theorem encRI : ∀ a b, encR a = encR b → a = b := by
  intro a b h
  obtain ⟨a0, a1⟩ := a
  obtain ⟨b0, b1⟩ := b
  simp [encR, encRw_iff] at h
  simp_all
noncomputable def Q (args : List AV) (hin : List Ob) : Option (Int × (Vec (ByteArray × ByteArray))) := ofC encA (fun t => F t.1 t.2) (args, hin)
theorem wrap : (fun (y1 : Int) (y2 : Vec (ByteArray × ByteArray)) => Q [.a [.h 0], .c (.n (.v (.int .i64 y1)))] [.row 2 (encRw y2) []]) = F := by
  funext y1 y2
  exact ofC_enc encAI _ (y1, y2)
noncomputable def G (q_laws_markFileS_s3394 : List AV → List Ob → Option (Int × (Vec (ByteArray × ByteArray)))) : Orc := ⟨fun f => 9, fun ρ f args K => Option.none, fun ρ f st args dst K => sel (Nat.beq f 56) (callE Try.prog 56 [true, false] false [true] laws_markFileS_s3394.encR q_laws_markFileS_s3394 st args dst K) (Option.none)⟩
noncomputable def L : Lor := fun ρ j st K => Option.none
theorem main (q_laws_markFileS_s3394 : List AV → List Ob → Option (Int × (Vec (ByteArray × ByteArray)))) {ρ : Type} (K : AV → List Ob → Option ρ) (a1 : Int) (a2 : Vec (ByteArray × ByteArray)) : exC Try.prog (G q_laws_markFileS_s3394) (L) [] 0 (bodyOf Try.f23) (entry 10 [.a [.h 0], .c (.n (.v (.int .i64 a1)))] [.row 2 (encRw a2) []] [true]) (finO Try.prog Try.f23.results.toList 1 [true] [] K) =
    B (fun y1 y2 => q_laws_markFileS_s3394 [.c (.h 0), .c (.n (.v (.int .i64 y1)))] [.row 2 (encRw y2) []]) a1 a2 (fun x1 x2 => K (.c (.n (.v (.int .i64 x1)))) [.row 2 (encRw x2) []]) := by kernel_rfl
theorem Gok : (G laws_markFileS_s3394.Q).ok Try.prog := ⟨(fun ρ f args K r h => (by cases h)),
  (fun ρ f args K => rfl),
  (by
    intro ρ f st caps args dst K r h
    rcases sel_cases h with ⟨hb, h⟩ | ⟨-, h⟩
    · obtain rfl := beq_nat hb
      exact callE_ok (fun h => by cases h) laws_markFileS_s3394.ac h
    cases h)⟩
theorem hm : Try.prog.follows .mixedOrders = true := by kernel_rfl
theorem e : atomsL [] 0 (bodyOf Try.f23) = [] := by kernel_rfl
theorem acc (t : Int × (Vec (ByteArray × ByteArray))) (x : Int × (Vec (ByteArray × ByteArray))) (h : F t.1 t.2 = some x) : ACc Try.prog 23 (encA t).1 (encA t).2 true [true] fun rv obs => (rv, obs) = encR x := by
  refine fun_okc (L := (L)) (jn := []) (cmds := []) (ks := [true]) (hin := (encA t).2) (fn := Try.f23) (body := (bodyOf Try.f23)) Gok hm Try.func23 (by kernel_rfl) (by kernel_rfl) (by rw [e]; exact Lor.ok_nil _ _) ?_ h
  refine (main laws_markFileS_s3394.Q _ t.1 t.2).trans ?_
  rw [laws_markFileS_s3394.wrap]
  refine congrArg (fun K => B laws_markFileS_s3394.F t.1 t.2 K) ?_
  funext x1 x2
  exact ofC_enc encRI some (x1, x2)
theorem ac0 (t : Int × (Vec (ByteArray × ByteArray))) (x : Int × (Vec (ByteArray × ByteArray))) (h : F t.1 t.2 = some x) : AC Try.prog 23 (encA t).1 (encA t).2 true [true] fun rv obs => (rv, obs) = encR x := ACc.ac (body := bodyOf Try.f23) Try.func23 (by kernel_rfl) (by kernel_rfl) (acc t x h)
theorem ac (args : List AV) (hin : List Ob) (x : Int × (Vec (ByteArray × ByteArray))) (h : Q args hin = some x) : AC Try.prog 23 args hin false [true] fun rv obs => (rv, obs) = encR x := by
  obtain ⟨t, he, h2⟩ := ofC_some h
  obtain rfl : args = (encA t).1 := (congrArg Prod.fst he).symm
  obtain rfl : hin = (encA t).2 := (congrArg Prod.snd he).symm
  refine (ac0 t x h2).flat fun rv obs e => ?_
  obtain rfl : rv = (encR x).1 := congrArg Prod.fst e
  obtain rfl : obs = (encR x).2 := congrArg Prod.snd e
  refine ⟨by simp [encR, AV.Flat, K.Flat, C.Flat], ?_⟩
  intro o ho
  simp only [encR, List.mem_cons, List.not_mem_nil, or_false] at ho
  subst ho
  exact flat_rw rfl _
end laws_markDisk_s3b3c
/-! loop.example/g00073/laws.heldFileS -/
namespace laws_heldFileS
noncomputable def B0 {ρ : Type} (C_laws_markText : Int → Option ByteArray) (v1 : Vec (ByteArray × ByteArray)) (v2 : Int) (v3 : Int) (W : (Vec (ByteArray × ByteArray)) → Int → Int → Option ρ) (K0 : Int → Option ρ) (Kr : Int → Option ρ) : Option ρ :=
  sel (decide (v3 < (v1.n : Int))) (chk (decide (0 ≤ v3 ∧ v3 < (v1.n : Int))) ((C_laws_markText v2).bind fun r1 => sel ((!decide ((v1.g v3.toNat).1 = r1))) (Kr (-1 : Int)) (chk (decide (0 ≤ v3 ∧ v3 < (v1.n : Int))) ((C_laws_markText (wr (v2 + (1 : Int)))).bind fun r2 => sel ((!decide ((v1.g v3.toNat).2 = r2))) (Kr (-1 : Int)) (W v1 (wr ((wr (v2 + (1 : Int))) + (1 : Int))) (wr (v3 + (1 : Int)))))))) (K0 v2)
noncomputable def F0 {ρ : Type} : Nat → (Vec (ByteArray × ByteArray)) → Int → Int → (Int → Option ρ) → (Int → Option ρ) → Option ρ
  | 0, _, _, _, _, _ => none
  | k + 1, v1, v2, v3, K0, Kr => B0 laws_markText.F v1 v2 v3 (fun v1' v2' v3' => F0 k v1' v2' v3' K0 Kr) K0 Kr
noncomputable def B {ρ : Type} (L0 : (Vec (ByteArray × ByteArray)) → Int → Int → (Int → Option ρ) → (Int → Option ρ) → Option ρ) (a1 : Vec (ByteArray × ByteArray)) (a2 : Int) (K : Int → Option ρ) : Option ρ :=
  L0 a1 a2 (0 : Int) (fun e01 => K e01) (fun x01 => K x01)
noncomputable def F (a1 : Vec (ByteArray × ByteArray)) (a2 : Int) : Option Int := B (F0 fuelN) a1 a2 (fun x1 => some (x1))
def encA (t : (Vec (ByteArray × ByteArray)) × Int) : List AV := [.c (.n (.sl 2 (encRw t.1))), .c (.n (.v (.int .i64 t.2)))]
def encR (x : Int) : AV × List Ob := (.c (.n (.v (.int .i64 x))), [])
theorem encAI : ∀ a b, encA a = encA b → a = b := by
  intro a b h
  obtain ⟨a0, a1⟩ := a
  obtain ⟨b0, b1⟩ := b
  simp [encA, encRw_iff] at h
  simp_all
theorem encRI : ∀ a b, encR a = encR b → a = b := by
  intro a b h
  simp [encR, encRw_iff] at h
  simp_all
noncomputable def Q (args : List AV) : Option Int := ofC encA (fun t => F t.1 t.2) args
theorem wrap : (fun (y1 : Vec (ByteArray × ByteArray)) (y2 : Int) => Q [.c (.n (.sl 2 (encRw y1))), .c (.n (.v (.int .i64 y2)))]) = F := by
  funext y1 y2
  exact ofC_enc encAI _ (y1, y2)
noncomputable def G (q_laws_markText : List AV → Option ByteArray) : Orc := ⟨fun f => sel (Nat.beq f 44) 0 (9), fun ρ f args K => sel (Nat.beq f 44) (qEntry laws_markText.encR q_laws_markText args K) (Option.none), noE⟩
noncomputable def L (W0 : (ρ : Type) → List AV → List Ob → (Int → Option ρ) → (Int → Option ρ) → Option ρ) : Lor := fun ρ j st K => sel (Nat.beq j 0) (cutO Try.prog 33 [0, 1, 5] 0 [] [] st fun avs obs => W0 ρ avs obs (fun z1 => K (.exit 0) (mkS 33 [1] [.c (.n (.v (.int .i64 z1)))] [] [])) (fun z1 => K .ret (mkS 33 [4] [.c (.n (.v (.int .i64 z1)))] [] []))) (Option.none)
noncomputable def c0 : Code := loopC (atomN [] 0 (bodyOf Try.f57) 0)
def ct0 : Cut := ⟨[0, 1, 5], []⟩
def lv0 : Exit → Cut
  | .exit 0 => ⟨[1], []⟩
  | .ret => ⟨[4], []⟩
  | _ => ⟨[], []⟩
theorem step0 (q_laws_markText : List AV → Option ByteArray) (W0 : (ρ : Type) → List AV → List Ob → (Int → Option ρ) → (Int → Option ρ) → Option ρ) {ρ : Type} (K : Exit → St → Option ρ) (W : List AV → List Ob → Option ρ) (v1 : Vec (ByteArray × ByteArray)) (v2 : Int) (v3 : Int) : exC Try.prog (G q_laws_markText) (L W0) [] 1 c0 (mkS 33 [0, 1, 5] [.c (.n (.sl 2 (encRw v1))), .c (.n (.v (.int .i64 v2))), .c (.n (.v (.int .i64 v3)))] [] []) (bodyK Try.prog 33 0 [] ct0 W lv0 K) =
    B0 (fun y1 => q_laws_markText [.c (.n (.v (.int .i64 y1)))]) v1 v2 v3 (fun u1 u2 u3 => W [.c (.n (.sl 2 (encRw u1))), .c (.n (.v (.int .i64 u2))), .c (.n (.v (.int .i64 u3)))] []) (fun z1 => K (.exit 0) (mkS 33 [1] [.c (.n (.v (.int .i64 z1)))] [] [])) (fun z1 => K .ret (mkS 33 [4] [.c (.n (.v (.int .i64 z1)))] [] [])) := by kernel_rfl
def enc0 (t : (Vec (ByteArray × ByteArray)) × Int × Int) : List AV × List Ob := ([.c (.n (.sl 2 (encRw t.1))), .c (.n (.v (.int .i64 t.2.1))), .c (.n (.v (.int .i64 t.2.2)))], [])
theorem enc0I : ∀ a b, enc0 a = enc0 b → a = b := by
  intro a b h
  obtain ⟨a0, a1, a2⟩ := a
  obtain ⟨b0, b1, b2⟩ := b
  simp [enc0, encRw_iff] at h
  simp_all
noncomputable def V0 : (ρ : Type) → List AV → List Ob → (Int → Option ρ) → (Int → Option ρ) → Option ρ := fun ρ avs obs k0 kr => ofC enc0 (fun t => F0 fuelN t.1 t.2.1 t.2.2 k0 kr) (avs, obs)
theorem V0_enc (ρ : Type) : (fun w1 w2 w3 k0 kr => V0 ρ [.c (.n (.sl 2 (encRw w1))), .c (.n (.v (.int .i64 w2))), .c (.n (.v (.int .i64 w3)))] [] k0 kr) = F0 fuelN := by
  funext w1 w2 w3 k0 kr
  exact ofC_enc enc0I _ (w1, w2, w3)
theorem main (q_laws_markText : List AV → Option ByteArray) (W0 : (ρ : Type) → List AV → List Ob → (Int → Option ρ) → (Int → Option ρ) → Option ρ) {ρ : Type} (K : AV → List Ob → Option ρ) (a1 : Vec (ByteArray × ByteArray)) (a2 : Int) : exC Try.prog (G q_laws_markText) (L W0) [] 0 (bodyOf Try.f57) (entry 33 [.c (.n (.sl 2 (encRw a1))), .c (.n (.v (.int .i64 a2)))] [] []) (finO Try.prog Try.f57.results.toList 0 [] [] K) =
    B (fun w1 w2 w3 k0 kr => W0 ρ [.c (.n (.sl 2 (encRw w1))), .c (.n (.v (.int .i64 w2))), .c (.n (.v (.int .i64 w3)))] [] k0 kr) a1 a2 (fun x1 => K (.c (.n (.v (.int .i64 x1)))) []) := by kernel_rfl
theorem Gok : (G laws_markText.Q).ok Try.prog := ⟨(by
    intro ρ f args K r h
    rcases sel_cases h with ⟨hb, h⟩ | ⟨-, h⟩
    · obtain rfl := beq_nat hb
      exact qEntry_ok laws_markText.ac h
    cases h),
  (by
    intro ρ f args K
    simp only [G]
    cases Nat.beq f 44 with
    | true => exact qEntry_nat args K
    | false =>
    simp only [sel]
    rfl),
  (fun ρ f st caps args dst K r h => (by cases h))⟩
theorem hm : Try.prog.follows .mixedOrders = true := by kernel_rfl
theorem e0 : atomsL [] 1 c0 = [] := by kernel_rfl
theorem ok0 (ρ : Type) (st : St) (K : Exit → St → Option ρ) (r : ρ) (h : (L V0) ρ 0 st K = some r) : AW Try.prog (.loop c0) st fun e st' => K e st' = some r := by
  refine loop_ok (ct := ct0) (lv := lv0) (n := 33) (m := 0) (ks := []) (j := 0) (jn := []) (L := (L V0)) Gok hm (by rw [e0]; exact Lor.ok_nil _ _) enc0I (fun k t => F0 k t.1 t.2.1 t.2.2 (fun z1 => K (.exit 0) (mkS 33 [1] [.c (.n (.v (.int .i64 z1)))] [] [])) (fun z1 => K .ret (mkS 33 [4] [.c (.n (.v (.int .i64 z1)))] [] []))) (fun t => rfl) (fun k t => ?_) (fun _ => fuelN) h
  refine (step0 laws_markText.Q V0 K _ t.1 t.2.1 t.2.2).trans ?_
  rw [laws_markText.wrap]
  refine congrArg (fun W => B0 laws_markText.F t.1 t.2.1 t.2.2 W (fun z1 => K (.exit 0) (mkS 33 [1] [.c (.n (.v (.int .i64 z1)))] [] [])) (fun z1 => K .ret (mkS 33 [4] [.c (.n (.v (.int .i64 z1)))] [] []))) ?_
  funext u1 u2 u3
  exact ofC_enc enc0I _ (u1, u2, u3)
theorem e : atomsL [] 0 (bodyOf Try.f57) = [(0, 0, .loop c0)] := by kernel_rfl
theorem acc (t : (Vec (ByteArray × ByteArray)) × Int) (x : Int) (h : F t.1 t.2 = some x) : ACc Try.prog 57 (encA t) [] true [] fun rv obs => (rv, obs) = encR x := by
  refine fun_okc (L := (L V0)) (jn := []) (cmds := []) (ks := []) (hin := []) (fn := Try.f57) (body := (bodyOf Try.f57)) Gok hm Try.func57 (by kernel_rfl) (by kernel_rfl) (by rw [e]; exact Lor.ok_cons ok0 (Lor.ok_nil _ _)) ?_ h
  refine (main laws_markText.Q V0 _ t.1 t.2).trans ?_
  rw [V0_enc]
  refine congrArg (fun K => B (F0 fuelN) t.1 t.2 K) ?_
  funext x1
  exact ofC_enc encRI some (x1)
theorem ac0 (t : (Vec (ByteArray × ByteArray)) × Int) (x : Int) (h : F t.1 t.2 = some x) : AC Try.prog 57 (encA t) [] true [] fun rv obs => (rv, obs) = encR x := ACc.ac (body := bodyOf Try.f57) Try.func57 (by kernel_rfl) (by kernel_rfl) (acc t x h)
theorem ac (args : List AV) (x : Int) (h : Q args = some x) : AC Try.prog 57 args [] false [] fun rv obs => (rv, obs) = encR x := by
  obtain ⟨t, rfl, h2⟩ := ofC_some h
  refine (ac0 t x h2).flat fun rv obs e => ?_
  obtain rfl : rv = (encR x).1 := congrArg Prod.fst e
  obtain rfl : obs = (encR x).2 := congrArg Prod.snd e
  refine ⟨by simp [encR, AV.Flat, K.Flat, C.Flat], ?_⟩
  simp [encR]
end laws_heldFileS
/-! loop.example/g00073/laws.heldDisk -/
namespace laws_heldDisk
noncomputable def B {ρ : Type} (C_laws_heldFileS : (Vec (ByteArray × ByteArray)) → Int → Option Int) (a1 : Vec (ByteArray × ByteArray)) (a2 : Int) (K : Int → Option ρ) : Option ρ :=
  (C_laws_heldFileS a1 a2).bind fun r1 => sel (decide (r1 < (0 : Int))) (K (-1 : Int)) (K r1)
noncomputable def F (a1 : Vec (ByteArray × ByteArray)) (a2 : Int) : Option Int := B laws_heldFileS.F a1 a2 (fun x1 => some (x1))
def encA (t : (Vec (ByteArray × ByteArray)) × Int) : List AV := [.a [.n (.sl 2 (encRw t.1))], .c (.n (.v (.int .i64 t.2)))]
def encR (x : Int) : AV × List Ob := (.c (.n (.v (.int .i64 x))), [])
theorem encAI : ∀ a b, encA a = encA b → a = b := by
  intro a b h
  obtain ⟨a0, a1⟩ := a
  obtain ⟨b0, b1⟩ := b
  simp [encA, encRw_iff] at h
  simp_all
theorem encRI : ∀ a b, encR a = encR b → a = b := by
  intro a b h
  simp [encR, encRw_iff] at h
  simp_all
noncomputable def Q (args : List AV) : Option Int := ofC encA (fun t => F t.1 t.2) args
theorem wrap : (fun (y1 : Vec (ByteArray × ByteArray)) (y2 : Int) => Q [.a [.n (.sl 2 (encRw y1))], .c (.n (.v (.int .i64 y2)))]) = F := by
  funext y1 y2
  exact ofC_enc encAI _ (y1, y2)
noncomputable def G (q_laws_heldFileS : List AV → Option Int) : Orc := ⟨fun f => sel (Nat.beq f 57) 0 (9), fun ρ f args K => sel (Nat.beq f 57) (qEntry laws_heldFileS.encR q_laws_heldFileS args K) (Option.none), noE⟩
noncomputable def L : Lor := fun ρ j st K => Option.none
theorem main (q_laws_heldFileS : List AV → Option Int) {ρ : Type} (K : AV → List Ob → Option ρ) (a1 : Vec (ByteArray × ByteArray)) (a2 : Int) : exC Try.prog (G q_laws_heldFileS) (L) [] 0 (bodyOf Try.f24) (entry 12 [.a [.n (.sl 2 (encRw a1))], .c (.n (.v (.int .i64 a2)))] [] []) (finO Try.prog Try.f24.results.toList 0 [] [] K) =
    B (fun y1 y2 => q_laws_heldFileS [.c (.n (.sl 2 (encRw y1))), .c (.n (.v (.int .i64 y2)))]) a1 a2 (fun x1 => K (.c (.n (.v (.int .i64 x1)))) []) := by kernel_rfl
theorem Gok : (G laws_heldFileS.Q).ok Try.prog := ⟨(by
    intro ρ f args K r h
    rcases sel_cases h with ⟨hb, h⟩ | ⟨-, h⟩
    · obtain rfl := beq_nat hb
      exact qEntry_ok laws_heldFileS.ac h
    cases h),
  (by
    intro ρ f args K
    simp only [G]
    cases Nat.beq f 57 with
    | true => exact qEntry_nat args K
    | false =>
    simp only [sel]
    rfl),
  (fun ρ f st caps args dst K r h => (by cases h))⟩
theorem hm : Try.prog.follows .mixedOrders = true := by kernel_rfl
theorem e : atomsL [] 0 (bodyOf Try.f24) = [] := by kernel_rfl
theorem acc (t : (Vec (ByteArray × ByteArray)) × Int) (x : Int) (h : F t.1 t.2 = some x) : ACc Try.prog 24 (encA t) [] true [] fun rv obs => (rv, obs) = encR x := by
  refine fun_okc (L := (L)) (jn := []) (cmds := []) (ks := []) (hin := []) (fn := Try.f24) (body := (bodyOf Try.f24)) Gok hm Try.func24 (by kernel_rfl) (by kernel_rfl) (by rw [e]; exact Lor.ok_nil _ _) ?_ h
  refine (main laws_heldFileS.Q _ t.1 t.2).trans ?_
  rw [laws_heldFileS.wrap]
  refine congrArg (fun K => B laws_heldFileS.F t.1 t.2 K) ?_
  funext x1
  exact ofC_enc encRI some (x1)
theorem ac0 (t : (Vec (ByteArray × ByteArray)) × Int) (x : Int) (h : F t.1 t.2 = some x) : AC Try.prog 24 (encA t) [] true [] fun rv obs => (rv, obs) = encR x := ACc.ac (body := bodyOf Try.f24) Try.func24 (by kernel_rfl) (by kernel_rfl) (acc t x h)
theorem ac (args : List AV) (x : Int) (h : Q args = some x) : AC Try.prog 24 args [] false [] fun rv obs => (rv, obs) = encR x := by
  obtain ⟨t, rfl, h2⟩ := ofC_some h
  refine (ac0 t x h2).flat fun rv obs e => ?_
  obtain rfl : rv = (encR x).1 := congrArg Prod.fst e
  obtain rfl : obs = (encR x).2 := congrArg Prod.snd e
  refine ⟨by simp [encR, AV.Flat, K.Flat, C.Flat], ?_⟩
  simp [encR]
end laws_heldDisk
/-! loop.example/g00073/laws.FnExactPutRaw -/
namespace laws_FnExactPutRaw
noncomputable def B {ρ : Type} (C_laws_szDisk : (Vec (ByteArray × ByteArray)) → Int → Option Int) (C_laws_szRaw : Int → ByteArray → ByteArray → ByteArray → Int → Option Int) (C_laws_toDisk : (Vec (ByteArray × ByteArray)) → Option (Vec (ByteArray × ByteArray))) (C_laws_toRaw : Int → ByteArray → ByteArray → ByteArray → Option (Int × ByteArray × ByteArray × ByteArray)) (C_spec_PutRaw : (Vec (ByteArray × ByteArray)) → Int → ByteArray → ByteArray → ByteArray → Option (Bool × (Vec (ByteArray × ByteArray)))) (C_impl_PutRaw : (Vec (ByteArray × ByteArray)) → Int → ByteArray → ByteArray → ByteArray → Option (Bool × (Vec (ByteArray × ByteArray)))) (C_laws_eqDisk : (Vec (ByteArray × ByteArray)) → (Vec (ByteArray × ByteArray)) → Option Bool) (C_laws_markDisk_s3b3c : Int → (Vec (ByteArray × ByteArray)) → Option (Int × (Vec (ByteArray × ByteArray)))) (C_laws_heldDisk : (Vec (ByteArray × ByteArray)) → Int → Option Int) (a1 : Vec (ByteArray × ByteArray)) (a2 : Int) (a3 : ByteArray) (a4 : ByteArray) (a5 : ByteArray) (K : Bool → Option ρ) : Option ρ :=
  (C_laws_szDisk a1 (1048576 : Int)).bind fun r1 => sel (decide (r1 < (0 : Int))) (K true) ((C_laws_szRaw a2 a3 a4 a5 r1).bind fun r2 => sel (decide (r2 < (0 : Int))) (K true) ((C_laws_toDisk a1).bind fun r3 => (C_laws_toRaw a2 a3 a4 a5).bind fun r4 => (C_spec_PutRaw r3 r4.1 r4.2.1 r4.2.2.1 r4.2.2.2).bind fun r5 => (C_laws_toDisk a1).bind fun r6 => (C_laws_toRaw a2 a3 a4 a5).bind fun r7 => (C_impl_PutRaw r6 r7.1 r7.2.1 r7.2.2.1 r7.2.2.2).bind fun r8 => (C_laws_eqDisk r8.2 r5.2).bind fun r9 => sel ((!r9)) (K false) (sel ((!(r8.1 == r5.1))) (K false) ((C_laws_toDisk a1).bind fun r10 => (C_laws_eqDisk r6 r10).bind fun r11 => sel ((!r11)) (K false) ((C_laws_markDisk_s3b3c (1 : Int) r6).bind fun r12 => sel (decide (r12.1 < (0 : Int))) (K false) ((C_laws_eqDisk r8.2 r5.2).bind fun r13 => sel ((!r13)) (K false) (sel ((!(r8.1 == r5.1))) (K false) ((C_laws_markDisk_s3b3c (1 : Int) r8.2).bind fun r14 => (C_laws_heldDisk r14.2 (1 : Int)).bind fun r15 => sel (decide (r15 < (0 : Int))) (K false) (sel ((!decide (r15 = r14.1))) (K false) ((C_laws_toDisk a1).bind fun r16 => (C_laws_toRaw a2 a3 a4 a5).bind fun r17 => (C_impl_PutRaw r16 r17.1 r17.2.1 r17.2.2.1 r17.2.2.2).bind fun r18 => (C_laws_eqDisk r18.2 r5.2).bind fun r19 => sel ((!r19)) (K false) (sel ((!(r18.1 == r5.1))) (K false) ((C_laws_heldDisk r14.2 (1 : Int)).bind fun r20 => sel (decide (r20 < (0 : Int))) (K false) (sel ((!decide (r20 = r14.1))) (K false) (K true))))))))))))))
noncomputable def F (a1 : Vec (ByteArray × ByteArray)) (a2 : Int) (a3 : ByteArray) (a4 : ByteArray) (a5 : ByteArray) : Option Bool := B laws_szDisk.F laws_szRaw.F laws_toDisk.F laws_toRaw.F spec_PutRaw.F impl_PutRaw.F laws_eqDisk.F laws_markDisk_s3b3c.F laws_heldDisk.F a1 a2 a3 a4 a5 (fun x1 => some (x1))
def encA (t : (Vec (ByteArray × ByteArray)) × Int × ByteArray × ByteArray × ByteArray) : List AV := [.a [.n (.sl 2 (encRw t.1))], .a [.n (.v (.int .i64 t.2.1)), .n (.v (.string t.2.2.1)), .n (.v (.string t.2.2.2.1)), .n (.v (.string t.2.2.2.2))]]
def encR (x : Bool) : AV × List Ob := (.c (.n (.v (.bool x))), [])
theorem encAI : ∀ a b, encA a = encA b → a = b := by
  intro a b h
  obtain ⟨a0, a1, a2, a3, a4⟩ := a
  obtain ⟨b0, b1, b2, b3, b4⟩ := b
  simp [encA, encRw_iff] at h
  simp_all
theorem encRI : ∀ a b, encR a = encR b → a = b := by
  intro a b h
  simp [encR, encRw_iff] at h
  simp_all
noncomputable def Q (args : List AV) : Option Bool := ofC encA (fun t => F t.1 t.2.1 t.2.2.1 t.2.2.2.1 t.2.2.2.2) args
theorem wrap : (fun (y1 : Vec (ByteArray × ByteArray)) (y2 : Int) (y3 : ByteArray) (y4 : ByteArray) (y5 : ByteArray) => Q [.a [.n (.sl 2 (encRw y1))], .a [.n (.v (.int .i64 y2)), .n (.v (.string y3)), .n (.v (.string y4)), .n (.v (.string y5))]]) = F := by
  funext y1 y2 y3 y4 y5
  exact ofC_enc encAI _ (y1, y2, y3, y4, y5)
noncomputable def G (q_laws_szDisk : List AV → Option Int) (q_laws_szRaw : List AV → Option Int) (q_laws_toDisk : List AV → Option (Vec (ByteArray × ByteArray))) (q_laws_toRaw : List AV → Option (Int × ByteArray × ByteArray × ByteArray)) (q_spec_PutRaw : List AV → Option (Bool × (Vec (ByteArray × ByteArray)))) (q_impl_PutRaw : List AV → Option (Bool × (Vec (ByteArray × ByteArray)))) (q_laws_eqDisk : List AV → Option Bool) (q_laws_markDisk_s3b3c : List AV → List Ob → Option (Int × (Vec (ByteArray × ByteArray)))) (q_laws_heldDisk : List AV → Option Int) : Orc := ⟨fun f => sel (Nat.beq f 16) 0 (sel (Nat.beq f 17) 0 (sel (Nat.beq f 19) 0 (sel (Nat.beq f 20) 0 (sel (Nat.beq f 18) 0 (sel (Nat.beq f 21) 0 (sel (Nat.beq f 22) 0 (sel (Nat.beq f 24) 0 (9)))))))), fun ρ f args K => sel (Nat.beq f 16) (qEntry laws_szDisk.encR q_laws_szDisk args K) (sel (Nat.beq f 17) (qEntry laws_szRaw.encR q_laws_szRaw args K) (sel (Nat.beq f 19) (qEntry laws_toDisk.encR q_laws_toDisk args K) (sel (Nat.beq f 20) (qEntry laws_toRaw.encR q_laws_toRaw args K) (sel (Nat.beq f 18) (qEntry spec_PutRaw.encR q_spec_PutRaw args K) (sel (Nat.beq f 21) (qEntry impl_PutRaw.encR q_impl_PutRaw args K) (sel (Nat.beq f 22) (qEntry laws_eqDisk.encR q_laws_eqDisk args K) (sel (Nat.beq f 24) (qEntry laws_heldDisk.encR q_laws_heldDisk args K) (Option.none)))))))), fun ρ f st args dst K => sel (Nat.beq f 23) (callE Try.prog 23 [true, false] false [true] laws_markDisk_s3b3c.encR q_laws_markDisk_s3b3c st args dst K) (Option.none)⟩
noncomputable def L : Lor := fun ρ j st K => Option.none
theorem main (q_laws_szDisk : List AV → Option Int) (q_laws_szRaw : List AV → Option Int) (q_laws_toDisk : List AV → Option (Vec (ByteArray × ByteArray))) (q_laws_toRaw : List AV → Option (Int × ByteArray × ByteArray × ByteArray)) (q_spec_PutRaw : List AV → Option (Bool × (Vec (ByteArray × ByteArray)))) (q_impl_PutRaw : List AV → Option (Bool × (Vec (ByteArray × ByteArray)))) (q_laws_eqDisk : List AV → Option Bool) (q_laws_markDisk_s3b3c : List AV → List Ob → Option (Int × (Vec (ByteArray × ByteArray)))) (q_laws_heldDisk : List AV → Option Int) {ρ : Type} (K : AV → List Ob → Option ρ) (a1 : Vec (ByteArray × ByteArray)) (a2 : Int) (a3 : ByteArray) (a4 : ByteArray) (a5 : ByteArray) : exC Try.prog (G q_laws_szDisk q_laws_szRaw q_laws_toDisk q_laws_toRaw q_spec_PutRaw q_impl_PutRaw q_laws_eqDisk q_laws_markDisk_s3b3c q_laws_heldDisk) (L) [] 0 (bodyOf Try.f4) (entry 109 [.a [.n (.sl 2 (encRw a1))], .a [.n (.v (.int .i64 a2)), .n (.v (.string a3)), .n (.v (.string a4)), .n (.v (.string a5))]] [] []) (finO Try.prog Try.f4.results.toList 0 [] [] K) =
    B (fun y1 y2 => q_laws_szDisk [.a [.n (.sl 2 (encRw y1))], .c (.n (.v (.int .i64 y2)))]) (fun y1 y2 y3 y4 y5 => q_laws_szRaw [.a [.n (.v (.int .i64 y1)), .n (.v (.string y2)), .n (.v (.string y3)), .n (.v (.string y4))], .c (.n (.v (.int .i64 y5)))]) (fun y1 => q_laws_toDisk [.a [.n (.sl 2 (encRw y1))]]) (fun y1 y2 y3 y4 => q_laws_toRaw [.a [.n (.v (.int .i64 y1)), .n (.v (.string y2)), .n (.v (.string y3)), .n (.v (.string y4))]]) (fun y1 y2 y3 y4 y5 => q_spec_PutRaw [.a [.n (.sl 2 (encRw y1))], .a [.n (.v (.int .i64 y2)), .n (.v (.string y3)), .n (.v (.string y4)), .n (.v (.string y5))]]) (fun y1 y2 y3 y4 y5 => q_impl_PutRaw [.a [.n (.sl 2 (encRw y1))], .a [.n (.v (.int .i64 y2)), .n (.v (.string y3)), .n (.v (.string y4)), .n (.v (.string y5))]]) (fun y1 y2 => q_laws_eqDisk [.a [.n (.sl 2 (encRw y1))], .a [.n (.sl 2 (encRw y2))]]) (fun y1 y2 => q_laws_markDisk_s3b3c [.a [.h 0], .c (.n (.v (.int .i64 y1)))] [.row 2 (encRw y2) []]) (fun y1 y2 => q_laws_heldDisk [.a [.n (.sl 2 (encRw y1))], .c (.n (.v (.int .i64 y2)))]) a1 a2 a3 a4 a5 (fun x1 => K (.c (.n (.v (.bool x1)))) []) := by kernel_rfl
theorem Gok : (G laws_szDisk.Q laws_szRaw.Q laws_toDisk.Q laws_toRaw.Q spec_PutRaw.Q impl_PutRaw.Q laws_eqDisk.Q laws_markDisk_s3b3c.Q laws_heldDisk.Q).ok Try.prog := ⟨(by
    intro ρ f args K r h
    rcases sel_cases h with ⟨hb, h⟩ | ⟨-, h⟩
    · obtain rfl := beq_nat hb
      exact qEntry_ok laws_szDisk.ac h
    rcases sel_cases h with ⟨hb, h⟩ | ⟨-, h⟩
    · obtain rfl := beq_nat hb
      exact qEntry_ok laws_szRaw.ac h
    rcases sel_cases h with ⟨hb, h⟩ | ⟨-, h⟩
    · obtain rfl := beq_nat hb
      exact qEntry_ok laws_toDisk.ac h
    rcases sel_cases h with ⟨hb, h⟩ | ⟨-, h⟩
    · obtain rfl := beq_nat hb
      exact qEntry_ok laws_toRaw.ac h
    rcases sel_cases h with ⟨hb, h⟩ | ⟨-, h⟩
    · obtain rfl := beq_nat hb
      exact qEntry_ok spec_PutRaw.ac h
    rcases sel_cases h with ⟨hb, h⟩ | ⟨-, h⟩
    · obtain rfl := beq_nat hb
      exact qEntry_ok impl_PutRaw.ac h
    rcases sel_cases h with ⟨hb, h⟩ | ⟨-, h⟩
    · obtain rfl := beq_nat hb
      exact qEntry_ok laws_eqDisk.ac h
    rcases sel_cases h with ⟨hb, h⟩ | ⟨-, h⟩
    · obtain rfl := beq_nat hb
      exact qEntry_ok laws_heldDisk.ac h
    cases h),
  (by
    intro ρ f args K
    simp only [G]
    cases Nat.beq f 16 with
    | true => exact qEntry_nat args K
    | false =>
    simp only [sel]
    cases Nat.beq f 17 with
    | true => exact qEntry_nat args K
    | false =>
    simp only [sel]
    cases Nat.beq f 19 with
    | true => exact qEntry_nat args K
    | false =>
    simp only [sel]
    cases Nat.beq f 20 with
    | true => exact qEntry_nat args K
    | false =>
    simp only [sel]
    cases Nat.beq f 18 with
    | true => exact qEntry_nat args K
    | false =>
    simp only [sel]
    cases Nat.beq f 21 with
    | true => exact qEntry_nat args K
    | false =>
    simp only [sel]
    cases Nat.beq f 22 with
    | true => exact qEntry_nat args K
    | false =>
    simp only [sel]
    cases Nat.beq f 24 with
    | true => exact qEntry_nat args K
    | false =>
    simp only [sel]
    rfl),
  (by
    intro ρ f st caps args dst K r h
    rcases sel_cases h with ⟨hb, h⟩ | ⟨-, h⟩
    · obtain rfl := beq_nat hb
      exact callE_ok (fun h => by cases h) laws_markDisk_s3b3c.ac h
    cases h)⟩
theorem hm : Try.prog.follows .mixedOrders = true := by kernel_rfl
theorem e : atomsL [] 0 (bodyOf Try.f4) = [] := by kernel_rfl
theorem acc (t : (Vec (ByteArray × ByteArray)) × Int × ByteArray × ByteArray × ByteArray) (x : Bool) (h : F t.1 t.2.1 t.2.2.1 t.2.2.2.1 t.2.2.2.2 = some x) : ACc Try.prog 4 (encA t) [] true [] fun rv obs => (rv, obs) = encR x := by
  refine fun_okc (L := (L)) (jn := []) (cmds := []) (ks := []) (hin := []) (fn := Try.f4) (body := (bodyOf Try.f4)) Gok hm Try.func4 (by kernel_rfl) (by kernel_rfl) (by rw [e]; exact Lor.ok_nil _ _) ?_ h
  refine (main laws_szDisk.Q laws_szRaw.Q laws_toDisk.Q laws_toRaw.Q spec_PutRaw.Q impl_PutRaw.Q laws_eqDisk.Q laws_markDisk_s3b3c.Q laws_heldDisk.Q _ t.1 t.2.1 t.2.2.1 t.2.2.2.1 t.2.2.2.2).trans ?_
  rw [laws_szDisk.wrap, laws_szRaw.wrap, laws_toDisk.wrap, laws_toRaw.wrap, spec_PutRaw.wrap, impl_PutRaw.wrap, laws_eqDisk.wrap, laws_markDisk_s3b3c.wrap, laws_heldDisk.wrap]
  refine congrArg (fun K => B laws_szDisk.F laws_szRaw.F laws_toDisk.F laws_toRaw.F spec_PutRaw.F impl_PutRaw.F laws_eqDisk.F laws_markDisk_s3b3c.F laws_heldDisk.F t.1 t.2.1 t.2.2.1 t.2.2.2.1 t.2.2.2.2 K) ?_
  funext x1
  exact ofC_enc encRI some (x1)
theorem ac0 (t : (Vec (ByteArray × ByteArray)) × Int × ByteArray × ByteArray × ByteArray) (x : Bool) (h : F t.1 t.2.1 t.2.2.1 t.2.2.2.1 t.2.2.2.2 = some x) : AC Try.prog 4 (encA t) [] true [] fun rv obs => (rv, obs) = encR x := ACc.ac (body := bodyOf Try.f4) Try.func4 (by kernel_rfl) (by kernel_rfl) (acc t x h)
theorem ac (args : List AV) (x : Bool) (h : Q args = some x) : AC Try.prog 4 args [] false [] fun rv obs => (rv, obs) = encR x := by
  obtain ⟨t, rfl, h2⟩ := ofC_some h
  refine (ac0 t x h2).flat fun rv obs e => ?_
  obtain rfl : rv = (encR x).1 := congrArg Prod.fst e
  obtain rfl : obs = (encR x).2 := congrArg Prod.snd e
  refine ⟨by simp [encR, AV.Flat, K.Flat, C.Flat], ?_⟩
  simp [encR]
end laws_FnExactPutRaw
end Go.Al
