import Derived.Test.YtbpicgilplnmoaaAl36
import Derived.Test.YtbpicgilplnmoaaProg
set_option linter.unusedVariables false
set_option linter.unusedSimpArgs false
set_option maxRecDepth 100000
namespace Go.Al
open Go.Proofs

/-! loop.example/g00073/laws.szFile -/
namespace laws_szFile
noncomputable def B {ρ : Type} (a1 : ByteArray) (a2 : ByteArray) (a3 : Int) (K : Int → Option ρ) : Option ρ :=
  sel (decide ((wr (a3 - (a1.size : Int))) < (0 : Int))) (K (-1 : Int)) (sel (decide ((wr ((wr (a3 - (a1.size : Int))) - (a2.size : Int))) < (0 : Int))) (K (-1 : Int)) (K (wr ((wr (a3 - (a1.size : Int))) - (a2.size : Int)))))
noncomputable def F (a1 : ByteArray) (a2 : ByteArray) (a3 : Int) : Option Int := B a1 a2 a3 (fun x1 => some (x1))
def encA (t : ByteArray × ByteArray × Int) : List AV := [.a [.n (.v (.string t.1)), .n (.v (.string t.2.1))], .c (.n (.v (.int .i64 t.2.2)))]
def encR (x : Int) : AV × List Ob := (.c (.n (.v (.int .i64 x))), [])
theorem encAI : ∀ a b, encA a = encA b → a = b := by
  intro a b h
  obtain ⟨a0, a1, a2⟩ := a
  obtain ⟨b0, b1, b2⟩ := b
  simp [encA, encRw_iff] at h
  simp_all
theorem encRI : ∀ a b, encR a = encR b → a = b := by
  intro a b h
  simp [encR, encRw_iff] at h
  simp_all
noncomputable def Q (args : List AV) : Option Int := ofC encA (fun t => F t.1 t.2.1 t.2.2) args
theorem wrap : (fun (y1 : ByteArray) (y2 : ByteArray) (y3 : Int) => Q [.a [.n (.v (.string y1)), .n (.v (.string y2))], .c (.n (.v (.int .i64 y3)))]) = F := by
  funext y1 y2 y3
  exact ofC_enc encAI _ (y1, y2, y3)
noncomputable def G : Orc := ⟨fun f => 9, fun ρ f args K => Option.none, noE⟩
noncomputable def L : Lor := fun ρ j st K => Option.none
theorem main {ρ : Type} (K : AV → List Ob → Option ρ) (a1 : ByteArray) (a2 : ByteArray) (a3 : Int) : exC Try.prog (G) (L) [] 0 (bodyOf Try.f75) (entry 20 [.a [.n (.v (.string a1)), .n (.v (.string a2))], .c (.n (.v (.int .i64 a3)))] [] []) (finO Try.prog Try.f75.results.toList 0 [] [] K) =
    B a1 a2 a3 (fun x1 => K (.c (.n (.v (.int .i64 x1)))) []) := by kernel_rfl
theorem Gok : (G).ok Try.prog := ⟨(fun ρ f args K r h => (by cases h)),
  (fun ρ f args K => rfl),
  (fun ρ f st caps args dst K r h => (by cases h))⟩
theorem hm : Try.prog.follows .mixedOrders = true := by kernel_rfl
theorem e : atomsL [] 0 (bodyOf Try.f75) = [] := by kernel_rfl
theorem acc (t : ByteArray × ByteArray × Int) (x : Int) (h : F t.1 t.2.1 t.2.2 = some x) : ACc Try.prog 75 (encA t) [] true [] fun rv obs => (rv, obs) = encR x := by
  refine fun_okc (L := (L)) (jn := []) (cmds := []) (ks := []) (hin := []) (fn := Try.f75) (body := (bodyOf Try.f75)) Gok hm Try.func75 (by kernel_rfl) (by kernel_rfl) (by rw [e]; exact Lor.ok_nil _ _) ?_ h
  refine (main _ t.1 t.2.1 t.2.2).trans ?_
  refine congrArg (fun K => B t.1 t.2.1 t.2.2 K) ?_
  funext x1
  exact ofC_enc encRI some (x1)
theorem ac0 (t : ByteArray × ByteArray × Int) (x : Int) (h : F t.1 t.2.1 t.2.2 = some x) : AC Try.prog 75 (encA t) [] true [] fun rv obs => (rv, obs) = encR x := ACc.ac (body := bodyOf Try.f75) Try.func75 (by kernel_rfl) (by kernel_rfl) (acc t x h)
theorem ac (args : List AV) (x : Int) (h : Q args = some x) : AC Try.prog 75 args [] false [] fun rv obs => (rv, obs) = encR x := by
  obtain ⟨t, rfl, h2⟩ := ofC_some h
  refine (ac0 t x h2).flat fun rv obs e => ?_
  obtain rfl : rv = (encR x).1 := congrArg Prod.fst e
  obtain rfl : obs = (encR x).2 := congrArg Prod.snd e
  refine ⟨by simp [encR, AV.Flat, K.Flat, C.Flat], ?_⟩
  simp [encR]
end laws_szFile
/-! loop.example/g00073/laws.szFileS -/
namespace laws_szFileS
noncomputable def B0 {ρ : Type} (C_laws_szFile : ByteArray → ByteArray → Int → Option Int) (v1 : Vec (ByteArray × ByteArray)) (v2 : Int) (v3 : Int) (W : (Vec (ByteArray × ByteArray)) → Int → Int → Option ρ) (K0 : Int → Option ρ) (Kr : Int → Option ρ) : Option ρ :=
  sel (decide (v3 < (v1.n : Int))) (chk (decide (0 ≤ v3 ∧ v3 < (v1.n : Int))) ((C_laws_szFile ((v1.g v3.toNat).1) ((v1.g v3.toNat).2) v2).bind fun r1 => sel (decide (r1 < (0 : Int))) (Kr (-1 : Int)) (W v1 r1 (wr (v3 + (1 : Int)))))) (K0 v2)
noncomputable def F0 {ρ : Type} : Nat → (Vec (ByteArray × ByteArray)) → Int → Int → (Int → Option ρ) → (Int → Option ρ) → Option ρ
  | 0, _, _, _, _, _ => none
  | k + 1, v1, v2, v3, K0, Kr => B0 laws_szFile.F v1 v2 v3 (fun v1' v2' v3' => F0 k v1' v2' v3' K0 Kr) K0 Kr
noncomputable def B {ρ : Type} (L0 : (Vec (ByteArray × ByteArray)) → Int → Int → (Int → Option ρ) → (Int → Option ρ) → Option ρ) (a1 : Vec (ByteArray × ByteArray)) (a2 : Int) (K : Int → Option ρ) : Option ρ :=
  sel (decide ((wr (a2 - (a1.n : Int))) < (0 : Int))) (K (-1 : Int)) (L0 a1 (wr (a2 - (a1.n : Int))) (0 : Int) (fun e01 => K e01) (fun x01 => K x01))
noncomputable def F (a1 : Vec (ByteArray × ByteArray)) (a2 : Int) : Option Int := B (F0 fuelN) a1 a2 (fun x1 => some (x1))
def encA (t : (Vec (ByteArray × ByteArray)) × Int) : List AV := [.c (.n (.sl 2 (encRw t.1))), .c (.n (.v (.int .i64 t.2)))]
def encR (x : Int) : AV × List Ob := (.c (.n (.v (.int .i64 x))), [])
theorem encAI : ∀ a b, encA a = encA b → a = b := by
  intro a b h
  obtain ⟨a0, a1⟩ := a
  obtain ⟨b0, b1⟩ := b
  simp [encA, encRw_iff] at h
  simp_all
theorem encRI : ∀ a b, encR a = encR b → a = b := by
  intro a b h
  simp [encR, encRw_iff] at h
  simp_all
noncomputable def Q (args : List AV) : Option Int := ofC encA (fun t => F t.1 t.2) args
theorem wrap : (fun (y1 : Vec (ByteArray × ByteArray)) (y2 : Int) => Q [.c (.n (.sl 2 (encRw y1))), .c (.n (.v (.int .i64 y2)))]) = F := by
  funext y1 y2
  exact ofC_enc encAI _ (y1, y2)
noncomputable def G (q_laws_szFile : List AV → Option Int) : Orc := ⟨fun f => sel (Nat.beq f 75) 0 (9), fun ρ f args K => sel (Nat.beq f 75) (qEntry laws_szFile.encR q_laws_szFile args K) (Option.none), noE⟩
noncomputable def L (W0 : (ρ : Type) → List AV → List Ob → (Int → Option ρ) → (Int → Option ρ) → Option ρ) : Lor := fun ρ j st K => sel (Nat.beq j 0) (cutO Try.prog 27 [0, 1, 5] 0 [] [] st fun avs obs => W0 ρ avs obs (fun z1 => K (.exit 0) (mkS 27 [1] [.c (.n (.v (.int .i64 z1)))] [] [])) (fun z1 => K .ret (mkS 27 [4] [.c (.n (.v (.int .i64 z1)))] [] []))) (Option.none)
noncomputable def c0 : Code := loopC (atomN [] 0 (bodyOf Try.f43) 0)
def ct0 : Cut := ⟨[0, 1, 5], []⟩
def lv0 : Exit → Cut
  | .exit 0 => ⟨[1], []⟩
  | .ret => ⟨[4], []⟩
  | _ => ⟨[], []⟩
theorem step0 (q_laws_szFile : List AV → Option Int) (W0 : (ρ : Type) → List AV → List Ob → (Int → Option ρ) → (Int → Option ρ) → Option ρ) {ρ : Type} (K : Exit → St → Option ρ) (W : List AV → List Ob → Option ρ) (v1 : Vec (ByteArray × ByteArray)) (v2 : Int) (v3 : Int) : exC Try.prog (G q_laws_szFile) (L W0) [] 1 c0 (mkS 27 [0, 1, 5] [.c (.n (.sl 2 (encRw v1))), .c (.n (.v (.int .i64 v2))), .c (.n (.v (.int .i64 v3)))] [] []) (bodyK Try.prog 27 0 [] ct0 W lv0 K) =
    B0 (fun y1 y2 y3 => q_laws_szFile [.a [.n (.v (.string y1)), .n (.v (.string y2))], .c (.n (.v (.int .i64 y3)))]) v1 v2 v3 (fun u1 u2 u3 => W [.c (.n (.sl 2 (encRw u1))), .c (.n (.v (.int .i64 u2))), .c (.n (.v (.int .i64 u3)))] []) (fun z1 => K (.exit 0) (mkS 27 [1] [.c (.n (.v (.int .i64 z1)))] [] [])) (fun z1 => K .ret (mkS 27 [4] [.c (.n (.v (.int .i64 z1)))] [] [])) := by kernel_rfl
def enc0 (t : (Vec (ByteArray × ByteArray)) × Int × Int) : List AV × List Ob := ([.c (.n (.sl 2 (encRw t.1))), .c (.n (.v (.int .i64 t.2.1))), .c (.n (.v (.int .i64 t.2.2)))], [])
theorem enc0I : ∀ a b, enc0 a = enc0 b → a = b := by
  intro a b h
  obtain ⟨a0, a1, a2⟩ := a
  obtain ⟨b0, b1, b2⟩ := b
  simp [enc0, encRw_iff] at h
  simp_all
noncomputable def V0 : (ρ : Type) → List AV → List Ob → (Int → Option ρ) → (Int → Option ρ) → Option ρ := fun ρ avs obs k0 kr => ofC enc0 (fun t => F0 fuelN t.1 t.2.1 t.2.2 k0 kr) (avs, obs)
theorem V0_enc (ρ : Type) : (fun w1 w2 w3 k0 kr => V0 ρ [.c (.n (.sl 2 (encRw w1))), .c (.n (.v (.int .i64 w2))), .c (.n (.v (.int .i64 w3)))] [] k0 kr) = F0 fuelN := by
  funext w1 w2 w3 k0 kr
  exact ofC_enc enc0I _ (w1, w2, w3)
theorem main (q_laws_szFile : List AV → Option Int) (W0 : (ρ : Type) → List AV → List Ob → (Int → Option ρ) → (Int → Option ρ) → Option ρ) {ρ : Type} (K : AV → List Ob → Option ρ) (a1 : Vec (ByteArray × ByteArray)) (a2 : Int) : exC Try.prog (G q_laws_szFile) (L W0) [] 0 (bodyOf Try.f43) (entry 27 [.c (.n (.sl 2 (encRw a1))), .c (.n (.v (.int .i64 a2)))] [] []) (finO Try.prog Try.f43.results.toList 0 [] [] K) =
    B (fun w1 w2 w3 k0 kr => W0 ρ [.c (.n (.sl 2 (encRw w1))), .c (.n (.v (.int .i64 w2))), .c (.n (.v (.int .i64 w3)))] [] k0 kr) a1 a2 (fun x1 => K (.c (.n (.v (.int .i64 x1)))) []) := by kernel_rfl
theorem Gok : (G laws_szFile.Q).ok Try.prog := ⟨(by
    intro ρ f args K r h
    rcases sel_cases h with ⟨hb, h⟩ | ⟨-, h⟩
    · obtain rfl := beq_nat hb
      exact qEntry_ok laws_szFile.ac h
    cases h),
  (by
    intro ρ f args K
    simp only [G]
    cases Nat.beq f 75 with
    | true => exact qEntry_nat args K
    | false =>
    simp only [sel]
    rfl),
  (fun ρ f st caps args dst K r h => (by cases h))⟩
theorem hm : Try.prog.follows .mixedOrders = true := by kernel_rfl
theorem e0 : atomsL [] 1 c0 = [] := by kernel_rfl
theorem ok0 (ρ : Type) (st : St) (K : Exit → St → Option ρ) (r : ρ) (h : (L V0) ρ 0 st K = some r) : AW Try.prog (.loop c0) st fun e st' => K e st' = some r := by
  refine loop_ok (ct := ct0) (lv := lv0) (n := 27) (m := 0) (ks := []) (j := 0) (jn := []) (L := (L V0)) Gok hm (by rw [e0]; exact Lor.ok_nil _ _) enc0I (fun k t => F0 k t.1 t.2.1 t.2.2 (fun z1 => K (.exit 0) (mkS 27 [1] [.c (.n (.v (.int .i64 z1)))] [] [])) (fun z1 => K .ret (mkS 27 [4] [.c (.n (.v (.int .i64 z1)))] [] []))) (fun t => rfl) (fun k t => ?_) (fun _ => fuelN) h
  refine (step0 laws_szFile.Q V0 K _ t.1 t.2.1 t.2.2).trans ?_
  rw [laws_szFile.wrap]
  refine congrArg (fun W => B0 laws_szFile.F t.1 t.2.1 t.2.2 W (fun z1 => K (.exit 0) (mkS 27 [1] [.c (.n (.v (.int .i64 z1)))] [] [])) (fun z1 => K .ret (mkS 27 [4] [.c (.n (.v (.int .i64 z1)))] [] []))) ?_
  funext u1 u2 u3
  exact ofC_enc enc0I _ (u1, u2, u3)
theorem e : atomsL [] 0 (bodyOf Try.f43) = [(0, 0, .loop c0)] := by kernel_rfl
theorem acc (t : (Vec (ByteArray × ByteArray)) × Int) (x : Int) (h : F t.1 t.2 = some x) : ACc Try.prog 43 (encA t) [] true [] fun rv obs => (rv, obs) = encR x := by
  refine fun_okc (L := (L V0)) (jn := []) (cmds := []) (ks := []) (hin := []) (fn := Try.f43) (body := (bodyOf Try.f43)) Gok hm Try.func43 (by kernel_rfl) (by kernel_rfl) (by rw [e]; exact Lor.ok_cons ok0 (Lor.ok_nil _ _)) ?_ h
  refine (main laws_szFile.Q V0 _ t.1 t.2).trans ?_
  rw [V0_enc]
  refine congrArg (fun K => B (F0 fuelN) t.1 t.2 K) ?_
  funext x1
  exact ofC_enc encRI some (x1)
theorem ac0 (t : (Vec (ByteArray × ByteArray)) × Int) (x : Int) (h : F t.1 t.2 = some x) : AC Try.prog 43 (encA t) [] true [] fun rv obs => (rv, obs) = encR x := ACc.ac (body := bodyOf Try.f43) Try.func43 (by kernel_rfl) (by kernel_rfl) (acc t x h)
theorem ac (args : List AV) (x : Int) (h : Q args = some x) : AC Try.prog 43 args [] false [] fun rv obs => (rv, obs) = encR x := by
  obtain ⟨t, rfl, h2⟩ := ofC_some h
  refine (ac0 t x h2).flat fun rv obs e => ?_
  obtain rfl : rv = (encR x).1 := congrArg Prod.fst e
  obtain rfl : obs = (encR x).2 := congrArg Prod.snd e
  refine ⟨by simp [encR, AV.Flat, K.Flat, C.Flat], ?_⟩
  simp [encR]
end laws_szFileS
/-! loop.example/g00073/laws.szDisk -/
namespace laws_szDisk
noncomputable def B {ρ : Type} (C_laws_szFileS : (Vec (ByteArray × ByteArray)) → Int → Option Int) (a1 : Vec (ByteArray × ByteArray)) (a2 : Int) (K : Int → Option ρ) : Option ρ :=
  (C_laws_szFileS a1 a2).bind fun r1 => sel (decide (r1 < (0 : Int))) (K (-1 : Int)) (K r1)
noncomputable def F (a1 : Vec (ByteArray × ByteArray)) (a2 : Int) : Option Int := B laws_szFileS.F a1 a2 (fun x1 => some (x1))
def encA (t : (Vec (ByteArray × ByteArray)) × Int) : List AV := [.a [.n (.sl 2 (encRw t.1))], .c (.n (.v (.int .i64 t.2)))]
def encR (x : Int) : AV × List Ob := (.c (.n (.v (.int .i64 x))), [])
theorem encAI : ∀ a b, encA a = encA b → a = b := by
  intro a b h
  obtain ⟨a0, a1⟩ := a
  obtain ⟨b0, b1⟩ := b
  simp [encA, encRw_iff] at h
  simp_all
theorem encRI : ∀ a b, encR a = encR b → a = b := by
  intro a b h
  simp [encR, encRw_iff] at h
  simp_all
noncomputable def Q (args : List AV) : Option Int := ofC encA (fun t => F t.1 t.2) args
theorem wrap : (fun (y1 : Vec (ByteArray × ByteArray)) (y2 : Int) => Q [.a [.n (.sl 2 (encRw y1))], .c (.n (.v (.int .i64 y2)))]) = F := by
  funext y1 y2
  exact ofC_enc encAI _ (y1, y2)
noncomputable def G (q_laws_szFileS : List AV → Option Int) : Orc := ⟨fun f => sel (Nat.beq f 43) 0 (9), fun ρ f args K => sel (Nat.beq f 43) (qEntry laws_szFileS.encR q_laws_szFileS args K) (Option.none), noE⟩
noncomputable def L : Lor := fun ρ j st K => Option.none
theorem main (q_laws_szFileS : List AV → Option Int) {ρ : Type} (K : AV → List Ob → Option ρ) (a1 : Vec (ByteArray × ByteArray)) (a2 : Int) : exC Try.prog (G q_laws_szFileS) (L) [] 0 (bodyOf Try.f17) (entry 12 [.a [.n (.sl 2 (encRw a1))], .c (.n (.v (.int .i64 a2)))] [] []) (finO Try.prog Try.f17.results.toList 0 [] [] K) =
    B (fun y1 y2 => q_laws_szFileS [.c (.n (.sl 2 (encRw y1))), .c (.n (.v (.int .i64 y2)))]) a1 a2 (fun x1 => K (.c (.n (.v (.int .i64 x1)))) []) := by kernel_rfl
theorem Gok : (G laws_szFileS.Q).ok Try.prog := ⟨(by
    intro ρ f args K r h
    rcases sel_cases h with ⟨hb, h⟩ | ⟨-, h⟩
    · obtain rfl := beq_nat hb
      exact qEntry_ok laws_szFileS.ac h
    cases h),
  (by
    intro ρ f args K
    simp only [G]
    cases Nat.beq f 43 with
    | true => exact qEntry_nat args K
    | false =>
    simp only [sel]
    rfl),
  (fun ρ f st caps args dst K r h => (by cases h))⟩
theorem hm : Try.prog.follows .mixedOrders = true := by kernel_rfl
theorem e : atomsL [] 0 (bodyOf Try.f17) = [] := by kernel_rfl
theorem acc (t : (Vec (ByteArray × ByteArray)) × Int) (x : Int) (h : F t.1 t.2 = some x) : ACc Try.prog 17 (encA t) [] true [] fun rv obs => (rv, obs) = encR x := by
  refine fun_okc (L := (L)) (jn := []) (cmds := []) (ks := []) (hin := []) (fn := Try.f17) (body := (bodyOf Try.f17)) Gok hm Try.func17 (by kernel_rfl) (by kernel_rfl) (by rw [e]; exact Lor.ok_nil _ _) ?_ h
  refine (main laws_szFileS.Q _ t.1 t.2).trans ?_
  rw [laws_szFileS.wrap]
  refine congrArg (fun K => B laws_szFileS.F t.1 t.2 K) ?_
  funext x1
  exact ofC_enc encRI some (x1)
theorem ac0 (t : (Vec (ByteArray × ByteArray)) × Int) (x : Int) (h : F t.1 t.2 = some x) : AC Try.prog 17 (encA t) [] true [] fun rv obs => (rv, obs) = encR x := ACc.ac (body := bodyOf Try.f17) Try.func17 (by kernel_rfl) (by kernel_rfl) (acc t x h)
theorem ac (args : List AV) (x : Int) (h : Q args = some x) : AC Try.prog 17 args [] false [] fun rv obs => (rv, obs) = encR x := by
  obtain ⟨t, rfl, h2⟩ := ofC_some h
  refine (ac0 t x h2).flat fun rv obs e => ?_
  obtain rfl : rv = (encR x).1 := congrArg Prod.fst e
  obtain rfl : obs = (encR x).2 := congrArg Prod.snd e
  refine ⟨by simp [encR, AV.Flat, K.Flat, C.Flat], ?_⟩
  simp [encR]
end laws_szDisk
/-! loop.example/g00073/laws.toFile -/
namespace laws_toFile
noncomputable def B {ρ : Type} (a1 : ByteArray) (a2 : ByteArray) (K : ByteArray → ByteArray → Option ρ) : Option ρ :=
  K a1 a2
noncomputable def F (a1 : ByteArray) (a2 : ByteArray) : Option (ByteArray × ByteArray) := B a1 a2 (fun x1 x2 => some (x1, x2))
def encA (t : ByteArray × ByteArray) : List AV := [.a [.n (.v (.string t.1)), .n (.v (.string t.2))]]
def encR (x : ByteArray × ByteArray) : AV × List Ob := (.a [.n (.v (.string x.1)), .n (.v (.string x.2))], [])
theorem encAI : ∀ a b, encA a = encA b → a = b := by
  intro a b h
  obtain ⟨a0, a1⟩ := a
  obtain ⟨b0, b1⟩ := b
  simp [encA, encRw_iff] at h
  simp_all
theorem encRI : ∀ a b, encR a = encR b → a = b := by
  intro a b h
  obtain ⟨a0, a1⟩ := a
  obtain ⟨b0, b1⟩ := b
  simp [encR, encRw_iff] at h
  simp_all
noncomputable def Q (args : List AV) : Option (ByteArray × ByteArray) := ofC encA (fun t => F t.1 t.2) args
theorem wrap : (fun (y1 : ByteArray) (y2 : ByteArray) => Q [.a [.n (.v (.string y1)), .n (.v (.string y2))]]) = F := by
  funext y1 y2
  exact ofC_enc encAI _ (y1, y2)
noncomputable def G : Orc := ⟨fun f => 9, fun ρ f args K => Option.none, noE⟩
noncomputable def L : Lor := fun ρ j st K => Option.none
theorem main {ρ : Type} (K : AV → List Ob → Option ρ) (a1 : ByteArray) (a2 : ByteArray) : exC Try.prog (G) (L) [] 0 (bodyOf Try.f76) (entry 11 [.a [.n (.v (.string a1)), .n (.v (.string a2))]] [] []) (finO Try.prog Try.f76.results.toList 0 [] [] K) =
    B a1 a2 (fun x1 x2 => K (.a [.n (.v (.string x1)), .n (.v (.string x2))]) []) := by kernel_rfl
theorem Gok : (G).ok Try.prog := ⟨(fun ρ f args K r h => (by cases h)),
  (fun ρ f args K => rfl),
  (fun ρ f st caps args dst K r h => (by cases h))⟩
theorem hm : Try.prog.follows .mixedOrders = true := by kernel_rfl
theorem e : atomsL [] 0 (bodyOf Try.f76) = [] := by kernel_rfl
theorem acc (t : ByteArray × ByteArray) (x : ByteArray × ByteArray) (h : F t.1 t.2 = some x) : ACc Try.prog 76 (encA t) [] true [] fun rv obs => (rv, obs) = encR x := by
  refine fun_okc (L := (L)) (jn := []) (cmds := []) (ks := []) (hin := []) (fn := Try.f76) (body := (bodyOf Try.f76)) Gok hm Try.func76 (by kernel_rfl) (by kernel_rfl) (by rw [e]; exact Lor.ok_nil _ _) ?_ h
  refine (main _ t.1 t.2).trans ?_
  refine congrArg (fun K => B t.1 t.2 K) ?_
  funext x1 x2
  exact ofC_enc encRI some (x1, x2)
theorem ac0 (t : ByteArray × ByteArray) (x : ByteArray × ByteArray) (h : F t.1 t.2 = some x) : AC Try.prog 76 (encA t) [] true [] fun rv obs => (rv, obs) = encR x := ACc.ac (body := bodyOf Try.f76) Try.func76 (by kernel_rfl) (by kernel_rfl) (acc t x h)
theorem ac (args : List AV) (x : ByteArray × ByteArray) (h : Q args = some x) : AC Try.prog 76 args [] false [] fun rv obs => (rv, obs) = encR x := by
  obtain ⟨t, rfl, h2⟩ := ofC_some h
  refine (ac0 t x h2).flat fun rv obs e => ?_
  obtain rfl : rv = (encR x).1 := congrArg Prod.fst e
  obtain rfl : obs = (encR x).2 := congrArg Prod.snd e
  refine ⟨by simp [encR, AV.Flat, K.Flat, C.Flat], ?_⟩
  simp [encR]
end laws_toFile
/-! loop.example/g00073/laws.toFileS -/
namespace laws_toFileS
noncomputable def B0 {ρ : Type} (C_laws_toFile : ByteArray → ByteArray → Option (ByteArray × ByteArray)) (v1 : Vec (ByteArray × ByteArray)) (v2 : Int) (v3 : Vec (ByteArray × ByteArray)) (W : (Vec (ByteArray × ByteArray)) → Int → (Vec (ByteArray × ByteArray)) → Option ρ) (K0 : (Vec (ByteArray × ByteArray)) → Option ρ) : Option ρ :=
  sel (decide (v2 < (v1.n : Int))) (chk (decide (0 ≤ v2 ∧ v2 < (v1.n : Int))) ((C_laws_toFile ((v1.g v2.toNat).1) ((v1.g v2.toNat).2)).bind fun r1 => chk (decide (0 ≤ v2 ∧ v2 < (v3.n : Int))) (chk (decide (v2.toNat < v3.n)) (W v1 (wr (v2 + (1 : Int))) (Vec.set v3 v2.toNat (r1.1, r1.2)))))) (K0 v3)
noncomputable def F0 {ρ : Type} : Nat → (Vec (ByteArray × ByteArray)) → Int → (Vec (ByteArray × ByteArray)) → ((Vec (ByteArray × ByteArray)) → Option ρ) → Option ρ
  | 0, _, _, _, _ => none
  | k + 1, v1, v2, v3, K0 => B0 laws_toFile.F v1 v2 v3 (fun v1' v2' v3' => F0 k v1' v2' v3' K0) K0
noncomputable def B {ρ : Type} (L0 : (Vec (ByteArray × ByteArray)) → Int → (Vec (ByteArray × ByteArray)) → ((Vec (ByteArray × ByteArray)) → Option ρ) → Option ρ) (a1 : Vec (ByteArray × ByteArray)) (K : (Vec (ByteArray × ByteArray)) → Option ρ) : Option ρ :=
  chk (decide ((a1.n : Int) = (a1.n : Int) ∧ 0 ≤ (a1.n : Int))) (chk (mkOk (a1.n : Int) 32) (L0 a1 (0 : Int) (Vec.rep ((a1.n : Int).toNat) (ByteArray.empty, ByteArray.empty) : Vec (ByteArray × ByteArray)) (fun e01 => K e01)))
noncomputable def F (a1 : Vec (ByteArray × ByteArray)) : Option (Vec (ByteArray × ByteArray)) := B (F0 fuelN) a1 (fun x1 => some (x1))
def encA (t : Vec (ByteArray × ByteArray)) : List AV := [.c (.n (.sl 2 (encRw t)))]
def encR (x : Vec (ByteArray × ByteArray)) : AV × List Ob := (.c (.h 0), [.row 2 (encRw x) []])
theorem encAI : ∀ a b, encA a = encA b → a = b := by
  intro a b h
  simp [encA, encRw_iff] at h
  simp_all
theorem encRI : ∀ a b, encR a = encR b → a = b := by
  intro a b h
  simp [encR, encRw_iff] at h
  simp_all
noncomputable def Q (args : List AV) : Option (Vec (ByteArray × ByteArray)) := ofC encA (fun t => F t) args
theorem wrap : (fun (y1 : Vec (ByteArray × ByteArray)) => Q [.c (.n (.sl 2 (encRw y1)))]) = F := by
  funext y1
  exact ofC_enc encAI _ (y1)
noncomputable def G (q_laws_toFile : List AV → Option (ByteArray × ByteArray)) : Orc := ⟨fun f => sel (Nat.beq f 76) 0 (9), fun ρ f args K => sel (Nat.beq f 76) (qEntry laws_toFile.encR q_laws_toFile args K) (Option.none), noE⟩
noncomputable def L (W0 : (ρ : Type) → List AV → List Ob → ((Vec (ByteArray × ByteArray)) → Option ρ) → Option ρ) : Lor := fun ρ j st K => sel (Nat.beq j 0) (cutO Try.prog 23 [0, 3, 4] 0 [] [] st fun avs obs => W0 ρ avs obs (fun z1 => K (.exit 0) (mkS 23 [3] [.c (.h 0)] [.row 2 (encRw z1) []] []))) (Option.none)
noncomputable def c0 : Code := loopC (atomN [] 0 (bodyOf Try.f45) 0)
def ct0 : Cut := ⟨[0, 3, 4], []⟩
def lv0 : Exit → Cut
  | .exit 0 => ⟨[3], []⟩
  | _ => ⟨[], []⟩
theorem step0 (q_laws_toFile : List AV → Option (ByteArray × ByteArray)) (W0 : (ρ : Type) → List AV → List Ob → ((Vec (ByteArray × ByteArray)) → Option ρ) → Option ρ) {ρ : Type} (K : Exit → St → Option ρ) (W : List AV → List Ob → Option ρ) (v1 : Vec (ByteArray × ByteArray)) (v2 : Int) (v3 : Vec (ByteArray × ByteArray)) : exC Try.prog (G q_laws_toFile) (L W0) [] 1 c0 (mkS 23 [0, 3, 4] [.c (.n (.sl 2 (encRw v1))), .c (.h 0), .c (.n (.v (.int .i64 v2)))] [.row 2 (encRw v3) []] []) (bodyK Try.prog 23 0 [] ct0 W lv0 K) =
    B0 (fun y1 y2 => q_laws_toFile [.a [.n (.v (.string y1)), .n (.v (.string y2))]]) v1 v2 v3 (fun u1 u2 u3 => W [.c (.n (.sl 2 (encRw u1))), .c (.h 0), .c (.n (.v (.int .i64 u2)))] [.row 2 (encRw u3) []]) (fun z1 => K (.exit 0) (mkS 23 [3] [.c (.h 0)] [.row 2 (encRw z1) []] [])) := by kernel_rfl
def enc0 (t : (Vec (ByteArray × ByteArray)) × Int × (Vec (ByteArray × ByteArray))) : List AV × List Ob := ([.c (.n (.sl 2 (encRw t.1))), .c (.h 0), .c (.n (.v (.int .i64 t.2.1)))], [.row 2 (encRw t.2.2) []])
theorem enc0I : ∀ a b, enc0 a = enc0 b → a = b := by
  intro a b h
  obtain ⟨a0, a1, a2⟩ := a
  obtain ⟨b0, b1, b2⟩ := b
  simp [enc0, encRw_iff] at h
  simp_all
noncomputable def V0 : (ρ : Type) → List AV → List Ob → ((Vec (ByteArray × ByteArray)) → Option ρ) → Option ρ := fun ρ avs obs k0 => ofC enc0 (fun t => F0 fuelN t.1 t.2.1 t.2.2 k0) (avs, obs)
theorem V0_enc (ρ : Type) : (fun w1 w2 w3 k0 => V0 ρ [.c (.n (.sl 2 (encRw w1))), .c (.h 0), .c (.n (.v (.int .i64 w2)))] [.row 2 (encRw w3) []] k0) = F0 fuelN := by
  funext w1 w2 w3 k0
  exact ofC_enc enc0I _ (w1, w2, w3)
theorem main (q_laws_toFile : List AV → Option (ByteArray × ByteArray)) (W0 : (ρ : Type) → List AV → List Ob → ((Vec (ByteArray × ByteArray)) → Option ρ) → Option ρ) {ρ : Type} (K : AV → List Ob → Option ρ) (a1 : Vec (ByteArray × ByteArray)) : exC Try.prog (G q_laws_toFile) (L W0) [] 0 (bodyOf Try.f45) (entry 23 [.c (.n (.sl 2 (encRw a1)))] [] []) (finO Try.prog Try.f45.results.toList 0 [] [] K) =
    B (fun w1 w2 w3 k0 => W0 ρ [.c (.n (.sl 2 (encRw w1))), .c (.h 0), .c (.n (.v (.int .i64 w2)))] [.row 2 (encRw w3) []] k0) a1 (fun x1 => K (.c (.h 0)) [.row 2 (encRw x1) []]) := by kernel_rfl
theorem Gok : (G laws_toFile.Q).ok Try.prog := ⟨(by
    intro ρ f args K r h
    rcases sel_cases h with ⟨hb, h⟩ | ⟨-, h⟩
    · obtain rfl := beq_nat hb
      exact qEntry_ok laws_toFile.ac h
    cases h),
  (by
    intro ρ f args K
    simp only [G]
    cases Nat.beq f 76 with
    | true => exact qEntry_nat args K
    | false =>
    simp only [sel]
    rfl),
  (fun ρ f st caps args dst K r h => (by cases h))⟩
theorem hm : Try.prog.follows .mixedOrders = true := by kernel_rfl
theorem e0 : atomsL [] 1 c0 = [] := by kernel_rfl
theorem ok0 (ρ : Type) (st : St) (K : Exit → St → Option ρ) (r : ρ) (h : (L V0) ρ 0 st K = some r) : AW Try.prog (.loop c0) st fun e st' => K e st' = some r := by
  refine loop_ok (ct := ct0) (lv := lv0) (n := 23) (m := 0) (ks := []) (j := 0) (jn := []) (L := (L V0)) Gok hm (by rw [e0]; exact Lor.ok_nil _ _) enc0I (fun k t => F0 k t.1 t.2.1 t.2.2 (fun z1 => K (.exit 0) (mkS 23 [3] [.c (.h 0)] [.row 2 (encRw z1) []] []))) (fun t => rfl) (fun k t => ?_) (fun _ => fuelN) h
  refine (step0 laws_toFile.Q V0 K _ t.1 t.2.1 t.2.2).trans ?_
  rw [laws_toFile.wrap]
  refine congrArg (fun W => B0 laws_toFile.F t.1 t.2.1 t.2.2 W (fun z1 => K (.exit 0) (mkS 23 [3] [.c (.h 0)] [.row 2 (encRw z1) []] []))) ?_
  funext u1 u2 u3
  exact ofC_enc enc0I _ (u1, u2, u3)
theorem e : atomsL [] 0 (bodyOf Try.f45) = [(0, 0, .loop c0)] := by kernel_rfl
theorem acc (t : Vec (ByteArray × ByteArray)) (x : Vec (ByteArray × ByteArray)) (h : F t = some x) : ACc Try.prog 45 (encA t) [] true [] fun rv obs => (rv, obs) = encR x := by
  refine fun_okc (L := (L V0)) (jn := []) (cmds := []) (ks := []) (hin := []) (fn := Try.f45) (body := (bodyOf Try.f45)) Gok hm Try.func45 (by kernel_rfl) (by kernel_rfl) (by rw [e]; exact Lor.ok_cons ok0 (Lor.ok_nil _ _)) ?_ h
  refine (main laws_toFile.Q V0 _ t).trans ?_
  rw [V0_enc]
  refine congrArg (fun K => B (F0 fuelN) t K) ?_
  funext x1
  exact ofC_enc encRI some (x1)
theorem ac0 (t : Vec (ByteArray × ByteArray)) (x : Vec (ByteArray × ByteArray)) (h : F t = some x) : AC Try.prog 45 (encA t) [] true [] fun rv obs => (rv, obs) = encR x := ACc.ac (body := bodyOf Try.f45) Try.func45 (by kernel_rfl) (by kernel_rfl) (acc t x h)
theorem ac (args : List AV) (x : Vec (ByteArray × ByteArray)) (h : Q args = some x) : AC Try.prog 45 args [] false [] fun rv obs => (rv, obs) = encR x := by
  obtain ⟨t, rfl, h2⟩ := ofC_some h
  refine (ac0 t x h2).flat fun rv obs e => ?_
  obtain rfl : rv = (encR x).1 := congrArg Prod.fst e
  obtain rfl : obs = (encR x).2 := congrArg Prod.snd e
  refine ⟨by simp [encR, AV.Flat, K.Flat, C.Flat], ?_⟩
  intro o ho
  simp only [encR, List.mem_cons, List.not_mem_nil, or_false] at ho
  subst ho
  exact flat_rw rfl _
end laws_toFileS
/-! loop.example/g00073/laws.toDisk -/
namespace laws_toDisk
noncomputable def B {ρ : Type} (C_laws_toFileS : (Vec (ByteArray × ByteArray)) → Option (Vec (ByteArray × ByteArray))) (a1 : Vec (ByteArray × ByteArray)) (K : (Vec (ByteArray × ByteArray)) → Option ρ) : Option ρ :=
  (C_laws_toFileS a1).bind fun r1 => K r1
noncomputable def F (a1 : Vec (ByteArray × ByteArray)) : Option (Vec (ByteArray × ByteArray)) := B laws_toFileS.F a1 (fun x1 => some (x1))
def encA (t : Vec (ByteArray × ByteArray)) : List AV := [.a [.n (.sl 2 (encRw t))]]
def encR (x : Vec (ByteArray × ByteArray)) : AV × List Ob := (.a [.h 0], [.row 2 (encRw x) []])
theorem encAI : ∀ a b, encA a = encA b → a = b := by
  intro a b h
  simp [encA, encRw_iff] at h
  simp_all
theorem encRI : ∀ a b, encR a = encR b → a = b := by
  intro a b h
  simp [encR, encRw_iff] at h
  simp_all
noncomputable def Q (args : List AV) : Option (Vec (ByteArray × ByteArray)) := ofC encA (fun t => F t) args
theorem wrap : (fun (y1 : Vec (ByteArray × ByteArray)) => Q [.a [.n (.sl 2 (encRw y1))]]) = F := by
  funext y1
  exact ofC_enc encAI _ (y1)
noncomputable def G (q_laws_toFileS : List AV → Option (Vec (ByteArray × ByteArray))) : Orc := ⟨fun f => sel (Nat.beq f 45) 0 (9), fun ρ f args K => sel (Nat.beq f 45) (qEntry laws_toFileS.encR q_laws_toFileS args K) (Option.none), noE⟩
noncomputable def L : Lor := fun ρ j st K => Option.none
theorem main (q_laws_toFileS : List AV → Option (Vec (ByteArray × ByteArray))) {ρ : Type} (K : AV → List Ob → Option ρ) (a1 : Vec (ByteArray × ByteArray)) : exC Try.prog (G q_laws_toFileS) (L) [] 0 (bodyOf Try.f19) (entry 9 [.a [.n (.sl 2 (encRw a1))]] [] []) (finO Try.prog Try.f19.results.toList 0 [] [] K) =
    B (fun y1 => q_laws_toFileS [.c (.n (.sl 2 (encRw y1)))]) a1 (fun x1 => K (.a [.h 0]) [.row 2 (encRw x1) []]) := by kernel_rfl
theorem Gok : (G laws_toFileS.Q).ok Try.prog := ⟨(by
    intro ρ f args K r h
    rcases sel_cases h with ⟨hb, h⟩ | ⟨-, h⟩
    · obtain rfl := beq_nat hb
      exact qEntry_ok laws_toFileS.ac h
    cases h),
  (by
    intro ρ f args K
    simp only [G]
    cases Nat.beq f 45 with
    | true => exact qEntry_nat args K
    | false =>
    simp only [sel]
    rfl),
  (fun ρ f st caps args dst K r h => (by cases h))⟩
theorem hm : Try.prog.follows .mixedOrders = true := by kernel_rfl
theorem e : atomsL [] 0 (bodyOf Try.f19) = [] := by kernel_rfl
theorem acc (t : Vec (ByteArray × ByteArray)) (x : Vec (ByteArray × ByteArray)) (h : F t = some x) : ACc Try.prog 19 (encA t) [] true [] fun rv obs => (rv, obs) = encR x := by
  refine fun_okc (L := (L)) (jn := []) (cmds := []) (ks := []) (hin := []) (fn := Try.f19) (body := (bodyOf Try.f19)) Gok hm Try.func19 (by kernel_rfl) (by kernel_rfl) (by rw [e]; exact Lor.ok_nil _ _) ?_ h
  refine (main laws_toFileS.Q _ t).trans ?_
  rw [laws_toFileS.wrap]
  refine congrArg (fun K => B laws_toFileS.F t K) ?_
  funext x1
  exact ofC_enc encRI some (x1)
theorem ac0 (t : Vec (ByteArray × ByteArray)) (x : Vec (ByteArray × ByteArray)) (h : F t = some x) : AC Try.prog 19 (encA t) [] true [] fun rv obs => (rv, obs) = encR x := ACc.ac (body := bodyOf Try.f19) Try.func19 (by kernel_rfl) (by kernel_rfl) (acc t x h)
theorem ac (args : List AV) (x : Vec (ByteArray × ByteArray)) (h : Q args = some x) : AC Try.prog 19 args [] false [] fun rv obs => (rv, obs) = encR x := by
  obtain ⟨t, rfl, h2⟩ := ofC_some h
  refine (ac0 t x h2).flat fun rv obs e => ?_
  obtain rfl : rv = (encR x).1 := congrArg Prod.fst e
  obtain rfl : obs = (encR x).2 := congrArg Prod.snd e
  refine ⟨by simp [encR, AV.Flat, K.Flat, C.Flat], ?_⟩
  intro o ho
  simp only [encR, List.mem_cons, List.not_mem_nil, or_false] at ho
  subst ho
  exact flat_rw rfl _
end laws_toDisk
/-! loop.example/g00073/laws.eqFile -/
namespace laws_eqFile
noncomputable def B {ρ : Type} (a1 : ByteArray) (a2 : ByteArray) (a3 : ByteArray) (a4 : ByteArray) (K : Bool → Option ρ) : Option ρ :=
  sel ((!decide (a1 = a3))) (K false) (sel ((!decide (a2 = a4))) (K false) (K true))
noncomputable def F (a1 : ByteArray) (a2 : ByteArray) (a3 : ByteArray) (a4 : ByteArray) : Option Bool := B a1 a2 a3 a4 (fun x1 => some (x1))
def encA (t : ByteArray × ByteArray × ByteArray × ByteArray) : List AV := [.a [.n (.v (.string t.1)), .n (.v (.string t.2.1))], .a [.n (.v (.string t.2.2.1)), .n (.v (.string t.2.2.2))]]
def encR (x : Bool) : AV × List Ob := (.c (.n (.v (.bool x))), [])
theorem encAI : ∀ a b, encA a = encA b → a = b := by
  intro a b h
  obtain ⟨a0, a1, a2, a3⟩ := a
  obtain ⟨b0, b1, b2, b3⟩ := b
  simp [encA, encRw_iff] at h
  simp_all
theorem encRI : ∀ a b, encR a = encR b → a = b := by
  intro a b h
  simp [encR, encRw_iff] at h
  simp_all
noncomputable def Q (args : List AV) : Option Bool := ofC encA (fun t => F t.1 t.2.1 t.2.2.1 t.2.2.2) args
theorem wrap : (fun (y1 : ByteArray) (y2 : ByteArray) (y3 : ByteArray) (y4 : ByteArray) => Q [.a [.n (.v (.string y1)), .n (.v (.string y2))], .a [.n (.v (.string y3)), .n (.v (.string y4))]]) = F := by
  funext y1 y2 y3 y4
  exact ofC_enc encAI _ (y1, y2, y3, y4)
noncomputable def G : Orc := ⟨fun f => 9, fun ρ f args K => Option.none, noE⟩
noncomputable def L : Lor := fun ρ j st K => Option.none
theorem main {ρ : Type} (K : AV → List Ob → Option ρ) (a1 : ByteArray) (a2 : ByteArray) (a3 : ByteArray) (a4 : ByteArray) : exC Try.prog (G) (L) [] 0 (bodyOf Try.f77) (entry 15 [.a [.n (.v (.string a1)), .n (.v (.string a2))], .a [.n (.v (.string a3)), .n (.v (.string a4))]] [] []) (finO Try.prog Try.f77.results.toList 0 [] [] K) =
    B a1 a2 a3 a4 (fun x1 => K (.c (.n (.v (.bool x1)))) []) := by kernel_rfl
theorem Gok : (G).ok Try.prog := ⟨(fun ρ f args K r h => (by cases h)),
  (fun ρ f args K => rfl),
  (fun ρ f st caps args dst K r h => (by cases h))⟩
theorem hm : Try.prog.follows .mixedOrders = true := by kernel_rfl
theorem e : atomsL [] 0 (bodyOf Try.f77) = [] := by kernel_rfl
theorem acc (t : ByteArray × ByteArray × ByteArray × ByteArray) (x : Bool) (h : F t.1 t.2.1 t.2.2.1 t.2.2.2 = some x) : ACc Try.prog 77 (encA t) [] true [] fun rv obs => (rv, obs) = encR x := by
  refine fun_okc (L := (L)) (jn := []) (cmds := []) (ks := []) (hin := []) (fn := Try.f77) (body := (bodyOf Try.f77)) Gok hm Try.func77 (by kernel_rfl) (by kernel_rfl) (by rw [e]; exact Lor.ok_nil _ _) ?_ h
  refine (main _ t.1 t.2.1 t.2.2.1 t.2.2.2).trans ?_
  refine congrArg (fun K => B t.1 t.2.1 t.2.2.1 t.2.2.2 K) ?_
  funext x1
  exact ofC_enc encRI some (x1)
theorem ac0 (t : ByteArray × ByteArray × ByteArray × ByteArray) (x : Bool) (h : F t.1 t.2.1 t.2.2.1 t.2.2.2 = some x) : AC Try.prog 77 (encA t) [] true [] fun rv obs => (rv, obs) = encR x := ACc.ac (body := bodyOf Try.f77) Try.func77 (by kernel_rfl) (by kernel_rfl) (acc t x h)
theorem ac (args : List AV) (x : Bool) (h : Q args = some x) : AC Try.prog 77 args [] false [] fun rv obs => (rv, obs) = encR x := by
  obtain ⟨t, rfl, h2⟩ := ofC_some h
  refine (ac0 t x h2).flat fun rv obs e => ?_
  obtain rfl : rv = (encR x).1 := congrArg Prod.fst e
  obtain rfl : obs = (encR x).2 := congrArg Prod.snd e
  refine ⟨by simp [encR, AV.Flat, K.Flat, C.Flat], ?_⟩
  simp [encR]
end laws_eqFile
/-! loop.example/g00073/laws.eqFileS -/
namespace laws_eqFileS
noncomputable def B0 {ρ : Type} (C_laws_eqFile : ByteArray → ByteArray → ByteArray → ByteArray → Option Bool) (v1 : Vec (ByteArray × ByteArray)) (v2 : Vec (ByteArray × ByteArray)) (v3 : Int) (W : (Vec (ByteArray × ByteArray)) → (Vec (ByteArray × ByteArray)) → Int → Option ρ) (K0 : Unit → Option ρ) (Kr : Bool → Option ρ) : Option ρ :=
  sel (decide (v3 < (v1.n : Int))) (chk (decide (0 ≤ v3 ∧ v3 < (v1.n : Int))) (chk (decide (0 ≤ v3 ∧ v3 < (v2.n : Int))) ((C_laws_eqFile ((v1.g v3.toNat).1) ((v1.g v3.toNat).2) ((v2.g v3.toNat).1) ((v2.g v3.toNat).2)).bind fun r1 => sel ((!r1)) (Kr false) (W v1 v2 (wr (v3 + (1 : Int))))))) (K0 ())
noncomputable def F0 {ρ : Type} : Nat → (Vec (ByteArray × ByteArray)) → (Vec (ByteArray × ByteArray)) → Int → (Unit → Option ρ) → (Bool → Option ρ) → Option ρ
  | 0, _, _, _, _, _ => none
  | k + 1, v1, v2, v3, K0, Kr => B0 laws_eqFile.F v1 v2 v3 (fun v1' v2' v3' => F0 k v1' v2' v3' K0 Kr) K0 Kr
noncomputable def B {ρ : Type} (L0 : (Vec (ByteArray × ByteArray)) → (Vec (ByteArray × ByteArray)) → Int → (Unit → Option ρ) → (Bool → Option ρ) → Option ρ) (a1 : Vec (ByteArray × ByteArray)) (a2 : Vec (ByteArray × ByteArray)) (K : Bool → Option ρ) : Option ρ :=
  sel ((!decide ((a1.n : Int) = (a2.n : Int)))) (K false) (L0 a1 a2 (0 : Int) (fun _ => K true) (fun x01 => K x01))
noncomputable def F (a1 : Vec (ByteArray × ByteArray)) (a2 : Vec (ByteArray × ByteArray)) : Option Bool := B (F0 fuelN) a1 a2 (fun x1 => some (x1))
def encA (t : (Vec (ByteArray × ByteArray)) × (Vec (ByteArray × ByteArray))) : List AV := [.c (.n (.sl 2 (encRw t.1))), .c (.n (.sl 2 (encRw t.2)))]
def encR (x : Bool) : AV × List Ob := (.c (.n (.v (.bool x))), [])
theorem encAI : ∀ a b, encA a = encA b → a = b := by
  intro a b h
  obtain ⟨a0, a1⟩ := a
  obtain ⟨b0, b1⟩ := b
  simp [encA, encRw_iff] at h
  simp_all
theorem encRI : ∀ a b, encR a = encR b → a = b := by
  intro a b h
  simp [encR, encRw_iff] at h
  simp_all
noncomputable def Q (args : List AV) : Option Bool := ofC encA (fun t => F t.1 t.2) args
theorem wrap : (fun (y1 : Vec (ByteArray × ByteArray)) (y2 : Vec (ByteArray × ByteArray)) => Q [.c (.n (.sl 2 (encRw y1))), .c (.n (.sl 2 (encRw y2)))]) = F := by
  funext y1 y2
  exact ofC_enc encAI _ (y1, y2)
noncomputable def G (q_laws_eqFile : List AV → Option Bool) : Orc := ⟨fun f => sel (Nat.beq f 77) 0 (9), fun ρ f args K => sel (Nat.beq f 77) (qEntry laws_eqFile.encR q_laws_eqFile args K) (Option.none), noE⟩
noncomputable def L (W0 : (ρ : Type) → List AV → List Ob → (Unit → Option ρ) → (Bool → Option ρ) → Option ρ) : Lor := fun ρ j st K => sel (Nat.beq j 0) (cutO Try.prog 27 [0, 1, 5] 0 [] [] st fun avs obs => W0 ρ avs obs (fun _ => K (.exit 0) (mkS 27 [] [] [] [])) (fun z1 => K .ret (mkS 27 [4] [.c (.n (.v (.bool z1)))] [] []))) (Option.none)
noncomputable def c0 : Code := loopC (atomN [] 0 (bodyOf Try.f47) 0)
def ct0 : Cut := ⟨[0, 1, 5], []⟩
def lv0 : Exit → Cut
  | .exit 0 => ⟨[], []⟩
  | .ret => ⟨[4], []⟩
  | _ => ⟨[], []⟩
theorem step0 (q_laws_eqFile : List AV → Option Bool) (W0 : (ρ : Type) → List AV → List Ob → (Unit → Option ρ) → (Bool → Option ρ) → Option ρ) {ρ : Type} (K : Exit → St → Option ρ) (W : List AV → List Ob → Option ρ) (v1 : Vec (ByteArray × ByteArray)) (v2 : Vec (ByteArray × ByteArray)) (v3 : Int) : exC Try.prog (G q_laws_eqFile) (L W0) [] 1 c0 (mkS 27 [0, 1, 5] [.c (.n (.sl 2 (encRw v1))), .c (.n (.sl 2 (encRw v2))), .c (.n (.v (.int .i64 v3)))] [] []) (bodyK Try.prog 27 0 [] ct0 W lv0 K) =
    B0 (fun y1 y2 y3 y4 => q_laws_eqFile [.a [.n (.v (.string y1)), .n (.v (.string y2))], .a [.n (.v (.string y3)), .n (.v (.string y4))]]) v1 v2 v3 (fun u1 u2 u3 => W [.c (.n (.sl 2 (encRw u1))), .c (.n (.sl 2 (encRw u2))), .c (.n (.v (.int .i64 u3)))] []) (fun _ => K (.exit 0) (mkS 27 [] [] [] [])) (fun z1 => K .ret (mkS 27 [4] [.c (.n (.v (.bool z1)))] [] [])) := by kernel_rfl
def enc0 (t : (Vec (ByteArray × ByteArray)) × (Vec (ByteArray × ByteArray)) × Int) : List AV × List Ob := ([.c (.n (.sl 2 (encRw t.1))), .c (.n (.sl 2 (encRw t.2.1))), .c (.n (.v (.int .i64 t.2.2)))], [])
theorem enc0I : ∀ a b, enc0 a = enc0 b → a = b := by
  intro a b h
  obtain ⟨a0, a1, a2⟩ := a
  obtain ⟨b0, b1, b2⟩ := b
  simp [enc0, encRw_iff] at h
  simp_all
noncomputable def V0 : (ρ : Type) → List AV → List Ob → (Unit → Option ρ) → (Bool → Option ρ) → Option ρ := fun ρ avs obs k0 kr => ofC enc0 (fun t => F0 fuelN t.1 t.2.1 t.2.2 k0 kr) (avs, obs)
theorem V0_enc (ρ : Type) : (fun w1 w2 w3 k0 kr => V0 ρ [.c (.n (.sl 2 (encRw w1))), .c (.n (.sl 2 (encRw w2))), .c (.n (.v (.int .i64 w3)))] [] k0 kr) = F0 fuelN := by
  funext w1 w2 w3 k0 kr
  exact ofC_enc enc0I _ (w1, w2, w3)
theorem main (q_laws_eqFile : List AV → Option Bool) (W0 : (ρ : Type) → List AV → List Ob → (Unit → Option ρ) → (Bool → Option ρ) → Option ρ) {ρ : Type} (K : AV → List Ob → Option ρ) (a1 : Vec (ByteArray × ByteArray)) (a2 : Vec (ByteArray × ByteArray)) : exC Try.prog (G q_laws_eqFile) (L W0) [] 0 (bodyOf Try.f47) (entry 27 [.c (.n (.sl 2 (encRw a1))), .c (.n (.sl 2 (encRw a2)))] [] []) (finO Try.prog Try.f47.results.toList 0 [] [] K) =
    B (fun w1 w2 w3 k0 kr => W0 ρ [.c (.n (.sl 2 (encRw w1))), .c (.n (.sl 2 (encRw w2))), .c (.n (.v (.int .i64 w3)))] [] k0 kr) a1 a2 (fun x1 => K (.c (.n (.v (.bool x1)))) []) := by kernel_rfl
theorem Gok : (G laws_eqFile.Q).ok Try.prog := ⟨(by
    intro ρ f args K r h
    rcases sel_cases h with ⟨hb, h⟩ | ⟨-, h⟩
    · obtain rfl := beq_nat hb
      exact qEntry_ok laws_eqFile.ac h
    cases h),
  (by
    intro ρ f args K
    simp only [G]
    cases Nat.beq f 77 with
    | true => exact qEntry_nat args K
    | false =>
    simp only [sel]
    rfl),
  (fun ρ f st caps args dst K r h => (by cases h))⟩
theorem hm : Try.prog.follows .mixedOrders = true := by kernel_rfl
theorem e0 : atomsL [] 1 c0 = [] := by kernel_rfl
theorem ok0 (ρ : Type) (st : St) (K : Exit → St → Option ρ) (r : ρ) (h : (L V0) ρ 0 st K = some r) : AW Try.prog (.loop c0) st fun e st' => K e st' = some r := by
  refine loop_ok (ct := ct0) (lv := lv0) (n := 27) (m := 0) (ks := []) (j := 0) (jn := []) (L := (L V0)) Gok hm (by rw [e0]; exact Lor.ok_nil _ _) enc0I (fun k t => F0 k t.1 t.2.1 t.2.2 (fun _ => K (.exit 0) (mkS 27 [] [] [] [])) (fun z1 => K .ret (mkS 27 [4] [.c (.n (.v (.bool z1)))] [] []))) (fun t => rfl) (fun k t => ?_) (fun _ => fuelN) h
  refine (step0 laws_eqFile.Q V0 K _ t.1 t.2.1 t.2.2).trans ?_
  rw [laws_eqFile.wrap]
  refine congrArg (fun W => B0 laws_eqFile.F t.1 t.2.1 t.2.2 W (fun _ => K (.exit 0) (mkS 27 [] [] [] [])) (fun z1 => K .ret (mkS 27 [4] [.c (.n (.v (.bool z1)))] [] []))) ?_
  funext u1 u2 u3
  exact ofC_enc enc0I _ (u1, u2, u3)
theorem e : atomsL [] 0 (bodyOf Try.f47) = [(0, 0, .loop c0)] := by kernel_rfl
theorem acc (t : (Vec (ByteArray × ByteArray)) × (Vec (ByteArray × ByteArray))) (x : Bool) (h : F t.1 t.2 = some x) : ACc Try.prog 47 (encA t) [] true [] fun rv obs => (rv, obs) = encR x := by
  refine fun_okc (L := (L V0)) (jn := []) (cmds := []) (ks := []) (hin := []) (fn := Try.f47) (body := (bodyOf Try.f47)) Gok hm Try.func47 (by kernel_rfl) (by kernel_rfl) (by rw [e]; exact Lor.ok_cons ok0 (Lor.ok_nil _ _)) ?_ h
  refine (main laws_eqFile.Q V0 _ t.1 t.2).trans ?_
  rw [V0_enc]
  refine congrArg (fun K => B (F0 fuelN) t.1 t.2 K) ?_
  funext x1
  exact ofC_enc encRI some (x1)
theorem ac0 (t : (Vec (ByteArray × ByteArray)) × (Vec (ByteArray × ByteArray))) (x : Bool) (h : F t.1 t.2 = some x) : AC Try.prog 47 (encA t) [] true [] fun rv obs => (rv, obs) = encR x := ACc.ac (body := bodyOf Try.f47) Try.func47 (by kernel_rfl) (by kernel_rfl) (acc t x h)
theorem ac (args : List AV) (x : Bool) (h : Q args = some x) : AC Try.prog 47 args [] false [] fun rv obs => (rv, obs) = encR x := by
  obtain ⟨t, rfl, h2⟩ := ofC_some h
  refine (ac0 t x h2).flat fun rv obs e => ?_
  obtain rfl : rv = (encR x).1 := congrArg Prod.fst e
  obtain rfl : obs = (encR x).2 := congrArg Prod.snd e
  refine ⟨by simp [encR, AV.Flat, K.Flat, C.Flat], ?_⟩
  simp [encR]
end laws_eqFileS
/-! loop.example/g00073/laws.eqDisk -/
namespace laws_eqDisk
noncomputable def B {ρ : Type} (C_laws_eqFileS : (Vec (ByteArray × ByteArray)) → (Vec (ByteArray × ByteArray)) → Option Bool) (a1 : Vec (ByteArray × ByteArray)) (a2 : Vec (ByteArray × ByteArray)) (K : Bool → Option ρ) : Option ρ :=
  (C_laws_eqFileS a1 a2).bind fun r1 => sel ((!r1)) (K false) (K true)
noncomputable def F (a1 : Vec (ByteArray × ByteArray)) (a2 : Vec (ByteArray × ByteArray)) : Option Bool := B laws_eqFileS.F a1 a2 (fun x1 => some (x1))
def encA (t : (Vec (ByteArray × ByteArray)) × (Vec (ByteArray × ByteArray))) : List AV := [.a [.n (.sl 2 (encRw t.1))], .a [.n (.sl 2 (encRw t.2))]]
def encR (x : Bool) : AV × List Ob := (.c (.n (.v (.bool x))), [])
theorem encAI : ∀ a b, encA a = encA b → a = b := by
  intro a b h
  obtain ⟨a0, a1⟩ := a
  obtain ⟨b0, b1⟩ := b
  simp [encA, encRw_iff] at h
  simp_all
theorem encRI : ∀ a b, encR a = encR b → a = b := by
  intro a b h
  simp [encR, encRw_iff] at h
  simp_all
noncomputable def Q (args : List AV) : Option Bool := ofC encA (fun t => F t.1 t.2) args
theorem wrap : (fun (y1 : Vec (ByteArray × ByteArray)) (y2 : Vec (ByteArray × ByteArray)) => Q [.a [.n (.sl 2 (encRw y1))], .a [.n (.sl 2 (encRw y2))]]) = F := by
  funext y1 y2
  exact ofC_enc encAI _ (y1, y2)
noncomputable def G (q_laws_eqFileS : List AV → Option Bool) : Orc := ⟨fun f => sel (Nat.beq f 47) 0 (9), fun ρ f args K => sel (Nat.beq f 47) (qEntry laws_eqFileS.encR q_laws_eqFileS args K) (Option.none), noE⟩
noncomputable def L : Lor := fun ρ j st K => Option.none
theorem main (q_laws_eqFileS : List AV → Option Bool) {ρ : Type} (K : AV → List Ob → Option ρ) (a1 : Vec (ByteArray × ByteArray)) (a2 : Vec (ByteArray × ByteArray)) : exC Try.prog (G q_laws_eqFileS) (L) [] 0 (bodyOf Try.f21) (entry 11 [.a [.n (.sl 2 (encRw a1))], .a [.n (.sl 2 (encRw a2))]] [] []) (finO Try.prog Try.f21.results.toList 0 [] [] K) =
    B (fun y1 y2 => q_laws_eqFileS [.c (.n (.sl 2 (encRw y1))), .c (.n (.sl 2 (encRw y2)))]) a1 a2 (fun x1 => K (.c (.n (.v (.bool x1)))) []) := by kernel_rfl
theorem Gok : (G laws_eqFileS.Q).ok Try.prog := ⟨(by
    intro ρ f args K r h
    rcases sel_cases h with ⟨hb, h⟩ | ⟨-, h⟩
    · obtain rfl := beq_nat hb
      exact qEntry_ok laws_eqFileS.ac h
    cases h),
  (by
    intro ρ f args K
    simp only [G]
    cases Nat.beq f 47 with
    | true => exact qEntry_nat args K
    | false =>
    simp only [sel]
    rfl),
  (fun ρ f st caps args dst K r h => (by cases h))⟩
theorem hm : Try.prog.follows .mixedOrders = true := by kernel_rfl
theorem e : atomsL [] 0 (bodyOf Try.f21) = [] := by kernel_rfl
theorem acc (t : (Vec (ByteArray × ByteArray)) × (Vec (ByteArray × ByteArray))) (x : Bool) (h : F t.1 t.2 = some x) : ACc Try.prog 21 (encA t) [] true [] fun rv obs => (rv, obs) = encR x := by
  refine fun_okc (L := (L)) (jn := []) (cmds := []) (ks := []) (hin := []) (fn := Try.f21) (body := (bodyOf Try.f21)) Gok hm Try.func21 (by kernel_rfl) (by kernel_rfl) (by rw [e]; exact Lor.ok_nil _ _) ?_ h
  refine (main laws_eqFileS.Q _ t.1 t.2).trans ?_
  rw [laws_eqFileS.wrap]
  refine congrArg (fun K => B laws_eqFileS.F t.1 t.2 K) ?_
  funext x1
  exact ofC_enc encRI some (x1)
theorem ac0 (t : (Vec (ByteArray × ByteArray)) × (Vec (ByteArray × ByteArray))) (x : Bool) (h : F t.1 t.2 = some x) : AC Try.prog 21 (encA t) [] true [] fun rv obs => (rv, obs) = encR x := ACc.ac (body := bodyOf Try.f21) Try.func21 (by kernel_rfl) (by kernel_rfl) (acc t x h)
theorem ac (args : List AV) (x : Bool) (h : Q args = some x) : AC Try.prog 21 args [] false [] fun rv obs => (rv, obs) = encR x := by
  obtain ⟨t, rfl, h2⟩ := ofC_some h
  refine (ac0 t x h2).flat fun rv obs e => ?_
  obtain rfl : rv = (encR x).1 := congrArg Prod.fst e
  obtain rfl : obs = (encR x).2 := congrArg Prod.snd e
  refine ⟨by simp [encR, AV.Flat, K.Flat, C.Flat], ?_⟩
  simp [encR]
end laws_eqDisk
/-! loop.example/g00073/spec.l01In -/
namespace spec_l01In
noncomputable def B {ρ : Type} (a1 : Int) (a2 : Int) (a3 : Int) (K : Bool → Option ρ) : Option ρ :=
  sel (decide (a2 ≤ a1)) (K (decide (a1 ≤ a3))) (K false)
noncomputable def F (a1 : Int) (a2 : Int) (a3 : Int) : Option Bool := B a1 a2 a3 (fun x1 => some (x1))
def encA (t : Int × Int × Int) : List AV := [.c (.n (.v (.int .i64 t.1))), .c (.n (.v (.int .i64 t.2.1))), .c (.n (.v (.int .i64 t.2.2)))]
def encR (x : Bool) : AV × List Ob := (.c (.n (.v (.bool x))), [])
theorem encAI : ∀ a b, encA a = encA b → a = b := by
  intro a b h
  obtain ⟨a0, a1, a2⟩ := a
  obtain ⟨b0, b1, b2⟩ := b
  simp [encA, encRw_iff] at h
  simp_all
theorem encRI : ∀ a b, encR a = encR b → a = b := by
  intro a b h
  simp [encR, encRw_iff] at h
  simp_all
noncomputable def Q (args : List AV) : Option Bool := ofC encA (fun t => F t.1 t.2.1 t.2.2) args
theorem wrap : (fun (y1 : Int) (y2 : Int) (y3 : Int) => Q [.c (.n (.v (.int .i64 y1))), .c (.n (.v (.int .i64 y2))), .c (.n (.v (.int .i64 y3)))]) = F := by
  funext y1 y2 y3
  exact ofC_enc encAI _ (y1, y2, y3)
noncomputable def G : Orc := ⟨fun f => 9, fun ρ f args K => Option.none, noE⟩
noncomputable def L : Lor := fun ρ j st K => Option.none
theorem main {ρ : Type} (K : AV → List Ob → Option ρ) (a1 : Int) (a2 : Int) (a3 : Int) : exC Try.prog (G) (L) [] 0 (bodyOf Try.f44) (entry 15 [.c (.n (.v (.int .i64 a1))), .c (.n (.v (.int .i64 a2))), .c (.n (.v (.int .i64 a3)))] [] []) (finO Try.prog Try.f44.results.toList 0 [] [] K) =
    B a1 a2 a3 (fun x1 => K (.c (.n (.v (.bool x1)))) []) := by kernel_rfl
theorem Gok : (G).ok Try.prog := ⟨(fun ρ f args K r h => (by cases h)),
  (fun ρ f args K => rfl),
  (fun ρ f st caps args dst K r h => (by cases h))⟩
theorem hm : Try.prog.follows .mixedOrders = true := by kernel_rfl
theorem e : atomsL [] 0 (bodyOf Try.f44) = [] := by kernel_rfl
theorem acc (t : Int × Int × Int) (x : Bool) (h : F t.1 t.2.1 t.2.2 = some x) : ACc Try.prog 44 (encA t) [] true [] fun rv obs => (rv, obs) = encR x := by
  refine fun_okc (L := (L)) (jn := []) (cmds := []) (ks := []) (hin := []) (fn := Try.f44) (body := (bodyOf Try.f44)) Gok hm Try.func44 (by kernel_rfl) (by kernel_rfl) (by rw [e]; exact Lor.ok_nil _ _) ?_ h
  refine (main _ t.1 t.2.1 t.2.2).trans ?_
  refine congrArg (fun K => B t.1 t.2.1 t.2.2 K) ?_
  funext x1
  exact ofC_enc encRI some (x1)
theorem ac0 (t : Int × Int × Int) (x : Bool) (h : F t.1 t.2.1 t.2.2 = some x) : AC Try.prog 44 (encA t) [] true [] fun rv obs => (rv, obs) = encR x := ACc.ac (body := bodyOf Try.f44) Try.func44 (by kernel_rfl) (by kernel_rfl) (acc t x h)
theorem ac (args : List AV) (x : Bool) (h : Q args = some x) : AC Try.prog 44 args [] false [] fun rv obs => (rv, obs) = encR x := by
  obtain ⟨t, rfl, h2⟩ := ofC_some h
  refine (ac0 t x h2).flat fun rv obs e => ?_
  obtain rfl : rv = (encR x).1 := congrArg Prod.fst e
  obtain rfl : obs = (encR x).2 := congrArg Prod.snd e
  refine ⟨by simp [encR, AV.Flat, K.Flat, C.Flat], ?_⟩
  simp [encR]
end spec_l01In
/-! loop.example/g00073/spec.DiskOk -/
namespace spec_DiskOk
noncomputable def B0 {ρ : Type} (C_spec_l01In : Int → Int → Int → Option Bool) (v1 : Int) (v2 : Vec (ByteArray × ByteArray)) (W : Int → (Vec (ByteArray × ByteArray)) → Option ρ) (K0 : Unit → Option ρ) (Kr : Bool → Option ρ) : Option ρ :=
  sel (decide (v1 < (v2.n : Int))) (chk (decide (0 ≤ v1 ∧ v1 < (v2.n : Int))) ((C_spec_l01In (((v2.g v1.toNat).1).size : Int) (1 : Int) (24 : Int)).bind fun r1 => sel ((!r1)) (Kr false) (chk (decide (0 ≤ v1 ∧ v1 < (v2.n : Int))) (sel (decide ((60004 : Int) < (((v2.g v1.toNat).2).size : Int))) (Kr false) (sel (decide ((0 : Int) < v1)) (chk (decide (0 ≤ (wr (v1 - (1 : Int))) ∧ (wr (v1 - (1 : Int))) < (v2.n : Int))) (chk (decide (0 ≤ v1 ∧ v1 < (v2.n : Int))) (sel ((!decide (((v2.g (wr (v1 - (1 : Int))).toNat).1).toList < ((v2.g v1.toNat).1).toList))) (Kr false) (W (wr (v1 + (1 : Int))) v2)))) (W (wr (v1 + (1 : Int))) v2)))))) (K0 ())
noncomputable def F0 {ρ : Type} : Nat → Int → (Vec (ByteArray × ByteArray)) → (Unit → Option ρ) → (Bool → Option ρ) → Option ρ
  | 0, _, _, _, _ => none
  | k + 1, v1, v2, K0, Kr => B0 spec_l01In.F v1 v2 (fun v1' v2' => F0 k v1' v2' K0 Kr) K0 Kr
noncomputable def B {ρ : Type} (L0 : Int → (Vec (ByteArray × ByteArray)) → (Unit → Option ρ) → (Bool → Option ρ) → Option ρ) (a1 : Vec (ByteArray × ByteArray)) (K : Bool → Option ρ) : Option ρ :=
  sel (decide ((40 : Int) < (a1.n : Int))) (K false) (L0 (0 : Int) a1 (fun _ => K true) (fun x01 => K x01))
noncomputable def F (a1 : Vec (ByteArray × ByteArray)) : Option Bool := B (F0 fuelN) a1 (fun x1 => some (x1))
def encA (t : Vec (ByteArray × ByteArray)) : List AV := [.a [.n (.sl 2 (encRw t))]]
def encR (x : Bool) : AV × List Ob := (.c (.n (.v (.bool x))), [])
theorem encAI : ∀ a b, encA a = encA b → a = b := by
  intro a b h
  simp [encA, encRw_iff] at h
  simp_all
theorem encRI : ∀ a b, encR a = encR b → a = b := by
  intro a b h
  simp [encR, encRw_iff] at h
  simp_all
noncomputable def Q (args : List AV) : Option Bool := ofC encA (fun t => F t) args
theorem wrap : (fun (y1 : Vec (ByteArray × ByteArray)) => Q [.a [.n (.sl 2 (encRw y1))]]) = F := by
  funext y1
  exact ofC_enc encAI _ (y1)
noncomputable def G (q_spec_l01In : List AV → Option Bool) : Orc := ⟨fun f => sel (Nat.beq f 44) 0 (9), fun ρ f args K => sel (Nat.beq f 44) (qEntry spec_l01In.encR q_spec_l01In args K) (Option.none), noE⟩
noncomputable def L (W0 : (ρ : Type) → List AV → List Ob → (Unit → Option ρ) → (Bool → Option ρ) → Option ρ) : Lor := fun ρ j st K => sel (Nat.beq j 0) (cutO Try.prog 54 [1, 3] 0 [] [] st fun avs obs => W0 ρ avs obs (fun _ => K (.exit 0) (mkS 54 [] [] [] [])) (fun z1 => K .ret (mkS 54 [2] [.c (.n (.v (.bool z1)))] [] []))) (Option.none)
noncomputable def c0 : Code := loopC (atomN [] 0 (bodyOf Try.f18) 0)
def ct0 : Cut := ⟨[1, 3], []⟩
def lv0 : Exit → Cut
  | .exit 0 => ⟨[], []⟩
  | .ret => ⟨[2], []⟩
  | _ => ⟨[], []⟩
theorem step0 (q_spec_l01In : List AV → Option Bool) (W0 : (ρ : Type) → List AV → List Ob → (Unit → Option ρ) → (Bool → Option ρ) → Option ρ) {ρ : Type} (K : Exit → St → Option ρ) (W : List AV → List Ob → Option ρ) (v1 : Int) (v2 : Vec (ByteArray × ByteArray)) : exC Try.prog (G q_spec_l01In) (L W0) [] 1 c0 (mkS 54 [1, 3] [.c (.p 0 0), .c (.n (.v (.int .i64 v1)))] [.box [.n (.sl 2 (encRw v2))]] []) (bodyK Try.prog 54 0 [] ct0 W lv0 K) =
    B0 (fun y1 y2 y3 => q_spec_l01In [.c (.n (.v (.int .i64 y1))), .c (.n (.v (.int .i64 y2))), .c (.n (.v (.int .i64 y3)))]) v1 v2 (fun u1 u2 => W [.c (.p 0 0), .c (.n (.v (.int .i64 u1)))] [.box [.n (.sl 2 (encRw u2))]]) (fun _ => K (.exit 0) (mkS 54 [] [] [] [])) (fun z1 => K .ret (mkS 54 [2] [.c (.n (.v (.bool z1)))] [] [])) := by kernel_rfl
def enc0 (t : Int × (Vec (ByteArray × ByteArray))) : List AV × List Ob := ([.c (.p 0 0), .c (.n (.v (.int .i64 t.1)))], [.box [.n (.sl 2 (encRw t.2))]])
theorem enc0I : ∀ a b, enc0 a = enc0 b → a = b := by
  intro a b h
  obtain ⟨a0, a1⟩ := a
  obtain ⟨b0, b1⟩ := b
  simp [enc0, encRw_iff] at h
  simp_all
noncomputable def V0 : (ρ : Type) → List AV → List Ob → (Unit → Option ρ) → (Bool → Option ρ) → Option ρ := fun ρ avs obs k0 kr => ofC enc0 (fun t => F0 fuelN t.1 t.2 k0 kr) (avs, obs)
theorem V0_enc (ρ : Type) : (fun w1 w2 k0 kr => V0 ρ [.c (.p 0 0), .c (.n (.v (.int .i64 w1)))] [.box [.n (.sl 2 (encRw w2))]] k0 kr) = F0 fuelN := by
  funext w1 w2 k0 kr
  exact ofC_enc enc0I _ (w1, w2)
theorem main (q_spec_l01In : List AV → Option Bool) (W0 : (ρ : Type) → List AV → List Ob → (Unit → Option ρ) → (Bool → Option ρ) → Option ρ) {ρ : Type} (K : AV → List Ob → Option ρ) (a1 : Vec (ByteArray × ByteArray)) : exC Try.prog (G q_spec_l01In) (L W0) [] 0 (bodyOf Try.f18) (entry 54 [.a [.n (.sl 2 (encRw a1))]] [] []) (finO Try.prog Try.f18.results.toList 0 [] [] K) =
    B (fun w1 w2 k0 kr => W0 ρ [.c (.p 0 0), .c (.n (.v (.int .i64 w1)))] [.box [.n (.sl 2 (encRw w2))]] k0 kr) a1 (fun x1 => K (.c (.n (.v (.bool x1)))) []) := by kernel_rfl
theorem Gok : (G spec_l01In.Q).ok Try.prog := ⟨(by
    intro ρ f args K r h
    rcases sel_cases h with ⟨hb, h⟩ | ⟨-, h⟩
    · obtain rfl := beq_nat hb
      exact qEntry_ok spec_l01In.ac h
    cases h),
  (by
    intro ρ f args K
    simp only [G]
    cases Nat.beq f 44 with
    | true => exact qEntry_nat args K
    | false =>
    simp only [sel]
    rfl),
  (fun ρ f st caps args dst K r h => (by cases h))⟩
theorem hm : Try.prog.follows .mixedOrders = true := by kernel_rfl
theorem e0 : atomsL [] 1 c0 = [] := by kernel_rfl
theorem ok0 (ρ : Type) (st : St) (K : Exit → St → Option ρ) (r : ρ) (h : (L V0) ρ 0 st K = some r) : AW Try.prog (.loop c0) st fun e st' => K e st' = some r := by
  refine loop_ok (ct := ct0) (lv := lv0) (n := 54) (m := 0) (ks := []) (j := 0) (jn := []) (L := (L V0)) Gok hm (by rw [e0]; exact Lor.ok_nil _ _) enc0I (fun k t => F0 k t.1 t.2 (fun _ => K (.exit 0) (mkS 54 [] [] [] [])) (fun z1 => K .ret (mkS 54 [2] [.c (.n (.v (.bool z1)))] [] []))) (fun t => rfl) (fun k t => ?_) (fun _ => fuelN) h
  refine (step0 spec_l01In.Q V0 K _ t.1 t.2).trans ?_
  rw [spec_l01In.wrap]
  refine congrArg (fun W => B0 spec_l01In.F t.1 t.2 W (fun _ => K (.exit 0) (mkS 54 [] [] [] [])) (fun z1 => K .ret (mkS 54 [2] [.c (.n (.v (.bool z1)))] [] []))) ?_
  funext u1 u2
  exact ofC_enc enc0I _ (u1, u2)
theorem e : atomsL [] 0 (bodyOf Try.f18) = [(0, 0, .loop c0)] := by kernel_rfl
theorem acc (t : Vec (ByteArray × ByteArray)) (x : Bool) (h : F t = some x) : ACc Try.prog 18 (encA t) [] true [] fun rv obs => (rv, obs) = encR x := by
  refine fun_okc (L := (L V0)) (jn := []) (cmds := []) (ks := []) (hin := []) (fn := Try.f18) (body := (bodyOf Try.f18)) Gok hm Try.func18 (by kernel_rfl) (by kernel_rfl) (by rw [e]; exact Lor.ok_cons ok0 (Lor.ok_nil _ _)) ?_ h
  refine (main spec_l01In.Q V0 _ t).trans ?_
  rw [V0_enc]
  refine congrArg (fun K => B (F0 fuelN) t K) ?_
  funext x1
  exact ofC_enc encRI some (x1)
theorem ac0 (t : Vec (ByteArray × ByteArray)) (x : Bool) (h : F t = some x) : AC Try.prog 18 (encA t) [] true [] fun rv obs => (rv, obs) = encR x := ACc.ac (body := bodyOf Try.f18) Try.func18 (by kernel_rfl) (by kernel_rfl) (acc t x h)
theorem ac (args : List AV) (x : Bool) (h : Q args = some x) : AC Try.prog 18 args [] false [] fun rv obs => (rv, obs) = encR x := by
  obtain ⟨t, rfl, h2⟩ := ofC_some h
  refine (ac0 t x h2).flat fun rv obs e => ?_
  obtain rfl : rv = (encR x).1 := congrArg Prod.fst e
  obtain rfl : obs = (encR x).2 := congrArg Prod.snd e
  refine ⟨by simp [encR, AV.Flat, K.Flat, C.Flat], ?_⟩
  simp [encR]
end spec_DiskOk
/-! loop.example/g00073/impl.inRange -/
namespace impl_inRange
noncomputable def B {ρ : Type} (a1 : Int) (a2 : Int) (a3 : Int) (K : Bool → Option ρ) : Option ρ :=
  sel (decide (a2 ≤ a1)) (K (decide (a1 ≤ a3))) (K false)
noncomputable def F (a1 : Int) (a2 : Int) (a3 : Int) : Option Bool := B a1 a2 a3 (fun x1 => some (x1))
def encA (t : Int × Int × Int) : List AV := [.c (.n (.v (.int .i64 t.1))), .c (.n (.v (.int .i64 t.2.1))), .c (.n (.v (.int .i64 t.2.2)))]
def encR (x : Bool) : AV × List Ob := (.c (.n (.v (.bool x))), [])
theorem encAI : ∀ a b, encA a = encA b → a = b := by
  intro a b h
  obtain ⟨a0, a1, a2⟩ := a
  obtain ⟨b0, b1, b2⟩ := b
  simp [encA, encRw_iff] at h
  simp_all
theorem encRI : ∀ a b, encR a = encR b → a = b := by
  intro a b h
  simp [encR, encRw_iff] at h
  simp_all
noncomputable def Q (args : List AV) : Option Bool := ofC encA (fun t => F t.1 t.2.1 t.2.2) args
theorem wrap : (fun (y1 : Int) (y2 : Int) (y3 : Int) => Q [.c (.n (.v (.int .i64 y1))), .c (.n (.v (.int .i64 y2))), .c (.n (.v (.int .i64 y3)))]) = F := by
  funext y1 y2 y3
  exact ofC_enc encAI _ (y1, y2, y3)
noncomputable def G : Orc := ⟨fun f => 9, fun ρ f args K => Option.none, noE⟩
noncomputable def L : Lor := fun ρ j st K => Option.none
theorem main {ρ : Type} (K : AV → List Ob → Option ρ) (a1 : Int) (a2 : Int) (a3 : Int) : exC Try.prog (G) (L) [] 0 (bodyOf Try.f50) (entry 15 [.c (.n (.v (.int .i64 a1))), .c (.n (.v (.int .i64 a2))), .c (.n (.v (.int .i64 a3)))] [] []) (finO Try.prog Try.f50.results.toList 0 [] [] K) =
    B a1 a2 a3 (fun x1 => K (.c (.n (.v (.bool x1)))) []) := by kernel_rfl
theorem Gok : (G).ok Try.prog := ⟨(fun ρ f args K r h => (by cases h)),
  (fun ρ f args K => rfl),
  (fun ρ f st caps args dst K r h => (by cases h))⟩
theorem hm : Try.prog.follows .mixedOrders = true := by kernel_rfl
theorem e : atomsL [] 0 (bodyOf Try.f50) = [] := by kernel_rfl
theorem acc (t : Int × Int × Int) (x : Bool) (h : F t.1 t.2.1 t.2.2 = some x) : ACc Try.prog 50 (encA t) [] true [] fun rv obs => (rv, obs) = encR x := by
  refine fun_okc (L := (L)) (jn := []) (cmds := []) (ks := []) (hin := []) (fn := Try.f50) (body := (bodyOf Try.f50)) Gok hm Try.func50 (by kernel_rfl) (by kernel_rfl) (by rw [e]; exact Lor.ok_nil _ _) ?_ h
  refine (main _ t.1 t.2.1 t.2.2).trans ?_
  refine congrArg (fun K => B t.1 t.2.1 t.2.2 K) ?_
  funext x1
  exact ofC_enc encRI some (x1)
theorem ac0 (t : Int × Int × Int) (x : Bool) (h : F t.1 t.2.1 t.2.2 = some x) : AC Try.prog 50 (encA t) [] true [] fun rv obs => (rv, obs) = encR x := ACc.ac (body := bodyOf Try.f50) Try.func50 (by kernel_rfl) (by kernel_rfl) (acc t x h)
theorem ac (args : List AV) (x : Bool) (h : Q args = some x) : AC Try.prog 50 args [] false [] fun rv obs => (rv, obs) = encR x := by
  obtain ⟨t, rfl, h2⟩ := ofC_some h
  refine (ac0 t x h2).flat fun rv obs e => ?_
  obtain rfl : rv = (encR x).1 := congrArg Prod.fst e
  obtain rfl : obs = (encR x).2 := congrArg Prod.snd e
  refine ⟨by simp [encR, AV.Flat, K.Flat, C.Flat], ?_⟩
  simp [encR]
end impl_inRange
/-! loop.example/g00073/impl.fileOk -/
namespace impl_fileOk
noncomputable def B {ρ : Type} (C_impl_inRange : Int → Int → Int → Option Bool) (a1 : ByteArray) (a2 : ByteArray) (K : Bool → Option ρ) : Option ρ :=
  (C_impl_inRange (a1.size : Int) (1 : Int) (24 : Int)).bind fun r1 => sel (r1) (K (decide ((a2.size : Int) ≤ (60004 : Int)))) (K false)
noncomputable def F (a1 : ByteArray) (a2 : ByteArray) : Option Bool := B impl_inRange.F a1 a2 (fun x1 => some (x1))
def encA (t : ByteArray × ByteArray) : List AV := [.a [.n (.v (.string t.1)), .n (.v (.string t.2))]]
def encR (x : Bool) : AV × List Ob := (.c (.n (.v (.bool x))), [])
theorem encAI : ∀ a b, encA a = encA b → a = b := by
  intro a b h
  obtain ⟨a0, a1⟩ := a
  obtain ⟨b0, b1⟩ := b
  simp [encA, encRw_iff] at h
  simp_all
theorem encRI : ∀ a b, encR a = encR b → a = b := by
  intro a b h
  simp [encR, encRw_iff] at h
  simp_all
noncomputable def Q (args : List AV) : Option Bool := ofC encA (fun t => F t.1 t.2) args
theorem wrap : (fun (y1 : ByteArray) (y2 : ByteArray) => Q [.a [.n (.v (.string y1)), .n (.v (.string y2))]]) = F := by
  funext y1 y2
  exact ofC_enc encAI _ (y1, y2)
noncomputable def G (q_impl_inRange : List AV → Option Bool) : Orc := ⟨fun f => sel (Nat.beq f 50) 0 (9), fun ρ f args K => sel (Nat.beq f 50) (qEntry impl_inRange.encR q_impl_inRange args K) (Option.none), noE⟩
noncomputable def L : Lor := fun ρ j st K => Option.none
theorem main (q_impl_inRange : List AV → Option Bool) {ρ : Type} (K : AV → List Ob → Option ρ) (a1 : ByteArray) (a2 : ByteArray) : exC Try.prog (G q_impl_inRange) (L) [] 0 (bodyOf Try.f46) (entry 13 [.a [.n (.v (.string a1)), .n (.v (.string a2))]] [] []) (finO Try.prog Try.f46.results.toList 0 [] [] K) =
    B (fun y1 y2 y3 => q_impl_inRange [.c (.n (.v (.int .i64 y1))), .c (.n (.v (.int .i64 y2))), .c (.n (.v (.int .i64 y3)))]) a1 a2 (fun x1 => K (.c (.n (.v (.bool x1)))) []) := by kernel_rfl
theorem Gok : (G impl_inRange.Q).ok Try.prog := ⟨(by
    intro ρ f args K r h
    rcases sel_cases h with ⟨hb, h⟩ | ⟨-, h⟩
    · obtain rfl := beq_nat hb
      exact qEntry_ok impl_inRange.ac h
    cases h),
  (by
    intro ρ f args K
    simp only [G]
    cases Nat.beq f 50 with
    | true => exact qEntry_nat args K
    | false =>
    simp only [sel]
    rfl),
  (fun ρ f st caps args dst K r h => (by cases h))⟩
theorem hm : Try.prog.follows .mixedOrders = true := by kernel_rfl
theorem e : atomsL [] 0 (bodyOf Try.f46) = [] := by kernel_rfl
theorem acc (t : ByteArray × ByteArray) (x : Bool) (h : F t.1 t.2 = some x) : ACc Try.prog 46 (encA t) [] true [] fun rv obs => (rv, obs) = encR x := by
  refine fun_okc (L := (L)) (jn := []) (cmds := []) (ks := []) (hin := []) (fn := Try.f46) (body := (bodyOf Try.f46)) Gok hm Try.func46 (by kernel_rfl) (by kernel_rfl) (by rw [e]; exact Lor.ok_nil _ _) ?_ h
  refine (main impl_inRange.Q _ t.1 t.2).trans ?_
  rw [impl_inRange.wrap]
  refine congrArg (fun K => B impl_inRange.F t.1 t.2 K) ?_
  funext x1
  exact ofC_enc encRI some (x1)
theorem ac0 (t : ByteArray × ByteArray) (x : Bool) (h : F t.1 t.2 = some x) : AC Try.prog 46 (encA t) [] true [] fun rv obs => (rv, obs) = encR x := ACc.ac (body := bodyOf Try.f46) Try.func46 (by kernel_rfl) (by kernel_rfl) (acc t x h)
theorem ac (args : List AV) (x : Bool) (h : Q args = some x) : AC Try.prog 46 args [] false [] fun rv obs => (rv, obs) = encR x := by
  obtain ⟨t, rfl, h2⟩ := ofC_some h
  refine (ac0 t x h2).flat fun rv obs e => ?_
  obtain rfl : rv = (encR x).1 := congrArg Prod.fst e
  obtain rfl : obs = (encR x).2 := congrArg Prod.snd e
  refine ⟨by simp [encR, AV.Flat, K.Flat, C.Flat], ?_⟩
  simp [encR]
end impl_fileOk
/-! loop.example/g00073/impl.DiskOk -/
namespace impl_DiskOk
noncomputable def B0 {ρ : Type} (C_impl_fileOk : ByteArray → ByteArray → Option Bool) (v1 : Vec (ByteArray × ByteArray)) (v2 : Int) (v3 : Int) (v4 : Vec (ByteArray × ByteArray)) (W : (Vec (ByteArray × ByteArray)) → Int → Int → (Vec (ByteArray × ByteArray)) → Option ρ) (K0 : (Vec (ByteArray × ByteArray)) → Option ρ) (Kr : Bool → Option ρ) : Option ρ :=
  sel (decide (v3 < v2)) (chk (decide (0 ≤ v3 ∧ v3 < (v1.n : Int))) ((C_impl_fileOk ((v1.g v3.toNat).1) ((v1.g v3.toNat).2)).bind fun r1 => sel ((!r1)) (Kr false) (sel (decide ((0 : Int) < v3)) (chk (decide (0 ≤ (wr (v3 - (1 : Int))) ∧ (wr (v3 - (1 : Int))) < (v4.n : Int))) (sel ((!decide (((v4.g (wr (v3 - (1 : Int))).toNat).1).toList < ((v1.g v3.toNat).1).toList))) (Kr false) (W v1 v2 (wr (v3 + (1 : Int))) v4))) (W v1 v2 (wr (v3 + (1 : Int))) v4)))) (K0 v4)
noncomputable def F0 {ρ : Type} : Nat → (Vec (ByteArray × ByteArray)) → Int → Int → (Vec (ByteArray × ByteArray)) → ((Vec (ByteArray × ByteArray)) → Option ρ) → (Bool → Option ρ) → Option ρ
  | 0, _, _, _, _, _, _ => none
  | k + 1, v1, v2, v3, v4, K0, Kr => B0 impl_fileOk.F v1 v2 v3 v4 (fun v1' v2' v3' v4' => F0 k v1' v2' v3' v4' K0 Kr) K0 Kr
noncomputable def B {ρ : Type} (L0 : (Vec (ByteArray × ByteArray)) → Int → Int → (Vec (ByteArray × ByteArray)) → ((Vec (ByteArray × ByteArray)) → Option ρ) → (Bool → Option ρ) → Option ρ) (a1 : Vec (ByteArray × ByteArray)) (K : Bool → Option ρ) : Option ρ :=
  L0 a1 (a1.n : Int) (0 : Int) a1 (fun e01 => K (decide ((e01.n : Int) ≤ (40 : Int)))) (fun x01 => K x01)
noncomputable def F (a1 : Vec (ByteArray × ByteArray)) : Option Bool := B (F0 fuelN) a1 (fun x1 => some (x1))
def encA (t : Vec (ByteArray × ByteArray)) : List AV := [.a [.n (.sl 2 (encRw t))]]
def encR (x : Bool) : AV × List Ob := (.c (.n (.v (.bool x))), [])
theorem encAI : ∀ a b, encA a = encA b → a = b := by
  intro a b h
  simp [encA, encRw_iff] at h
  simp_all
theorem encRI : ∀ a b, encR a = encR b → a = b := by
  intro a b h
  simp [encR, encRw_iff] at h
  simp_all
noncomputable def Q (args : List AV) : Option Bool := ofC encA (fun t => F t) args
theorem wrap : (fun (y1 : Vec (ByteArray × ByteArray)) => Q [.a [.n (.sl 2 (encRw y1))]]) = F := by
  funext y1
  exact ofC_enc encAI _ (y1)
noncomputable def G (q_impl_fileOk : List AV → Option Bool) : Orc := ⟨fun f => sel (Nat.beq f 46) 0 (9), fun ρ f args K => sel (Nat.beq f 46) (qEntry impl_fileOk.encR q_impl_fileOk args K) (Option.none), noE⟩
noncomputable def L (W0 : (ρ : Type) → List AV → List Ob → ((Vec (ByteArray × ByteArray)) → Option ρ) → (Bool → Option ρ) → Option ρ) : Lor := fun ρ j st K => sel (Nat.beq j 0) (cutO Try.prog 37 [1, 6, 7, 8] 0 [] [] st fun avs obs => W0 ρ avs obs (fun z1 => K (.exit 0) (mkS 37 [1] [.c (.p 0 0)] [.box [.n (.sl 2 (encRw z1))]] [])) (fun z1 => K .ret (mkS 37 [2] [.c (.n (.v (.bool z1)))] [] []))) (Option.none)
noncomputable def c0 : Code := loopC (atomN [] 0 (bodyOf Try.f20) 0)
def ct0 : Cut := ⟨[1, 6, 7, 8], []⟩
def lv0 : Exit → Cut
  | .exit 0 => ⟨[1], []⟩
  | .ret => ⟨[2], []⟩
  | _ => ⟨[], []⟩
theorem step0 (q_impl_fileOk : List AV → Option Bool) (W0 : (ρ : Type) → List AV → List Ob → ((Vec (ByteArray × ByteArray)) → Option ρ) → (Bool → Option ρ) → Option ρ) {ρ : Type} (K : Exit → St → Option ρ) (W : List AV → List Ob → Option ρ) (v1 : Vec (ByteArray × ByteArray)) (v2 : Int) (v3 : Int) (v4 : Vec (ByteArray × ByteArray)) : exC Try.prog (G q_impl_fileOk) (L W0) [] 1 c0 (mkS 37 [1, 6, 7, 8] [.c (.p 0 0), .c (.n (.sl 2 (encRw v1))), .c (.n (.v (.int .i64 v2))), .c (.n (.v (.int .i64 v3)))] [.box [.n (.sl 2 (encRw v4))]] []) (bodyK Try.prog 37 0 [] ct0 W lv0 K) =
    B0 (fun y1 y2 => q_impl_fileOk [.a [.n (.v (.string y1)), .n (.v (.string y2))]]) v1 v2 v3 v4 (fun u1 u2 u3 u4 => W [.c (.p 0 0), .c (.n (.sl 2 (encRw u1))), .c (.n (.v (.int .i64 u2))), .c (.n (.v (.int .i64 u3)))] [.box [.n (.sl 2 (encRw u4))]]) (fun z1 => K (.exit 0) (mkS 37 [1] [.c (.p 0 0)] [.box [.n (.sl 2 (encRw z1))]] [])) (fun z1 => K .ret (mkS 37 [2] [.c (.n (.v (.bool z1)))] [] [])) := by kernel_rfl
def enc0 (t : (Vec (ByteArray × ByteArray)) × Int × Int × (Vec (ByteArray × ByteArray))) : List AV × List Ob := ([.c (.p 0 0), .c (.n (.sl 2 (encRw t.1))), .c (.n (.v (.int .i64 t.2.1))), .c (.n (.v (.int .i64 t.2.2.1)))], [.box [.n (.sl 2 (encRw t.2.2.2))]])
theorem enc0I : ∀ a b, enc0 a = enc0 b → a = b := by
  intro a b h
  obtain ⟨a0, a1, a2, a3⟩ := a
  obtain ⟨b0, b1, b2, b3⟩ := b
  simp [enc0, encRw_iff] at h
  simp_all
noncomputable def V0 : (ρ : Type) → List AV → List Ob → ((Vec (ByteArray × ByteArray)) → Option ρ) → (Bool → Option ρ) → Option ρ := fun ρ avs obs k0 kr => ofC enc0 (fun t => F0 fuelN t.1 t.2.1 t.2.2.1 t.2.2.2 k0 kr) (avs, obs)
theorem V0_enc (ρ : Type) : (fun w1 w2 w3 w4 k0 kr => V0 ρ [.c (.p 0 0), .c (.n (.sl 2 (encRw w1))), .c (.n (.v (.int .i64 w2))), .c (.n (.v (.int .i64 w3)))] [.box [.n (.sl 2 (encRw w4))]] k0 kr) = F0 fuelN := by
  funext w1 w2 w3 w4 k0 kr
  exact ofC_enc enc0I _ (w1, w2, w3, w4)
theorem main (q_impl_fileOk : List AV → Option Bool) (W0 : (ρ : Type) → List AV → List Ob → ((Vec (ByteArray × ByteArray)) → Option ρ) → (Bool → Option ρ) → Option ρ) {ρ : Type} (K : AV → List Ob → Option ρ) (a1 : Vec (ByteArray × ByteArray)) : exC Try.prog (G q_impl_fileOk) (L W0) [] 0 (bodyOf Try.f20) (entry 37 [.a [.n (.sl 2 (encRw a1))]] [] []) (finO Try.prog Try.f20.results.toList 0 [] [] K) =
    B (fun w1 w2 w3 w4 k0 kr => W0 ρ [.c (.p 0 0), .c (.n (.sl 2 (encRw w1))), .c (.n (.v (.int .i64 w2))), .c (.n (.v (.int .i64 w3)))] [.box [.n (.sl 2 (encRw w4))]] k0 kr) a1 (fun x1 => K (.c (.n (.v (.bool x1)))) []) := by kernel_rfl
theorem Gok : (G impl_fileOk.Q).ok Try.prog := ⟨(by
    intro ρ f args K r h
    rcases sel_cases h with ⟨hb, h⟩ | ⟨-, h⟩
    · obtain rfl := beq_nat hb
      exact qEntry_ok impl_fileOk.ac h
    cases h),
  (by
    intro ρ f args K
    simp only [G]
    cases Nat.beq f 46 with
    | true => exact qEntry_nat args K
    | false =>
    simp only [sel]
    rfl),
  (fun ρ f st caps args dst K r h => (by cases h))⟩
theorem hm : Try.prog.follows .mixedOrders = true := by kernel_rfl
theorem e0 : atomsL [] 1 c0 = [] := by kernel_rfl
theorem ok0 (ρ : Type) (st : St) (K : Exit → St → Option ρ) (r : ρ) (h : (L V0) ρ 0 st K = some r) : AW Try.prog (.loop c0) st fun e st' => K e st' = some r := by
  refine loop_ok (ct := ct0) (lv := lv0) (n := 37) (m := 0) (ks := []) (j := 0) (jn := []) (L := (L V0)) Gok hm (by rw [e0]; exact Lor.ok_nil _ _) enc0I (fun k t => F0 k t.1 t.2.1 t.2.2.1 t.2.2.2 (fun z1 => K (.exit 0) (mkS 37 [1] [.c (.p 0 0)] [.box [.n (.sl 2 (encRw z1))]] [])) (fun z1 => K .ret (mkS 37 [2] [.c (.n (.v (.bool z1)))] [] []))) (fun t => rfl) (fun k t => ?_) (fun _ => fuelN) h
  refine (step0 impl_fileOk.Q V0 K _ t.1 t.2.1 t.2.2.1 t.2.2.2).trans ?_
  rw [impl_fileOk.wrap]
  refine congrArg (fun W => B0 impl_fileOk.F t.1 t.2.1 t.2.2.1 t.2.2.2 W (fun z1 => K (.exit 0) (mkS 37 [1] [.c (.p 0 0)] [.box [.n (.sl 2 (encRw z1))]] [])) (fun z1 => K .ret (mkS 37 [2] [.c (.n (.v (.bool z1)))] [] []))) ?_
  funext u1 u2 u3 u4
  exact ofC_enc enc0I _ (u1, u2, u3, u4)
theorem e : atomsL [] 0 (bodyOf Try.f20) = [(0, 0, .loop c0)] := by kernel_rfl
theorem acc (t : Vec (ByteArray × ByteArray)) (x : Bool) (h : F t = some x) : ACc Try.prog 20 (encA t) [] true [] fun rv obs => (rv, obs) = encR x := by
  refine fun_okc (L := (L V0)) (jn := []) (cmds := []) (ks := []) (hin := []) (fn := Try.f20) (body := (bodyOf Try.f20)) Gok hm Try.func20 (by kernel_rfl) (by kernel_rfl) (by rw [e]; exact Lor.ok_cons ok0 (Lor.ok_nil _ _)) ?_ h
  refine (main impl_fileOk.Q V0 _ t).trans ?_
  rw [V0_enc]
  refine congrArg (fun K => B (F0 fuelN) t K) ?_
  funext x1
  exact ofC_enc encRI some (x1)
theorem ac0 (t : Vec (ByteArray × ByteArray)) (x : Bool) (h : F t = some x) : AC Try.prog 20 (encA t) [] true [] fun rv obs => (rv, obs) = encR x := ACc.ac (body := bodyOf Try.f20) Try.func20 (by kernel_rfl) (by kernel_rfl) (acc t x h)
theorem ac (args : List AV) (x : Bool) (h : Q args = some x) : AC Try.prog 20 args [] false [] fun rv obs => (rv, obs) = encR x := by
  obtain ⟨t, rfl, h2⟩ := ofC_some h
  refine (ac0 t x h2).flat fun rv obs e => ?_
  obtain rfl : rv = (encR x).1 := congrArg Prod.fst e
  obtain rfl : obs = (encR x).2 := congrArg Prod.snd e
  refine ⟨by simp [encR, AV.Flat, K.Flat, C.Flat], ?_⟩
  simp [encR]
end impl_DiskOk
end Go.Al
