import Derived.Test.YtbpicgilplnmoaaGNamesOk
set_option linter.unusedVariables false
set_option linter.unusedSimpArgs false
set_option maxRecDepth 100000
namespace Go.Al
open Go.Proofs

/-! loop.example/g00073/spec.l13Id -/
namespace spec_l13Id
noncomputable def B0 {ρ : Type} (v1 : Vec (ByteArray × Int × Int)) (v2 : Int) (v3 : Int) (W : (Vec (ByteArray × Int × Int)) → Int → Int → Option ρ) (K0 : Unit → Option ρ) (Kr : Int → Option ρ) : Option ρ :=
  sel (decide (v3 < (v1.n : Int))) (chk (decide (0 ≤ v3 ∧ v3 < (v1.n : Int))) (sel (decide ((v1.g v3.toNat).2.1 = v2)) (Kr v3) (W v1 v2 (wr (v3 + (1 : Int)))))) (K0 ())
noncomputable def F0 {ρ : Type} : Nat → (Vec (ByteArray × Int × Int)) → Int → Int → (Unit → Option ρ) → (Int → Option ρ) → Option ρ
  | 0, _, _, _, _, _ => none
  | k + 1, v1, v2, v3, K0, Kr => B0 v1 v2 v3 (fun v1' v2' v3' => F0 k v1' v2' v3' K0 Kr) K0 Kr
noncomputable def B {ρ : Type} (L0 : (Vec (ByteArray × Int × Int)) → Int → Int → (Unit → Option ρ) → (Int → Option ρ) → Option ρ) (a1 : Vec (ByteArray × Int × Int)) (a2 : Int) (K : Int → Option ρ) : Option ρ :=
  L0 a1 a2 (0 : Int) (fun _ => K (-1 : Int)) (fun x01 => K x01)
noncomputable def F (a1 : Vec (ByteArray × Int × Int)) (a2 : Int) : Option Int := B (F0 fuelN) a1 a2 (fun x1 => some (x1))
def encA (t : (Vec (ByteArray × Int × Int)) × Int) : List AV := [.c (.n (.sl 3 (encRw t.1))), .c (.n (.v (.int .i64 t.2)))]
def encR (x : Int) : AV × List Ob := (.c (.n (.v (.int .i64 x))), [])
theorem encAI : ∀ a b, encA a = encA b → a = b := by
  intro a b h
  obtain ⟨a0, a1⟩ := a
  obtain ⟨b0, b1⟩ := b
  simp [encA, encRw_iff] at h
  simp_all
theorem encRI : ∀ a b, encR a = encR b → a = b := by
  intro a b h
  simp [encR, encRw_iff] at h
  simp_all
noncomputable def Q (args : List AV) : Option Int := ofC encA (fun t => F t.1 t.2) args
theorem wrap : (fun (y1 : Vec (ByteArray × Int × Int)) (y2 : Int) => Q [.c (.n (.sl 3 (encRw y1))), .c (.n (.v (.int .i64 y2)))]) = F := by
  funext y1 y2
  exact ofC_enc encAI _ (y1, y2)
noncomputable def G : Orc := ⟨fun f => 9, fun ρ f args K => Option.none, noE⟩
noncomputable def L (W0 : (ρ : Type) → List AV → List Ob → (Unit → Option ρ) → (Int → Option ρ) → Option ρ) : Lor := fun ρ j st K => sel (Nat.beq j 0) (cutO Try.prog 20 [0, 1, 5] 0 [] [] st fun avs obs => W0 ρ avs obs (fun _ => K (.exit 0) (mkS 20 [] [] [] [])) (fun z1 => K .ret (mkS 20 [4] [.c (.n (.v (.int .i64 z1)))] [] []))) (Option.none)
noncomputable def c0 : Code := loopC (atomN [] 0 (bodyOf Try.f58) 0)
def ct0 : Cut := ⟨[0, 1, 5], []⟩
def lv0 : Exit → Cut
  | .exit 0 => ⟨[], []⟩
  | .ret => ⟨[4], []⟩
  | _ => ⟨[], []⟩
theorem step0 (W0 : (ρ : Type) → List AV → List Ob → (Unit → Option ρ) → (Int → Option ρ) → Option ρ) {ρ : Type} (K : Exit → St → Option ρ) (W : List AV → List Ob → Option ρ) (v1 : Vec (ByteArray × Int × Int)) (v2 : Int) (v3 : Int) : exC Try.prog (G) (L W0) [] 1 c0 (mkS 20 [0, 1, 5] [.c (.n (.sl 3 (encRw v1))), .c (.n (.v (.int .i64 v2))), .c (.n (.v (.int .i64 v3)))] [] []) (bodyK Try.prog 20 0 [] ct0 W lv0 K) =
    B0 v1 v2 v3 (fun u1 u2 u3 => W [.c (.n (.sl 3 (encRw u1))), .c (.n (.v (.int .i64 u2))), .c (.n (.v (.int .i64 u3)))] []) (fun _ => K (.exit 0) (mkS 20 [] [] [] [])) (fun z1 => K .ret (mkS 20 [4] [.c (.n (.v (.int .i64 z1)))] [] [])) := by kernel_rfl
def enc0 (t : (Vec (ByteArray × Int × Int)) × Int × Int) : List AV × List Ob := ([.c (.n (.sl 3 (encRw t.1))), .c (.n (.v (.int .i64 t.2.1))), .c (.n (.v (.int .i64 t.2.2)))], [])
theorem enc0I : ∀ a b, enc0 a = enc0 b → a = b := by
  intro a b h
  obtain ⟨a0, a1, a2⟩ := a
  obtain ⟨b0, b1, b2⟩ := b
  simp [enc0, encRw_iff] at h
  simp_all
noncomputable def V0 : (ρ : Type) → List AV → List Ob → (Unit → Option ρ) → (Int → Option ρ) → Option ρ := fun ρ avs obs k0 kr => ofC enc0 (fun t => F0 fuelN t.1 t.2.1 t.2.2 k0 kr) (avs, obs)
theorem V0_enc (ρ : Type) : (fun w1 w2 w3 k0 kr => V0 ρ [.c (.n (.sl 3 (encRw w1))), .c (.n (.v (.int .i64 w2))), .c (.n (.v (.int .i64 w3)))] [] k0 kr) = F0 fuelN := by
  funext w1 w2 w3 k0 kr
  exact ofC_enc enc0I _ (w1, w2, w3)
theorem main (W0 : (ρ : Type) → List AV → List Ob → (Unit → Option ρ) → (Int → Option ρ) → Option ρ) {ρ : Type} (K : AV → List Ob → Option ρ) (a1 : Vec (ByteArray × Int × Int)) (a2 : Int) : exC Try.prog (G) (L W0) [] 0 (bodyOf Try.f58) (entry 20 [.c (.n (.sl 3 (encRw a1))), .c (.n (.v (.int .i64 a2)))] [] []) (finO Try.prog Try.f58.results.toList 0 [] [] K) =
    B (fun w1 w2 w3 k0 kr => W0 ρ [.c (.n (.sl 3 (encRw w1))), .c (.n (.v (.int .i64 w2))), .c (.n (.v (.int .i64 w3)))] [] k0 kr) a1 a2 (fun x1 => K (.c (.n (.v (.int .i64 x1)))) []) := by kernel_rfl
theorem Gok : (G).ok Try.prog := ⟨(fun ρ f args K r h => (by cases h)),
  (fun ρ f args K => rfl),
  (fun ρ f st caps args dst K r h => (by cases h))⟩
theorem hm : Try.prog.follows .mixedOrders = true := by kernel_rfl
theorem e0 : atomsL [] 1 c0 = [] := by kernel_rfl
theorem ok0 (ρ : Type) (st : St) (K : Exit → St → Option ρ) (r : ρ) (h : (L V0) ρ 0 st K = some r) : AW Try.prog (.loop c0) st fun e st' => K e st' = some r := by
  refine loop_ok (ct := ct0) (lv := lv0) (n := 20) (m := 0) (ks := []) (j := 0) (jn := []) (L := (L V0)) Gok hm (by rw [e0]; exact Lor.ok_nil _ _) enc0I (fun k t => F0 k t.1 t.2.1 t.2.2 (fun _ => K (.exit 0) (mkS 20 [] [] [] [])) (fun z1 => K .ret (mkS 20 [4] [.c (.n (.v (.int .i64 z1)))] [] []))) (fun t => rfl) (fun k t => ?_) (fun _ => fuelN) h
  refine (step0 V0 K _ t.1 t.2.1 t.2.2).trans ?_
  refine congrArg (fun W => B0 t.1 t.2.1 t.2.2 W (fun _ => K (.exit 0) (mkS 20 [] [] [] [])) (fun z1 => K .ret (mkS 20 [4] [.c (.n (.v (.int .i64 z1)))] [] []))) ?_
  funext u1 u2 u3
  exact ofC_enc enc0I _ (u1, u2, u3)
theorem e : atomsL [] 0 (bodyOf Try.f58) = [(0, 0, .loop c0)] := by kernel_rfl
theorem acc (t : (Vec (ByteArray × Int × Int)) × Int) (x : Int) (h : F t.1 t.2 = some x) : ACc Try.prog 58 (encA t) [] true [] fun rv obs => (rv, obs) = encR x := by
  refine fun_okc (L := (L V0)) (jn := []) (cmds := []) (ks := []) (hin := []) (fn := Try.f58) (body := (bodyOf Try.f58)) Gok hm Try.func58 (by kernel_rfl) (by kernel_rfl) (by rw [e]; exact Lor.ok_cons ok0 (Lor.ok_nil _ _)) ?_ h
  refine (main V0 _ t.1 t.2).trans ?_
  rw [V0_enc]
  refine congrArg (fun K => B (F0 fuelN) t.1 t.2 K) ?_
  funext x1
  exact ofC_enc encRI some (x1)
theorem ac0 (t : (Vec (ByteArray × Int × Int)) × Int) (x : Int) (h : F t.1 t.2 = some x) : AC Try.prog 58 (encA t) [] true [] fun rv obs => (rv, obs) = encR x := ACc.ac (body := bodyOf Try.f58) Try.func58 (by kernel_rfl) (by kernel_rfl) (acc t x h)
theorem ac (args : List AV) (x : Int) (h : Q args = some x) : AC Try.prog 58 args [] false [] fun rv obs => (rv, obs) = encR x := by
  obtain ⟨t, rfl, h2⟩ := ofC_some h
  refine (ac0 t x h2).flat fun rv obs e => ?_
  obtain rfl : rv = (encR x).1 := congrArg Prod.fst e
  obtain rfl : obs = (encR x).2 := congrArg Prod.snd e
  refine ⟨by simp [encR, AV.Flat, K.Flat, C.Flat], ?_⟩
  simp [encR]
end spec_l13Id
/-! loop.example/g00073/spec.ById -/
namespace spec_ById
noncomputable def B {ρ : Type} (C_spec_NamesOk : (Vec (ByteArray × Int × Int)) → Option Bool) (C_spec_l13Id : (Vec (ByteArray × Int × Int)) → Int → Option Int) (a1 : Vec (ByteArray × Int × Int)) (a2 : Int) (K : Int → Option ρ) : Option ρ :=
  (C_spec_NamesOk a1).bind fun r1 => sel ((!r1)) (K (-1 : Int)) ((C_spec_l13Id a1 a2).bind fun r2 => K r2)
noncomputable def F (a1 : Vec (ByteArray × Int × Int)) (a2 : Int) : Option Int := B spec_NamesOk.F spec_l13Id.F a1 a2 (fun x1 => some (x1))
def encA (t : (Vec (ByteArray × Int × Int)) × Int) : List AV := [.c (.n (.sl 3 (encRw t.1))), .c (.n (.v (.int .i64 t.2)))]
def encR (x : Int) : AV × List Ob := (.c (.n (.v (.int .i64 x))), [])
theorem encAI : ∀ a b, encA a = encA b → a = b := by
  intro a b h
  obtain ⟨a0, a1⟩ := a
  obtain ⟨b0, b1⟩ := b
  simp [encA, encRw_iff] at h
  simp_all
theorem encRI : ∀ a b, encR a = encR b → a = b := by
  intro a b h
  simp [encR, encRw_iff] at h
  simp_all
noncomputable def Q (args : List AV) : Option Int := ofC encA (fun t => F t.1 t.2) args
theorem wrap : (fun (y1 : Vec (ByteArray × Int × Int)) (y2 : Int) => Q [.c (.n (.sl 3 (encRw y1))), .c (.n (.v (.int .i64 y2)))]) = F := by
  funext y1 y2
  exact ofC_enc encAI _ (y1, y2)
noncomputable def G (q_spec_NamesOk : List AV → Option Bool) (q_spec_l13Id : List AV → Option Int) : Orc := ⟨fun f => sel (Nat.beq f 27) 0 (sel (Nat.beq f 58) 0 (9)), fun ρ f args K => sel (Nat.beq f 27) (qEntry spec_NamesOk.encR q_spec_NamesOk args K) (sel (Nat.beq f 58) (qEntry spec_l13Id.encR q_spec_l13Id args K) (Option.none)), noE⟩
noncomputable def L : Lor := fun ρ j st K => Option.none
theorem main (q_spec_NamesOk : List AV → Option Bool) (q_spec_l13Id : List AV → Option Int) {ρ : Type} (K : AV → List Ob → Option ρ) (a1 : Vec (ByteArray × Int × Int)) (a2 : Int) : exC Try.prog (G q_spec_NamesOk q_spec_l13Id) (L) [] 0 (bodyOf Try.f31) (entry 11 [.c (.n (.sl 3 (encRw a1))), .c (.n (.v (.int .i64 a2)))] [] []) (finO Try.prog Try.f31.results.toList 0 [] [] K) =
    B (fun y1 => q_spec_NamesOk [.c (.n (.sl 3 (encRw y1)))]) (fun y1 y2 => q_spec_l13Id [.c (.n (.sl 3 (encRw y1))), .c (.n (.v (.int .i64 y2)))]) a1 a2 (fun x1 => K (.c (.n (.v (.int .i64 x1)))) []) := by kernel_rfl
theorem Gok : (G spec_NamesOk.Q spec_l13Id.Q).ok Try.prog := ⟨(by
    intro ρ f args K r h
    rcases sel_cases h with ⟨hb, h⟩ | ⟨-, h⟩
    · obtain rfl := beq_nat hb
      exact qEntry_ok spec_NamesOk.ac h
    rcases sel_cases h with ⟨hb, h⟩ | ⟨-, h⟩
    · obtain rfl := beq_nat hb
      exact qEntry_ok spec_l13Id.ac h
    cases h),
  (by
    intro ρ f args K
    simp only [G]
    cases Nat.beq f 27 with
    | true => exact qEntry_nat args K
    | false =>
    simp only [sel]
    cases Nat.beq f 58 with
    | true => exact qEntry_nat args K
    | false =>
    simp only [sel]
    rfl),
  (fun ρ f st caps args dst K r h => (by cases h))⟩
theorem hm : Try.prog.follows .mixedOrders = true := by kernel_rfl
theorem e : atomsL [] 0 (bodyOf Try.f31) = [] := by kernel_rfl
theorem acc (t : (Vec (ByteArray × Int × Int)) × Int) (x : Int) (h : F t.1 t.2 = some x) : ACc Try.prog 31 (encA t) [] true [] fun rv obs => (rv, obs) = encR x := by
  refine fun_okc (L := (L)) (jn := []) (cmds := []) (ks := []) (hin := []) (fn := Try.f31) (body := (bodyOf Try.f31)) Gok hm Try.func31 (by kernel_rfl) (by kernel_rfl) (by rw [e]; exact Lor.ok_nil _ _) ?_ h
  refine (main spec_NamesOk.Q spec_l13Id.Q _ t.1 t.2).trans ?_
  rw [spec_NamesOk.wrap, spec_l13Id.wrap]
  refine congrArg (fun K => B spec_NamesOk.F spec_l13Id.F t.1 t.2 K) ?_
  funext x1
  exact ofC_enc encRI some (x1)
theorem ac0 (t : (Vec (ByteArray × Int × Int)) × Int) (x : Int) (h : F t.1 t.2 = some x) : AC Try.prog 31 (encA t) [] true [] fun rv obs => (rv, obs) = encR x := ACc.ac (body := bodyOf Try.f31) Try.func31 (by kernel_rfl) (by kernel_rfl) (acc t x h)
theorem ac (args : List AV) (x : Int) (h : Q args = some x) : AC Try.prog 31 args [] false [] fun rv obs => (rv, obs) = encR x := by
  obtain ⟨t, rfl, h2⟩ := ofC_some h
  refine (ac0 t x h2).flat fun rv obs e => ?_
  obtain rfl : rv = (encR x).1 := congrArg Prod.fst e
  obtain rfl : obs = (encR x).2 := congrArg Prod.snd e
  refine ⟨by simp [encR, AV.Flat, K.Flat, C.Flat], ?_⟩
  simp [encR]
end spec_ById
/-! loop.example/g00073/impl.ById -/
namespace impl_ById
noncomputable def B {ρ : Type} (C_impl_NamesOk : (Vec (ByteArray × Int × Int)) → Option Bool) (C_impl_idAt : (Vec (ByteArray × Int × Int)) → Int → Option Int) (a1 : Vec (ByteArray × Int × Int)) (a2 : Int) (K : Int → Option ρ) : Option ρ :=
  (C_impl_NamesOk a1).bind fun r1 => sel ((!r1)) (K (-1 : Int)) ((C_impl_idAt a1 a2).bind fun r2 => K r2)
noncomputable def F (a1 : Vec (ByteArray × Int × Int)) (a2 : Int) : Option Int := B impl_NamesOk.F impl_idAt.F a1 a2 (fun x1 => some (x1))
def encA (t : (Vec (ByteArray × Int × Int)) × Int) : List AV := [.c (.n (.sl 3 (encRw t.1))), .c (.n (.v (.int .i64 t.2)))]
def encR (x : Int) : AV × List Ob := (.c (.n (.v (.int .i64 x))), [])
theorem encAI : ∀ a b, encA a = encA b → a = b := by
  intro a b h
  obtain ⟨a0, a1⟩ := a
  obtain ⟨b0, b1⟩ := b
  simp [encA, encRw_iff] at h
  simp_all
theorem encRI : ∀ a b, encR a = encR b → a = b := by
  intro a b h
  simp [encR, encRw_iff] at h
  simp_all
noncomputable def Q (args : List AV) : Option Int := ofC encA (fun t => F t.1 t.2) args
theorem wrap : (fun (y1 : Vec (ByteArray × Int × Int)) (y2 : Int) => Q [.c (.n (.sl 3 (encRw y1))), .c (.n (.v (.int .i64 y2)))]) = F := by
  funext y1 y2
  exact ofC_enc encAI _ (y1, y2)
noncomputable def G (q_impl_NamesOk : List AV → Option Bool) (q_impl_idAt : List AV → Option Int) : Orc := ⟨fun f => sel (Nat.beq f 29) 0 (sel (Nat.beq f 56) 0 (9)), fun ρ f args K => sel (Nat.beq f 29) (qEntry impl_NamesOk.encR q_impl_NamesOk args K) (sel (Nat.beq f 56) (qEntry impl_idAt.encR q_impl_idAt args K) (Option.none)), noE⟩
noncomputable def L : Lor := fun ρ j st K => Option.none
theorem main (q_impl_NamesOk : List AV → Option Bool) (q_impl_idAt : List AV → Option Int) {ρ : Type} (K : AV → List Ob → Option ρ) (a1 : Vec (ByteArray × Int × Int)) (a2 : Int) : exC Try.prog (G q_impl_NamesOk q_impl_idAt) (L) [] 0 (bodyOf Try.f32) (entry 11 [.c (.n (.sl 3 (encRw a1))), .c (.n (.v (.int .i64 a2)))] [] []) (finO Try.prog Try.f32.results.toList 0 [] [] K) =
    B (fun y1 => q_impl_NamesOk [.c (.n (.sl 3 (encRw y1)))]) (fun y1 y2 => q_impl_idAt [.c (.n (.sl 3 (encRw y1))), .c (.n (.v (.int .i64 y2)))]) a1 a2 (fun x1 => K (.c (.n (.v (.int .i64 x1)))) []) := by kernel_rfl
theorem Gok : (G impl_NamesOk.Q impl_idAt.Q).ok Try.prog := ⟨(by
    intro ρ f args K r h
    rcases sel_cases h with ⟨hb, h⟩ | ⟨-, h⟩
    · obtain rfl := beq_nat hb
      exact qEntry_ok impl_NamesOk.ac h
    rcases sel_cases h with ⟨hb, h⟩ | ⟨-, h⟩
    · obtain rfl := beq_nat hb
      exact qEntry_ok impl_idAt.ac h
    cases h),
  (by
    intro ρ f args K
    simp only [G]
    cases Nat.beq f 29 with
    | true => exact qEntry_nat args K
    | false =>
    simp only [sel]
    cases Nat.beq f 56 with
    | true => exact qEntry_nat args K
    | false =>
    simp only [sel]
    rfl),
  (fun ρ f st caps args dst K r h => (by cases h))⟩
theorem hm : Try.prog.follows .mixedOrders = true := by kernel_rfl
theorem e : atomsL [] 0 (bodyOf Try.f32) = [] := by kernel_rfl
theorem acc (t : (Vec (ByteArray × Int × Int)) × Int) (x : Int) (h : F t.1 t.2 = some x) : ACc Try.prog 32 (encA t) [] true [] fun rv obs => (rv, obs) = encR x := by
  refine fun_okc (L := (L)) (jn := []) (cmds := []) (ks := []) (hin := []) (fn := Try.f32) (body := (bodyOf Try.f32)) Gok hm Try.func32 (by kernel_rfl) (by kernel_rfl) (by rw [e]; exact Lor.ok_nil _ _) ?_ h
  refine (main impl_NamesOk.Q impl_idAt.Q _ t.1 t.2).trans ?_
  rw [impl_NamesOk.wrap, impl_idAt.wrap]
  refine congrArg (fun K => B impl_NamesOk.F impl_idAt.F t.1 t.2 K) ?_
  funext x1
  exact ofC_enc encRI some (x1)
theorem ac0 (t : (Vec (ByteArray × Int × Int)) × Int) (x : Int) (h : F t.1 t.2 = some x) : AC Try.prog 32 (encA t) [] true [] fun rv obs => (rv, obs) = encR x := ACc.ac (body := bodyOf Try.f32) Try.func32 (by kernel_rfl) (by kernel_rfl) (acc t x h)
theorem ac (args : List AV) (x : Int) (h : Q args = some x) : AC Try.prog 32 args [] false [] fun rv obs => (rv, obs) = encR x := by
  obtain ⟨t, rfl, h2⟩ := ofC_some h
  refine (ac0 t x h2).flat fun rv obs e => ?_
  obtain rfl : rv = (encR x).1 := congrArg Prod.fst e
  obtain rfl : obs = (encR x).2 := congrArg Prod.snd e
  refine ⟨by simp [encR, AV.Flat, K.Flat, C.Flat], ?_⟩
  simp [encR]
end impl_ById
/-! loop.example/g00073/laws.FnExactById -/
namespace laws_FnExactById
noncomputable def B {ρ : Type} (C_laws_szNameS : (Vec (ByteArray × Int × Int)) → Int → Option Int) (C_laws_toNameS : (Vec (ByteArray × Int × Int)) → Option (Vec (ByteArray × Int × Int))) (C_spec_ById : (Vec (ByteArray × Int × Int)) → Int → Option Int) (C_impl_ById : (Vec (ByteArray × Int × Int)) → Int → Option Int) (C_laws_eqNameS : (Vec (ByteArray × Int × Int)) → (Vec (ByteArray × Int × Int)) → Option Bool) (a1 : Vec (ByteArray × Int × Int)) (a2 : Int) (K : Bool → Option ρ) : Option ρ :=
  (C_laws_szNameS a1 (1048576 : Int)).bind fun r1 => sel (decide (r1 < (0 : Int))) (K true) ((C_laws_toNameS a1).bind fun r2 => (C_spec_ById r2 a2).bind fun r3 => (C_laws_toNameS a1).bind fun r4 => (C_impl_ById r4 a2).bind fun r5 => sel ((!decide (r5 = r3))) (K false) ((C_laws_toNameS a1).bind fun r6 => (C_laws_eqNameS r4 r6).bind fun r7 => sel ((!r7)) (K false) (K true)))
noncomputable def F (a1 : Vec (ByteArray × Int × Int)) (a2 : Int) : Option Bool := B laws_szNameS.F laws_toNameS.F spec_ById.F impl_ById.F laws_eqNameS.F a1 a2 (fun x1 => some (x1))
def encA (t : (Vec (ByteArray × Int × Int)) × Int) : List AV := [.c (.n (.sl 3 (encRw t.1))), .c (.n (.v (.int .i64 t.2)))]
def encR (x : Bool) : AV × List Ob := (.c (.n (.v (.bool x))), [])
theorem encAI : ∀ a b, encA a = encA b → a = b := by
  intro a b h
  obtain ⟨a0, a1⟩ := a
  obtain ⟨b0, b1⟩ := b
  simp [encA, encRw_iff] at h
  simp_all
theorem encRI : ∀ a b, encR a = encR b → a = b := by
  intro a b h
  simp [encR, encRw_iff] at h
  simp_all
noncomputable def Q (args : List AV) : Option Bool := ofC encA (fun t => F t.1 t.2) args
theorem wrap : (fun (y1 : Vec (ByteArray × Int × Int)) (y2 : Int) => Q [.c (.n (.sl 3 (encRw y1))), .c (.n (.v (.int .i64 y2)))]) = F := by
  funext y1 y2
  exact ofC_enc encAI _ (y1, y2)
noncomputable def G (q_laws_szNameS : List AV → Option Int) (q_laws_toNameS : List AV → Option (Vec (ByteArray × Int × Int))) (q_spec_ById : List AV → Option Int) (q_impl_ById : List AV → Option Int) (q_laws_eqNameS : List AV → Option Bool) : Orc := ⟨fun f => sel (Nat.beq f 26) 0 (sel (Nat.beq f 28) 0 (sel (Nat.beq f 31) 0 (sel (Nat.beq f 32) 0 (sel (Nat.beq f 30) 0 (9))))), fun ρ f args K => sel (Nat.beq f 26) (qEntry laws_szNameS.encR q_laws_szNameS args K) (sel (Nat.beq f 28) (qEntry laws_toNameS.encR q_laws_toNameS args K) (sel (Nat.beq f 31) (qEntry spec_ById.encR q_spec_ById args K) (sel (Nat.beq f 32) (qEntry impl_ById.encR q_impl_ById args K) (sel (Nat.beq f 30) (qEntry laws_eqNameS.encR q_laws_eqNameS args K) (Option.none))))), noE⟩
noncomputable def L : Lor := fun ρ j st K => Option.none
theorem main (q_laws_szNameS : List AV → Option Int) (q_laws_toNameS : List AV → Option (Vec (ByteArray × Int × Int))) (q_spec_ById : List AV → Option Int) (q_impl_ById : List AV → Option Int) (q_laws_eqNameS : List AV → Option Bool) {ρ : Type} (K : AV → List Ob → Option ρ) (a1 : Vec (ByteArray × Int × Int)) (a2 : Int) : exC Try.prog (G q_laws_szNameS q_laws_toNameS q_spec_ById q_impl_ById q_laws_eqNameS) (L) [] 0 (bodyOf Try.f9) (entry 31 [.c (.n (.sl 3 (encRw a1))), .c (.n (.v (.int .i64 a2)))] [] []) (finO Try.prog Try.f9.results.toList 0 [] [] K) =
    B (fun y1 y2 => q_laws_szNameS [.c (.n (.sl 3 (encRw y1))), .c (.n (.v (.int .i64 y2)))]) (fun y1 => q_laws_toNameS [.c (.n (.sl 3 (encRw y1)))]) (fun y1 y2 => q_spec_ById [.c (.n (.sl 3 (encRw y1))), .c (.n (.v (.int .i64 y2)))]) (fun y1 y2 => q_impl_ById [.c (.n (.sl 3 (encRw y1))), .c (.n (.v (.int .i64 y2)))]) (fun y1 y2 => q_laws_eqNameS [.c (.n (.sl 3 (encRw y1))), .c (.n (.sl 3 (encRw y2)))]) a1 a2 (fun x1 => K (.c (.n (.v (.bool x1)))) []) := by kernel_rfl
theorem Gok : (G laws_szNameS.Q laws_toNameS.Q spec_ById.Q impl_ById.Q laws_eqNameS.Q).ok Try.prog := ⟨(by
    intro ρ f args K r h
    rcases sel_cases h with ⟨hb, h⟩ | ⟨-, h⟩
    · obtain rfl := beq_nat hb
      exact qEntry_ok laws_szNameS.ac h
    rcases sel_cases h with ⟨hb, h⟩ | ⟨-, h⟩
    · obtain rfl := beq_nat hb
      exact qEntry_ok laws_toNameS.ac h
    rcases sel_cases h with ⟨hb, h⟩ | ⟨-, h⟩
    · obtain rfl := beq_nat hb
      exact qEntry_ok spec_ById.ac h
    rcases sel_cases h with ⟨hb, h⟩ | ⟨-, h⟩
    · obtain rfl := beq_nat hb
      exact qEntry_ok impl_ById.ac h
    rcases sel_cases h with ⟨hb, h⟩ | ⟨-, h⟩
    · obtain rfl := beq_nat hb
      exact qEntry_ok laws_eqNameS.ac h
    cases h),
  (by
    intro ρ f args K
    simp only [G]
    cases Nat.beq f 26 with
    | true => exact qEntry_nat args K
    | false =>
    simp only [sel]
    cases Nat.beq f 28 with
    | true => exact qEntry_nat args K
    | false =>
    simp only [sel]
    cases Nat.beq f 31 with
    | true => exact qEntry_nat args K
    | false =>
    simp only [sel]
    cases Nat.beq f 32 with
    | true => exact qEntry_nat args K
    | false =>
    simp only [sel]
    cases Nat.beq f 30 with
    | true => exact qEntry_nat args K
    | false =>
    simp only [sel]
    rfl),
  (fun ρ f st caps args dst K r h => (by cases h))⟩
theorem hm : Try.prog.follows .mixedOrders = true := by kernel_rfl
theorem e : atomsL [] 0 (bodyOf Try.f9) = [] := by kernel_rfl
theorem acc (t : (Vec (ByteArray × Int × Int)) × Int) (x : Bool) (h : F t.1 t.2 = some x) : ACc Try.prog 9 (encA t) [] true [] fun rv obs => (rv, obs) = encR x := by
  refine fun_okc (L := (L)) (jn := []) (cmds := []) (ks := []) (hin := []) (fn := Try.f9) (body := (bodyOf Try.f9)) Gok hm Try.func9 (by kernel_rfl) (by kernel_rfl) (by rw [e]; exact Lor.ok_nil _ _) ?_ h
  refine (main laws_szNameS.Q laws_toNameS.Q spec_ById.Q impl_ById.Q laws_eqNameS.Q _ t.1 t.2).trans ?_
  rw [laws_szNameS.wrap, laws_toNameS.wrap, spec_ById.wrap, impl_ById.wrap, laws_eqNameS.wrap]
  refine congrArg (fun K => B laws_szNameS.F laws_toNameS.F spec_ById.F impl_ById.F laws_eqNameS.F t.1 t.2 K) ?_
  funext x1
  exact ofC_enc encRI some (x1)
theorem ac0 (t : (Vec (ByteArray × Int × Int)) × Int) (x : Bool) (h : F t.1 t.2 = some x) : AC Try.prog 9 (encA t) [] true [] fun rv obs => (rv, obs) = encR x := ACc.ac (body := bodyOf Try.f9) Try.func9 (by kernel_rfl) (by kernel_rfl) (acc t x h)
theorem ac (args : List AV) (x : Bool) (h : Q args = some x) : AC Try.prog 9 args [] false [] fun rv obs => (rv, obs) = encR x := by
  obtain ⟨t, rfl, h2⟩ := ofC_some h
  refine (ac0 t x h2).flat fun rv obs e => ?_
  obtain rfl : rv = (encR x).1 := congrArg Prod.fst e
  obtain rfl : obs = (encR x).2 := congrArg Prod.snd e
  refine ⟨by simp [encR, AV.Flat, K.Flat, C.Flat], ?_⟩
  simp [encR]
end laws_FnExactById
end Go.Al
