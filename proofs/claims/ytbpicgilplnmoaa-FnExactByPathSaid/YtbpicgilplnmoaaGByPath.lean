import Derived.Test.YtbpicgilplnmoaaGNamesOk
set_option linter.unusedVariables false
set_option linter.unusedSimpArgs false
set_option maxRecDepth 100000
namespace Go.Al
open Go.Proofs

/-! loop.example/g00073/spec.l13Path -/
namespace spec_l13Path
noncomputable def B0 {ρ : Type} (v1 : Vec (ByteArray × Int × Int)) (v2 : ByteArray) (v3 : Int) (W : (Vec (ByteArray × Int × Int)) → ByteArray → Int → Option ρ) (K0 : Unit → Option ρ) (Kr : Int → Option ρ) : Option ρ :=
  sel (decide (v3 < (v1.n : Int))) (chk (decide (0 ≤ v3 ∧ v3 < (v1.n : Int))) (sel (decide ((v1.g v3.toNat).1 = v2)) (Kr v3) (W v1 v2 (wr (v3 + (1 : Int)))))) (K0 ())
noncomputable def F0 {ρ : Type} : Nat → (Vec (ByteArray × Int × Int)) → ByteArray → Int → (Unit → Option ρ) → (Int → Option ρ) → Option ρ
  | 0, _, _, _, _, _ => none
  | k + 1, v1, v2, v3, K0, Kr => B0 v1 v2 v3 (fun v1' v2' v3' => F0 k v1' v2' v3' K0 Kr) K0 Kr
noncomputable def B {ρ : Type} (L0 : (Vec (ByteArray × Int × Int)) → ByteArray → Int → (Unit → Option ρ) → (Int → Option ρ) → Option ρ) (a1 : Vec (ByteArray × Int × Int)) (a2 : ByteArray) (K : Int → Option ρ) : Option ρ :=
  L0 a1 a2 (0 : Int) (fun _ => K (-1 : Int)) (fun x01 => K x01)
noncomputable def F (a1 : Vec (ByteArray × Int × Int)) (a2 : ByteArray) : Option Int := B (F0 fuelN) a1 a2 (fun x1 => some (x1))
def encA (t : (Vec (ByteArray × Int × Int)) × ByteArray) : List AV := [.c (.n (.sl 3 (encRw t.1))), .c (.n (.v (.string t.2)))]
def encR (x : Int) : AV × List Ob := (.c (.n (.v (.int .i64 x))), [])
theorem encAI : ∀ a b, encA a = encA b → a = b := by
  intro a b h
  obtain ⟨a0, a1⟩ := a
  obtain ⟨b0, b1⟩ := b
  simp [encA, encRw_iff] at h
  simp_all
theorem encRI : ∀ a b, encR a = encR b → a = b := by
  intro a b h
  simp [encR, encRw_iff] at h
  simp_all
noncomputable def Q (args : List AV) : Option Int := ofC encA (fun t => F t.1 t.2) args
theorem wrap : (fun (y1 : Vec (ByteArray × Int × Int)) (y2 : ByteArray) => Q [.c (.n (.sl 3 (encRw y1))), .c (.n (.v (.string y2)))]) = F := by
  funext y1 y2
  exact ofC_enc encAI _ (y1, y2)
noncomputable def G : Orc := ⟨fun f => 9, fun ρ f args K => Option.none, noE⟩
noncomputable def L (W0 : (ρ : Type) → List AV → List Ob → (Unit → Option ρ) → (Int → Option ρ) → Option ρ) : Lor := fun ρ j st K => sel (Nat.beq j 0) (cutO Try.prog 20 [0, 1, 5] 0 [] [] st fun avs obs => W0 ρ avs obs (fun _ => K (.exit 0) (mkS 20 [] [] [] [])) (fun z1 => K .ret (mkS 20 [4] [.c (.n (.v (.int .i64 z1)))] [] []))) (Option.none)
noncomputable def c0 : Code := loopC (atomN [] 0 (bodyOf Try.f69) 0)
def ct0 : Cut := ⟨[0, 1, 5], []⟩
def lv0 : Exit → Cut
  | .exit 0 => ⟨[], []⟩
  | .ret => ⟨[4], []⟩
  | _ => ⟨[], []⟩
theorem step0 (W0 : (ρ : Type) → List AV → List Ob → (Unit → Option ρ) → (Int → Option ρ) → Option ρ) {ρ : Type} (K : Exit → St → Option ρ) (W : List AV → List Ob → Option ρ) (v1 : Vec (ByteArray × Int × Int)) (v2 : ByteArray) (v3 : Int) : exC Try.prog (G) (L W0) [] 1 c0 (mkS 20 [0, 1, 5] [.c (.n (.sl 3 (encRw v1))), .c (.n (.v (.string v2))), .c (.n (.v (.int .i64 v3)))] [] []) (bodyK Try.prog 20 0 [] ct0 W lv0 K) =
    B0 v1 v2 v3 (fun u1 u2 u3 => W [.c (.n (.sl 3 (encRw u1))), .c (.n (.v (.string u2))), .c (.n (.v (.int .i64 u3)))] []) (fun _ => K (.exit 0) (mkS 20 [] [] [] [])) (fun z1 => K .ret (mkS 20 [4] [.c (.n (.v (.int .i64 z1)))] [] [])) := by kernel_rfl
def enc0 (t : (Vec (ByteArray × Int × Int)) × ByteArray × Int) : List AV × List Ob := ([.c (.n (.sl 3 (encRw t.1))), .c (.n (.v (.string t.2.1))), .c (.n (.v (.int .i64 t.2.2)))], [])
theorem enc0I : ∀ a b, enc0 a = enc0 b → a = b := by
  intro a b h
  obtain ⟨a0, a1, a2⟩ := a
  obtain ⟨b0, b1, b2⟩ := b
  simp [enc0, encRw_iff] at h
  simp_all
noncomputable def V0 : (ρ : Type) → List AV → List Ob → (Unit → Option ρ) → (Int → Option ρ) → Option ρ := fun ρ avs obs k0 kr => ofC enc0 (fun t => F0 fuelN t.1 t.2.1 t.2.2 k0 kr) (avs, obs)
theorem V0_enc (ρ : Type) : (fun w1 w2 w3 k0 kr => V0 ρ [.c (.n (.sl 3 (encRw w1))), .c (.n (.v (.string w2))), .c (.n (.v (.int .i64 w3)))] [] k0 kr) = F0 fuelN := by
  funext w1 w2 w3 k0 kr
  exact ofC_enc enc0I _ (w1, w2, w3)
theorem main (W0 : (ρ : Type) → List AV → List Ob → (Unit → Option ρ) → (Int → Option ρ) → Option ρ) {ρ : Type} (K : AV → List Ob → Option ρ) (a1 : Vec (ByteArray × Int × Int)) (a2 : ByteArray) : exC Try.prog (G) (L W0) [] 0 (bodyOf Try.f69) (entry 20 [.c (.n (.sl 3 (encRw a1))), .c (.n (.v (.string a2)))] [] []) (finO Try.prog Try.f69.results.toList 0 [] [] K) =
    B (fun w1 w2 w3 k0 kr => W0 ρ [.c (.n (.sl 3 (encRw w1))), .c (.n (.v (.string w2))), .c (.n (.v (.int .i64 w3)))] [] k0 kr) a1 a2 (fun x1 => K (.c (.n (.v (.int .i64 x1)))) []) := by kernel_rfl
theorem Gok : (G).ok Try.prog := ⟨(fun ρ f args K r h => (by cases h)),
  (fun ρ f args K => rfl),
  (fun ρ f st caps args dst K r h => (by cases h))⟩
theorem hm : Try.prog.follows .mixedOrders = true := by kernel_rfl
theorem e0 : atomsL [] 1 c0 = [] := by kernel_rfl
theorem ok0 (ρ : Type) (st : St) (K : Exit → St → Option ρ) (r : ρ) (h : (L V0) ρ 0 st K = some r) : AW Try.prog (.loop c0) st fun e st' => K e st' = some r := by
  refine loop_ok (ct := ct0) (lv := lv0) (n := 20) (m := 0) (ks := []) (j := 0) (jn := []) (L := (L V0)) Gok hm (by rw [e0]; exact Lor.ok_nil _ _) enc0I (fun k t => F0 k t.1 t.2.1 t.2.2 (fun _ => K (.exit 0) (mkS 20 [] [] [] [])) (fun z1 => K .ret (mkS 20 [4] [.c (.n (.v (.int .i64 z1)))] [] []))) (fun t => rfl) (fun k t => ?_) (fun _ => fuelN) h
  refine (step0 V0 K _ t.1 t.2.1 t.2.2).trans ?_
  refine congrArg (fun W => B0 t.1 t.2.1 t.2.2 W (fun _ => K (.exit 0) (mkS 20 [] [] [] [])) (fun z1 => K .ret (mkS 20 [4] [.c (.n (.v (.int .i64 z1)))] [] []))) ?_
  funext u1 u2 u3
  exact ofC_enc enc0I _ (u1, u2, u3)
theorem e : atomsL [] 0 (bodyOf Try.f69) = [(0, 0, .loop c0)] := by kernel_rfl
theorem acc (t : (Vec (ByteArray × Int × Int)) × ByteArray) (x : Int) (h : F t.1 t.2 = some x) : ACc Try.prog 69 (encA t) [] true [] fun rv obs => (rv, obs) = encR x := by
  refine fun_okc (L := (L V0)) (jn := []) (cmds := []) (ks := []) (hin := []) (fn := Try.f69) (body := (bodyOf Try.f69)) Gok hm Try.func69 (by kernel_rfl) (by kernel_rfl) (by rw [e]; exact Lor.ok_cons ok0 (Lor.ok_nil _ _)) ?_ h
  refine (main V0 _ t.1 t.2).trans ?_
  rw [V0_enc]
  refine congrArg (fun K => B (F0 fuelN) t.1 t.2 K) ?_
  funext x1
  exact ofC_enc encRI some (x1)
theorem ac0 (t : (Vec (ByteArray × Int × Int)) × ByteArray) (x : Int) (h : F t.1 t.2 = some x) : AC Try.prog 69 (encA t) [] true [] fun rv obs => (rv, obs) = encR x := ACc.ac (body := bodyOf Try.f69) Try.func69 (by kernel_rfl) (by kernel_rfl) (acc t x h)
theorem ac (args : List AV) (x : Int) (h : Q args = some x) : AC Try.prog 69 args [] false [] fun rv obs => (rv, obs) = encR x := by
  obtain ⟨t, rfl, h2⟩ := ofC_some h
  refine (ac0 t x h2).flat fun rv obs e => ?_
  obtain rfl : rv = (encR x).1 := congrArg Prod.fst e
  obtain rfl : obs = (encR x).2 := congrArg Prod.snd e
  refine ⟨by simp [encR, AV.Flat, K.Flat, C.Flat], ?_⟩
  simp [encR]
end spec_l13Path
/-! loop.example/g00073/spec.ByPath -/
namespace spec_ByPath
noncomputable def B {ρ : Type} (C_spec_NamesOk : (Vec (ByteArray × Int × Int)) → Option Bool) (C_spec_l13Path : (Vec (ByteArray × Int × Int)) → ByteArray → Option Int) (a1 : Vec (ByteArray × Int × Int)) (a2 : ByteArray) (K : Int → Option ρ) : Option ρ :=
  (C_spec_NamesOk a1).bind fun r1 => sel ((!r1)) (K (-1 : Int)) ((C_spec_l13Path a1 a2).bind fun r2 => K r2)
noncomputable def F (a1 : Vec (ByteArray × Int × Int)) (a2 : ByteArray) : Option Int := B spec_NamesOk.F spec_l13Path.F a1 a2 (fun x1 => some (x1))
def encA (t : (Vec (ByteArray × Int × Int)) × ByteArray) : List AV := [.c (.n (.sl 3 (encRw t.1))), .c (.n (.v (.string t.2)))]
def encR (x : Int) : AV × List Ob := (.c (.n (.v (.int .i64 x))), [])
theorem encAI : ∀ a b, encA a = encA b → a = b := by
  intro a b h
  obtain ⟨a0, a1⟩ := a
  obtain ⟨b0, b1⟩ := b
  simp [encA, encRw_iff] at h
  simp_all
theorem encRI : ∀ a b, encR a = encR b → a = b := by
  intro a b h
  simp [encR, encRw_iff] at h
  simp_all
noncomputable def Q (args : List AV) : Option Int := ofC encA (fun t => F t.1 t.2) args
theorem wrap : (fun (y1 : Vec (ByteArray × Int × Int)) (y2 : ByteArray) => Q [.c (.n (.sl 3 (encRw y1))), .c (.n (.v (.string y2)))]) = F := by
  funext y1 y2
  exact ofC_enc encAI _ (y1, y2)
noncomputable def G (q_spec_NamesOk : List AV → Option Bool) (q_spec_l13Path : List AV → Option Int) : Orc := ⟨fun f => sel (Nat.beq f 27) 0 (sel (Nat.beq f 69) 0 (9)), fun ρ f args K => sel (Nat.beq f 27) (qEntry spec_NamesOk.encR q_spec_NamesOk args K) (sel (Nat.beq f 69) (qEntry spec_l13Path.encR q_spec_l13Path args K) (Option.none)), noE⟩
noncomputable def L : Lor := fun ρ j st K => Option.none
theorem main (q_spec_NamesOk : List AV → Option Bool) (q_spec_l13Path : List AV → Option Int) {ρ : Type} (K : AV → List Ob → Option ρ) (a1 : Vec (ByteArray × Int × Int)) (a2 : ByteArray) : exC Try.prog (G q_spec_NamesOk q_spec_l13Path) (L) [] 0 (bodyOf Try.f38) (entry 11 [.c (.n (.sl 3 (encRw a1))), .c (.n (.v (.string a2)))] [] []) (finO Try.prog Try.f38.results.toList 0 [] [] K) =
    B (fun y1 => q_spec_NamesOk [.c (.n (.sl 3 (encRw y1)))]) (fun y1 y2 => q_spec_l13Path [.c (.n (.sl 3 (encRw y1))), .c (.n (.v (.string y2)))]) a1 a2 (fun x1 => K (.c (.n (.v (.int .i64 x1)))) []) := by kernel_rfl
theorem Gok : (G spec_NamesOk.Q spec_l13Path.Q).ok Try.prog := ⟨(by
    intro ρ f args K r h
    rcases sel_cases h with ⟨hb, h⟩ | ⟨-, h⟩
    · obtain rfl := beq_nat hb
      exact qEntry_ok spec_NamesOk.ac h
    rcases sel_cases h with ⟨hb, h⟩ | ⟨-, h⟩
    · obtain rfl := beq_nat hb
      exact qEntry_ok spec_l13Path.ac h
    cases h),
  (by
    intro ρ f args K
    simp only [G]
    cases Nat.beq f 27 with
    | true => exact qEntry_nat args K
    | false =>
    simp only [sel]
    cases Nat.beq f 69 with
    | true => exact qEntry_nat args K
    | false =>
    simp only [sel]
    rfl),
  (fun ρ f st caps args dst K r h => (by cases h))⟩
theorem hm : Try.prog.follows .mixedOrders = true := by kernel_rfl
theorem e : atomsL [] 0 (bodyOf Try.f38) = [] := by kernel_rfl
theorem acc (t : (Vec (ByteArray × Int × Int)) × ByteArray) (x : Int) (h : F t.1 t.2 = some x) : ACc Try.prog 38 (encA t) [] true [] fun rv obs => (rv, obs) = encR x := by
  refine fun_okc (L := (L)) (jn := []) (cmds := []) (ks := []) (hin := []) (fn := Try.f38) (body := (bodyOf Try.f38)) Gok hm Try.func38 (by kernel_rfl) (by kernel_rfl) (by rw [e]; exact Lor.ok_nil _ _) ?_ h
  refine (main spec_NamesOk.Q spec_l13Path.Q _ t.1 t.2).trans ?_
  rw [spec_NamesOk.wrap, spec_l13Path.wrap]
  refine congrArg (fun K => B spec_NamesOk.F spec_l13Path.F t.1 t.2 K) ?_
  funext x1
  exact ofC_enc encRI some (x1)
theorem ac0 (t : (Vec (ByteArray × Int × Int)) × ByteArray) (x : Int) (h : F t.1 t.2 = some x) : AC Try.prog 38 (encA t) [] true [] fun rv obs => (rv, obs) = encR x := ACc.ac (body := bodyOf Try.f38) Try.func38 (by kernel_rfl) (by kernel_rfl) (acc t x h)
theorem ac (args : List AV) (x : Int) (h : Q args = some x) : AC Try.prog 38 args [] false [] fun rv obs => (rv, obs) = encR x := by
  obtain ⟨t, rfl, h2⟩ := ofC_some h
  refine (ac0 t x h2).flat fun rv obs e => ?_
  obtain rfl : rv = (encR x).1 := congrArg Prod.fst e
  obtain rfl : obs = (encR x).2 := congrArg Prod.snd e
  refine ⟨by simp [encR, AV.Flat, K.Flat, C.Flat], ?_⟩
  simp [encR]
end spec_ByPath
/-! loop.example/g00073/impl.pathAt$1 -/
namespace impl_pathAt_1_sbb22
noncomputable def B {ρ : Type} (a1 : ByteArray) (a2 : Int) (a3 : Int) (a4 : ByteArray) (K : Bool → Option ρ) : Option ρ :=
  K (decide (a1 = a4))
noncomputable def F (a1 : ByteArray) (a2 : Int) (a3 : Int) (a4 : ByteArray) : Option Bool := B a1 a2 a3 a4 (fun x1 => some (x1))
def encA (t : ByteArray × Int × Int × ByteArray) : List AV := [.a [.n (.v (.string t.1)), .n (.v (.int .i64 t.2.1)), .n (.v (.int .i64 t.2.2.1))], .ra [.v (.string t.2.2.2)]]
def encR (x : Bool) : AV × List Ob := (.c (.n (.v (.bool x))), [])
theorem encAI : ∀ a b, encA a = encA b → a = b := by
  intro a b h
  obtain ⟨a0, a1, a2, a3⟩ := a
  obtain ⟨b0, b1, b2, b3⟩ := b
  simp [encA, encRw_iff] at h
  simp_all
theorem encRI : ∀ a b, encR a = encR b → a = b := by
  intro a b h
  simp [encR, encRw_iff] at h
  simp_all
noncomputable def Q (args : List AV) : Option Bool := ofC encA (fun t => F t.1 t.2.1 t.2.2.1 t.2.2.2) args
theorem wrap : (fun (y1 : ByteArray) (y2 : Int) (y3 : Int) (y4 : ByteArray) => Q [.a [.n (.v (.string y1)), .n (.v (.int .i64 y2)), .n (.v (.int .i64 y3))], .ra [.v (.string y4)]]) = F := by
  funext y1 y2 y3 y4
  exact ofC_enc encAI _ (y1, y2, y3, y4)
noncomputable def G : Orc := ⟨fun f => 9, fun ρ f args K => Option.none, noE⟩
noncomputable def L : Lor := fun ρ j st K => Option.none
theorem main {ρ : Type} (K : AV → List Ob → Option ρ) (a1 : ByteArray) (a2 : Int) (a3 : Int) (a4 : ByteArray) : exC Try.prog (G) (L) [] 0 (bodyOf Try.f93) (entry 8 [.a [.n (.v (.string a1)), .n (.v (.int .i64 a2)), .n (.v (.int .i64 a3))], .ra [.v (.string a4)]] [] []) (finO Try.prog Try.f93.results.toList 0 [] [] K) =
    B a1 a2 a3 a4 (fun x1 => K (.c (.n (.v (.bool x1)))) []) := by kernel_rfl
theorem Gok : (G).ok Try.prog := ⟨(fun ρ f args K r h => (by cases h)),
  (fun ρ f args K => rfl),
  (fun ρ f st caps args dst K r h => (by cases h))⟩
theorem hm : Try.prog.follows .mixedOrders = true := by kernel_rfl
theorem e : atomsL [] 0 (bodyOf Try.f93) = [] := by kernel_rfl
theorem acc (t : ByteArray × Int × Int × ByteArray) (x : Bool) (h : F t.1 t.2.1 t.2.2.1 t.2.2.2 = some x) : ACc Try.prog 93 (encA t) [] true [] fun rv obs => (rv, obs) = encR x := by
  refine fun_okc (L := (L)) (jn := []) (cmds := []) (ks := []) (hin := []) (fn := Try.f93) (body := (bodyOf Try.f93)) Gok hm Try.func93 (by kernel_rfl) (by kernel_rfl) (by rw [e]; exact Lor.ok_nil _ _) ?_ h
  refine (main _ t.1 t.2.1 t.2.2.1 t.2.2.2).trans ?_
  refine congrArg (fun K => B t.1 t.2.1 t.2.2.1 t.2.2.2 K) ?_
  funext x1
  exact ofC_enc encRI some (x1)
theorem ac0 (t : ByteArray × Int × Int × ByteArray) (x : Bool) (h : F t.1 t.2.1 t.2.2.1 t.2.2.2 = some x) : AC Try.prog 93 (encA t) [] true [] fun rv obs => (rv, obs) = encR x := ACc.ac (body := bodyOf Try.f93) Try.func93 (by kernel_rfl) (by kernel_rfl) (acc t x h)
theorem ac (args : List AV) (x : Bool) (h : Q args = some x) : AC Try.prog 93 args [] false [] fun rv obs => (rv, obs) = encR x := by
  obtain ⟨t, rfl, h2⟩ := ofC_some h
  refine (ac0 t x h2).flat fun rv obs e => ?_
  obtain rfl : rv = (encR x).1 := congrArg Prod.fst e
  obtain rfl : obs = (encR x).2 := congrArg Prod.snd e
  refine ⟨by simp [encR, AV.Flat, K.Flat, C.Flat], ?_⟩
  simp [encR]
end impl_pathAt_1_sbb22
/-! slices.IndexFunc(()loop.example/g00073/impl.Name,loop.example/g00073/impl.Name) -/
namespace slices_IndexFunc_impl_Name_sb609
noncomputable def B0 {ρ : Type} (C_impl_pathAt_1_sbb22 : ByteArray → Int → Int → ByteArray → Option Bool) (v1 : Vec (ByteArray × Int × Int)) (v2 : Int) (v3 : Int) (v4 : ByteArray) (W : (Vec (ByteArray × Int × Int)) → Int → Int → ByteArray → Option ρ) (K0 : ByteArray → Option ρ) (Kr : Int → ByteArray → Option ρ) : Option ρ :=
  sel (decide (v3 < v2)) (chk (decide (0 ≤ v3 ∧ v3 < (v1.n : Int))) ((C_impl_pathAt_1_sbb22 ((v1.g v3.toNat).1) ((v1.g v3.toNat).2.1) ((v1.g v3.toNat).2.2) v4).bind fun r1 => sel (r1) (Kr v3 v4) (W v1 v2 (wr (v3 + (1 : Int))) v4))) (K0 v4)
noncomputable def F0 {ρ : Type} : Nat → (Vec (ByteArray × Int × Int)) → Int → Int → ByteArray → (ByteArray → Option ρ) → (Int → ByteArray → Option ρ) → Option ρ
  | 0, _, _, _, _, _, _ => none
  | k + 1, v1, v2, v3, v4, K0, Kr => B0 impl_pathAt_1_sbb22.F v1 v2 v3 v4 (fun v1' v2' v3' v4' => F0 k v1' v2' v3' v4' K0 Kr) K0 Kr
noncomputable def B {ρ : Type} (L0 : (Vec (ByteArray × Int × Int)) → Int → Int → ByteArray → (ByteArray → Option ρ) → (Int → ByteArray → Option ρ) → Option ρ) (a1 : Vec (ByteArray × Int × Int)) (a2 : ByteArray) (K : Int → ByteArray → Option ρ) : Option ρ :=
  L0 a1 (a1.n : Int) (0 : Int) a2 (fun e01 => K (-1 : Int) e01) (fun x01 x02 => K x01 x02)
noncomputable def F (a1 : Vec (ByteArray × Int × Int)) (a2 : ByteArray) : Option (Int × ByteArray) := B (F0 fuelN) a1 a2 (fun x1 x2 => some (x1, x2))
def encA (t : (Vec (ByteArray × Int × Int)) × ByteArray) : List AV × List Ob := ([.c (.n (.sl 3 (encRw t.1))), .fn 93 [.p 0 0]], [.box [.n (.v (.string t.2))]])
def encR (x : Int × ByteArray) : AV × List Ob := (.c (.n (.v (.int .i64 x.1))), [.box [.n (.v (.string x.2))]])
theorem encAI : ∀ a b, encA a = encA b → a = b := by
  intro a b h
  obtain ⟨a0, a1⟩ := a
  obtain ⟨b0, b1⟩ := b
  simp [encA, encRw_iff] at h
  simp_all
theorem encRI : ∀ a b, encR a = encR b → a = b := by
  intro a b h
  obtain ⟨a0, a1⟩ := a
  obtain ⟨b0, b1⟩ := b
  simp [encR, encRw_iff] at h
  simp_all
noncomputable def Q (args : List AV) (hin : List Ob) : Option (Int × ByteArray) := ofC encA (fun t => F t.1 t.2) (args, hin)
theorem wrap : (fun (y1 : Vec (ByteArray × Int × Int)) (y2 : ByteArray) => Q [.c (.n (.sl 3 (encRw y1))), .fn 93 [.p 0 0]] [.box [.n (.v (.string y2))]]) = F := by
  funext y1 y2
  exact ofC_enc encAI _ (y1, y2)
noncomputable def G (q_impl_pathAt_1_sbb22 : List AV → Option Bool) : Orc := ⟨fun f => sel (Nat.beq f 93) 0 (9), fun ρ f args K => sel (Nat.beq f 93) (qEntry impl_pathAt_1_sbb22.encR q_impl_pathAt_1_sbb22 args K) (Option.none), noE⟩
noncomputable def L (W0 : (ρ : Type) → List AV → List Ob → (ByteArray → Option ρ) → (Int → ByteArray → Option ρ) → Option ρ) : Lor := fun ρ j st K => sel (Nat.beq j 0) (cutO Try.prog 19 [0, 1, 7, 8] 1 [true] [] st fun avs obs => W0 ρ avs obs (fun z1 => K (.exit 0) (mkS 19 [] [] [.box [.n (.v (.string z1))]] [true])) (fun z1 z2 => K .ret (mkS 19 [4] [.c (.n (.v (.int .i64 z1)))] [.box [.n (.v (.string z2))]] [true]))) (Option.none)
noncomputable def c0 : Code := loopC (atomN [] 0 (bodyOf Try.f82) 0)
def ct0 : Cut := ⟨[0, 1, 7, 8], []⟩
def lv0 : Exit → Cut
  | .exit 0 => ⟨[], []⟩
  | .ret => ⟨[4], []⟩
  | _ => ⟨[], []⟩
theorem step0 (q_impl_pathAt_1_sbb22 : List AV → Option Bool) (W0 : (ρ : Type) → List AV → List Ob → (ByteArray → Option ρ) → (Int → ByteArray → Option ρ) → Option ρ) {ρ : Type} (K : Exit → St → Option ρ) (W : List AV → List Ob → Option ρ) (v1 : Vec (ByteArray × Int × Int)) (v2 : Int) (v3 : Int) (v4 : ByteArray) : exC Try.prog (G q_impl_pathAt_1_sbb22) (L W0) [] 1 c0 (mkS 19 [0, 1, 7, 8] [.c (.n (.sl 3 (encRw v1))), .fn 93 [.p 0 0], .c (.n (.v (.int .i64 v2))), .c (.n (.v (.int .i64 v3)))] [.box [.n (.v (.string v4))]] [true]) (bodyK Try.prog 19 1 [true] ct0 W lv0 K) =
    B0 (fun y1 y2 y3 y4 => q_impl_pathAt_1_sbb22 [.a [.n (.v (.string y1)), .n (.v (.int .i64 y2)), .n (.v (.int .i64 y3))], .ra [.v (.string y4)]]) v1 v2 v3 v4 (fun u1 u2 u3 u4 => W [.c (.n (.sl 3 (encRw u1))), .fn 93 [.p 0 0], .c (.n (.v (.int .i64 u2))), .c (.n (.v (.int .i64 u3)))] [.box [.n (.v (.string u4))]]) (fun z1 => K (.exit 0) (mkS 19 [] [] [.box [.n (.v (.string z1))]] [true])) (fun z1 z2 => K .ret (mkS 19 [4] [.c (.n (.v (.int .i64 z1)))] [.box [.n (.v (.string z2))]] [true])) := by kernel_rfl
def enc0 (t : (Vec (ByteArray × Int × Int)) × Int × Int × ByteArray) : List AV × List Ob := ([.c (.n (.sl 3 (encRw t.1))), .fn 93 [.p 0 0], .c (.n (.v (.int .i64 t.2.1))), .c (.n (.v (.int .i64 t.2.2.1)))], [.box [.n (.v (.string t.2.2.2))]])
theorem enc0I : ∀ a b, enc0 a = enc0 b → a = b := by
  intro a b h
  obtain ⟨a0, a1, a2, a3⟩ := a
  obtain ⟨b0, b1, b2, b3⟩ := b
  simp [enc0, encRw_iff] at h
  simp_all
noncomputable def V0 : (ρ : Type) → List AV → List Ob → (ByteArray → Option ρ) → (Int → ByteArray → Option ρ) → Option ρ := fun ρ avs obs k0 kr => ofC enc0 (fun t => F0 fuelN t.1 t.2.1 t.2.2.1 t.2.2.2 k0 kr) (avs, obs)
theorem V0_enc (ρ : Type) : (fun w1 w2 w3 w4 k0 kr => V0 ρ [.c (.n (.sl 3 (encRw w1))), .fn 93 [.p 0 0], .c (.n (.v (.int .i64 w2))), .c (.n (.v (.int .i64 w3)))] [.box [.n (.v (.string w4))]] k0 kr) = F0 fuelN := by
  funext w1 w2 w3 w4 k0 kr
  exact ofC_enc enc0I _ (w1, w2, w3, w4)
theorem main (q_impl_pathAt_1_sbb22 : List AV → Option Bool) (W0 : (ρ : Type) → List AV → List Ob → (ByteArray → Option ρ) → (Int → ByteArray → Option ρ) → Option ρ) {ρ : Type} (K : AV → List Ob → Option ρ) (a1 : Vec (ByteArray × Int × Int)) (a2 : ByteArray) : exC Try.prog (G q_impl_pathAt_1_sbb22) (L W0) [] 0 (bodyOf Try.f82) (entry 19 [.c (.n (.sl 3 (encRw a1))), .fn 93 [.p 0 0]] [.box [.n (.v (.string a2))]] [true]) (finO Try.prog Try.f82.results.toList 1 [true] [] K) =
    B (fun w1 w2 w3 w4 k0 kr => W0 ρ [.c (.n (.sl 3 (encRw w1))), .fn 93 [.p 0 0], .c (.n (.v (.int .i64 w2))), .c (.n (.v (.int .i64 w3)))] [.box [.n (.v (.string w4))]] k0 kr) a1 a2 (fun x1 x2 => K (.c (.n (.v (.int .i64 x1)))) [.box [.n (.v (.string x2))]]) := by kernel_rfl
theorem Gok : (G impl_pathAt_1_sbb22.Q).ok Try.prog := ⟨(by
    intro ρ f args K r h
    rcases sel_cases h with ⟨hb, h⟩ | ⟨-, h⟩
    · obtain rfl := beq_nat hb
      exact qEntry_ok impl_pathAt_1_sbb22.ac h
    cases h),
  (by
    intro ρ f args K
    simp only [G]
    cases Nat.beq f 93 with
    | true => exact qEntry_nat args K
    | false =>
    simp only [sel]
    rfl),
  (fun ρ f st caps args dst K r h => (by cases h))⟩
theorem hm : Try.prog.follows .mixedOrders = true := by kernel_rfl
theorem e0 : atomsL [] 1 c0 = [] := by kernel_rfl
theorem ok0 (ρ : Type) (st : St) (K : Exit → St → Option ρ) (r : ρ) (h : (L V0) ρ 0 st K = some r) : AW Try.prog (.loop c0) st fun e st' => K e st' = some r := by
  refine loop_ok (ct := ct0) (lv := lv0) (n := 19) (m := 1) (ks := [true]) (j := 0) (jn := []) (L := (L V0)) Gok hm (by rw [e0]; exact Lor.ok_nil _ _) enc0I (fun k t => F0 k t.1 t.2.1 t.2.2.1 t.2.2.2 (fun z1 => K (.exit 0) (mkS 19 [] [] [.box [.n (.v (.string z1))]] [true])) (fun z1 z2 => K .ret (mkS 19 [4] [.c (.n (.v (.int .i64 z1)))] [.box [.n (.v (.string z2))]] [true]))) (fun t => rfl) (fun k t => ?_) (fun _ => fuelN) h
  refine (step0 impl_pathAt_1_sbb22.Q V0 K _ t.1 t.2.1 t.2.2.1 t.2.2.2).trans ?_
  rw [impl_pathAt_1_sbb22.wrap]
  refine congrArg (fun W => B0 impl_pathAt_1_sbb22.F t.1 t.2.1 t.2.2.1 t.2.2.2 W (fun z1 => K (.exit 0) (mkS 19 [] [] [.box [.n (.v (.string z1))]] [true])) (fun z1 z2 => K .ret (mkS 19 [4] [.c (.n (.v (.int .i64 z1)))] [.box [.n (.v (.string z2))]] [true]))) ?_
  funext u1 u2 u3 u4
  exact ofC_enc enc0I _ (u1, u2, u3, u4)
theorem e : atomsL [] 0 (bodyOf Try.f82) = [(0, 0, .loop c0)] := by kernel_rfl
theorem acc (t : (Vec (ByteArray × Int × Int)) × ByteArray) (x : Int × ByteArray) (h : F t.1 t.2 = some x) : ACc Try.prog 82 (encA t).1 (encA t).2 true [true] fun rv obs => (rv, obs) = encR x := by
  refine fun_okc (L := (L V0)) (jn := []) (cmds := []) (ks := [true]) (hin := (encA t).2) (fn := Try.f82) (body := (bodyOf Try.f82)) Gok hm Try.func82 (by kernel_rfl) (by kernel_rfl) (by rw [e]; exact Lor.ok_cons ok0 (Lor.ok_nil _ _)) ?_ h
  refine (main impl_pathAt_1_sbb22.Q V0 _ t.1 t.2).trans ?_
  rw [V0_enc]
  refine congrArg (fun K => B (F0 fuelN) t.1 t.2 K) ?_
  funext x1 x2
  exact ofC_enc encRI some (x1, x2)
theorem ac0 (t : (Vec (ByteArray × Int × Int)) × ByteArray) (x : Int × ByteArray) (h : F t.1 t.2 = some x) : AC Try.prog 82 (encA t).1 (encA t).2 true [true] fun rv obs => (rv, obs) = encR x := ACc.ac (body := bodyOf Try.f82) Try.func82 (by kernel_rfl) (by kernel_rfl) (acc t x h)
theorem ac (args : List AV) (hin : List Ob) (x : Int × ByteArray) (h : Q args hin = some x) : AC Try.prog 82 args hin false [true] fun rv obs => (rv, obs) = encR x := by
  obtain ⟨t, he, h2⟩ := ofC_some h
  obtain rfl : args = (encA t).1 := (congrArg Prod.fst he).symm
  obtain rfl : hin = (encA t).2 := (congrArg Prod.snd he).symm
  refine (ac0 t x h2).flat fun rv obs e => ?_
  obtain rfl : rv = (encR x).1 := congrArg Prod.fst e
  obtain rfl : obs = (encR x).2 := congrArg Prod.snd e
  refine ⟨by simp [encR, AV.Flat, K.Flat, C.Flat], ?_⟩
  intro o ho
  simp only [encR, List.mem_cons, List.not_mem_nil, or_false] at ho
  subst ho
  simp [Ob.Flat, C.Flat, N.Flat]
end slices_IndexFunc_impl_Name_sb609
/-! loop.example/g00073/impl.pathAt -/
namespace impl_pathAt
noncomputable def B {ρ : Type} (C_slices_IndexFunc_impl_Name_sb609 : (Vec (ByteArray × Int × Int)) → ByteArray → Option (Int × ByteArray)) (a1 : Vec (ByteArray × Int × Int)) (a2 : ByteArray) (K : Int → Option ρ) : Option ρ :=
  (C_slices_IndexFunc_impl_Name_sb609 a1 a2).bind fun r1 => K r1.1
noncomputable def F (a1 : Vec (ByteArray × Int × Int)) (a2 : ByteArray) : Option Int := B slices_IndexFunc_impl_Name_sb609.F a1 a2 (fun x1 => some (x1))
def encA (t : (Vec (ByteArray × Int × Int)) × ByteArray) : List AV := [.c (.n (.sl 3 (encRw t.1))), .c (.n (.v (.string t.2)))]
def encR (x : Int) : AV × List Ob := (.c (.n (.v (.int .i64 x))), [])
theorem encAI : ∀ a b, encA a = encA b → a = b := by
  intro a b h
  obtain ⟨a0, a1⟩ := a
  obtain ⟨b0, b1⟩ := b
  simp [encA, encRw_iff] at h
  simp_all
theorem encRI : ∀ a b, encR a = encR b → a = b := by
  intro a b h
  simp [encR, encRw_iff] at h
  simp_all
noncomputable def Q (args : List AV) : Option Int := ofC encA (fun t => F t.1 t.2) args
theorem wrap : (fun (y1 : Vec (ByteArray × Int × Int)) (y2 : ByteArray) => Q [.c (.n (.sl 3 (encRw y1))), .c (.n (.v (.string y2)))]) = F := by
  funext y1 y2
  exact ofC_enc encAI _ (y1, y2)
noncomputable def G (q_slices_IndexFunc_impl_Name_sb609 : List AV → List Ob → Option (Int × ByteArray)) : Orc := ⟨fun f => 9, fun ρ f args K => Option.none, fun ρ f st args dst K => sel (Nat.beq f 82) (callE Try.prog 82 [false, true] false [true] slices_IndexFunc_impl_Name_sb609.encR q_slices_IndexFunc_impl_Name_sb609 st args dst K) (Option.none)⟩
noncomputable def L : Lor := fun ρ j st K => Option.none
theorem main (q_slices_IndexFunc_impl_Name_sb609 : List AV → List Ob → Option (Int × ByteArray)) {ρ : Type} (K : AV → List Ob → Option ρ) (a1 : Vec (ByteArray × Int × Int)) (a2 : ByteArray) : exC Try.prog (G q_slices_IndexFunc_impl_Name_sb609) (L) [] 0 (bodyOf Try.f70) (entry 8 [.c (.n (.sl 3 (encRw a1))), .c (.n (.v (.string a2)))] [] []) (finO Try.prog Try.f70.results.toList 0 [] [] K) =
    B (fun y1 y2 => q_slices_IndexFunc_impl_Name_sb609 [.c (.n (.sl 3 (encRw y1))), .fn 93 [.p 0 0]] [.box [.n (.v (.string y2))]]) a1 a2 (fun x1 => K (.c (.n (.v (.int .i64 x1)))) []) := by kernel_rfl
theorem Gok : (G slices_IndexFunc_impl_Name_sb609.Q).ok Try.prog := ⟨(fun ρ f args K r h => (by cases h)),
  (fun ρ f args K => rfl),
  (by
    intro ρ f st caps args dst K r h
    rcases sel_cases h with ⟨hb, h⟩ | ⟨-, h⟩
    · obtain rfl := beq_nat hb
      exact callE_ok (fun h => by cases h) slices_IndexFunc_impl_Name_sb609.ac h
    cases h)⟩
theorem hm : Try.prog.follows .mixedOrders = true := by kernel_rfl
theorem e : atomsL [] 0 (bodyOf Try.f70) = [] := by kernel_rfl
theorem acc (t : (Vec (ByteArray × Int × Int)) × ByteArray) (x : Int) (h : F t.1 t.2 = some x) : ACc Try.prog 70 (encA t) [] true [] fun rv obs => (rv, obs) = encR x := by
  refine fun_okc (L := (L)) (jn := []) (cmds := []) (ks := []) (hin := []) (fn := Try.f70) (body := (bodyOf Try.f70)) Gok hm Try.func70 (by kernel_rfl) (by kernel_rfl) (by rw [e]; exact Lor.ok_nil _ _) ?_ h
  refine (main slices_IndexFunc_impl_Name_sb609.Q _ t.1 t.2).trans ?_
  rw [slices_IndexFunc_impl_Name_sb609.wrap]
  refine congrArg (fun K => B slices_IndexFunc_impl_Name_sb609.F t.1 t.2 K) ?_
  funext x1
  exact ofC_enc encRI some (x1)
theorem ac0 (t : (Vec (ByteArray × Int × Int)) × ByteArray) (x : Int) (h : F t.1 t.2 = some x) : AC Try.prog 70 (encA t) [] true [] fun rv obs => (rv, obs) = encR x := ACc.ac (body := bodyOf Try.f70) Try.func70 (by kernel_rfl) (by kernel_rfl) (acc t x h)
theorem ac (args : List AV) (x : Int) (h : Q args = some x) : AC Try.prog 70 args [] false [] fun rv obs => (rv, obs) = encR x := by
  obtain ⟨t, rfl, h2⟩ := ofC_some h
  refine (ac0 t x h2).flat fun rv obs e => ?_
  obtain rfl : rv = (encR x).1 := congrArg Prod.fst e
  obtain rfl : obs = (encR x).2 := congrArg Prod.snd e
  refine ⟨by simp [encR, AV.Flat, K.Flat, C.Flat], ?_⟩
  simp [encR]
end impl_pathAt
/-! loop.example/g00073/impl.ByPath -/
namespace impl_ByPath
noncomputable def B {ρ : Type} (C_impl_NamesOk : (Vec (ByteArray × Int × Int)) → Option Bool) (C_impl_pathAt : (Vec (ByteArray × Int × Int)) → ByteArray → Option Int) (a1 : Vec (ByteArray × Int × Int)) (a2 : ByteArray) (K : Int → Option ρ) : Option ρ :=
  (C_impl_NamesOk a1).bind fun r1 => sel ((!r1)) (K (-1 : Int)) ((C_impl_pathAt a1 a2).bind fun r2 => K r2)
noncomputable def F (a1 : Vec (ByteArray × Int × Int)) (a2 : ByteArray) : Option Int := B impl_NamesOk.F impl_pathAt.F a1 a2 (fun x1 => some (x1))
def encA (t : (Vec (ByteArray × Int × Int)) × ByteArray) : List AV := [.c (.n (.sl 3 (encRw t.1))), .c (.n (.v (.string t.2)))]
def encR (x : Int) : AV × List Ob := (.c (.n (.v (.int .i64 x))), [])
theorem encAI : ∀ a b, encA a = encA b → a = b := by
  intro a b h
  obtain ⟨a0, a1⟩ := a
  obtain ⟨b0, b1⟩ := b
  simp [encA, encRw_iff] at h
  simp_all
theorem encRI : ∀ a b, encR a = encR b → a = b := by
  intro a b h
  simp [encR, encRw_iff] at h
  simp_all
noncomputable def Q (args : List AV) : Option Int := ofC encA (fun t => F t.1 t.2) args
theorem wrap : (fun (y1 : Vec (ByteArray × Int × Int)) (y2 : ByteArray) => Q [.c (.n (.sl 3 (encRw y1))), .c (.n (.v (.string y2)))]) = F := by
  funext y1 y2
  exact ofC_enc encAI _ (y1, y2)
noncomputable def G (q_impl_NamesOk : List AV → Option Bool) (q_impl_pathAt : List AV → Option Int) : Orc := ⟨fun f => sel (Nat.beq f 29) 0 (sel (Nat.beq f 70) 0 (9)), fun ρ f args K => sel (Nat.beq f 29) (qEntry impl_NamesOk.encR q_impl_NamesOk args K) (sel (Nat.beq f 70) (qEntry impl_pathAt.encR q_impl_pathAt args K) (Option.none)), noE⟩
noncomputable def L : Lor := fun ρ j st K => Option.none
theorem main (q_impl_NamesOk : List AV → Option Bool) (q_impl_pathAt : List AV → Option Int) {ρ : Type} (K : AV → List Ob → Option ρ) (a1 : Vec (ByteArray × Int × Int)) (a2 : ByteArray) : exC Try.prog (G q_impl_NamesOk q_impl_pathAt) (L) [] 0 (bodyOf Try.f39) (entry 11 [.c (.n (.sl 3 (encRw a1))), .c (.n (.v (.string a2)))] [] []) (finO Try.prog Try.f39.results.toList 0 [] [] K) =
    B (fun y1 => q_impl_NamesOk [.c (.n (.sl 3 (encRw y1)))]) (fun y1 y2 => q_impl_pathAt [.c (.n (.sl 3 (encRw y1))), .c (.n (.v (.string y2)))]) a1 a2 (fun x1 => K (.c (.n (.v (.int .i64 x1)))) []) := by kernel_rfl
theorem Gok : (G impl_NamesOk.Q impl_pathAt.Q).ok Try.prog := ⟨(by
    intro ρ f args K r h
    rcases sel_cases h with ⟨hb, h⟩ | ⟨-, h⟩
    · obtain rfl := beq_nat hb
      exact qEntry_ok impl_NamesOk.ac h
    rcases sel_cases h with ⟨hb, h⟩ | ⟨-, h⟩
    · obtain rfl := beq_nat hb
      exact qEntry_ok impl_pathAt.ac h
    cases h),
  (by
    intro ρ f args K
    simp only [G]
    cases Nat.beq f 29 with
    | true => exact qEntry_nat args K
    | false =>
    simp only [sel]
    cases Nat.beq f 70 with
    | true => exact qEntry_nat args K
    | false =>
    simp only [sel]
    rfl),
  (fun ρ f st caps args dst K r h => (by cases h))⟩
theorem hm : Try.prog.follows .mixedOrders = true := by kernel_rfl
theorem e : atomsL [] 0 (bodyOf Try.f39) = [] := by kernel_rfl
theorem acc (t : (Vec (ByteArray × Int × Int)) × ByteArray) (x : Int) (h : F t.1 t.2 = some x) : ACc Try.prog 39 (encA t) [] true [] fun rv obs => (rv, obs) = encR x := by
  refine fun_okc (L := (L)) (jn := []) (cmds := []) (ks := []) (hin := []) (fn := Try.f39) (body := (bodyOf Try.f39)) Gok hm Try.func39 (by kernel_rfl) (by kernel_rfl) (by rw [e]; exact Lor.ok_nil _ _) ?_ h
  refine (main impl_NamesOk.Q impl_pathAt.Q _ t.1 t.2).trans ?_
  rw [impl_NamesOk.wrap, impl_pathAt.wrap]
  refine congrArg (fun K => B impl_NamesOk.F impl_pathAt.F t.1 t.2 K) ?_
  funext x1
  exact ofC_enc encRI some (x1)
theorem ac0 (t : (Vec (ByteArray × Int × Int)) × ByteArray) (x : Int) (h : F t.1 t.2 = some x) : AC Try.prog 39 (encA t) [] true [] fun rv obs => (rv, obs) = encR x := ACc.ac (body := bodyOf Try.f39) Try.func39 (by kernel_rfl) (by kernel_rfl) (acc t x h)
theorem ac (args : List AV) (x : Int) (h : Q args = some x) : AC Try.prog 39 args [] false [] fun rv obs => (rv, obs) = encR x := by
  obtain ⟨t, rfl, h2⟩ := ofC_some h
  refine (ac0 t x h2).flat fun rv obs e => ?_
  obtain rfl : rv = (encR x).1 := congrArg Prod.fst e
  obtain rfl : obs = (encR x).2 := congrArg Prod.snd e
  refine ⟨by simp [encR, AV.Flat, K.Flat, C.Flat], ?_⟩
  simp [encR]
end impl_ByPath
/-! loop.example/g00073/laws.FnExactByPath -/
namespace laws_FnExactByPath
noncomputable def B {ρ : Type} (C_laws_szNameS : (Vec (ByteArray × Int × Int)) → Int → Option Int) (C_laws_toNameS : (Vec (ByteArray × Int × Int)) → Option (Vec (ByteArray × Int × Int))) (C_spec_ByPath : (Vec (ByteArray × Int × Int)) → ByteArray → Option Int) (C_impl_ByPath : (Vec (ByteArray × Int × Int)) → ByteArray → Option Int) (C_laws_eqNameS : (Vec (ByteArray × Int × Int)) → (Vec (ByteArray × Int × Int)) → Option Bool) (a1 : Vec (ByteArray × Int × Int)) (a2 : ByteArray) (K : Bool → Option ρ) : Option ρ :=
  sel (decide ((1048576 : Int) < (a2.size : Int))) (K true) ((C_laws_szNameS a1 (1048576 : Int)).bind fun r1 => sel (decide (r1 < (0 : Int))) (K true) ((C_laws_toNameS a1).bind fun r2 => (C_spec_ByPath r2 a2).bind fun r3 => (C_laws_toNameS a1).bind fun r4 => (C_impl_ByPath r4 a2).bind fun r5 => sel ((!decide (r5 = r3))) (K false) ((C_laws_toNameS a1).bind fun r6 => (C_laws_eqNameS r4 r6).bind fun r7 => sel ((!r7)) (K false) (K true))))
noncomputable def F (a1 : Vec (ByteArray × Int × Int)) (a2 : ByteArray) : Option Bool := B laws_szNameS.F laws_toNameS.F spec_ByPath.F impl_ByPath.F laws_eqNameS.F a1 a2 (fun x1 => some (x1))
def encA (t : (Vec (ByteArray × Int × Int)) × ByteArray) : List AV := [.c (.n (.sl 3 (encRw t.1))), .c (.n (.v (.string t.2)))]
def encR (x : Bool) : AV × List Ob := (.c (.n (.v (.bool x))), [])
theorem encAI : ∀ a b, encA a = encA b → a = b := by
  intro a b h
  obtain ⟨a0, a1⟩ := a
  obtain ⟨b0, b1⟩ := b
  simp [encA, encRw_iff] at h
  simp_all
theorem encRI : ∀ a b, encR a = encR b → a = b := by
  intro a b h
  simp [encR, encRw_iff] at h
  simp_all
noncomputable def Q (args : List AV) : Option Bool := ofC encA (fun t => F t.1 t.2) args
theorem wrap : (fun (y1 : Vec (ByteArray × Int × Int)) (y2 : ByteArray) => Q [.c (.n (.sl 3 (encRw y1))), .c (.n (.v (.string y2)))]) = F := by
  funext y1 y2
  exact ofC_enc encAI _ (y1, y2)
noncomputable def G (q_laws_szNameS : List AV → Option Int) (q_laws_toNameS : List AV → Option (Vec (ByteArray × Int × Int))) (q_spec_ByPath : List AV → Option Int) (q_impl_ByPath : List AV → Option Int) (q_laws_eqNameS : List AV → Option Bool) : Orc := ⟨fun f => sel (Nat.beq f 26) 0 (sel (Nat.beq f 28) 0 (sel (Nat.beq f 38) 0 (sel (Nat.beq f 39) 0 (sel (Nat.beq f 30) 0 (9))))), fun ρ f args K => sel (Nat.beq f 26) (qEntry laws_szNameS.encR q_laws_szNameS args K) (sel (Nat.beq f 28) (qEntry laws_toNameS.encR q_laws_toNameS args K) (sel (Nat.beq f 38) (qEntry spec_ByPath.encR q_spec_ByPath args K) (sel (Nat.beq f 39) (qEntry impl_ByPath.encR q_impl_ByPath args K) (sel (Nat.beq f 30) (qEntry laws_eqNameS.encR q_laws_eqNameS args K) (Option.none))))), noE⟩
noncomputable def L : Lor := fun ρ j st K => Option.none
theorem main (q_laws_szNameS : List AV → Option Int) (q_laws_toNameS : List AV → Option (Vec (ByteArray × Int × Int))) (q_spec_ByPath : List AV → Option Int) (q_impl_ByPath : List AV → Option Int) (q_laws_eqNameS : List AV → Option Bool) {ρ : Type} (K : AV → List Ob → Option ρ) (a1 : Vec (ByteArray × Int × Int)) (a2 : ByteArray) : exC Try.prog (G q_laws_szNameS q_laws_toNameS q_spec_ByPath q_impl_ByPath q_laws_eqNameS) (L) [] 0 (bodyOf Try.f11) (entry 34 [.c (.n (.sl 3 (encRw a1))), .c (.n (.v (.string a2)))] [] []) (finO Try.prog Try.f11.results.toList 0 [] [] K) =
    B (fun y1 y2 => q_laws_szNameS [.c (.n (.sl 3 (encRw y1))), .c (.n (.v (.int .i64 y2)))]) (fun y1 => q_laws_toNameS [.c (.n (.sl 3 (encRw y1)))]) (fun y1 y2 => q_spec_ByPath [.c (.n (.sl 3 (encRw y1))), .c (.n (.v (.string y2)))]) (fun y1 y2 => q_impl_ByPath [.c (.n (.sl 3 (encRw y1))), .c (.n (.v (.string y2)))]) (fun y1 y2 => q_laws_eqNameS [.c (.n (.sl 3 (encRw y1))), .c (.n (.sl 3 (encRw y2)))]) a1 a2 (fun x1 => K (.c (.n (.v (.bool x1)))) []) := by kernel_rfl
theorem Gok : (G laws_szNameS.Q laws_toNameS.Q spec_ByPath.Q impl_ByPath.Q laws_eqNameS.Q).ok Try.prog := ⟨(by
    intro ρ f args K r h
    rcases sel_cases h with ⟨hb, h⟩ | ⟨-, h⟩
    · obtain rfl := beq_nat hb
      exact qEntry_ok laws_szNameS.ac h
    rcases sel_cases h with ⟨hb, h⟩ | ⟨-, h⟩
    · obtain rfl := beq_nat hb
      exact qEntry_ok laws_toNameS.ac h
    rcases sel_cases h with ⟨hb, h⟩ | ⟨-, h⟩
    · obtain rfl := beq_nat hb
      exact qEntry_ok spec_ByPath.ac h
    rcases sel_cases h with ⟨hb, h⟩ | ⟨-, h⟩
    · obtain rfl := beq_nat hb
      exact qEntry_ok impl_ByPath.ac h
    rcases sel_cases h with ⟨hb, h⟩ | ⟨-, h⟩
    · obtain rfl := beq_nat hb
      exact qEntry_ok laws_eqNameS.ac h
    cases h),
  (by
    intro ρ f args K
    simp only [G]
    cases Nat.beq f 26 with
    | true => exact qEntry_nat args K
    | false =>
    simp only [sel]
    cases Nat.beq f 28 with
    | true => exact qEntry_nat args K
    | false =>
    simp only [sel]
    cases Nat.beq f 38 with
    | true => exact qEntry_nat args K
    | false =>
    simp only [sel]
    cases Nat.beq f 39 with
    | true => exact qEntry_nat args K
    | false =>
    simp only [sel]
    cases Nat.beq f 30 with
    | true => exact qEntry_nat args K
    | false =>
    simp only [sel]
    rfl),
  (fun ρ f st caps args dst K r h => (by cases h))⟩
theorem hm : Try.prog.follows .mixedOrders = true := by kernel_rfl
theorem e : atomsL [] 0 (bodyOf Try.f11) = [] := by kernel_rfl
theorem acc (t : (Vec (ByteArray × Int × Int)) × ByteArray) (x : Bool) (h : F t.1 t.2 = some x) : ACc Try.prog 11 (encA t) [] true [] fun rv obs => (rv, obs) = encR x := by
  refine fun_okc (L := (L)) (jn := []) (cmds := []) (ks := []) (hin := []) (fn := Try.f11) (body := (bodyOf Try.f11)) Gok hm Try.func11 (by kernel_rfl) (by kernel_rfl) (by rw [e]; exact Lor.ok_nil _ _) ?_ h
  refine (main laws_szNameS.Q laws_toNameS.Q spec_ByPath.Q impl_ByPath.Q laws_eqNameS.Q _ t.1 t.2).trans ?_
  rw [laws_szNameS.wrap, laws_toNameS.wrap, spec_ByPath.wrap, impl_ByPath.wrap, laws_eqNameS.wrap]
  refine congrArg (fun K => B laws_szNameS.F laws_toNameS.F spec_ByPath.F impl_ByPath.F laws_eqNameS.F t.1 t.2 K) ?_
  funext x1
  exact ofC_enc encRI some (x1)
theorem ac0 (t : (Vec (ByteArray × Int × Int)) × ByteArray) (x : Bool) (h : F t.1 t.2 = some x) : AC Try.prog 11 (encA t) [] true [] fun rv obs => (rv, obs) = encR x := ACc.ac (body := bodyOf Try.f11) Try.func11 (by kernel_rfl) (by kernel_rfl) (acc t x h)
theorem ac (args : List AV) (x : Bool) (h : Q args = some x) : AC Try.prog 11 args [] false [] fun rv obs => (rv, obs) = encR x := by
  obtain ⟨t, rfl, h2⟩ := ofC_some h
  refine (ac0 t x h2).flat fun rv obs e => ?_
  obtain rfl : rv = (encR x).1 := congrArg Prod.fst e
  obtain rfl : obs = (encR x).2 := congrArg Prod.snd e
  refine ⟨by simp [encR, AV.Flat, K.Flat, C.Flat], ?_⟩
  simp [encR]
end laws_FnExactByPath
end Go.Al
