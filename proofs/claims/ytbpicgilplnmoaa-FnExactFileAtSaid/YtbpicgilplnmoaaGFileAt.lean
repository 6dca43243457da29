import Derived.Test.YtbpicgilplnmoaaGDisk
set_option linter.unusedVariables false
set_option linter.unusedSimpArgs false
set_option maxRecDepth 100000
namespace Go.Al
open Go.Proofs

/-! loop.example/g00073/spec.l16At -/
namespace spec_l16At
noncomputable def B0 {ρ : Type} (v1 : ByteArray) (v2 : Int) (v3 : Vec (ByteArray × ByteArray)) (W : ByteArray → Int → (Vec (ByteArray × ByteArray)) → Option ρ) (K0 : Unit → Option ρ) (Kr : Int → Option ρ) : Option ρ :=
  sel (decide (v2 < (v3.n : Int))) (chk (decide (0 ≤ v2 ∧ v2 < (v3.n : Int))) (sel (decide ((v3.g v2.toNat).1 = v1)) (Kr v2) (W v1 (wr (v2 + (1 : Int))) v3))) (K0 ())
noncomputable def F0 {ρ : Type} : Nat → ByteArray → Int → (Vec (ByteArray × ByteArray)) → (Unit → Option ρ) → (Int → Option ρ) → Option ρ
  | 0, _, _, _, _, _ => none
  | k + 1, v1, v2, v3, K0, Kr => B0 v1 v2 v3 (fun v1' v2' v3' => F0 k v1' v2' v3' K0 Kr) K0 Kr
noncomputable def B {ρ : Type} (L0 : ByteArray → Int → (Vec (ByteArray × ByteArray)) → (Unit → Option ρ) → (Int → Option ρ) → Option ρ) (a1 : Vec (ByteArray × ByteArray)) (a2 : ByteArray) (K : Int → Option ρ) : Option ρ :=
  L0 a2 (0 : Int) a1 (fun _ => K (-1 : Int)) (fun x01 => K x01)
noncomputable def F (a1 : Vec (ByteArray × ByteArray)) (a2 : ByteArray) : Option Int := B (F0 fuelN) a1 a2 (fun x1 => some (x1))
def encA (t : (Vec (ByteArray × ByteArray)) × ByteArray) : List AV := [.a [.n (.sl 2 (encRw t.1))], .c (.n (.v (.string t.2)))]
def encR (x : Int) : AV × List Ob := (.c (.n (.v (.int .i64 x))), [])
theorem encAI : ∀ a b, encA a = encA b → a = b := by
  intro a b h
  obtain ⟨a0, a1⟩ := a
  obtain ⟨b0, b1⟩ := b
  simp [encA, encRw_iff] at h
  simp_all
theorem encRI : ∀ a b, encR a = encR b → a = b := by
  intro a b h
  simp [encR, encRw_iff] at h
  simp_all
noncomputable def Q (args : List AV) : Option Int := ofC encA (fun t => F t.1 t.2) args
theorem wrap : (fun (y1 : Vec (ByteArray × ByteArray)) (y2 : ByteArray) => Q [.a [.n (.sl 2 (encRw y1))], .c (.n (.v (.string y2)))]) = F := by
  funext y1 y2
  exact ofC_enc encAI _ (y1, y2)
noncomputable def G : Orc := ⟨fun f => 9, fun ρ f args K => Option.none, noE⟩
noncomputable def L (W0 : (ρ : Type) → List AV → List Ob → (Unit → Option ρ) → (Int → Option ρ) → Option ρ) : Lor := fun ρ j st K => sel (Nat.beq j 0) (cutO Try.prog 22 [1, 2, 5] 0 [] [] st fun avs obs => W0 ρ avs obs (fun _ => K (.exit 0) (mkS 22 [] [] [] [])) (fun z1 => K .ret (mkS 22 [4] [.c (.n (.v (.int .i64 z1)))] [] []))) (Option.none)
noncomputable def c0 : Code := loopC (atomN [] 0 (bodyOf Try.f48) 0)
def ct0 : Cut := ⟨[1, 2, 5], []⟩
def lv0 : Exit → Cut
  | .exit 0 => ⟨[], []⟩
  | .ret => ⟨[4], []⟩
  | _ => ⟨[], []⟩
theorem step0 (W0 : (ρ : Type) → List AV → List Ob → (Unit → Option ρ) → (Int → Option ρ) → Option ρ) {ρ : Type} (K : Exit → St → Option ρ) (W : List AV → List Ob → Option ρ) (v1 : ByteArray) (v2 : Int) (v3 : Vec (ByteArray × ByteArray)) : exC Try.prog (G) (L W0) [] 1 c0 (mkS 22 [1, 2, 5] [.c (.n (.v (.string v1))), .c (.p 0 0), .c (.n (.v (.int .i64 v2)))] [.box [.n (.sl 2 (encRw v3))]] []) (bodyK Try.prog 22 0 [] ct0 W lv0 K) =
    B0 v1 v2 v3 (fun u1 u2 u3 => W [.c (.n (.v (.string u1))), .c (.p 0 0), .c (.n (.v (.int .i64 u2)))] [.box [.n (.sl 2 (encRw u3))]]) (fun _ => K (.exit 0) (mkS 22 [] [] [] [])) (fun z1 => K .ret (mkS 22 [4] [.c (.n (.v (.int .i64 z1)))] [] [])) := by kernel_rfl
def enc0 (t : ByteArray × Int × (Vec (ByteArray × ByteArray))) : List AV × List Ob := ([.c (.n (.v (.string t.1))), .c (.p 0 0), .c (.n (.v (.int .i64 t.2.1)))], [.box [.n (.sl 2 (encRw t.2.2))]])
theorem enc0I : ∀ a b, enc0 a = enc0 b → a = b := by
  intro a b h
  obtain ⟨a0, a1, a2⟩ := a
  obtain ⟨b0, b1, b2⟩ := b
  simp [enc0, encRw_iff] at h
  simp_all
noncomputable def V0 : (ρ : Type) → List AV → List Ob → (Unit → Option ρ) → (Int → Option ρ) → Option ρ := fun ρ avs obs k0 kr => ofC enc0 (fun t => F0 fuelN t.1 t.2.1 t.2.2 k0 kr) (avs, obs)
theorem V0_enc (ρ : Type) : (fun w1 w2 w3 k0 kr => V0 ρ [.c (.n (.v (.string w1))), .c (.p 0 0), .c (.n (.v (.int .i64 w2)))] [.box [.n (.sl 2 (encRw w3))]] k0 kr) = F0 fuelN := by
  funext w1 w2 w3 k0 kr
  exact ofC_enc enc0I _ (w1, w2, w3)
theorem main (W0 : (ρ : Type) → List AV → List Ob → (Unit → Option ρ) → (Int → Option ρ) → Option ρ) {ρ : Type} (K : AV → List Ob → Option ρ) (a1 : Vec (ByteArray × ByteArray)) (a2 : ByteArray) : exC Try.prog (G) (L W0) [] 0 (bodyOf Try.f48) (entry 22 [.a [.n (.sl 2 (encRw a1))], .c (.n (.v (.string a2)))] [] []) (finO Try.prog Try.f48.results.toList 0 [] [] K) =
    B (fun w1 w2 w3 k0 kr => W0 ρ [.c (.n (.v (.string w1))), .c (.p 0 0), .c (.n (.v (.int .i64 w2)))] [.box [.n (.sl 2 (encRw w3))]] k0 kr) a1 a2 (fun x1 => K (.c (.n (.v (.int .i64 x1)))) []) := by kernel_rfl
theorem Gok : (G).ok Try.prog := ⟨(fun ρ f args K r h => (by cases h)),
  (fun ρ f args K => rfl),
  (fun ρ f st caps args dst K r h => (by cases h))⟩
theorem hm : Try.prog.follows .mixedOrders = true := by kernel_rfl
theorem e0 : atomsL [] 1 c0 = [] := by kernel_rfl
theorem ok0 (ρ : Type) (st : St) (K : Exit → St → Option ρ) (r : ρ) (h : (L V0) ρ 0 st K = some r) : AW Try.prog (.loop c0) st fun e st' => K e st' = some r := by
  refine loop_ok (ct := ct0) (lv := lv0) (n := 22) (m := 0) (ks := []) (j := 0) (jn := []) (L := (L V0)) Gok hm (by rw [e0]; exact Lor.ok_nil _ _) enc0I (fun k t => F0 k t.1 t.2.1 t.2.2 (fun _ => K (.exit 0) (mkS 22 [] [] [] [])) (fun z1 => K .ret (mkS 22 [4] [.c (.n (.v (.int .i64 z1)))] [] []))) (fun t => rfl) (fun k t => ?_) (fun _ => fuelN) h
  refine (step0 V0 K _ t.1 t.2.1 t.2.2).trans ?_
  refine congrArg (fun W => B0 t.1 t.2.1 t.2.2 W (fun _ => K (.exit 0) (mkS 22 [] [] [] [])) (fun z1 => K .ret (mkS 22 [4] [.c (.n (.v (.int .i64 z1)))] [] []))) ?_
  funext u1 u2 u3
  exact ofC_enc enc0I _ (u1, u2, u3)
theorem e : atomsL [] 0 (bodyOf Try.f48) = [(0, 0, .loop c0)] := by kernel_rfl
theorem acc (t : (Vec (ByteArray × ByteArray)) × ByteArray) (x : Int) (h : F t.1 t.2 = some x) : ACc Try.prog 48 (encA t) [] true [] fun rv obs => (rv, obs) = encR x := by
  refine fun_okc (L := (L V0)) (jn := []) (cmds := []) (ks := []) (hin := []) (fn := Try.f48) (body := (bodyOf Try.f48)) Gok hm Try.func48 (by kernel_rfl) (by kernel_rfl) (by rw [e]; exact Lor.ok_cons ok0 (Lor.ok_nil _ _)) ?_ h
  refine (main V0 _ t.1 t.2).trans ?_
  rw [V0_enc]
  refine congrArg (fun K => B (F0 fuelN) t.1 t.2 K) ?_
  funext x1
  exact ofC_enc encRI some (x1)
theorem ac0 (t : (Vec (ByteArray × ByteArray)) × ByteArray) (x : Int) (h : F t.1 t.2 = some x) : AC Try.prog 48 (encA t) [] true [] fun rv obs => (rv, obs) = encR x := ACc.ac (body := bodyOf Try.f48) Try.func48 (by kernel_rfl) (by kernel_rfl) (acc t x h)
theorem ac (args : List AV) (x : Int) (h : Q args = some x) : AC Try.prog 48 args [] false [] fun rv obs => (rv, obs) = encR x := by
  obtain ⟨t, rfl, h2⟩ := ofC_some h
  refine (ac0 t x h2).flat fun rv obs e => ?_
  obtain rfl : rv = (encR x).1 := congrArg Prod.fst e
  obtain rfl : obs = (encR x).2 := congrArg Prod.snd e
  refine ⟨by simp [encR, AV.Flat, K.Flat, C.Flat], ?_⟩
  simp [encR]
end spec_l16At
/-! loop.example/g00073/spec.FileAt -/
namespace spec_FileAt
noncomputable def B {ρ : Type} (C_spec_l16At : (Vec (ByteArray × ByteArray)) → ByteArray → Option Int) (C_spec_DiskOk : (Vec (ByteArray × ByteArray)) → Option Bool) (a1 : Vec (ByteArray × ByteArray)) (a2 : ByteArray) (K : ByteArray → Bool → Option ρ) : Option ρ :=
  (C_spec_l16At a1 a2).bind fun r1 => (C_spec_DiskOk a1).bind fun r2 => sel ((!r2)) (K ByteArray.empty false) (sel (decide (r1 < (0 : Int))) (K ByteArray.empty false) (chk (decide (0 ≤ r1 ∧ r1 < (a1.n : Int))) (K ((a1.g r1.toNat).2) true)))
noncomputable def F (a1 : Vec (ByteArray × ByteArray)) (a2 : ByteArray) : Option (ByteArray × Bool) := B spec_l16At.F spec_DiskOk.F a1 a2 (fun x1 x2 => some (x1, x2))
def encA (t : (Vec (ByteArray × ByteArray)) × ByteArray) : List AV := [.a [.n (.sl 2 (encRw t.1))], .c (.n (.v (.string t.2)))]
def encR (x : ByteArray × Bool) : AV × List Ob := (.tup [.c (.n (.v (.string x.1))), .c (.n (.v (.bool x.2)))], [])
theorem encAI : ∀ a b, encA a = encA b → a = b := by
  intro a b h
  obtain ⟨a0, a1⟩ := a
  obtain ⟨b0, b1⟩ := b
  simp [encA, encRw_iff] at h
  simp_all
theorem encRI : ∀ a b, encR a = encR b → a = b := by
  intro a b h
  obtain ⟨a0, a1⟩ := a
  obtain ⟨b0, b1⟩ := b
  simp [encR, encRw_iff] at h
  simp_all
noncomputable def Q (args : List AV) : Option (ByteArray × Bool) := ofC encA (fun t => F t.1 t.2) args
theorem wrap : (fun (y1 : Vec (ByteArray × ByteArray)) (y2 : ByteArray) => Q [.a [.n (.sl 2 (encRw y1))], .c (.n (.v (.string y2)))]) = F := by
  funext y1 y2
  exact ofC_enc encAI _ (y1, y2)
noncomputable def G (q_spec_l16At : List AV → Option Int) (q_spec_DiskOk : List AV → Option Bool) : Orc := ⟨fun f => sel (Nat.beq f 48) 0 (sel (Nat.beq f 18) 0 (9)), fun ρ f args K => sel (Nat.beq f 48) (qEntry spec_l16At.encR q_spec_l16At args K) (sel (Nat.beq f 18) (qEntry spec_DiskOk.encR q_spec_DiskOk args K) (Option.none)), noE⟩
noncomputable def L : Lor := fun ρ j st K => Option.none
theorem main (q_spec_l16At : List AV → Option Int) (q_spec_DiskOk : List AV → Option Bool) {ρ : Type} (K : AV → List Ob → Option ρ) (a1 : Vec (ByteArray × ByteArray)) (a2 : ByteArray) : exC Try.prog (G q_spec_l16At q_spec_DiskOk) (L) [] 0 (bodyOf Try.f22) (entry 23 [.a [.n (.sl 2 (encRw a1))], .c (.n (.v (.string a2)))] [] []) (finO Try.prog Try.f22.results.toList 0 [] [] K) =
    B (fun y1 y2 => q_spec_l16At [.a [.n (.sl 2 (encRw y1))], .c (.n (.v (.string y2)))]) (fun y1 => q_spec_DiskOk [.a [.n (.sl 2 (encRw y1))]]) a1 a2 (fun x1 x2 => K (.tup [.c (.n (.v (.string x1))), .c (.n (.v (.bool x2)))]) []) := by kernel_rfl
theorem Gok : (G spec_l16At.Q spec_DiskOk.Q).ok Try.prog := ⟨(by
    intro ρ f args K r h
    rcases sel_cases h with ⟨hb, h⟩ | ⟨-, h⟩
    · obtain rfl := beq_nat hb
      exact qEntry_ok spec_l16At.ac h
    rcases sel_cases h with ⟨hb, h⟩ | ⟨-, h⟩
    · obtain rfl := beq_nat hb
      exact qEntry_ok spec_DiskOk.ac h
    cases h),
  (by
    intro ρ f args K
    simp only [G]
    cases Nat.beq f 48 with
    | true => exact qEntry_nat args K
    | false =>
    simp only [sel]
    cases Nat.beq f 18 with
    | true => exact qEntry_nat args K
    | false =>
    simp only [sel]
    rfl),
  (fun ρ f st caps args dst K r h => (by cases h))⟩
theorem hm : Try.prog.follows .mixedOrders = true := by kernel_rfl
theorem e : atomsL [] 0 (bodyOf Try.f22) = [] := by kernel_rfl
theorem acc (t : (Vec (ByteArray × ByteArray)) × ByteArray) (x : ByteArray × Bool) (h : F t.1 t.2 = some x) : ACc Try.prog 22 (encA t) [] true [] fun rv obs => (rv, obs) = encR x := by
  refine fun_okc (L := (L)) (jn := []) (cmds := []) (ks := []) (hin := []) (fn := Try.f22) (body := (bodyOf Try.f22)) Gok hm Try.func22 (by kernel_rfl) (by kernel_rfl) (by rw [e]; exact Lor.ok_nil _ _) ?_ h
  refine (main spec_l16At.Q spec_DiskOk.Q _ t.1 t.2).trans ?_
  rw [spec_l16At.wrap, spec_DiskOk.wrap]
  refine congrArg (fun K => B spec_l16At.F spec_DiskOk.F t.1 t.2 K) ?_
  funext x1 x2
  exact ofC_enc encRI some (x1, x2)
theorem ac0 (t : (Vec (ByteArray × ByteArray)) × ByteArray) (x : ByteArray × Bool) (h : F t.1 t.2 = some x) : AC Try.prog 22 (encA t) [] true [] fun rv obs => (rv, obs) = encR x := ACc.ac (body := bodyOf Try.f22) Try.func22 (by kernel_rfl) (by kernel_rfl) (acc t x h)
theorem ac (args : List AV) (x : ByteArray × Bool) (h : Q args = some x) : AC Try.prog 22 args [] false [] fun rv obs => (rv, obs) = encR x := by
  obtain ⟨t, rfl, h2⟩ := ofC_some h
  refine (ac0 t x h2).flat fun rv obs e => ?_
  obtain rfl : rv = (encR x).1 := congrArg Prod.fst e
  obtain rfl : obs = (encR x).2 := congrArg Prod.snd e
  refine ⟨by simp [encR, AV.Flat, K.Flat, C.Flat], ?_⟩
  simp [encR]
end spec_FileAt
/-! (*loop.example/g00073/impl.Disk).place -/
namespace impl_Disk_place
noncomputable def B0 {ρ : Type} (v1 : Vec (ByteArray × ByteArray)) (v2 : ByteArray) (v3 : Int) (W : (Vec (ByteArray × ByteArray)) → ByteArray → Int → Option ρ) (K0 : (Vec (ByteArray × ByteArray)) → ByteArray → Int → Option ρ) : Option ρ :=
  sel (decide (v3 < (v1.n : Int))) (chk (decide (0 ≤ v3 ∧ v3 < (v1.n : Int))) (sel (decide (((v1.g v3.toNat).1).toList < v2.toList)) (W v1 v2 (wr (v3 + (1 : Int)))) (K0 v1 v2 v3))) (K0 v1 v2 v3)
noncomputable def F0 {ρ : Type} : Nat → (Vec (ByteArray × ByteArray)) → ByteArray → Int → ((Vec (ByteArray × ByteArray)) → ByteArray → Int → Option ρ) → Option ρ
  | 0, _, _, _, _ => none
  | k + 1, v1, v2, v3, K0 => B0 v1 v2 v3 (fun v1' v2' v3' => F0 k v1' v2' v3' K0) K0
noncomputable def B {ρ : Type} (L0 : (Vec (ByteArray × ByteArray)) → ByteArray → Int → ((Vec (ByteArray × ByteArray)) → ByteArray → Int → Option ρ) → Option ρ) (a1 : Vec (ByteArray × ByteArray)) (a2 : ByteArray) (K : Int → Bool → Option ρ) : Option ρ :=
  L0 a1 a2 (0 : Int) (fun e01 e02 e03 => sel (decide (e03 < (e01.n : Int))) (chk (decide (0 ≤ e03 ∧ e03 < (e01.n : Int))) (K e03 (decide ((e01.g e03.toNat).1 = e02)))) (K e03 false))
noncomputable def F (a1 : Vec (ByteArray × ByteArray)) (a2 : ByteArray) : Option (Int × Bool) := B (F0 fuelN) a1 a2 (fun x1 x2 => some (x1, x2))
def encA (t : (Vec (ByteArray × ByteArray)) × ByteArray) : List AV := [.ra [.sl 2 (encRw t.1)], .c (.n (.v (.string t.2)))]
def encR (x : Int × Bool) : AV × List Ob := (.tup [.c (.n (.v (.int .i64 x.1))), .c (.n (.v (.bool x.2)))], [])
theorem encAI : ∀ a b, encA a = encA b → a = b := by
  intro a b h
  obtain ⟨a0, a1⟩ := a
  obtain ⟨b0, b1⟩ := b
  simp [encA, encRw_iff] at h
  simp_all
theorem encRI : ∀ a b, encR a = encR b → a = b := by
  intro a b h
  obtain ⟨a0, a1⟩ := a
  obtain ⟨b0, b1⟩ := b
  simp [encR, encRw_iff] at h
  simp_all
noncomputable def Q (args : List AV) : Option (Int × Bool) := ofC encA (fun t => F t.1 t.2) args
theorem wrap : (fun (y1 : Vec (ByteArray × ByteArray)) (y2 : ByteArray) => Q [.ra [.sl 2 (encRw y1)], .c (.n (.v (.string y2)))]) = F := by
  funext y1 y2
  exact ofC_enc encAI _ (y1, y2)
noncomputable def G : Orc := ⟨fun f => 9, fun ρ f args K => Option.none, noE⟩
noncomputable def L (W0 : (ρ : Type) → List AV → List Ob → ((Vec (ByteArray × ByteArray)) → ByteArray → Int → Option ρ) → Option ρ) : Lor := fun ρ j st K => sel (Nat.beq j 0) (cutO Try.prog 48 [0, 1, 6] 0 [] [] st fun avs obs => W0 ρ avs obs (fun z1 z2 z3 => K (.exit 0) (mkS 48 [0, 1, 6] [.ra [.sl 2 (encRw z1)], .c (.n (.v (.string z2))), .c (.n (.v (.int .i64 z3)))] [] []))) (Option.none)
noncomputable def c0 : Code := loopC (atomN [] 0 (bodyOf Try.f78) 0)
def ct0 : Cut := ⟨[0, 1, 6], []⟩
def lv0 : Exit → Cut
  | .exit 0 => ⟨[0, 1, 6], []⟩
  | _ => ⟨[], []⟩
theorem step0 (W0 : (ρ : Type) → List AV → List Ob → ((Vec (ByteArray × ByteArray)) → ByteArray → Int → Option ρ) → Option ρ) {ρ : Type} (K : Exit → St → Option ρ) (W : List AV → List Ob → Option ρ) (v1 : Vec (ByteArray × ByteArray)) (v2 : ByteArray) (v3 : Int) : exC Try.prog (G) (L W0) [] 1 c0 (mkS 48 [0, 1, 6] [.ra [.sl 2 (encRw v1)], .c (.n (.v (.string v2))), .c (.n (.v (.int .i64 v3)))] [] []) (bodyK Try.prog 48 0 [] ct0 W lv0 K) =
    B0 v1 v2 v3 (fun u1 u2 u3 => W [.ra [.sl 2 (encRw u1)], .c (.n (.v (.string u2))), .c (.n (.v (.int .i64 u3)))] []) (fun z1 z2 z3 => K (.exit 0) (mkS 48 [0, 1, 6] [.ra [.sl 2 (encRw z1)], .c (.n (.v (.string z2))), .c (.n (.v (.int .i64 z3)))] [] [])) := by kernel_rfl
def enc0 (t : (Vec (ByteArray × ByteArray)) × ByteArray × Int) : List AV × List Ob := ([.ra [.sl 2 (encRw t.1)], .c (.n (.v (.string t.2.1))), .c (.n (.v (.int .i64 t.2.2)))], [])
theorem enc0I : ∀ a b, enc0 a = enc0 b → a = b := by
  intro a b h
  obtain ⟨a0, a1, a2⟩ := a
  obtain ⟨b0, b1, b2⟩ := b
  simp [enc0, encRw_iff] at h
  simp_all
noncomputable def V0 : (ρ : Type) → List AV → List Ob → ((Vec (ByteArray × ByteArray)) → ByteArray → Int → Option ρ) → Option ρ := fun ρ avs obs k0 => ofC enc0 (fun t => F0 fuelN t.1 t.2.1 t.2.2 k0) (avs, obs)
theorem V0_enc (ρ : Type) : (fun w1 w2 w3 k0 => V0 ρ [.ra [.sl 2 (encRw w1)], .c (.n (.v (.string w2))), .c (.n (.v (.int .i64 w3)))] [] k0) = F0 fuelN := by
  funext w1 w2 w3 k0
  exact ofC_enc enc0I _ (w1, w2, w3)
theorem main (W0 : (ρ : Type) → List AV → List Ob → ((Vec (ByteArray × ByteArray)) → ByteArray → Int → Option ρ) → Option ρ) {ρ : Type} (K : AV → List Ob → Option ρ) (a1 : Vec (ByteArray × ByteArray)) (a2 : ByteArray) : exC Try.prog (G) (L W0) [] 0 (bodyOf Try.f78) (entry 48 [.ra [.sl 2 (encRw a1)], .c (.n (.v (.string a2)))] [] []) (finO Try.prog Try.f78.results.toList 0 [] [] K) =
    B (fun w1 w2 w3 k0 => W0 ρ [.ra [.sl 2 (encRw w1)], .c (.n (.v (.string w2))), .c (.n (.v (.int .i64 w3)))] [] k0) a1 a2 (fun x1 x2 => K (.tup [.c (.n (.v (.int .i64 x1))), .c (.n (.v (.bool x2)))]) []) := by kernel_rfl
theorem Gok : (G).ok Try.prog := ⟨(fun ρ f args K r h => (by cases h)),
  (fun ρ f args K => rfl),
  (fun ρ f st caps args dst K r h => (by cases h))⟩
theorem hm : Try.prog.follows .mixedOrders = true := by kernel_rfl
theorem e0 : atomsL [] 1 c0 = [] := by kernel_rfl
theorem ok0 (ρ : Type) (st : St) (K : Exit → St → Option ρ) (r : ρ) (h : (L V0) ρ 0 st K = some r) : AW Try.prog (.loop c0) st fun e st' => K e st' = some r := by
  refine loop_ok (ct := ct0) (lv := lv0) (n := 48) (m := 0) (ks := []) (j := 0) (jn := []) (L := (L V0)) Gok hm (by rw [e0]; exact Lor.ok_nil _ _) enc0I (fun k t => F0 k t.1 t.2.1 t.2.2 (fun z1 z2 z3 => K (.exit 0) (mkS 48 [0, 1, 6] [.ra [.sl 2 (encRw z1)], .c (.n (.v (.string z2))), .c (.n (.v (.int .i64 z3)))] [] []))) (fun t => rfl) (fun k t => ?_) (fun _ => fuelN) h
  refine (step0 V0 K _ t.1 t.2.1 t.2.2).trans ?_
  refine congrArg (fun W => B0 t.1 t.2.1 t.2.2 W (fun z1 z2 z3 => K (.exit 0) (mkS 48 [0, 1, 6] [.ra [.sl 2 (encRw z1)], .c (.n (.v (.string z2))), .c (.n (.v (.int .i64 z3)))] [] []))) ?_
  funext u1 u2 u3
  exact ofC_enc enc0I _ (u1, u2, u3)
theorem e : atomsL [] 0 (bodyOf Try.f78) = [(0, 0, .loop c0)] := by kernel_rfl
theorem acc (t : (Vec (ByteArray × ByteArray)) × ByteArray) (x : Int × Bool) (h : F t.1 t.2 = some x) : ACc Try.prog 78 (encA t) [] true [] fun rv obs => (rv, obs) = encR x := by
  refine fun_okc (L := (L V0)) (jn := []) (cmds := []) (ks := []) (hin := []) (fn := Try.f78) (body := (bodyOf Try.f78)) Gok hm Try.func78 (by kernel_rfl) (by kernel_rfl) (by rw [e]; exact Lor.ok_cons ok0 (Lor.ok_nil _ _)) ?_ h
  refine (main V0 _ t.1 t.2).trans ?_
  rw [V0_enc]
  refine congrArg (fun K => B (F0 fuelN) t.1 t.2 K) ?_
  funext x1 x2
  exact ofC_enc encRI some (x1, x2)
theorem ac0 (t : (Vec (ByteArray × ByteArray)) × ByteArray) (x : Int × Bool) (h : F t.1 t.2 = some x) : AC Try.prog 78 (encA t) [] true [] fun rv obs => (rv, obs) = encR x := ACc.ac (body := bodyOf Try.f78) Try.func78 (by kernel_rfl) (by kernel_rfl) (acc t x h)
theorem ac (args : List AV) (x : Int × Bool) (h : Q args = some x) : AC Try.prog 78 args [] false [] fun rv obs => (rv, obs) = encR x := by
  obtain ⟨t, rfl, h2⟩ := ofC_some h
  refine (ac0 t x h2).flat fun rv obs e => ?_
  obtain rfl : rv = (encR x).1 := congrArg Prod.fst e
  obtain rfl : obs = (encR x).2 := congrArg Prod.snd e
  refine ⟨by simp [encR, AV.Flat, K.Flat, C.Flat], ?_⟩
  simp [encR]
end impl_Disk_place
/-! (*loop.example/g00073/impl.Disk).text -/
namespace impl_Disk_text
noncomputable def B {ρ : Type} (C_impl_Disk_place : (Vec (ByteArray × ByteArray)) → ByteArray → Option (Int × Bool)) (a1 : Vec (ByteArray × ByteArray)) (a2 : ByteArray) (K : ByteArray → Bool → Option ρ) : Option ρ :=
  (C_impl_Disk_place a1 a2).bind fun r1 => sel ((!r1.2)) (K ByteArray.empty false) (chk (decide (0 ≤ r1.1 ∧ r1.1 < (a1.n : Int))) (K ((a1.g (r1.1).toNat).2) true))
noncomputable def F (a1 : Vec (ByteArray × ByteArray)) (a2 : ByteArray) : Option (ByteArray × Bool) := B impl_Disk_place.F a1 a2 (fun x1 x2 => some (x1, x2))
def encA (t : (Vec (ByteArray × ByteArray)) × ByteArray) : List AV := [.ra [.sl 2 (encRw t.1)], .c (.n (.v (.string t.2)))]
def encR (x : ByteArray × Bool) : AV × List Ob := (.tup [.c (.n (.v (.string x.1))), .c (.n (.v (.bool x.2)))], [])
theorem encAI : ∀ a b, encA a = encA b → a = b := by
  intro a b h
  obtain ⟨a0, a1⟩ := a
  obtain ⟨b0, b1⟩ := b
  simp [encA, encRw_iff] at h
  simp_all
theorem encRI : ∀ a b, encR a = encR b → a = b := by
  intro a b h
  obtain ⟨a0, a1⟩ := a
  obtain ⟨b0, b1⟩ := b
  simp [encR, encRw_iff] at h
  simp_all
noncomputable def Q (args : List AV) : Option (ByteArray × Bool) := ofC encA (fun t => F t.1 t.2) args
theorem wrap : (fun (y1 : Vec (ByteArray × ByteArray)) (y2 : ByteArray) => Q [.ra [.sl 2 (encRw y1)], .c (.n (.v (.string y2)))]) = F := by
  funext y1 y2
  exact ofC_enc encAI _ (y1, y2)
noncomputable def G (q_impl_Disk_place : List AV → Option (Int × Bool)) : Orc := ⟨fun f => sel (Nat.beq f 78) 0 (9), fun ρ f args K => sel (Nat.beq f 78) (qEntry impl_Disk_place.encR q_impl_Disk_place args K) (Option.none), noE⟩
noncomputable def L : Lor := fun ρ j st K => Option.none
theorem main (q_impl_Disk_place : List AV → Option (Int × Bool)) {ρ : Type} (K : AV → List Ob → Option ρ) (a1 : Vec (ByteArray × ByteArray)) (a2 : ByteArray) : exC Try.prog (G q_impl_Disk_place) (L) [] 0 (bodyOf Try.f49) (entry 24 [.ra [.sl 2 (encRw a1)], .c (.n (.v (.string a2)))] [] []) (finO Try.prog Try.f49.results.toList 0 [] [] K) =
    B (fun y1 y2 => q_impl_Disk_place [.ra [.sl 2 (encRw y1)], .c (.n (.v (.string y2)))]) a1 a2 (fun x1 x2 => K (.tup [.c (.n (.v (.string x1))), .c (.n (.v (.bool x2)))]) []) := by kernel_rfl
theorem Gok : (G impl_Disk_place.Q).ok Try.prog := ⟨(by
    intro ρ f args K r h
    rcases sel_cases h with ⟨hb, h⟩ | ⟨-, h⟩
    · obtain rfl := beq_nat hb
      exact qEntry_ok impl_Disk_place.ac h
    cases h),
  (by
    intro ρ f args K
    simp only [G]
    cases Nat.beq f 78 with
    | true => exact qEntry_nat args K
    | false =>
    simp only [sel]
    rfl),
  (fun ρ f st caps args dst K r h => (by cases h))⟩
theorem hm : Try.prog.follows .mixedOrders = true := by kernel_rfl
theorem e : atomsL [] 0 (bodyOf Try.f49) = [] := by kernel_rfl
theorem acc (t : (Vec (ByteArray × ByteArray)) × ByteArray) (x : ByteArray × Bool) (h : F t.1 t.2 = some x) : ACc Try.prog 49 (encA t) [] true [] fun rv obs => (rv, obs) = encR x := by
  refine fun_okc (L := (L)) (jn := []) (cmds := []) (ks := []) (hin := []) (fn := Try.f49) (body := (bodyOf Try.f49)) Gok hm Try.func49 (by kernel_rfl) (by kernel_rfl) (by rw [e]; exact Lor.ok_nil _ _) ?_ h
  refine (main impl_Disk_place.Q _ t.1 t.2).trans ?_
  rw [impl_Disk_place.wrap]
  refine congrArg (fun K => B impl_Disk_place.F t.1 t.2 K) ?_
  funext x1 x2
  exact ofC_enc encRI some (x1, x2)
theorem ac0 (t : (Vec (ByteArray × ByteArray)) × ByteArray) (x : ByteArray × Bool) (h : F t.1 t.2 = some x) : AC Try.prog 49 (encA t) [] true [] fun rv obs => (rv, obs) = encR x := ACc.ac (body := bodyOf Try.f49) Try.func49 (by kernel_rfl) (by kernel_rfl) (acc t x h)
theorem ac (args : List AV) (x : ByteArray × Bool) (h : Q args = some x) : AC Try.prog 49 args [] false [] fun rv obs => (rv, obs) = encR x := by
  obtain ⟨t, rfl, h2⟩ := ofC_some h
  refine (ac0 t x h2).flat fun rv obs e => ?_
  obtain rfl : rv = (encR x).1 := congrArg Prod.fst e
  obtain rfl : obs = (encR x).2 := congrArg Prod.snd e
  refine ⟨by simp [encR, AV.Flat, K.Flat, C.Flat], ?_⟩
  simp [encR]
end impl_Disk_text
/-! loop.example/g00073/impl.FileAt -/
namespace impl_FileAt
noncomputable def B {ρ : Type} (C_impl_DiskOk : (Vec (ByteArray × ByteArray)) → Option Bool) (C_impl_Disk_text : (Vec (ByteArray × ByteArray)) → ByteArray → Option (ByteArray × Bool)) (a1 : Vec (ByteArray × ByteArray)) (a2 : ByteArray) (K : ByteArray → Bool → Option ρ) : Option ρ :=
  (C_impl_DiskOk a1).bind fun r1 => sel ((!r1)) (K ByteArray.empty false) ((C_impl_Disk_text a1 a2).bind fun r2 => K r2.1 r2.2)
noncomputable def F (a1 : Vec (ByteArray × ByteArray)) (a2 : ByteArray) : Option (ByteArray × Bool) := B impl_DiskOk.F impl_Disk_text.F a1 a2 (fun x1 x2 => some (x1, x2))
def encA (t : (Vec (ByteArray × ByteArray)) × ByteArray) : List AV := [.a [.n (.sl 2 (encRw t.1))], .c (.n (.v (.string t.2)))]
def encR (x : ByteArray × Bool) : AV × List Ob := (.tup [.c (.n (.v (.string x.1))), .c (.n (.v (.bool x.2)))], [])
theorem encAI : ∀ a b, encA a = encA b → a = b := by
  intro a b h
  obtain ⟨a0, a1⟩ := a
  obtain ⟨b0, b1⟩ := b
  simp [encA, encRw_iff] at h
  simp_all
theorem encRI : ∀ a b, encR a = encR b → a = b := by
  intro a b h
  obtain ⟨a0, a1⟩ := a
  obtain ⟨b0, b1⟩ := b
  simp [encR, encRw_iff] at h
  simp_all
noncomputable def Q (args : List AV) : Option (ByteArray × Bool) := ofC encA (fun t => F t.1 t.2) args
theorem wrap : (fun (y1 : Vec (ByteArray × ByteArray)) (y2 : ByteArray) => Q [.a [.n (.sl 2 (encRw y1))], .c (.n (.v (.string y2)))]) = F := by
  funext y1 y2
  exact ofC_enc encAI _ (y1, y2)
noncomputable def G (q_impl_DiskOk : List AV → Option Bool) (q_impl_Disk_text : List AV → Option (ByteArray × Bool)) : Orc := ⟨fun f => sel (Nat.beq f 20) 0 (sel (Nat.beq f 49) 0 (9)), fun ρ f args K => sel (Nat.beq f 20) (qEntry impl_DiskOk.encR q_impl_DiskOk args K) (sel (Nat.beq f 49) (qEntry impl_Disk_text.encR q_impl_Disk_text args K) (Option.none)), noE⟩
noncomputable def L : Lor := fun ρ j st K => Option.none
theorem main (q_impl_DiskOk : List AV → Option Bool) (q_impl_Disk_text : List AV → Option (ByteArray × Bool)) {ρ : Type} (K : AV → List Ob → Option ρ) (a1 : Vec (ByteArray × ByteArray)) (a2 : ByteArray) : exC Try.prog (G q_impl_DiskOk q_impl_Disk_text) (L) [] 0 (bodyOf Try.f23) (entry 13 [.a [.n (.sl 2 (encRw a1))], .c (.n (.v (.string a2)))] [] []) (finO Try.prog Try.f23.results.toList 0 [] [] K) =
    B (fun y1 => q_impl_DiskOk [.a [.n (.sl 2 (encRw y1))]]) (fun y1 y2 => q_impl_Disk_text [.ra [.sl 2 (encRw y1)], .c (.n (.v (.string y2)))]) a1 a2 (fun x1 x2 => K (.tup [.c (.n (.v (.string x1))), .c (.n (.v (.bool x2)))]) []) := by kernel_rfl
theorem Gok : (G impl_DiskOk.Q impl_Disk_text.Q).ok Try.prog := ⟨(by
    intro ρ f args K r h
    rcases sel_cases h with ⟨hb, h⟩ | ⟨-, h⟩
    · obtain rfl := beq_nat hb
      exact qEntry_ok impl_DiskOk.ac h
    rcases sel_cases h with ⟨hb, h⟩ | ⟨-, h⟩
    · obtain rfl := beq_nat hb
      exact qEntry_ok impl_Disk_text.ac h
    cases h),
  (by
    intro ρ f args K
    simp only [G]
    cases Nat.beq f 20 with
    | true => exact qEntry_nat args K
    | false =>
    simp only [sel]
    cases Nat.beq f 49 with
    | true => exact qEntry_nat args K
    | false =>
    simp only [sel]
    rfl),
  (fun ρ f st caps args dst K r h => (by cases h))⟩
theorem hm : Try.prog.follows .mixedOrders = true := by kernel_rfl
theorem e : atomsL [] 0 (bodyOf Try.f23) = [] := by kernel_rfl
theorem acc (t : (Vec (ByteArray × ByteArray)) × ByteArray) (x : ByteArray × Bool) (h : F t.1 t.2 = some x) : ACc Try.prog 23 (encA t) [] true [] fun rv obs => (rv, obs) = encR x := by
  refine fun_okc (L := (L)) (jn := []) (cmds := []) (ks := []) (hin := []) (fn := Try.f23) (body := (bodyOf Try.f23)) Gok hm Try.func23 (by kernel_rfl) (by kernel_rfl) (by rw [e]; exact Lor.ok_nil _ _) ?_ h
  refine (main impl_DiskOk.Q impl_Disk_text.Q _ t.1 t.2).trans ?_
  rw [impl_DiskOk.wrap, impl_Disk_text.wrap]
  refine congrArg (fun K => B impl_DiskOk.F impl_Disk_text.F t.1 t.2 K) ?_
  funext x1 x2
  exact ofC_enc encRI some (x1, x2)
theorem ac0 (t : (Vec (ByteArray × ByteArray)) × ByteArray) (x : ByteArray × Bool) (h : F t.1 t.2 = some x) : AC Try.prog 23 (encA t) [] true [] fun rv obs => (rv, obs) = encR x := ACc.ac (body := bodyOf Try.f23) Try.func23 (by kernel_rfl) (by kernel_rfl) (acc t x h)
theorem ac (args : List AV) (x : ByteArray × Bool) (h : Q args = some x) : AC Try.prog 23 args [] false [] fun rv obs => (rv, obs) = encR x := by
  obtain ⟨t, rfl, h2⟩ := ofC_some h
  refine (ac0 t x h2).flat fun rv obs e => ?_
  obtain rfl : rv = (encR x).1 := congrArg Prod.fst e
  obtain rfl : obs = (encR x).2 := congrArg Prod.snd e
  refine ⟨by simp [encR, AV.Flat, K.Flat, C.Flat], ?_⟩
  simp [encR]
end impl_FileAt
/-! loop.example/g00073/laws.FnExactFileAt -/
namespace laws_FnExactFileAt
noncomputable def B {ρ : Type} (C_laws_szDisk : (Vec (ByteArray × ByteArray)) → Int → Option Int) (C_laws_toDisk : (Vec (ByteArray × ByteArray)) → Option (Vec (ByteArray × ByteArray))) (C_spec_FileAt : (Vec (ByteArray × ByteArray)) → ByteArray → Option (ByteArray × Bool)) (C_impl_FileAt : (Vec (ByteArray × ByteArray)) → ByteArray → Option (ByteArray × Bool)) (C_laws_eqDisk : (Vec (ByteArray × ByteArray)) → (Vec (ByteArray × ByteArray)) → Option Bool) (a1 : Vec (ByteArray × ByteArray)) (a2 : ByteArray) (K : Bool → Option ρ) : Option ρ :=
  sel (decide ((1048576 : Int) < (a2.size : Int))) (K true) ((C_laws_szDisk a1 (1048576 : Int)).bind fun r1 => sel (decide (r1 < (0 : Int))) (K true) ((C_laws_toDisk a1).bind fun r2 => (C_spec_FileAt r2 a2).bind fun r3 => (C_laws_toDisk a1).bind fun r4 => (C_impl_FileAt r4 a2).bind fun r5 => sel ((!decide (r5.1 = r3.1))) (K false) (sel ((!(r5.2 == r3.2))) (K false) ((C_laws_toDisk a1).bind fun r6 => (C_laws_eqDisk r4 r6).bind fun r7 => sel ((!r7)) (K false) (K true)))))
noncomputable def F (a1 : Vec (ByteArray × ByteArray)) (a2 : ByteArray) : Option Bool := B laws_szDisk.F laws_toDisk.F spec_FileAt.F impl_FileAt.F laws_eqDisk.F a1 a2 (fun x1 => some (x1))
def encA (t : (Vec (ByteArray × ByteArray)) × ByteArray) : List AV := [.a [.n (.sl 2 (encRw t.1))], .c (.n (.v (.string t.2)))]
def encR (x : Bool) : AV × List Ob := (.c (.n (.v (.bool x))), [])
theorem encAI : ∀ a b, encA a = encA b → a = b := by
  intro a b h
  obtain ⟨a0, a1⟩ := a
  obtain ⟨b0, b1⟩ := b
  simp [encA, encRw_iff] at h
  simp_all
theorem encRI : ∀ a b, encR a = encR b → a = b := by
  intro a b h
  simp [encR, encRw_iff] at h
  simp_all
noncomputable def Q (args : List AV) : Option Bool := ofC encA (fun t => F t.1 t.2) args
theorem wrap : (fun (y1 : Vec (ByteArray × ByteArray)) (y2 : ByteArray) => Q [.a [.n (.sl 2 (encRw y1))], .c (.n (.v (.string y2)))]) = F := by
  funext y1 y2
  exact ofC_enc encAI _ (y1, y2)
noncomputable def G (q_laws_szDisk : List AV → Option Int) (q_laws_toDisk : List AV → Option (Vec (ByteArray × ByteArray))) (q_spec_FileAt : List AV → Option (ByteArray × Bool)) (q_impl_FileAt : List AV → Option (ByteArray × Bool)) (q_laws_eqDisk : List AV → Option Bool) : Orc := ⟨fun f => sel (Nat.beq f 17) 0 (sel (Nat.beq f 19) 0 (sel (Nat.beq f 22) 0 (sel (Nat.beq f 23) 0 (sel (Nat.beq f 21) 0 (9))))), fun ρ f args K => sel (Nat.beq f 17) (qEntry laws_szDisk.encR q_laws_szDisk args K) (sel (Nat.beq f 19) (qEntry laws_toDisk.encR q_laws_toDisk args K) (sel (Nat.beq f 22) (qEntry spec_FileAt.encR q_spec_FileAt args K) (sel (Nat.beq f 23) (qEntry impl_FileAt.encR q_impl_FileAt args K) (sel (Nat.beq f 21) (qEntry laws_eqDisk.encR q_laws_eqDisk args K) (Option.none))))), noE⟩
noncomputable def L : Lor := fun ρ j st K => Option.none
theorem main (q_laws_szDisk : List AV → Option Int) (q_laws_toDisk : List AV → Option (Vec (ByteArray × ByteArray))) (q_spec_FileAt : List AV → Option (ByteArray × Bool)) (q_impl_FileAt : List AV → Option (ByteArray × Bool)) (q_laws_eqDisk : List AV → Option Bool) {ρ : Type} (K : AV → List Ob → Option ρ) (a1 : Vec (ByteArray × ByteArray)) (a2 : ByteArray) : exC Try.prog (G q_laws_szDisk q_laws_toDisk q_spec_FileAt q_impl_FileAt q_laws_eqDisk) (L) [] 0 (bodyOf Try.f6) (entry 47 [.a [.n (.sl 2 (encRw a1))], .c (.n (.v (.string a2)))] [] []) (finO Try.prog Try.f6.results.toList 0 [] [] K) =
    B (fun y1 y2 => q_laws_szDisk [.a [.n (.sl 2 (encRw y1))], .c (.n (.v (.int .i64 y2)))]) (fun y1 => q_laws_toDisk [.a [.n (.sl 2 (encRw y1))]]) (fun y1 y2 => q_spec_FileAt [.a [.n (.sl 2 (encRw y1))], .c (.n (.v (.string y2)))]) (fun y1 y2 => q_impl_FileAt [.a [.n (.sl 2 (encRw y1))], .c (.n (.v (.string y2)))]) (fun y1 y2 => q_laws_eqDisk [.a [.n (.sl 2 (encRw y1))], .a [.n (.sl 2 (encRw y2))]]) a1 a2 (fun x1 => K (.c (.n (.v (.bool x1)))) []) := by kernel_rfl
theorem Gok : (G laws_szDisk.Q laws_toDisk.Q spec_FileAt.Q impl_FileAt.Q laws_eqDisk.Q).ok Try.prog := ⟨(by
    intro ρ f args K r h
    rcases sel_cases h with ⟨hb, h⟩ | ⟨-, h⟩
    · obtain rfl := beq_nat hb
      exact qEntry_ok laws_szDisk.ac h
    rcases sel_cases h with ⟨hb, h⟩ | ⟨-, h⟩
    · obtain rfl := beq_nat hb
      exact qEntry_ok laws_toDisk.ac h
    rcases sel_cases h with ⟨hb, h⟩ | ⟨-, h⟩
    · obtain rfl := beq_nat hb
      exact qEntry_ok spec_FileAt.ac h
    rcases sel_cases h with ⟨hb, h⟩ | ⟨-, h⟩
    · obtain rfl := beq_nat hb
      exact qEntry_ok impl_FileAt.ac h
    rcases sel_cases h with ⟨hb, h⟩ | ⟨-, h⟩
    · obtain rfl := beq_nat hb
      exact qEntry_ok laws_eqDisk.ac h
    cases h),
  (by
    intro ρ f args K
    simp only [G]
    cases Nat.beq f 17 with
    | true => exact qEntry_nat args K
    | false =>
    simp only [sel]
    cases Nat.beq f 19 with
    | true => exact qEntry_nat args K
    | false =>
    simp only [sel]
    cases Nat.beq f 22 with
    | true => exact qEntry_nat args K
    | false =>
    simp only [sel]
    cases Nat.beq f 23 with
    | true => exact qEntry_nat args K
    | false =>
    simp only [sel]
    cases Nat.beq f 21 with
    | true => exact qEntry_nat args K
    | false =>
    simp only [sel]
    rfl),
  (fun ρ f st caps args dst K r h => (by cases h))⟩
theorem hm : Try.prog.follows .mixedOrders = true := by kernel_rfl
theorem e : atomsL [] 0 (bodyOf Try.f6) = [] := by kernel_rfl
theorem acc (t : (Vec (ByteArray × ByteArray)) × ByteArray) (x : Bool) (h : F t.1 t.2 = some x) : ACc Try.prog 6 (encA t) [] true [] fun rv obs => (rv, obs) = encR x := by
  refine fun_okc (L := (L)) (jn := []) (cmds := []) (ks := []) (hin := []) (fn := Try.f6) (body := (bodyOf Try.f6)) Gok hm Try.func6 (by kernel_rfl) (by kernel_rfl) (by rw [e]; exact Lor.ok_nil _ _) ?_ h
  refine (main laws_szDisk.Q laws_toDisk.Q spec_FileAt.Q impl_FileAt.Q laws_eqDisk.Q _ t.1 t.2).trans ?_
  rw [laws_szDisk.wrap, laws_toDisk.wrap, spec_FileAt.wrap, impl_FileAt.wrap, laws_eqDisk.wrap]
  refine congrArg (fun K => B laws_szDisk.F laws_toDisk.F spec_FileAt.F impl_FileAt.F laws_eqDisk.F t.1 t.2 K) ?_
  funext x1
  exact ofC_enc encRI some (x1)
theorem ac0 (t : (Vec (ByteArray × ByteArray)) × ByteArray) (x : Bool) (h : F t.1 t.2 = some x) : AC Try.prog 6 (encA t) [] true [] fun rv obs => (rv, obs) = encR x := ACc.ac (body := bodyOf Try.f6) Try.func6 (by kernel_rfl) (by kernel_rfl) (acc t x h)
theorem ac (args : List AV) (x : Bool) (h : Q args = some x) : AC Try.prog 6 args [] false [] fun rv obs => (rv, obs) = encR x := by
  obtain ⟨t, rfl, h2⟩ := ofC_some h
  refine (ac0 t x h2).flat fun rv obs e => ?_
  obtain rfl : rv = (encR x).1 := congrArg Prod.fst e
  obtain rfl : obs = (encR x).2 := congrArg Prod.snd e
  refine ⟨by simp [encR, AV.Flat, K.Flat, C.Flat], ?_⟩
  simp [encR]
end laws_FnExactFileAt
end Go.Al
