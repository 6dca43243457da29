import Derived.Test.YtfghfdjecfkibaaAlF
import Derived.Test.YtfghfdjecfkibaaSC
import Derived.Test.YtfghfdjecfkibaaGPutRaw
import Derived.Test.YtfghfdjecfkibaaGPutRaws
set_option linter.unusedVariables false
set_option linter.unusedSimpArgs false
set_option linter.constructorNameAsVariable false
set_option linter.unusedSectionVars false
set_option maxRecDepth 100000
namespace Go.Al
open Go.Proofs

/-! loop.example/g00073/spec.l16Room -/
namespace spec_l16Room
noncomputable def B {ρ : Type} (a1 : Vec (Int × ByteArray × ByteArray × ByteArray)) (a2 : Int) (K : Int → Option ρ) : Option ρ :=
  sel (decide ((a1.n : Int) ≤ a2)) (K (0 : Int)) (chk (decide (0 ≤ a2 ∧ a2 < (a1.n : Int))) (sel ((!decide ((a1.g a2.toNat).1 = (1 : Int)))) (K (0 : Int)) (chk (decide (0 ≤ a2 ∧ a2 < (a1.n : Int))) (K (((a1.g a2.toNat).2.2.2).size : Int)))))
noncomputable def F (a1 : Vec (Int × ByteArray × ByteArray × ByteArray)) (a2 : Int) : Option Int := B a1 a2 (fun x1 => some (x1))
def encA (t : (Vec (Int × ByteArray × ByteArray × ByteArray)) × Int) : List AV := [.c (.n (.sl 4 (encRw t.1))), .c (.n (.v (.int .i64 t.2)))]
def encR (x : Int) : AV × List Ob := (.c (.n (.v (.int .i64 x))), [])
theorem encAI : ∀ a b, encA a = encA b → a = b := by
  intro a b h
  obtain ⟨a0, a1⟩ := a
  obtain ⟨b0, b1⟩ := b
  simp [encA, encRw_iff] at h
  simp_all
theorem encRI : ∀ a b, encR a = encR b → a = b := by
  intro a b h
  simp [encR, encRw_iff] at h
  simp_all
noncomputable def Q (args : List AV) : Option Int := ofC encA (fun t => F t.1 t.2) args
theorem wrap : (fun (y1 : Vec (Int × ByteArray × ByteArray × ByteArray)) (y2 : Int) => Q [.c (.n (.sl 4 (encRw y1))), .c (.n (.v (.int .i64 y2)))]) = F := by
  funext y1 y2
  exact ofC_enc encAI _ (y1, y2)
noncomputable def G : Orc := ⟨fun f => 9, fun ρ f args K => Option.none, noE⟩
noncomputable def L : Lor := fun ρ j st K => Option.none
theorem main {ρ : Type} (K : AV → List Ob → Option ρ) (a1 : Vec (Int × ByteArray × ByteArray × ByteArray)) (a2 : Int) : exC Try.prog (G) (L) [] 0 (bodyOf Try.f64) (entry 23 [.c (.n (.sl 4 (encRw a1))), .c (.n (.v (.int .i64 a2)))] [] []) (finO Try.prog Try.f64.results.toList 0 [] [] K) =
    B a1 a2 (fun x1 => K (.c (.n (.v (.int .i64 x1)))) []) := by kernel_rfl
theorem Gok : (G).ok Try.prog := ⟨(fun ρ f args K r h => (by cases h)),
  (fun ρ f args K => rfl),
  (fun ρ f st caps args dst K r h => (by cases h))⟩
theorem hm : Try.prog.follows .mixedOrders = true := by kernel_rfl
theorem e : atomsL [] 0 (bodyOf Try.f64) = [] := by kernel_rfl
theorem acc (t : (Vec (Int × ByteArray × ByteArray × ByteArray)) × Int) (x : Int) (h : F t.1 t.2 = some x) : ACc Try.prog 64 (encA t) [] true [] fun rv obs => (rv, obs) = encR x := by
  refine fun_okc (L := (L)) (jn := []) (cmds := []) (ks := []) (hin := []) (fn := Try.f64) (body := (bodyOf Try.f64)) Gok hm Try.func64 (by kernel_rfl) (by kernel_rfl) (by rw [e]; exact Lor.ok_nil _ _) ?_ h
  refine (main _ t.1 t.2).trans ?_
  refine congrArg (fun K => B t.1 t.2 K) ?_
  funext x1
  exact ofC_enc encRI some (x1)
theorem ac0 (t : (Vec (Int × ByteArray × ByteArray × ByteArray)) × Int) (x : Int) (h : F t.1 t.2 = some x) : AC Try.prog 64 (encA t) [] true [] fun rv obs => (rv, obs) = encR x := ACc.ac (body := bodyOf Try.f64) Try.func64 (by kernel_rfl) (by kernel_rfl) (acc t x h)
theorem ac (args : List AV) (x : Int) (h : Q args = some x) : AC Try.prog 64 args [] false [] fun rv obs => (rv, obs) = encR x := by
  obtain ⟨t, rfl, h2⟩ := ofC_some h
  refine (ac0 t x h2).flat fun rv obs e => ?_
  obtain rfl : rv = (encR x).1 := congrArg Prod.fst e
  obtain rfl : obs = (encR x).2 := congrArg Prod.snd e
  refine ⟨by simp [encR, AV.Flat, K.Flat, C.Flat], ?_⟩
  simp [encR]
end spec_l16Room
/-! loop.example/g00073/spec.CutRaws -/
namespace spec_CutRaws
noncomputable def B {ρ : Type} (C_spec_DiskOk : (Vec (ByteArray × ByteArray)) → Option Bool) (C_spec_l01In : Int → Int → Int → Option Bool) (C_spec_l16Room : (Vec (Int × ByteArray × ByteArray × ByteArray)) → Int → Option Int) (C_spec_PutRaws : (Vec (ByteArray × ByteArray)) → (Vec (Int × ByteArray × ByteArray × ByteArray)) → Option (Int × (Vec (ByteArray × ByteArray)))) (a1 : Vec (ByteArray × ByteArray)) (a2 : Vec (Int × ByteArray × ByteArray × ByteArray)) (a3 : Int) (a4 : Int) (K : Bool → (Vec (ByteArray × ByteArray)) → Option ρ) : Option ρ :=
  (C_spec_DiskOk a1).bind fun r1 => sel ((!r1)) (K false (Vec.nil : Vec (ByteArray × ByteArray))) (sel (decide ((120 : Int) < (a2.n : Int))) (K false (Vec.nil : Vec (ByteArray × ByteArray))) ((C_spec_l01In a3 (0 : Int) (a2.n : Int)).bind fun r2 => sel ((!r2)) (K false (Vec.nil : Vec (ByteArray × ByteArray))) ((C_spec_l16Room a2 a3).bind fun r3 => (C_spec_l01In a4 (0 : Int) r3).bind fun r4 => sel ((!r4)) (K false (Vec.nil : Vec (ByteArray × ByteArray))) (chk (decide (0 ≤ (0 : Int) ∧ (0 : Int) ≤ a3 ∧ a3 ≤ (a2.n : Int))) (chk (decide ((Vec.sub a2 ((0 : Int).toNat) a3.toNat).n * 57 ≤ maxN)) (sel (decide ((0 : Int) < a4)) (chk (decide (0 ≤ a3 ∧ a3 < (a2.n : Int))) (chk (decide (0 ≤ (0 : Int) ∧ (0 : Int) ≤ a4 ∧ a4 ≤ (((a2.g a3.toNat).2.2.2).size : Int))) (chk (decide (((Vec.sub a2 ((0 : Int).toNat) a3.toNat).n + (Vec.lit [((a2.g a3.toNat).1, (a2.g a3.toNat).2.1, (a2.g a3.toNat).2.2.1, (((a2.g a3.toNat).2.2.2).extract (0 : Int).toNat a4.toNat))] : Vec (Int × ByteArray × ByteArray × ByteArray)).n) * 57 ≤ maxN)) ((C_spec_PutRaws a1 (Vec.app (Vec.sub a2 ((0 : Int).toNat) a3.toNat) (Vec.lit [((a2.g a3.toNat).1, (a2.g a3.toNat).2.1, (a2.g a3.toNat).2.2.1, (((a2.g a3.toNat).2.2.2).extract (0 : Int).toNat a4.toNat))] : Vec (Int × ByteArray × ByteArray × ByteArray)))).bind fun r5 => sel ((!decide (r5.1 = ((Vec.app (Vec.sub a2 ((0 : Int).toNat) a3.toNat) (Vec.lit [((a2.g a3.toNat).1, (a2.g a3.toNat).2.1, (a2.g a3.toNat).2.2.1, (((a2.g a3.toNat).2.2.2).extract (0 : Int).toNat a4.toNat))] : Vec (Int × ByteArray × ByteArray × ByteArray))).n : Int)))) (K false (Vec.nil : Vec (ByteArray × ByteArray))) (K true r5.2))))) ((C_spec_PutRaws a1 (Vec.sub a2 ((0 : Int).toNat) a3.toNat)).bind fun r6 => sel ((!decide (r6.1 = ((Vec.sub a2 ((0 : Int).toNat) a3.toNat).n : Int)))) (K false (Vec.nil : Vec (ByteArray × ByteArray))) (K true r6.2))))))))
noncomputable def F (a1 : Vec (ByteArray × ByteArray)) (a2 : Vec (Int × ByteArray × ByteArray × ByteArray)) (a3 : Int) (a4 : Int) : Option (Bool × (Vec (ByteArray × ByteArray))) := B spec_DiskOk.F spec_l01In.F spec_l16Room.F spec_PutRaws.F a1 a2 a3 a4 (fun x1 x2 => some (x1, x2))
def encA (t : (Vec (ByteArray × ByteArray)) × (Vec (Int × ByteArray × ByteArray × ByteArray)) × Int × Int) : List AV := [.a [.n (.sl 2 (encRw t.1))], .c (.n (.sl 4 (encRw t.2.1))), .c (.n (.v (.int .i64 t.2.2.1))), .c (.n (.v (.int .i64 t.2.2.2)))]
def encR (x : Bool × (Vec (ByteArray × ByteArray))) : AV × List Ob := (.tup [.a [.h 0], .c (.n (.v (.bool x.1)))], [.row 2 (encRw x.2) []])
theorem encAI : ∀ a b, encA a = encA b → a = b := by
  intro a b h
  obtain ⟨a0, a1, a2, a3⟩ := a
  obtain ⟨b0, b1, b2, b3⟩ := b
  simp [encA, encRw_iff] at h
  simp_all
theorem encRI : ∀ a b, encR a = encR b → a = b := by
  intro a b h
  obtain ⟨a0, a1⟩ := a
  obtain ⟨b0, b1⟩ := b
  simp [encR, encRw_iff] at h
  simp_all
noncomputable def Q (args : List AV) : Option (Bool × (Vec (ByteArray × ByteArray))) := ofC encA (fun t => F t.1 t.2.1 t.2.2.1 t.2.2.2) args
theorem wrap : (fun (y1 : Vec (ByteArray × ByteArray)) (y2 : Vec (Int × ByteArray × ByteArray × ByteArray)) (y3 : Int) (y4 : Int) => Q [.a [.n (.sl 2 (encRw y1))], .c (.n (.sl 4 (encRw y2))), .c (.n (.v (.int .i64 y3))), .c (.n (.v (.int .i64 y4)))]) = F := by
  funext y1 y2 y3 y4
  exact ofC_enc encAI _ (y1, y2, y3, y4)
noncomputable def G (q_spec_DiskOk : List AV → Option Bool) (q_spec_l01In : List AV → Option Bool) (q_spec_l16Room : List AV → Option Int) (q_spec_PutRaws : List AV → Option (Int × (Vec (ByteArray × ByteArray)))) : Orc := ⟨fun f => sel (Nat.beq f 47) 0 (sel (Nat.beq f 48) 0 (sel (Nat.beq f 64) 0 (sel (Nat.beq f 30) 0 (9)))), fun ρ f args K => sel (Nat.beq f 47) (qEntry spec_DiskOk.encR q_spec_DiskOk args K) (sel (Nat.beq f 48) (qEntry spec_l01In.encR q_spec_l01In args K) (sel (Nat.beq f 64) (qEntry spec_l16Room.encR q_spec_l16Room args K) (sel (Nat.beq f 30) (qEntry spec_PutRaws.encR q_spec_PutRaws args K) (Option.none)))), noE⟩
noncomputable def L : Lor := fun ρ j st K => Option.none
theorem main (q_spec_DiskOk : List AV → Option Bool) (q_spec_l01In : List AV → Option Bool) (q_spec_l16Room : List AV → Option Int) (q_spec_PutRaws : List AV → Option (Int × (Vec (ByteArray × ByteArray)))) {ρ : Type} (K : AV → List Ob → Option ρ) (a1 : Vec (ByteArray × ByteArray)) (a2 : Vec (Int × ByteArray × ByteArray × ByteArray)) (a3 : Int) (a4 : Int) : exC Try.prog (G q_spec_DiskOk q_spec_l01In q_spec_l16Room q_spec_PutRaws) (L) [] 0 (bodyOf Try.f37) (entry 70 [.a [.n (.sl 2 (encRw a1))], .c (.n (.sl 4 (encRw a2))), .c (.n (.v (.int .i64 a3))), .c (.n (.v (.int .i64 a4)))] [] []) (finO Try.prog Try.f37.results.toList 0 [] [.ad (.p 8 0) 38] K) =
    B (fun y1 => q_spec_DiskOk [.a [.n (.sl 2 (encRw y1))]]) (fun y1 y2 y3 => q_spec_l01In [.c (.n (.v (.int .i64 y1))), .c (.n (.v (.int .i64 y2))), .c (.n (.v (.int .i64 y3)))]) (fun y1 y2 => q_spec_l16Room [.c (.n (.sl 4 (encRw y1))), .c (.n (.v (.int .i64 y2)))]) (fun y1 y2 => q_spec_PutRaws [.a [.n (.sl 2 (encRw y1))], .c (.n (.sl 4 (encRw y2)))]) a1 a2 a3 a4 (fun x1 x2 => K (.tup [.a [.h 0], .c (.n (.v (.bool x1)))]) [.row 2 (encRw x2) []]) := by kernel_rfl
theorem Gok : (G spec_DiskOk.Q spec_l01In.Q spec_l16Room.Q spec_PutRaws.Q).ok Try.prog := ⟨(by
    intro ρ f args K r h
    rcases sel_cases h with ⟨hb, h⟩ | ⟨-, h⟩
    · obtain rfl := beq_nat hb
      exact qEntry_ok spec_DiskOk.ac h
    rcases sel_cases h with ⟨hb, h⟩ | ⟨-, h⟩
    · obtain rfl := beq_nat hb
      exact qEntry_ok spec_l01In.ac h
    rcases sel_cases h with ⟨hb, h⟩ | ⟨-, h⟩
    · obtain rfl := beq_nat hb
      exact qEntry_ok spec_l16Room.ac h
    rcases sel_cases h with ⟨hb, h⟩ | ⟨-, h⟩
    · obtain rfl := beq_nat hb
      exact qEntry_ok spec_PutRaws.ac h
    cases h),
  (by
    intro ρ f args K
    simp only [G]
    cases Nat.beq f 47 with
    | true => exact qEntry_nat args K
    | false =>
    simp only [sel]
    cases Nat.beq f 48 with
    | true => exact qEntry_nat args K
    | false =>
    simp only [sel]
    cases Nat.beq f 64 with
    | true => exact qEntry_nat args K
    | false =>
    simp only [sel]
    cases Nat.beq f 30 with
    | true => exact qEntry_nat args K
    | false =>
    simp only [sel]
    rfl),
  (fun ρ f st caps args dst K r h => (by cases h))⟩
theorem hm : Try.prog.follows .mixedOrders = true := by kernel_rfl
theorem e : atomsL [] 0 (bodyOf Try.f37) = [] := by kernel_rfl
theorem acc (t : (Vec (ByteArray × ByteArray)) × (Vec (Int × ByteArray × ByteArray × ByteArray)) × Int × Int) (x : Bool × (Vec (ByteArray × ByteArray))) (h : F t.1 t.2.1 t.2.2.1 t.2.2.2 = some x) : ACc Try.prog 37 (encA t) [] true [] fun rv obs => (rv, obs) = encR x := by
  refine fun_okc (L := (L)) (jn := []) (cmds := [.ad (.p 8 0) 38]) (ks := []) (hin := []) (fn := Try.f37) (body := (bodyOf Try.f37)) Gok hm Try.func37 (by kernel_rfl) (by kernel_rfl) (by rw [e]; exact Lor.ok_nil _ _) ?_ h
  refine (main spec_DiskOk.Q spec_l01In.Q spec_l16Room.Q spec_PutRaws.Q _ t.1 t.2.1 t.2.2.1 t.2.2.2).trans ?_
  rw [spec_DiskOk.wrap, spec_l01In.wrap, spec_l16Room.wrap, spec_PutRaws.wrap]
  refine congrArg (fun K => B spec_DiskOk.F spec_l01In.F spec_l16Room.F spec_PutRaws.F t.1 t.2.1 t.2.2.1 t.2.2.2 K) ?_
  funext x1 x2
  exact ofC_enc encRI some (x1, x2)
theorem ac0 (t : (Vec (ByteArray × ByteArray)) × (Vec (Int × ByteArray × ByteArray × ByteArray)) × Int × Int) (x : Bool × (Vec (ByteArray × ByteArray))) (h : F t.1 t.2.1 t.2.2.1 t.2.2.2 = some x) : AC Try.prog 37 (encA t) [] true [] fun rv obs => (rv, obs) = encR x := ACc.ac (body := bodyOf Try.f37) Try.func37 (by kernel_rfl) (by kernel_rfl) (acc t x h)
theorem ac (args : List AV) (x : Bool × (Vec (ByteArray × ByteArray))) (h : Q args = some x) : AC Try.prog 37 args [] false [] fun rv obs => (rv, obs) = encR x := by
  obtain ⟨t, rfl, h2⟩ := ofC_some h
  refine (ac0 t x h2).flat fun rv obs e => ?_
  obtain rfl : rv = (encR x).1 := congrArg Prod.fst e
  obtain rfl : obs = (encR x).2 := congrArg Prod.snd e
  refine ⟨by simp [encR, AV.Flat, K.Flat, C.Flat], ?_⟩
  intro o ho
  simp only [encR, List.mem_cons, List.not_mem_nil, or_false] at ho
  subst ho
  exact flat_rw rfl _
end spec_CutRaws
/-! loop.example/g00073/impl.partMost -/
namespace impl_partMost
noncomputable def B {ρ : Type} (a1 : Vec (Int × ByteArray × ByteArray × ByteArray)) (a2 : Int) (K : Int → Option ρ) : Option ρ :=
  sel (decide (a2 < (a1.n : Int))) (chk (decide (0 ≤ a2 ∧ a2 < (a1.n : Int))) (sel (decide ((a1.g a2.toNat).1 = (1 : Int))) (chk (decide (0 ≤ a2 ∧ a2 < (a1.n : Int))) (K (((a1.g a2.toNat).2.2.2).size : Int))) (K (0 : Int)))) (K (0 : Int))
noncomputable def F (a1 : Vec (Int × ByteArray × ByteArray × ByteArray)) (a2 : Int) : Option Int := B a1 a2 (fun x1 => some (x1))
def encA (t : (Vec (Int × ByteArray × ByteArray × ByteArray)) × Int) : List AV := [.c (.n (.sl 4 (encRw t.1))), .c (.n (.v (.int .i64 t.2)))]
def encR (x : Int) : AV × List Ob := (.c (.n (.v (.int .i64 x))), [])
theorem encAI : ∀ a b, encA a = encA b → a = b := by
  intro a b h
  obtain ⟨a0, a1⟩ := a
  obtain ⟨b0, b1⟩ := b
  simp [encA, encRw_iff] at h
  simp_all
theorem encRI : ∀ a b, encR a = encR b → a = b := by
  intro a b h
  simp [encR, encRw_iff] at h
  simp_all
noncomputable def Q (args : List AV) : Option Int := ofC encA (fun t => F t.1 t.2) args
theorem wrap : (fun (y1 : Vec (Int × ByteArray × ByteArray × ByteArray)) (y2 : Int) => Q [.c (.n (.sl 4 (encRw y1))), .c (.n (.v (.int .i64 y2)))]) = F := by
  funext y1 y2
  exact ofC_enc encAI _ (y1, y2)
noncomputable def G : Orc := ⟨fun f => 9, fun ρ f args K => Option.none, noE⟩
noncomputable def L : Lor := fun ρ j st K => Option.none
theorem main {ρ : Type} (K : AV → List Ob → Option ρ) (a1 : Vec (Int × ByteArray × ByteArray × ByteArray)) (a2 : Int) : exC Try.prog (G) (L) [] 0 (bodyOf Try.f66) (entry 23 [.c (.n (.sl 4 (encRw a1))), .c (.n (.v (.int .i64 a2)))] [] []) (finO Try.prog Try.f66.results.toList 0 [] [] K) =
    B a1 a2 (fun x1 => K (.c (.n (.v (.int .i64 x1)))) []) := by kernel_rfl
theorem Gok : (G).ok Try.prog := ⟨(fun ρ f args K r h => (by cases h)),
  (fun ρ f args K => rfl),
  (fun ρ f st caps args dst K r h => (by cases h))⟩
theorem hm : Try.prog.follows .mixedOrders = true := by kernel_rfl
theorem e : atomsL [] 0 (bodyOf Try.f66) = [] := by kernel_rfl
theorem acc (t : (Vec (Int × ByteArray × ByteArray × ByteArray)) × Int) (x : Int) (h : F t.1 t.2 = some x) : ACc Try.prog 66 (encA t) [] true [] fun rv obs => (rv, obs) = encR x := by
  refine fun_okc (L := (L)) (jn := []) (cmds := []) (ks := []) (hin := []) (fn := Try.f66) (body := (bodyOf Try.f66)) Gok hm Try.func66 (by kernel_rfl) (by kernel_rfl) (by rw [e]; exact Lor.ok_nil _ _) ?_ h
  refine (main _ t.1 t.2).trans ?_
  refine congrArg (fun K => B t.1 t.2 K) ?_
  funext x1
  exact ofC_enc encRI some (x1)
theorem ac0 (t : (Vec (Int × ByteArray × ByteArray × ByteArray)) × Int) (x : Int) (h : F t.1 t.2 = some x) : AC Try.prog 66 (encA t) [] true [] fun rv obs => (rv, obs) = encR x := ACc.ac (body := bodyOf Try.f66) Try.func66 (by kernel_rfl) (by kernel_rfl) (acc t x h)
theorem ac (args : List AV) (x : Int) (h : Q args = some x) : AC Try.prog 66 args [] false [] fun rv obs => (rv, obs) = encR x := by
  obtain ⟨t, rfl, h2⟩ := ofC_some h
  refine (ac0 t x h2).flat fun rv obs e => ?_
  obtain rfl : rv = (encR x).1 := congrArg Prod.fst e
  obtain rfl : obs = (encR x).2 := congrArg Prod.snd e
  refine ⟨by simp [encR, AV.Flat, K.Flat, C.Flat], ?_⟩
  simp [encR]
end impl_partMost
/-! loop.example/g00073/impl.CutRaws -/
namespace impl_CutRaws
noncomputable def B {ρ : Type} (C_impl_inRange : Int → Int → Int → Option Bool) (C_impl_partMost : (Vec (Int × ByteArray × ByteArray × ByteArray)) → Int → Option Int) (C_impl_PutRaws : (Vec (ByteArray × ByteArray)) → (Vec (Int × ByteArray × ByteArray × ByteArray)) → Option (Int × (Vec (ByteArray × ByteArray)))) (C_impl_DiskOk : (Vec (ByteArray × ByteArray)) → Option Bool) (C_impl_PutRaw : (Vec (ByteArray × ByteArray)) → Int → ByteArray → ByteArray → ByteArray → Option (Bool × (Vec (ByteArray × ByteArray)))) (a1 : Vec (ByteArray × ByteArray)) (a2 : Vec (Int × ByteArray × ByteArray × ByteArray)) (a3 : Int) (a4 : Int) (K : Bool → (Vec (ByteArray × ByteArray)) → Option ρ) : Option ρ :=
  sel (decide ((120 : Int) < (a2.n : Int))) (K false (Vec.nil : Vec (ByteArray × ByteArray))) ((C_impl_inRange a3 (0 : Int) (a2.n : Int)).bind fun r1 => sel ((!r1)) (K false (Vec.nil : Vec (ByteArray × ByteArray))) ((C_impl_partMost a2 a3).bind fun r2 => (C_impl_inRange a4 (0 : Int) r2).bind fun r3 => sel ((!r3)) (K false (Vec.nil : Vec (ByteArray × ByteArray))) (chk (decide (0 ≤ (0 : Int) ∧ (0 : Int) ≤ a3 ∧ a3 ≤ (a2.n : Int))) ((C_impl_PutRaws a1 (Vec.sub a2 ((0 : Int).toNat) a3.toNat)).bind fun r4 => sel ((!decide (r4.1 = a3))) (K false (Vec.nil : Vec (ByteArray × ByteArray))) ((C_impl_DiskOk a1).bind fun r5 => sel ((!r5)) (K false (Vec.nil : Vec (ByteArray × ByteArray))) (sel (decide (a4 = (0 : Int))) (K true r4.2) (chk (decide (0 ≤ a3 ∧ a3 < (a2.n : Int))) (chk (decide (0 ≤ (0 : Int) ∧ (0 : Int) ≤ a4 ∧ a4 ≤ (((a2.g a3.toNat).2.2.2).size : Int))) ((C_impl_PutRaw r4.2 ((a2.g a3.toNat).1) ((a2.g a3.toNat).2.1) ((a2.g a3.toNat).2.2.1) (((a2.g a3.toNat).2.2.2).extract (0 : Int).toNat a4.toNat)).bind fun r6 => K r6.1 r6.2)))))))))
noncomputable def F (a1 : Vec (ByteArray × ByteArray)) (a2 : Vec (Int × ByteArray × ByteArray × ByteArray)) (a3 : Int) (a4 : Int) : Option (Bool × (Vec (ByteArray × ByteArray))) := B impl_inRange.F impl_partMost.F impl_PutRaws.F impl_DiskOk.F impl_PutRaw.F a1 a2 a3 a4 (fun x1 x2 => some (x1, x2))
def encA (t : (Vec (ByteArray × ByteArray)) × (Vec (Int × ByteArray × ByteArray × ByteArray)) × Int × Int) : List AV := [.a [.n (.sl 2 (encRw t.1))], .c (.n (.sl 4 (encRw t.2.1))), .c (.n (.v (.int .i64 t.2.2.1))), .c (.n (.v (.int .i64 t.2.2.2)))]
def encR (x : Bool × (Vec (ByteArray × ByteArray))) : AV × List Ob := (.tup [.a [.h 0], .c (.n (.v (.bool x.1)))], [.row 2 (encRw x.2) []])
theorem encAI : ∀ a b, encA a = encA b → a = b := by
  intro a b h
  obtain ⟨a0, a1, a2, a3⟩ := a
  obtain ⟨b0, b1, b2, b3⟩ := b
  simp [encA, encRw_iff] at h
  simp_all
theorem encRI : ∀ a b, encR a = encR b → a = b := by
  intro a b h
  obtain ⟨a0, a1⟩ := a
  obtain ⟨b0, b1⟩ := b
  simp [encR, encRw_iff] at h
  simp_all
noncomputable def Q (args : List AV) : Option (Bool × (Vec (ByteArray × ByteArray))) := ofC encA (fun t => F t.1 t.2.1 t.2.2.1 t.2.2.2) args
theorem wrap : (fun (y1 : Vec (ByteArray × ByteArray)) (y2 : Vec (Int × ByteArray × ByteArray × ByteArray)) (y3 : Int) (y4 : Int) => Q [.a [.n (.sl 2 (encRw y1))], .c (.n (.sl 4 (encRw y2))), .c (.n (.v (.int .i64 y3))), .c (.n (.v (.int .i64 y4)))]) = F := by
  funext y1 y2 y3 y4
  exact ofC_enc encAI _ (y1, y2, y3, y4)
noncomputable def G (q_impl_inRange : List AV → Option Bool) (q_impl_partMost : List AV → Option Int) (q_impl_PutRaws : List AV → Option (Int × (Vec (ByteArray × ByteArray)))) (q_impl_DiskOk : List AV → Option Bool) (q_impl_PutRaw : List AV → Option (Bool × (Vec (ByteArray × ByteArray)))) : Orc := ⟨fun f => sel (Nat.beq f 65) 0 (sel (Nat.beq f 66) 0 (sel (Nat.beq f 32) 0 (sel (Nat.beq f 53) 0 (sel (Nat.beq f 21) 0 (9))))), fun ρ f args K => sel (Nat.beq f 65) (qEntry impl_inRange.encR q_impl_inRange args K) (sel (Nat.beq f 66) (qEntry impl_partMost.encR q_impl_partMost args K) (sel (Nat.beq f 32) (qEntry impl_PutRaws.encR q_impl_PutRaws args K) (sel (Nat.beq f 53) (qEntry impl_DiskOk.encR q_impl_DiskOk args K) (sel (Nat.beq f 21) (qEntry impl_PutRaw.encR q_impl_PutRaw args K) (Option.none))))), noE⟩
noncomputable def L : Lor := fun ρ j st K => Option.none
theorem main (q_impl_inRange : List AV → Option Bool) (q_impl_partMost : List AV → Option Int) (q_impl_PutRaws : List AV → Option (Int × (Vec (ByteArray × ByteArray)))) (q_impl_DiskOk : List AV → Option Bool) (q_impl_PutRaw : List AV → Option (Bool × (Vec (ByteArray × ByteArray)))) {ρ : Type} (K : AV → List Ob → Option ρ) (a1 : Vec (ByteArray × ByteArray)) (a2 : Vec (Int × ByteArray × ByteArray × ByteArray)) (a3 : Int) (a4 : Int) : exC Try.prog (G q_impl_inRange q_impl_partMost q_impl_PutRaws q_impl_DiskOk q_impl_PutRaw) (L) [] 0 (bodyOf Try.f38) (entry 66 [.a [.n (.sl 2 (encRw a1))], .c (.n (.sl 4 (encRw a2))), .c (.n (.v (.int .i64 a3))), .c (.n (.v (.int .i64 a4)))] [] []) (finO Try.prog Try.f38.results.toList 0 [] [.ad (.p 8 0) 38] K) =
    B (fun y1 y2 y3 => q_impl_inRange [.c (.n (.v (.int .i64 y1))), .c (.n (.v (.int .i64 y2))), .c (.n (.v (.int .i64 y3)))]) (fun y1 y2 => q_impl_partMost [.c (.n (.sl 4 (encRw y1))), .c (.n (.v (.int .i64 y2)))]) (fun y1 y2 => q_impl_PutRaws [.a [.n (.sl 2 (encRw y1))], .c (.n (.sl 4 (encRw y2)))]) (fun y1 => q_impl_DiskOk [.a [.n (.sl 2 (encRw y1))]]) (fun y1 y2 y3 y4 y5 => q_impl_PutRaw [.a [.n (.sl 2 (encRw y1))], .a [.n (.v (.int .i64 y2)), .n (.v (.string y3)), .n (.v (.string y4)), .n (.v (.string y5))]]) a1 a2 a3 a4 (fun x1 x2 => K (.tup [.a [.h 0], .c (.n (.v (.bool x1)))]) [.row 2 (encRw x2) []]) := by kernel_rfl
theorem Gok : (G impl_inRange.Q impl_partMost.Q impl_PutRaws.Q impl_DiskOk.Q impl_PutRaw.Q).ok Try.prog := ⟨(by
    intro ρ f args K r h
    rcases sel_cases h with ⟨hb, h⟩ | ⟨-, h⟩
    · obtain rfl := beq_nat hb
      exact qEntry_ok impl_inRange.ac h
    rcases sel_cases h with ⟨hb, h⟩ | ⟨-, h⟩
    · obtain rfl := beq_nat hb
      exact qEntry_ok impl_partMost.ac h
    rcases sel_cases h with ⟨hb, h⟩ | ⟨-, h⟩
    · obtain rfl := beq_nat hb
      exact qEntry_ok impl_PutRaws.ac h
    rcases sel_cases h with ⟨hb, h⟩ | ⟨-, h⟩
    · obtain rfl := beq_nat hb
      exact qEntry_ok impl_DiskOk.ac h
    rcases sel_cases h with ⟨hb, h⟩ | ⟨-, h⟩
    · obtain rfl := beq_nat hb
      exact qEntry_ok impl_PutRaw.ac h
    cases h),
  (by
    intro ρ f args K
    simp only [G]
    cases Nat.beq f 65 with
    | true => exact qEntry_nat args K
    | false =>
    simp only [sel]
    cases Nat.beq f 66 with
    | true => exact qEntry_nat args K
    | false =>
    simp only [sel]
    cases Nat.beq f 32 with
    | true => exact qEntry_nat args K
    | false =>
    simp only [sel]
    cases Nat.beq f 53 with
    | true => exact qEntry_nat args K
    | false =>
    simp only [sel]
    cases Nat.beq f 21 with
    | true => exact qEntry_nat args K
    | false =>
    simp only [sel]
    rfl),
  (fun ρ f st caps args dst K r h => (by cases h))⟩
theorem hm : Try.prog.follows .mixedOrders = true := by kernel_rfl
theorem e : atomsL [] 0 (bodyOf Try.f38) = [] := by kernel_rfl
theorem acc (t : (Vec (ByteArray × ByteArray)) × (Vec (Int × ByteArray × ByteArray × ByteArray)) × Int × Int) (x : Bool × (Vec (ByteArray × ByteArray))) (h : F t.1 t.2.1 t.2.2.1 t.2.2.2 = some x) : ACc Try.prog 38 (encA t) [] true [] fun rv obs => (rv, obs) = encR x := by
  refine fun_okc (L := (L)) (jn := []) (cmds := [.ad (.p 8 0) 38]) (ks := []) (hin := []) (fn := Try.f38) (body := (bodyOf Try.f38)) Gok hm Try.func38 (by kernel_rfl) (by kernel_rfl) (by rw [e]; exact Lor.ok_nil _ _) ?_ h
  refine (main impl_inRange.Q impl_partMost.Q impl_PutRaws.Q impl_DiskOk.Q impl_PutRaw.Q _ t.1 t.2.1 t.2.2.1 t.2.2.2).trans ?_
  rw [impl_inRange.wrap, impl_partMost.wrap, impl_PutRaws.wrap, impl_DiskOk.wrap, impl_PutRaw.wrap]
  refine congrArg (fun K => B impl_inRange.F impl_partMost.F impl_PutRaws.F impl_DiskOk.F impl_PutRaw.F t.1 t.2.1 t.2.2.1 t.2.2.2 K) ?_
  funext x1 x2
  exact ofC_enc encRI some (x1, x2)
theorem ac0 (t : (Vec (ByteArray × ByteArray)) × (Vec (Int × ByteArray × ByteArray × ByteArray)) × Int × Int) (x : Bool × (Vec (ByteArray × ByteArray))) (h : F t.1 t.2.1 t.2.2.1 t.2.2.2 = some x) : AC Try.prog 38 (encA t) [] true [] fun rv obs => (rv, obs) = encR x := ACc.ac (body := bodyOf Try.f38) Try.func38 (by kernel_rfl) (by kernel_rfl) (acc t x h)
theorem ac (args : List AV) (x : Bool × (Vec (ByteArray × ByteArray))) (h : Q args = some x) : AC Try.prog 38 args [] false [] fun rv obs => (rv, obs) = encR x := by
  obtain ⟨t, rfl, h2⟩ := ofC_some h
  refine (ac0 t x h2).flat fun rv obs e => ?_
  obtain rfl : rv = (encR x).1 := congrArg Prod.fst e
  obtain rfl : obs = (encR x).2 := congrArg Prod.snd e
  refine ⟨by simp [encR, AV.Flat, K.Flat, C.Flat], ?_⟩
  intro o ho
  simp only [encR, List.mem_cons, List.not_mem_nil, or_false] at ho
  subst ho
  exact flat_rw rfl _
end impl_CutRaws
/-! loop.example/g00073/laws.FnExactCutRaws -/
namespace laws_FnExactCutRaws
noncomputable def B {ρ : Type} (C_laws_szDisk : (Vec (ByteArray × ByteArray)) → Int → Option Int) (C_laws_szRawS : (Vec (Int × ByteArray × ByteArray × ByteArray)) → Int → Option Int) (C_laws_toDisk : (Vec (ByteArray × ByteArray)) → Option (Vec (ByteArray × ByteArray))) (C_laws_toRawS : (Vec (Int × ByteArray × ByteArray × ByteArray)) → Option (Vec (Int × ByteArray × ByteArray × ByteArray))) (C_spec_CutRaws : (Vec (ByteArray × ByteArray)) → (Vec (Int × ByteArray × ByteArray × ByteArray)) → Int → Int → Option (Bool × (Vec (ByteArray × ByteArray)))) (C_impl_CutRaws : (Vec (ByteArray × ByteArray)) → (Vec (Int × ByteArray × ByteArray × ByteArray)) → Int → Int → Option (Bool × (Vec (ByteArray × ByteArray)))) (C_laws_eqDisk : (Vec (ByteArray × ByteArray)) → (Vec (ByteArray × ByteArray)) → Option Bool) (C_laws_eqRawS : (Vec (Int × ByteArray × ByteArray × ByteArray)) → (Vec (Int × ByteArray × ByteArray × ByteArray)) → Option Bool) (C_laws_markDisk_s3b3c : Int → (Vec (ByteArray × ByteArray)) → Option (Int × (Vec (ByteArray × ByteArray)))) (C_laws_markRawS_s0bc7 : Int → (Vec (Int × ByteArray × ByteArray × ByteArray)) → Option (Int × (Vec (Int × ByteArray × ByteArray × ByteArray)))) (C_laws_heldDisk : (Vec (ByteArray × ByteArray)) → Int → Option Int) (a1 : Vec (ByteArray × ByteArray)) (a2 : Vec (Int × ByteArray × ByteArray × ByteArray)) (a3 : Int) (a4 : Int) (K : Bool → Option ρ) : Option ρ :=
  (C_laws_szDisk a1 (1048576 : Int)).bind fun r1 => sel (decide (r1 < (0 : Int))) (K true) ((C_laws_szRawS a2 r1).bind fun r2 => sel (decide (r2 < (0 : Int))) (K true) ((C_laws_toDisk a1).bind fun r3 => (C_laws_toRawS a2).bind fun r4 => (C_spec_CutRaws r3 r4 a3 a4).bind fun r5 => (C_laws_toDisk a1).bind fun r6 => (C_laws_toRawS a2).bind fun r7 => (C_impl_CutRaws r6 r7 a3 a4).bind fun r8 => (C_laws_eqDisk r8.2 r5.2).bind fun r9 => sel ((!r9)) (K false) (sel ((!(r8.1 == r5.1))) (K false) ((C_laws_toDisk a1).bind fun r10 => (C_laws_eqDisk r6 r10).bind fun r11 => sel ((!r11)) (K false) ((C_laws_toRawS a2).bind fun r12 => (C_laws_eqRawS r7 r12).bind fun r13 => sel ((!r13)) (K false) ((C_laws_markDisk_s3b3c (1 : Int) r6).bind fun r14 => (C_laws_markRawS_s0bc7 r14.1 r7).bind fun r15 => sel (decide (r15.1 < (0 : Int))) (K false) ((C_laws_eqDisk r8.2 r5.2).bind fun r16 => sel ((!r16)) (K false) (sel ((!(r8.1 == r5.1))) (K false) ((C_laws_markDisk_s3b3c (1 : Int) r8.2).bind fun r17 => (C_laws_heldDisk r17.2 (1 : Int)).bind fun r18 => sel (decide (r18 < (0 : Int))) (K false) (sel ((!decide (r18 = r17.1))) (K false) ((C_laws_toDisk a1).bind fun r19 => (C_laws_toRawS a2).bind fun r20 => (C_impl_CutRaws r19 r20 a3 a4).bind fun r21 => (C_laws_eqDisk r21.2 r5.2).bind fun r22 => sel ((!r22)) (K false) (sel ((!(r21.1 == r5.1))) (K false) ((C_laws_heldDisk r17.2 (1 : Int)).bind fun r23 => sel (decide (r23 < (0 : Int))) (K false) (sel ((!decide (r23 = r17.1))) (K false) (K true)))))))))))))))
noncomputable def F (a1 : Vec (ByteArray × ByteArray)) (a2 : Vec (Int × ByteArray × ByteArray × ByteArray)) (a3 : Int) (a4 : Int) : Option Bool := B laws_szDisk.F laws_szRawS.F laws_toDisk.F laws_toRawS.F spec_CutRaws.F impl_CutRaws.F laws_eqDisk.F laws_eqRawS.F laws_markDisk_s3b3c.F laws_markRawS_s0bc7.F laws_heldDisk.F a1 a2 a3 a4 (fun x1 => some (x1))
def encA (t : (Vec (ByteArray × ByteArray)) × (Vec (Int × ByteArray × ByteArray × ByteArray)) × Int × Int) : List AV := [.a [.n (.sl 2 (encRw t.1))], .c (.n (.sl 4 (encRw t.2.1))), .c (.n (.v (.int .i64 t.2.2.1))), .c (.n (.v (.int .i64 t.2.2.2)))]
def encR (x : Bool) : AV × List Ob := (.c (.n (.v (.bool x))), [])
theorem encAI : ∀ a b, encA a = encA b → a = b := by
  intro a b h
  obtain ⟨a0, a1, a2, a3⟩ := a
  obtain ⟨b0, b1, b2, b3⟩ := b
  simp [encA, encRw_iff] at h
  simp_all
theorem encRI : ∀ a b, encR a = encR b → a = b := by
  intro a b h
  simp [encR, encRw_iff] at h
  simp_all
noncomputable def Q (args : List AV) : Option Bool := ofC encA (fun t => F t.1 t.2.1 t.2.2.1 t.2.2.2) args
theorem wrap : (fun (y1 : Vec (ByteArray × ByteArray)) (y2 : Vec (Int × ByteArray × ByteArray × ByteArray)) (y3 : Int) (y4 : Int) => Q [.a [.n (.sl 2 (encRw y1))], .c (.n (.sl 4 (encRw y2))), .c (.n (.v (.int .i64 y3))), .c (.n (.v (.int .i64 y4)))]) = F := by
  funext y1 y2 y3 y4
  exact ofC_enc encAI _ (y1, y2, y3, y4)
noncomputable def G (q_laws_szDisk : List AV → Option Int) (q_laws_szRawS : List AV → Option Int) (q_laws_toDisk : List AV → Option (Vec (ByteArray × ByteArray))) (q_laws_toRawS : List AV → Option (Vec (Int × ByteArray × ByteArray × ByteArray))) (q_spec_CutRaws : List AV → Option (Bool × (Vec (ByteArray × ByteArray)))) (q_impl_CutRaws : List AV → Option (Bool × (Vec (ByteArray × ByteArray)))) (q_laws_eqDisk : List AV → Option Bool) (q_laws_eqRawS : List AV → Option Bool) (q_laws_markDisk_s3b3c : List AV → List Ob → Option (Int × (Vec (ByteArray × ByteArray)))) (q_laws_markRawS_s0bc7 : List AV → List Ob → Option (Int × (Vec (Int × ByteArray × ByteArray × ByteArray)))) (q_laws_heldDisk : List AV → Option Int) : Orc := ⟨fun f => sel (Nat.beq f 16) 0 (sel (Nat.beq f 29) 0 (sel (Nat.beq f 19) 0 (sel (Nat.beq f 31) 0 (sel (Nat.beq f 37) 0 (sel (Nat.beq f 38) 0 (sel (Nat.beq f 22) 0 (sel (Nat.beq f 33) 0 (sel (Nat.beq f 24) 0 (9))))))))), fun ρ f args K => sel (Nat.beq f 16) (qEntry laws_szDisk.encR q_laws_szDisk args K) (sel (Nat.beq f 29) (qEntry laws_szRawS.encR q_laws_szRawS args K) (sel (Nat.beq f 19) (qEntry laws_toDisk.encR q_laws_toDisk args K) (sel (Nat.beq f 31) (qEntry laws_toRawS.encR q_laws_toRawS args K) (sel (Nat.beq f 37) (qEntry spec_CutRaws.encR q_spec_CutRaws args K) (sel (Nat.beq f 38) (qEntry impl_CutRaws.encR q_impl_CutRaws args K) (sel (Nat.beq f 22) (qEntry laws_eqDisk.encR q_laws_eqDisk args K) (sel (Nat.beq f 33) (qEntry laws_eqRawS.encR q_laws_eqRawS args K) (sel (Nat.beq f 24) (qEntry laws_heldDisk.encR q_laws_heldDisk args K) (Option.none))))))))), fun ρ f st args dst K => sel (Nat.beq f 23) (callE Try.prog 23 [true, false] false [true] laws_markDisk_s3b3c.encR q_laws_markDisk_s3b3c st args dst K) (sel (Nat.beq f 34) (callE Try.prog 34 [true, false] false [true] laws_markRawS_s0bc7.encR q_laws_markRawS_s0bc7 st args dst K) (Option.none))⟩
noncomputable def L : Lor := fun ρ j st K => Option.none
theorem main (q_laws_szDisk : List AV → Option Int) (q_laws_szRawS : List AV → Option Int) (q_laws_toDisk : List AV → Option (Vec (ByteArray × ByteArray))) (q_laws_toRawS : List AV → Option (Vec (Int × ByteArray × ByteArray × ByteArray))) (q_spec_CutRaws : List AV → Option (Bool × (Vec (ByteArray × ByteArray)))) (q_impl_CutRaws : List AV → Option (Bool × (Vec (ByteArray × ByteArray)))) (q_laws_eqDisk : List AV → Option Bool) (q_laws_eqRawS : List AV → Option Bool) (q_laws_markDisk_s3b3c : List AV → List Ob → Option (Int × (Vec (ByteArray × ByteArray)))) (q_laws_markRawS_s0bc7 : List AV → List Ob → Option (Int × (Vec (Int × ByteArray × ByteArray × ByteArray)))) (q_laws_heldDisk : List AV → Option Int) {ρ : Type} (K : AV → List Ob → Option ρ) (a1 : Vec (ByteArray × ByteArray)) (a2 : Vec (Int × ByteArray × ByteArray × ByteArray)) (a3 : Int) (a4 : Int) : exC Try.prog (G q_laws_szDisk q_laws_szRawS q_laws_toDisk q_laws_toRawS q_spec_CutRaws q_impl_CutRaws q_laws_eqDisk q_laws_eqRawS q_laws_markDisk_s3b3c q_laws_markRawS_s0bc7 q_laws_heldDisk) (L) [] 0 (bodyOf Try.f8) (entry 129 [.a [.n (.sl 2 (encRw a1))], .c (.n (.sl 4 (encRw a2))), .c (.n (.v (.int .i64 a3))), .c (.n (.v (.int .i64 a4)))] [] []) (finO Try.prog Try.f8.results.toList 0 [] [] K) =
    B (fun y1 y2 => q_laws_szDisk [.a [.n (.sl 2 (encRw y1))], .c (.n (.v (.int .i64 y2)))]) (fun y1 y2 => q_laws_szRawS [.c (.n (.sl 4 (encRw y1))), .c (.n (.v (.int .i64 y2)))]) (fun y1 => q_laws_toDisk [.a [.n (.sl 2 (encRw y1))]]) (fun y1 => q_laws_toRawS [.c (.n (.sl 4 (encRw y1)))]) (fun y1 y2 y3 y4 => q_spec_CutRaws [.a [.n (.sl 2 (encRw y1))], .c (.n (.sl 4 (encRw y2))), .c (.n (.v (.int .i64 y3))), .c (.n (.v (.int .i64 y4)))]) (fun y1 y2 y3 y4 => q_impl_CutRaws [.a [.n (.sl 2 (encRw y1))], .c (.n (.sl 4 (encRw y2))), .c (.n (.v (.int .i64 y3))), .c (.n (.v (.int .i64 y4)))]) (fun y1 y2 => q_laws_eqDisk [.a [.n (.sl 2 (encRw y1))], .a [.n (.sl 2 (encRw y2))]]) (fun y1 y2 => q_laws_eqRawS [.c (.n (.sl 4 (encRw y1))), .c (.n (.sl 4 (encRw y2)))]) (fun y1 y2 => q_laws_markDisk_s3b3c [.a [.h 0], .c (.n (.v (.int .i64 y1)))] [.row 2 (encRw y2) []]) (fun y1 y2 => q_laws_markRawS_s0bc7 [.c (.h 0), .c (.n (.v (.int .i64 y1)))] [.row 4 (encRw y2) []]) (fun y1 y2 => q_laws_heldDisk [.a [.n (.sl 2 (encRw y1))], .c (.n (.v (.int .i64 y2)))]) a1 a2 a3 a4 (fun x1 => K (.c (.n (.v (.bool x1)))) []) := by kernel_rfl
theorem Gok : (G laws_szDisk.Q laws_szRawS.Q laws_toDisk.Q laws_toRawS.Q spec_CutRaws.Q impl_CutRaws.Q laws_eqDisk.Q laws_eqRawS.Q laws_markDisk_s3b3c.Q laws_markRawS_s0bc7.Q laws_heldDisk.Q).ok Try.prog := ⟨(by
    intro ρ f args K r h
    rcases sel_cases h with ⟨hb, h⟩ | ⟨-, h⟩
    · obtain rfl := beq_nat hb
      exact qEntry_ok laws_szDisk.ac h
    rcases sel_cases h with ⟨hb, h⟩ | ⟨-, h⟩
    · obtain rfl := beq_nat hb
      exact qEntry_ok laws_szRawS.ac h
    rcases sel_cases h with ⟨hb, h⟩ | ⟨-, h⟩
    · obtain rfl := beq_nat hb
      exact qEntry_ok laws_toDisk.ac h
    rcases sel_cases h with ⟨hb, h⟩ | ⟨-, h⟩
    · obtain rfl := beq_nat hb
      exact qEntry_ok laws_toRawS.ac h
    rcases sel_cases h with ⟨hb, h⟩ | ⟨-, h⟩
    · obtain rfl := beq_nat hb
      exact qEntry_ok spec_CutRaws.ac h
    rcases sel_cases h with ⟨hb, h⟩ | ⟨-, h⟩
    · obtain rfl := beq_nat hb
      exact qEntry_ok impl_CutRaws.ac h
    rcases sel_cases h with ⟨hb, h⟩ | ⟨-, h⟩
    · obtain rfl := beq_nat hb
      exact qEntry_ok laws_eqDisk.ac h
    rcases sel_cases h with ⟨hb, h⟩ | ⟨-, h⟩
    · obtain rfl := beq_nat hb
      exact qEntry_ok laws_eqRawS.ac h
    rcases sel_cases h with ⟨hb, h⟩ | ⟨-, h⟩
    · obtain rfl := beq_nat hb
      exact qEntry_ok laws_heldDisk.ac h
    cases h),
  (by
    intro ρ f args K
    simp only [G]
    cases Nat.beq f 16 with
    | true => exact qEntry_nat args K
    | false =>
    simp only [sel]
    cases Nat.beq f 29 with
    | true => exact qEntry_nat args K
    | false =>
    simp only [sel]
    cases Nat.beq f 19 with
    | true => exact qEntry_nat args K
    | false =>
    simp only [sel]
    cases Nat.beq f 31 with
    | true => exact qEntry_nat args K
    | false =>
    simp only [sel]
    cases Nat.beq f 37 with
    | true => exact qEntry_nat args K
    | false =>
    simp only [sel]
    cases Nat.beq f 38 with
    | true => exact qEntry_nat args K
    | false =>
    simp only [sel]
    cases Nat.beq f 22 with
    | true => exact qEntry_nat args K
    | false =>
    simp only [sel]
    cases Nat.beq f 33 with
    | true => exact qEntry_nat args K
    | false =>
    simp only [sel]
    cases Nat.beq f 24 with
    | true => exact qEntry_nat args K
    | false =>
    simp only [sel]
    rfl),
  (by
    intro ρ f st caps args dst K r h
    rcases sel_cases h with ⟨hb, h⟩ | ⟨-, h⟩
    · obtain rfl := beq_nat hb
      exact callE_ok (fun h => by cases h) laws_markDisk_s3b3c.ac h
    rcases sel_cases h with ⟨hb, h⟩ | ⟨-, h⟩
    · obtain rfl := beq_nat hb
      exact callE_ok (fun h => by cases h) laws_markRawS_s0bc7.ac h
    cases h)⟩
theorem hm : Try.prog.follows .mixedOrders = true := by kernel_rfl
theorem e : atomsL [] 0 (bodyOf Try.f8) = [] := by kernel_rfl
theorem acc (t : (Vec (ByteArray × ByteArray)) × (Vec (Int × ByteArray × ByteArray × ByteArray)) × Int × Int) (x : Bool) (h : F t.1 t.2.1 t.2.2.1 t.2.2.2 = some x) : ACc Try.prog 8 (encA t) [] true [] fun rv obs => (rv, obs) = encR x := by
  refine fun_okc (L := (L)) (jn := []) (cmds := []) (ks := []) (hin := []) (fn := Try.f8) (body := (bodyOf Try.f8)) Gok hm Try.func8 (by kernel_rfl) (by kernel_rfl) (by rw [e]; exact Lor.ok_nil _ _) ?_ h
  refine (main laws_szDisk.Q laws_szRawS.Q laws_toDisk.Q laws_toRawS.Q spec_CutRaws.Q impl_CutRaws.Q laws_eqDisk.Q laws_eqRawS.Q laws_markDisk_s3b3c.Q laws_markRawS_s0bc7.Q laws_heldDisk.Q _ t.1 t.2.1 t.2.2.1 t.2.2.2).trans ?_
  rw [laws_szDisk.wrap, laws_szRawS.wrap, laws_toDisk.wrap, laws_toRawS.wrap, spec_CutRaws.wrap, impl_CutRaws.wrap, laws_eqDisk.wrap, laws_eqRawS.wrap, laws_markDisk_s3b3c.wrap, laws_markRawS_s0bc7.wrap, laws_heldDisk.wrap]
  refine congrArg (fun K => B laws_szDisk.F laws_szRawS.F laws_toDisk.F laws_toRawS.F spec_CutRaws.F impl_CutRaws.F laws_eqDisk.F laws_eqRawS.F laws_markDisk_s3b3c.F laws_markRawS_s0bc7.F laws_heldDisk.F t.1 t.2.1 t.2.2.1 t.2.2.2 K) ?_
  funext x1
  exact ofC_enc encRI some (x1)
theorem ac0 (t : (Vec (ByteArray × ByteArray)) × (Vec (Int × ByteArray × ByteArray × ByteArray)) × Int × Int) (x : Bool) (h : F t.1 t.2.1 t.2.2.1 t.2.2.2 = some x) : AC Try.prog 8 (encA t) [] true [] fun rv obs => (rv, obs) = encR x := ACc.ac (body := bodyOf Try.f8) Try.func8 (by kernel_rfl) (by kernel_rfl) (acc t x h)
theorem ac (args : List AV) (x : Bool) (h : Q args = some x) : AC Try.prog 8 args [] false [] fun rv obs => (rv, obs) = encR x := by
  obtain ⟨t, rfl, h2⟩ := ofC_some h
  refine (ac0 t x h2).flat fun rv obs e => ?_
  obtain rfl : rv = (encR x).1 := congrArg Prod.fst e
  obtain rfl : obs = (encR x).2 := congrArg Prod.snd e
  refine ⟨by simp [encR, AV.Flat, K.Flat, C.Flat], ?_⟩
  simp [encR]
end laws_FnExactCutRaws
end Go.Al
