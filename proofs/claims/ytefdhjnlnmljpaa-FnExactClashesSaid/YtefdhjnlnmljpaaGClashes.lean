import Derived.Test.YtefdhjnlnmljpaaAlE
import Derived.Test.YtefdhjnlnmljpaaSC
import Derived.Test.YtefdhjnlnmljpaaGWl
import Derived.Test.YtefdhjnlnmljpaaGClIn
set_option linter.unusedVariables false
set_option linter.unusedSimpArgs false
set_option linter.constructorNameAsVariable false
set_option linter.unusedSectionVars false
set_option maxRecDepth 100000
namespace Go.Al
open Go.Proofs

/-! loop.example/g00073/impl.Clashes -/
namespace impl_Clashes
noncomputable def B {ρ : Type} (C0 : (Vec (Vec Int)) → (Vec (ByteArray × Int × Int × (Vec Int))) → Int → Int → Option (Int × (Vec (Bool × (Vec ByteArray) × (Vec ByteArray) × (Vec ByteArray))))) (C1 : (Vec (Bool × (Vec ByteArray) × (Vec ByteArray) × (Vec ByteArray))) → Option Int) (a1 : Vec (Vec Int)) (a2 : Vec (ByteArray × Int × Int × (Vec Int))) (a3 : Int) (a4 : Int) (K : Int → Option ρ) : Option ρ :=
  (C0 a1 a2 a3 a4).bind fun r1 => sel ((!decide (r1.1 = (0 : Int)))) (K (-1 : Int)) ((C1 r1.2).bind fun r2 => K r2)
noncomputable def F (a1 : Vec (Vec Int)) (a2 : Vec (ByteArray × Int × Int × (Vec Int))) (a3 : Int) (a4 : Int) : Option Int := B impl_RegionsOf.F impl_clashesIn.F a1 a2 a3 a4 (fun x1 => some (x1))
def encA (t : Vec (Vec Int) × (Vec (ByteArray × Int × Int × (Vec Int))) × Int × Int) : List AV := [.a [cl t.1, cl t.2.1], vi t.2.2.1, vi t.2.2.2]
def encR (x : Int) : AV × List Ob := (vi x, [])
theorem encAI : ∀ a b, encA a = encA b → a = b := by
  intro a b h
  obtain ⟨a0, a1, a2, a3⟩ := a
  obtain ⟨b0, b1, b2, b3⟩ := b
  simp [encA, encRw_iff] at h
  simp_all
theorem encRI : ∀ a b, encR a = encR b → a = b := by
  intro a b h
  simp [encR, encRw_iff] at h
  simp_all
noncomputable def Q (args : List AV) : Option Int := ofC encA (fun t => F t.1 t.2.1 t.2.2.1 t.2.2.2) args
theorem wrap : (fun (y1 : Vec (Vec Int)) (y2 : Vec (ByteArray × Int × Int × (Vec Int))) (y3 : Int) (y4 : Int) => Q [.a [cl y1, cl y2], vi y3, vi y4]) = F := by
  funext y1 y2 y3 y4
  exact ofC_enc encAI _ (y1, y2, y3, y4)
noncomputable def G (Q0 : List AV → Option (Int × (Vec (Bool × (Vec ByteArray) × (Vec ByteArray) × (Vec ByteArray))))) (Q1 : List AV → Option Int) : Orc := ⟨fun f => sel (Nat.beq f 77) 0 (sel (Nat.beq f 78) 0 (9)), fun ρ f args K => sel (Nat.beq f 77) (qEntry impl_RegionsOf.encR Q0 args K) (sel (Nat.beq f 78) (qEntry impl_clashesIn.encR Q1 args K) (Option.none)), noE, false⟩
noncomputable def L : Lor := fun ρ j st K => Option.none
theorem main (Q0 Q1) {ρ : Type} (K : AV → List Ob → Option ρ) (a1 a2 a3 a4) : exC Try.prog (G Q0 Q1) (L) [] 0 (bodyOf Try.f45) (entry 20 [.a [cl a1, cl a2], vi a3, vi a4] [] []) (finO Try.prog Try.f45.results.toList 0 [] [] K) =
    B (fun y1 y2 y3 y4 => Q0 [.a [cl y1, cl y2], vi y3, vi y4]) (fun y1 => Q1 [vl y1]) a1 a2 a3 a4 (fun x1 => K (vi x1) []) := by kernel_rfl
theorem Gok : (G impl_RegionsOf.Q impl_clashesIn.Q).ok Try.prog := ⟨(by
    intro ρ f args K r h
    rcases sel_cases h with ⟨hb, h⟩ | ⟨-, h⟩
    · obtain rfl := beq_nat hb
      exact qEntry_ok impl_RegionsOf.ac h
    rcases sel_cases h with ⟨hb, h⟩ | ⟨-, h⟩
    · obtain rfl := beq_nat hb
      exact qEntry_ok impl_clashesIn.ac h
    cases h),
  (by
    intro ρ f args K
    simp only [G]
    cases Nat.beq f 77 with
    | true => exact qEntry_nat args K
    | false =>
    simp only [sel]
    cases Nat.beq f 78 with
    | true => exact qEntry_nat args K
    | false =>
    simp only [sel]
    rfl),
  (fun ρ f st caps args dst K r h => (by cases h))⟩
theorem hm : Try.prog.follows .mixedOrders = true := by kernel_rfl
theorem e : atomsL [] 0 (bodyOf Try.f45) = [] := by kernel_rfl
theorem acc (t : Vec (Vec Int) × (Vec (ByteArray × Int × Int × (Vec Int))) × Int × Int) (x : Int) (h : F t.1 t.2.1 t.2.2.1 t.2.2.2 = some x) : ACc Try.prog 45 (encA t) [] true [] fun rv obs => (rv, obs) = encR x := by
  refine fun_okc (L := (L)) (jn := []) (cmds := []) (ks := []) (hin := []) (fn := Try.f45) (body := (bodyOf Try.f45)) Gok hm Try.func45 (by kernel_rfl) (by kernel_rfl) (by rw [e]; exact Lor.ok_nil _ _) ?_ h
  refine (main impl_RegionsOf.Q impl_clashesIn.Q _ t.1 t.2.1 t.2.2.1 t.2.2.2).trans ?_
  rw [impl_RegionsOf.wrap, impl_clashesIn.wrap]
  refine congrArg (fun K => B impl_RegionsOf.F impl_clashesIn.F t.1 t.2.1 t.2.2.1 t.2.2.2 K) ?_
  funext x1
  exact ofC_enc encRI some (x1)
theorem ac0 (t : Vec (Vec Int) × (Vec (ByteArray × Int × Int × (Vec Int))) × Int × Int) (x : Int) (h : F t.1 t.2.1 t.2.2.1 t.2.2.2 = some x) : AC Try.prog 45 (encA t) [] true [] fun rv obs => (rv, obs) = encR x := ACc.ac (body := bodyOf Try.f45) Try.func45 (by kernel_rfl) (by kernel_rfl) (acc t x h)
theorem ac (args : List AV) (x : Int) (h : Q args = some x) : AC Try.prog 45 args [] false [] fun rv obs => (rv, obs) = encR x := by
  obtain ⟨t, rfl, h2⟩ := ofC_some h
  refine (ac0 t x h2).flat fun rv obs e => ?_
  obtain rfl : rv = (encR x).1 := congrArg Prod.fst e
  obtain rfl : obs = (encR x).2 := congrArg Prod.snd e
  refine ⟨by simp [encR, AV.Flat, K.Flat, C.Flat], ?_⟩
  simp [encR]
end impl_Clashes
/-! loop.example/g00073/laws.FnExactClashes -/
namespace laws_FnExactClashes
noncomputable def B {ρ : Type} (C0 : (Vec (Vec Int)) → (Vec (ByteArray × Int × Int × (Vec Int))) → Int → Option Int) (C1 : (Vec (Vec Int)) → (Vec (ByteArray × Int × Int × (Vec Int))) → Option (Vec (Vec Int) × (Vec (ByteArray × Int × Int × (Vec Int))))) (C2 : (Vec (Vec Int)) → (Vec (ByteArray × Int × Int × (Vec Int))) → Int → Int → Option Int) (C3 : (Vec (Vec Int)) → (Vec (ByteArray × Int × Int × (Vec Int))) → Int → Int → Option Int) (C4 : (Vec (Vec Int)) → (Vec (ByteArray × Int × Int × (Vec Int))) → (Vec (Vec Int)) → (Vec (ByteArray × Int × Int × (Vec Int))) → Option Bool) (a1 : Vec (Vec Int)) (a2 : Vec (ByteArray × Int × Int × (Vec Int))) (a3 : Int) (a4 : Int) (K : Bool → Option ρ) : Option ρ :=
  (C0 a1 a2 (1048576 : Int)).bind fun r1 => sel (decide (r1 < (0 : Int))) (K true) ((C1 a1 a2).bind fun r2 => (C2 r2.1 r2.2 a3 a4).bind fun r3 => (C1 a1 a2).bind fun r4 => (C3 r4.1 r4.2 a3 a4).bind fun r5 => sel ((!decide (r5 = r3))) (K false) ((C1 a1 a2).bind fun r6 => (C4 r4.1 r4.2 r6.1 r6.2).bind fun r7 => sel ((!r7)) (K false) (K true)))
noncomputable def F (a1 : Vec (Vec Int)) (a2 : Vec (ByteArray × Int × Int × (Vec Int))) (a3 : Int) (a4 : Int) : Option Bool := B laws_szWeave.F laws_toWeave.F spec_Clashes.F impl_Clashes.F laws_eqWeave.F a1 a2 a3 a4 (fun x1 => some (x1))
def encA (t : Vec (Vec Int) × (Vec (ByteArray × Int × Int × (Vec Int))) × Int × Int) : List AV := [.a [cl t.1, cl t.2.1], vi t.2.2.1, vi t.2.2.2]
def encR (x : Bool) : AV × List Ob := (vb x, [])
theorem encAI : ∀ a b, encA a = encA b → a = b := by
  intro a b h
  obtain ⟨a0, a1, a2, a3⟩ := a
  obtain ⟨b0, b1, b2, b3⟩ := b
  simp [encA, encRw_iff] at h
  simp_all
theorem encRI : ∀ a b, encR a = encR b → a = b := by
  intro a b h
  simp [encR, encRw_iff] at h
  simp_all
noncomputable def Q (args : List AV) : Option Bool := ofC encA (fun t => F t.1 t.2.1 t.2.2.1 t.2.2.2) args
theorem wrap : (fun (y1 : Vec (Vec Int)) (y2 : Vec (ByteArray × Int × Int × (Vec Int))) (y3 : Int) (y4 : Int) => Q [.a [cl y1, cl y2], vi y3, vi y4]) = F := by
  funext y1 y2 y3 y4
  exact ofC_enc encAI _ (y1, y2, y3, y4)
noncomputable def G (Q0 : List AV → Option Int) (Q1 : List AV → Option (Vec (Vec Int) × (Vec (ByteArray × Int × Int × (Vec Int))))) (Q2 : List AV → Option Int) (Q3 : List AV → Option Int) (Q4 : List AV → Option Bool) : Orc := ⟨fun f => sel (Nat.beq f 11) 0 (sel (Nat.beq f 13) 0 (sel (Nat.beq f 44) 0 (sel (Nat.beq f 45) 0 (sel (Nat.beq f 15) 0 (9))))), fun ρ f args K => sel (Nat.beq f 11) (qEntry laws_szWeave.encR Q0 args K) (sel (Nat.beq f 13) (qEntry laws_toWeave.encR Q1 args K) (sel (Nat.beq f 44) (qEntry spec_Clashes.encR Q2 args K) (sel (Nat.beq f 45) (qEntry impl_Clashes.encR Q3 args K) (sel (Nat.beq f 15) (qEntry laws_eqWeave.encR Q4 args K) (Option.none))))), noE, false⟩
noncomputable def L : Lor := fun ρ j st K => Option.none
theorem main (Q0 Q1 Q2 Q3 Q4) {ρ : Type} (K : AV → List Ob → Option ρ) (a1 a2 a3 a4) : exC Try.prog (G Q0 Q1 Q2 Q3 Q4) (L) [] 0 (bodyOf Try.f10) (entry 35 [.a [cl a1, cl a2], vi a3, vi a4] [] []) (finO Try.prog Try.f10.results.toList 0 [] [] K) =
    B (fun y1 y2 y3 => Q0 [.a [cl y1, cl y2], vi y3]) (fun y1 y2 => Q1 [.a [cl y1, cl y2]]) (fun y1 y2 y3 y4 => Q2 [.a [cl y1, cl y2], vi y3, vi y4]) (fun y1 y2 y3 y4 => Q3 [.a [cl y1, cl y2], vi y3, vi y4]) (fun y1 y2 y3 y4 => Q4 [.a [cl y1, cl y2], .a [cl y3, cl y4]]) a1 a2 a3 a4 (fun x1 => K (vb x1) []) := by kernel_rfl
theorem Gok : (G laws_szWeave.Q laws_toWeave.Q spec_Clashes.Q impl_Clashes.Q laws_eqWeave.Q).ok Try.prog := ⟨(by
    intro ρ f args K r h
    rcases sel_cases h with ⟨hb, h⟩ | ⟨-, h⟩
    · obtain rfl := beq_nat hb
      exact qEntry_ok laws_szWeave.ac h
    rcases sel_cases h with ⟨hb, h⟩ | ⟨-, h⟩
    · obtain rfl := beq_nat hb
      exact qEntry_ok laws_toWeave.ac h
    rcases sel_cases h with ⟨hb, h⟩ | ⟨-, h⟩
    · obtain rfl := beq_nat hb
      exact qEntry_ok spec_Clashes.ac h
    rcases sel_cases h with ⟨hb, h⟩ | ⟨-, h⟩
    · obtain rfl := beq_nat hb
      exact qEntry_ok impl_Clashes.ac h
    rcases sel_cases h with ⟨hb, h⟩ | ⟨-, h⟩
    · obtain rfl := beq_nat hb
      exact qEntry_ok laws_eqWeave.ac h
    cases h),
  (by
    intro ρ f args K
    simp only [G]
    cases Nat.beq f 11 with
    | true => exact qEntry_nat args K
    | false =>
    simp only [sel]
    cases Nat.beq f 13 with
    | true => exact qEntry_nat args K
    | false =>
    simp only [sel]
    cases Nat.beq f 44 with
    | true => exact qEntry_nat args K
    | false =>
    simp only [sel]
    cases Nat.beq f 45 with
    | true => exact qEntry_nat args K
    | false =>
    simp only [sel]
    cases Nat.beq f 15 with
    | true => exact qEntry_nat args K
    | false =>
    simp only [sel]
    rfl),
  (fun ρ f st caps args dst K r h => (by cases h))⟩
theorem hm : Try.prog.follows .mixedOrders = true := by kernel_rfl
theorem e : atomsL [] 0 (bodyOf Try.f10) = [] := by kernel_rfl
theorem acc (t : Vec (Vec Int) × (Vec (ByteArray × Int × Int × (Vec Int))) × Int × Int) (x : Bool) (h : F t.1 t.2.1 t.2.2.1 t.2.2.2 = some x) : ACc Try.prog 10 (encA t) [] true [] fun rv obs => (rv, obs) = encR x := by
  refine fun_okc (L := (L)) (jn := []) (cmds := []) (ks := []) (hin := []) (fn := Try.f10) (body := (bodyOf Try.f10)) Gok hm Try.func10 (by kernel_rfl) (by kernel_rfl) (by rw [e]; exact Lor.ok_nil _ _) ?_ h
  refine (main laws_szWeave.Q laws_toWeave.Q spec_Clashes.Q impl_Clashes.Q laws_eqWeave.Q _ t.1 t.2.1 t.2.2.1 t.2.2.2).trans ?_
  rw [laws_szWeave.wrap, laws_toWeave.wrap, spec_Clashes.wrap, impl_Clashes.wrap, laws_eqWeave.wrap]
  refine congrArg (fun K => B laws_szWeave.F laws_toWeave.F spec_Clashes.F impl_Clashes.F laws_eqWeave.F t.1 t.2.1 t.2.2.1 t.2.2.2 K) ?_
  funext x1
  exact ofC_enc encRI some (x1)
theorem ac0 (t : Vec (Vec Int) × (Vec (ByteArray × Int × Int × (Vec Int))) × Int × Int) (x : Bool) (h : F t.1 t.2.1 t.2.2.1 t.2.2.2 = some x) : AC Try.prog 10 (encA t) [] true [] fun rv obs => (rv, obs) = encR x := ACc.ac (body := bodyOf Try.f10) Try.func10 (by kernel_rfl) (by kernel_rfl) (acc t x h)
theorem ac (args : List AV) (x : Bool) (h : Q args = some x) : AC Try.prog 10 args [] false [] fun rv obs => (rv, obs) = encR x := by
  obtain ⟨t, rfl, h2⟩ := ofC_some h
  refine (ac0 t x h2).flat fun rv obs e => ?_
  obtain rfl : rv = (encR x).1 := congrArg Prod.fst e
  obtain rfl : obs = (encR x).2 := congrArg Prod.snd e
  refine ⟨by simp [encR, AV.Flat, K.Flat, C.Flat], ?_⟩
  simp [encR]
end laws_FnExactClashes
end Go.Al
