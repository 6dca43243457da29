import Derived.Test.YtefdhjnlnmljpaaAlE
import Derived.Test.YtefdhjnlnmljpaaSC
import Derived.Test.YtefdhjnlnmljpaaGWv
import Derived.Test.YtefdhjnlnmljpaaGWl
import Derived.Test.YtefdhjnlnmljpaaGMkW
set_option linter.unusedVariables false
set_option linter.unusedSimpArgs false
set_option linter.constructorNameAsVariable false
set_option linter.unusedSectionVars false
set_option maxRecDepth 100000
namespace Go.Al
open Go.Proofs

/-! loop.example/g00073/spec.l06Lines -/
namespace spec_l06Lines
noncomputable def B0 {ρ : Type} (v1 : Vec Int) (v2 : Int) (v3 : Vec (Vec Int)) (v4 : Vec (ByteArray × Int × Int × (Vec Int))) (v5 : Vec ByteArray) (W : (Vec Int) → Int → (Vec (Vec Int)) → (Vec (ByteArray × Int × Int × (Vec Int))) → (Vec ByteArray) → Option ρ) (K0 : (Vec ByteArray) → Option ρ) : Option ρ :=
  sel (decide (v2 < (v1.n : Int))) (chk (decide (0 ≤ v2 ∧ v2 < (v1.n : Int))) (chk (decide (0 ≤ (v1.g v2.toNat) ∧ (v1.g v2.toNat) < (v4.n : Int))) (chk (decide ((v5.n + (Vec.lit [(v4.g (v1.g v2.toNat).toNat).1] : Vec ByteArray).n) * 17 ≤ maxN)) (W v1 (wr (v2 + (1 : Int))) v3 v4 (Vec.app v5 (Vec.lit [(v4.g (v1.g v2.toNat).toNat).1] : Vec ByteArray)))))) (K0 v5)
noncomputable def F0 {ρ : Type} : Nat → (Vec Int) → Int → (Vec (Vec Int)) → (Vec (ByteArray × Int × Int × (Vec Int))) → (Vec ByteArray) → ((Vec ByteArray) → Option ρ) → Option ρ
  | 0, _, _, _, _, _, _ => none
  | k + 1, v1, v2, v3, v4, v5, K0 => B0 v1 v2 v3 v4 v5 (fun v1' v2' v3' v4' v5' => F0 k v1' v2' v3' v4' v5' K0) K0
noncomputable def B {ρ : Type} (L0 : (Vec Int) → Int → (Vec (Vec Int)) → (Vec (ByteArray × Int × Int × (Vec Int))) → (Vec ByteArray) → ((Vec ByteArray) → Option ρ) → Option ρ) (a1 : Vec (Vec Int)) (a2 : Vec (ByteArray × Int × Int × (Vec Int))) (a3 : Vec Int) (K : (Vec ByteArray) → Option ρ) : Option ρ :=
  L0 a3 (0 : Int) a1 a2 (Vec.nil : Vec ByteArray) (fun e01 => K e01)
noncomputable def F (a1 : Vec (Vec Int)) (a2 : Vec (ByteArray × Int × Int × (Vec Int))) (a3 : Vec Int) : Option (Vec ByteArray) := B (F0 fuelN) a1 a2 a3 (fun x1 => some (x1))
def encA (t : Vec (Vec Int) × (Vec (ByteArray × Int × Int × (Vec Int))) × Vec Int) : List AV := [.a [cl t.1, cl t.2.1], vl t.2.2]
def encR (x : Vec ByteArray) : AV × List Ob := (.c (.h 0), [ro x])
theorem encAI : ∀ a b, encA a = encA b → a = b := by
  intro a b h
  obtain ⟨a0, a1, a2⟩ := a
  obtain ⟨b0, b1, b2⟩ := b
  simp [encA, encRw_iff] at h
  simp_all
theorem encRI : ∀ a b, encR a = encR b → a = b := by
  intro a b h
  simp [encR, encRw_iff] at h
  simp_all
noncomputable def Q (args : List AV) : Option (Vec ByteArray) := ofC encA (fun t => F t.1 t.2.1 t.2.2) args
theorem wrap : (fun (y1 : Vec (Vec Int)) (y2 : Vec (ByteArray × Int × Int × (Vec Int))) (y3 : Vec Int) => Q [.a [cl y1, cl y2], vl y3]) = F := by
  funext y1 y2 y3
  exact ofC_enc encAI _ (y1, y2, y3)
noncomputable def G : Orc := ⟨fun f => 9, fun ρ f args K => Option.none, noE, false⟩
noncomputable def L (W0 : (ρ : Type) → List AV → List Ob → ((Vec ByteArray) → Option ρ) → Option ρ) : Lor := fun ρ j st K => sel (Nat.beq j 0) (cutO Try.prog 27 [1, 2, 5, 6] 0 [] [.ad (.s 5) 78] st fun avs obs => W0 ρ avs obs (fun z1 => K (.exit 0) (mkS 27 [5] [.c (.h 0)] [ro z1] []))) (Option.none)
noncomputable def c0 : Code := loopC (atomN [] 0 (bodyOf Try.f93) 0)
def ct0 : Cut := ⟨[1, 2, 5, 6], [.ad (.s 5) 78]⟩
def lv0 : Exit → Cut
  | .exit 0 => ⟨[5], []⟩
  | _ => ⟨[], []⟩
theorem step0 (W0) {ρ : Type} (K : Exit → St → Option ρ) (W : List AV → List Ob → Option ρ) (v1 v2 v3 v4 v5) : exC Try.prog (G) (L W0) [] 1 c0 (mkS 27 [1, 2, 5, 6] [vl v1, .c (.p 0 0), .c (.h 1), vi v2] [.box [cl v3, cl v4], ro v5] []) (bodyK Try.prog 27 0 [] ct0 W lv0 K) =
    B0 v1 v2 v3 v4 v5 (fun u1 u2 u3 u4 u5 => W [vl u1, .c (.p 0 0), .c (.h 1), vi u2] [.box [cl u3, cl u4], ro u5]) (fun z1 => K (.exit 0) (mkS 27 [5] [.c (.h 0)] [ro z1] [])) := by kernel_rfl
def enc0 (t : Vec Int × Int × Vec (Vec Int) × (Vec (ByteArray × Int × Int × (Vec Int))) × Vec ByteArray) : List AV × List Ob := ([vl t.1, .c (.p 0 0), .c (.h 1), vi t.2.1], [.box [cl t.2.2.1, cl t.2.2.2.1], ro t.2.2.2.2])
theorem enc0I : ∀ a b, enc0 a = enc0 b → a = b := by
  intro a b h
  obtain ⟨a0, a1, a2, a3, a4⟩ := a
  obtain ⟨b0, b1, b2, b3, b4⟩ := b
  simp [enc0, encRw_iff] at h
  simp_all
noncomputable def V0 : (ρ : Type) → List AV → List Ob → ((Vec ByteArray) → Option ρ) → Option ρ := fun ρ avs obs k0 => ofC enc0 (fun t => F0 fuelN t.1 t.2.1 t.2.2.1 t.2.2.2.1 t.2.2.2.2 k0) (avs, obs)
theorem V0_enc (ρ : Type) : (fun w1 w2 w3 w4 w5 k0 => V0 ρ [vl w1, .c (.p 0 0), .c (.h 1), vi w2] [.box [cl w3, cl w4], ro w5] k0) = F0 fuelN := by
  funext w1 w2 w3 w4 w5 k0
  exact ofC_enc enc0I _ (w1, w2, w3, w4, w5)
theorem main (W0) {ρ : Type} (K : AV → List Ob → Option ρ) (a1 a2 a3) : exC Try.prog (G) (L W0) [] 0 (bodyOf Try.f93) (entry 27 [.a [cl a1, cl a2], vl a3] [] []) (finO Try.prog Try.f93.results.toList 0 [] [] K) =
    B (fun w1 w2 w3 w4 w5 k0 => W0 ρ [vl w1, .c (.p 0 0), .c (.h 1), vi w2] [.box [cl w3, cl w4], ro w5] k0) a1 a2 a3 (fun x1 => K (.c (.h 0)) [ro x1]) := by kernel_rfl
theorem Gok : (G).ok Try.prog := ⟨(fun ρ f args K r h => (by cases h)),
  (fun ρ f args K => rfl),
  (fun ρ f st caps args dst K r h => (by cases h))⟩
theorem hm : Try.prog.follows .mixedOrders = true := by kernel_rfl
theorem e0 : atomsL [] 1 c0 = [] := by kernel_rfl
theorem ok0 (ρ : Type) (st : St) (K : Exit → St → Option ρ) (r : ρ) (h : (L V0) ρ 0 st K = some r) : AW Try.prog (.loop c0) st fun e st' => K e st' = some r := by
  refine loop_ok (ct := ct0) (lv := lv0) (n := 27) (m := 0) (ks := []) (j := 0) (jn := []) (L := (L V0)) Gok hm (by rw [e0]; exact Lor.ok_nil _ _) enc0I (fun k t => F0 k t.1 t.2.1 t.2.2.1 t.2.2.2.1 t.2.2.2.2 (fun z1 => K (.exit 0) (mkS 27 [5] [.c (.h 0)] [ro z1] []))) (fun t => rfl) (fun k t => ?_) (fun _ => fuelN) h
  refine (step0 V0 K _ t.1 t.2.1 t.2.2.1 t.2.2.2.1 t.2.2.2.2).trans ?_
  refine congrArg (fun W => B0 t.1 t.2.1 t.2.2.1 t.2.2.2.1 t.2.2.2.2 W (fun z1 => K (.exit 0) (mkS 27 [5] [.c (.h 0)] [ro z1] []))) ?_
  funext u1 u2 u3 u4 u5
  exact ofC_enc enc0I _ (u1, u2, u3, u4, u5)
theorem e : atomsL [] 0 (bodyOf Try.f93) = [(0, 0, .loop c0)] := by kernel_rfl
theorem acc (t : Vec (Vec Int) × (Vec (ByteArray × Int × Int × (Vec Int))) × Vec Int) (x : Vec ByteArray) (h : F t.1 t.2.1 t.2.2 = some x) : ACc Try.prog 93 (encA t) [] true [] fun rv obs => (rv, obs) = encR x := by
  refine fun_okc (L := (L V0)) (jn := []) (cmds := []) (ks := []) (hin := []) (fn := Try.f93) (body := (bodyOf Try.f93)) Gok hm Try.func93 (by kernel_rfl) (by kernel_rfl) (by rw [e]; exact Lor.ok_cons ok0 (Lor.ok_nil _ _)) ?_ h
  refine (main V0 _ t.1 t.2.1 t.2.2).trans ?_
  rw [V0_enc]
  refine congrArg (fun K => B (F0 fuelN) t.1 t.2.1 t.2.2 K) ?_
  funext x1
  exact ofC_enc encRI some (x1)
theorem ac0 (t : Vec (Vec Int) × (Vec (ByteArray × Int × Int × (Vec Int))) × Vec Int) (x : Vec ByteArray) (h : F t.1 t.2.1 t.2.2 = some x) : AC Try.prog 93 (encA t) [] true [] fun rv obs => (rv, obs) = encR x := ACc.ac (body := bodyOf Try.f93) Try.func93 (by kernel_rfl) (by kernel_rfl) (acc t x h)
theorem ac (args : List AV) (x : Vec ByteArray) (h : Q args = some x) : AC Try.prog 93 args [] false [] fun rv obs => (rv, obs) = encR x := by
  obtain ⟨t, rfl, h2⟩ := ofC_some h
  refine (ac0 t x h2).flat fun rv obs e => ?_
  obtain rfl : rv = (encR x).1 := congrArg Prod.fst e
  obtain rfl : obs = (encR x).2 := congrArg Prod.snd e
  refine ⟨by simp [encR, AV.Flat, K.Flat, C.Flat], ?_⟩
  intro o ho
  simp only [encR, List.mem_cons, List.not_mem_nil, or_false] at ho
  subst ho
  exact flat_rw rfl _
end spec_l06Lines
/-! loop.example/g00073/spec.l06Text -/
namespace spec_l06Text
noncomputable def B {ρ : Type} (C0 : (Vec (Vec Int)) → (Vec (ByteArray × Int × Int × (Vec Int))) → Int → Option (Vec Bool)) (C1 : (Vec (Vec Int)) → (Vec (ByteArray × Int × Int × (Vec Int))) → (Vec Bool) → Option (Vec Int)) (C2 : (Vec (Vec Int)) → (Vec (ByteArray × Int × Int × (Vec Int))) → (Vec Int) → Option (Vec ByteArray)) (a1 : Vec (Vec Int)) (a2 : Vec (ByteArray × Int × Int × (Vec Int))) (a3 : Int) (K : (Vec ByteArray) → Option ρ) : Option ρ :=
  (C0 a1 a2 a3).bind fun r1 => (C1 a1 a2 r1).bind fun r2 => (C2 a1 a2 r2).bind fun r3 => K r3
noncomputable def F (a1 : Vec (Vec Int)) (a2 : Vec (ByteArray × Int × Int × (Vec Int))) (a3 : Int) : Option (Vec ByteArray) := B spec_l06Closure.F spec_l06Places.F spec_l06Lines.F a1 a2 a3 (fun x1 => some (x1))
def encA (t : Vec (Vec Int) × (Vec (ByteArray × Int × Int × (Vec Int))) × Int) : List AV := [.a [cl t.1, cl t.2.1], vi t.2.2]
def encR (x : Vec ByteArray) : AV × List Ob := (.c (.h 0), [ro x])
theorem encAI : ∀ a b, encA a = encA b → a = b := by
  intro a b h
  obtain ⟨a0, a1, a2⟩ := a
  obtain ⟨b0, b1, b2⟩ := b
  simp [encA, encRw_iff] at h
  simp_all
theorem encRI : ∀ a b, encR a = encR b → a = b := by
  intro a b h
  simp [encR, encRw_iff] at h
  simp_all
noncomputable def Q (args : List AV) : Option (Vec ByteArray) := ofC encA (fun t => F t.1 t.2.1 t.2.2) args
theorem wrap : (fun (y1 : Vec (Vec Int)) (y2 : Vec (ByteArray × Int × Int × (Vec Int))) (y3 : Int) => Q [.a [cl y1, cl y2], vi y3]) = F := by
  funext y1 y2 y3
  exact ofC_enc encAI _ (y1, y2, y3)
noncomputable def G (Q0 : List AV → Option (Vec Bool)) (Q1 : List AV → Option (Vec Int)) (Q2 : List AV → Option (Vec ByteArray)) : Orc := ⟨fun f => sel (Nat.beq f 50) 0 (sel (Nat.beq f 65) 0 (sel (Nat.beq f 93) 0 (9))), fun ρ f args K => sel (Nat.beq f 50) (qEntry spec_l06Closure.encR Q0 args K) (sel (Nat.beq f 65) (qEntry spec_l06Places.encR Q1 args K) (sel (Nat.beq f 93) (qEntry spec_l06Lines.encR Q2 args K) (Option.none))), noE, false⟩
noncomputable def L : Lor := fun ρ j st K => Option.none
theorem main (Q0 Q1 Q2) {ρ : Type} (K : AV → List Ob → Option ρ) (a1 a2 a3) : exC Try.prog (G Q0 Q1 Q2) (L) [] 0 (bodyOf Try.f57) (entry 12 [.a [cl a1, cl a2], vi a3] [] []) (finO Try.prog Try.f57.results.toList 0 [] [] K) =
    B (fun y1 y2 y3 => Q0 [.a [cl y1, cl y2], vi y3]) (fun y1 y2 y3 => Q1 [.a [cl y1, cl y2], vl y3]) (fun y1 y2 y3 => Q2 [.a [cl y1, cl y2], vl y3]) a1 a2 a3 (fun x1 => K (.c (.h 0)) [ro x1]) := by kernel_rfl
theorem Gok : (G spec_l06Closure.Q spec_l06Places.Q spec_l06Lines.Q).ok Try.prog := ⟨(by
    intro ρ f args K r h
    rcases sel_cases h with ⟨hb, h⟩ | ⟨-, h⟩
    · obtain rfl := beq_nat hb
      exact qEntry_ok spec_l06Closure.ac h
    rcases sel_cases h with ⟨hb, h⟩ | ⟨-, h⟩
    · obtain rfl := beq_nat hb
      exact qEntry_ok spec_l06Places.ac h
    rcases sel_cases h with ⟨hb, h⟩ | ⟨-, h⟩
    · obtain rfl := beq_nat hb
      exact qEntry_ok spec_l06Lines.ac h
    cases h),
  (by
    intro ρ f args K
    simp only [G]
    cases Nat.beq f 50 with
    | true => exact qEntry_nat args K
    | false =>
    simp only [sel]
    cases Nat.beq f 65 with
    | true => exact qEntry_nat args K
    | false =>
    simp only [sel]
    cases Nat.beq f 93 with
    | true => exact qEntry_nat args K
    | false =>
    simp only [sel]
    rfl),
  (fun ρ f st caps args dst K r h => (by cases h))⟩
theorem hm : Try.prog.follows .mixedOrders = true := by kernel_rfl
theorem e : atomsL [] 0 (bodyOf Try.f57) = [] := by kernel_rfl
theorem acc (t : Vec (Vec Int) × (Vec (ByteArray × Int × Int × (Vec Int))) × Int) (x : Vec ByteArray) (h : F t.1 t.2.1 t.2.2 = some x) : ACc Try.prog 57 (encA t) [] true [] fun rv obs => (rv, obs) = encR x := by
  refine fun_okc (L := (L)) (jn := []) (cmds := []) (ks := []) (hin := []) (fn := Try.f57) (body := (bodyOf Try.f57)) Gok hm Try.func57 (by kernel_rfl) (by kernel_rfl) (by rw [e]; exact Lor.ok_nil _ _) ?_ h
  refine (main spec_l06Closure.Q spec_l06Places.Q spec_l06Lines.Q _ t.1 t.2.1 t.2.2).trans ?_
  rw [spec_l06Closure.wrap, spec_l06Places.wrap, spec_l06Lines.wrap]
  refine congrArg (fun K => B spec_l06Closure.F spec_l06Places.F spec_l06Lines.F t.1 t.2.1 t.2.2 K) ?_
  funext x1
  exact ofC_enc encRI some (x1)
theorem ac0 (t : Vec (Vec Int) × (Vec (ByteArray × Int × Int × (Vec Int))) × Int) (x : Vec ByteArray) (h : F t.1 t.2.1 t.2.2 = some x) : AC Try.prog 57 (encA t) [] true [] fun rv obs => (rv, obs) = encR x := ACc.ac (body := bodyOf Try.f57) Try.func57 (by kernel_rfl) (by kernel_rfl) (acc t x h)
theorem ac (args : List AV) (x : Vec ByteArray) (h : Q args = some x) : AC Try.prog 57 args [] false [] fun rv obs => (rv, obs) = encR x := by
  obtain ⟨t, rfl, h2⟩ := ofC_some h
  refine (ac0 t x h2).flat fun rv obs e => ?_
  obtain rfl : rv = (encR x).1 := congrArg Prod.fst e
  obtain rfl : obs = (encR x).2 := congrArg Prod.snd e
  refine ⟨by simp [encR, AV.Flat, K.Flat, C.Flat], ?_⟩
  intro o ho
  simp only [encR, List.mem_cons, List.not_mem_nil, or_false] at ho
  subst ho
  exact flat_rw rfl _
end spec_l06Text
/-! loop.example/g00073/spec.l12SameTexts -/
namespace spec_l12SameTexts
noncomputable def B0 {ρ : Type} (v1 : Vec ByteArray) (v2 : Vec ByteArray) (v3 : Int) (W : (Vec ByteArray) → (Vec ByteArray) → Int → Option ρ) (K0 : Unit → Option ρ) (Kr : Bool → Option ρ) : Option ρ :=
  sel (decide (v3 < (v1.n : Int))) (chk (decide (0 ≤ v3 ∧ v3 < (v1.n : Int))) (chk (decide (0 ≤ v3 ∧ v3 < (v2.n : Int))) (sel ((!decide ((v1.g v3.toNat) = (v2.g v3.toNat)))) (Kr false) (W v1 v2 (wr (v3 + (1 : Int))))))) (K0 ())
noncomputable def F0 {ρ : Type} : Nat → (Vec ByteArray) → (Vec ByteArray) → Int → (Unit → Option ρ) → (Bool → Option ρ) → Option ρ
  | 0, _, _, _, _, _ => none
  | k + 1, v1, v2, v3, K0, Kr => B0 v1 v2 v3 (fun v1' v2' v3' => F0 k v1' v2' v3' K0 Kr) K0 Kr
noncomputable def B {ρ : Type} (L0 : (Vec ByteArray) → (Vec ByteArray) → Int → (Unit → Option ρ) → (Bool → Option ρ) → Option ρ) (a1 : Vec ByteArray) (a2 : Vec ByteArray) (K : Bool → Option ρ) : Option ρ :=
  sel ((!decide ((a1.n : Int) = (a2.n : Int)))) (K false) (L0 a1 a2 (0 : Int) (fun _ => K true) (fun x01 => K x01))
noncomputable def F (a1 : Vec ByteArray) (a2 : Vec ByteArray) : Option Bool := B (F0 fuelN) a1 a2 (fun x1 => some (x1))
def encA (t : Vec ByteArray × Vec ByteArray) : List AV := [vl t.1, vl t.2]
def encR (x : Bool) : AV × List Ob := (vb x, [])
theorem encAI : ∀ a b, encA a = encA b → a = b := by
  intro a b h
  obtain ⟨a0, a1⟩ := a
  obtain ⟨b0, b1⟩ := b
  simp [encA, encRw_iff] at h
  simp_all
theorem encRI : ∀ a b, encR a = encR b → a = b := by
  intro a b h
  simp [encR, encRw_iff] at h
  simp_all
noncomputable def Q (args : List AV) : Option Bool := ofC encA (fun t => F t.1 t.2) args
theorem wrap : (fun (y1 : Vec ByteArray) (y2 : Vec ByteArray) => Q [vl y1, vl y2]) = F := by
  funext y1 y2
  exact ofC_enc encAI _ (y1, y2)
noncomputable def G : Orc := ⟨fun f => 9, fun ρ f args K => Option.none, noE, false⟩
noncomputable def L (W0 : (ρ : Type) → List AV → List Ob → (Unit → Option ρ) → (Bool → Option ρ) → Option ρ) : Lor := fun ρ j st K => sel (Nat.beq j 0) (cutO Try.prog 26 [0, 1, 5] 0 [] [] st fun avs obs => W0 ρ avs obs (fun _ => K (.exit 0) (mkS 26 [] [] [] [])) (fun z1 => K .ret (mkS 26 [4] [vb z1] [] []))) (Option.none)
noncomputable def c0 : Code := loopC (atomN [] 0 (bodyOf Try.f56) 0)
def ct0 : Cut := ⟨[0, 1, 5], []⟩
def lv0 : Exit → Cut
  | .exit 0 => ⟨[], []⟩
  | .ret => ⟨[4], []⟩
  | _ => ⟨[], []⟩
theorem step0 (W0) {ρ : Type} (K : Exit → St → Option ρ) (W : List AV → List Ob → Option ρ) (v1 v2 v3) : exC Try.prog (G) (L W0) [] 1 c0 (mkS 26 [0, 1, 5] [vl v1, vl v2, vi v3] [] []) (bodyK Try.prog 26 0 [] ct0 W lv0 K) =
    B0 v1 v2 v3 (fun u1 u2 u3 => W [vl u1, vl u2, vi u3] []) (fun _ => K (.exit 0) (mkS 26 [] [] [] [])) (fun z1 => K .ret (mkS 26 [4] [vb z1] [] [])) := by kernel_rfl
def enc0 (t : Vec ByteArray × Vec ByteArray × Int) : List AV × List Ob := ([vl t.1, vl t.2.1, vi t.2.2], [])
theorem enc0I : ∀ a b, enc0 a = enc0 b → a = b := by
  intro a b h
  obtain ⟨a0, a1, a2⟩ := a
  obtain ⟨b0, b1, b2⟩ := b
  simp [enc0, encRw_iff] at h
  simp_all
noncomputable def V0 : (ρ : Type) → List AV → List Ob → (Unit → Option ρ) → (Bool → Option ρ) → Option ρ := fun ρ avs obs k0 kr => ofC enc0 (fun t => F0 fuelN t.1 t.2.1 t.2.2 k0 kr) (avs, obs)
theorem V0_enc (ρ : Type) : (fun w1 w2 w3 k0 kr => V0 ρ [vl w1, vl w2, vi w3] [] k0 kr) = F0 fuelN := by
  funext w1 w2 w3 k0 kr
  exact ofC_enc enc0I _ (w1, w2, w3)
theorem main (W0) {ρ : Type} (K : AV → List Ob → Option ρ) (a1 a2) : exC Try.prog (G) (L W0) [] 0 (bodyOf Try.f56) (entry 26 [vl a1, vl a2] [] []) (finO Try.prog Try.f56.results.toList 0 [] [] K) =
    B (fun w1 w2 w3 k0 kr => W0 ρ [vl w1, vl w2, vi w3] [] k0 kr) a1 a2 (fun x1 => K (vb x1) []) := by kernel_rfl
theorem Gok : (G).ok Try.prog := ⟨(fun ρ f args K r h => (by cases h)),
  (fun ρ f args K => rfl),
  (fun ρ f st caps args dst K r h => (by cases h))⟩
theorem hm : Try.prog.follows .mixedOrders = true := by kernel_rfl
theorem e0 : atomsL [] 1 c0 = [] := by kernel_rfl
theorem ok0 (ρ : Type) (st : St) (K : Exit → St → Option ρ) (r : ρ) (h : (L V0) ρ 0 st K = some r) : AW Try.prog (.loop c0) st fun e st' => K e st' = some r := by
  refine loop_ok (ct := ct0) (lv := lv0) (n := 26) (m := 0) (ks := []) (j := 0) (jn := []) (L := (L V0)) Gok hm (by rw [e0]; exact Lor.ok_nil _ _) enc0I (fun k t => F0 k t.1 t.2.1 t.2.2 (fun _ => K (.exit 0) (mkS 26 [] [] [] [])) (fun z1 => K .ret (mkS 26 [4] [vb z1] [] []))) (fun t => rfl) (fun k t => ?_) (fun _ => fuelN) h
  refine (step0 V0 K _ t.1 t.2.1 t.2.2).trans ?_
  refine congrArg (fun W => B0 t.1 t.2.1 t.2.2 W (fun _ => K (.exit 0) (mkS 26 [] [] [] [])) (fun z1 => K .ret (mkS 26 [4] [vb z1] [] []))) ?_
  funext u1 u2 u3
  exact ofC_enc enc0I _ (u1, u2, u3)
theorem e : atomsL [] 0 (bodyOf Try.f56) = [(0, 0, .loop c0)] := by kernel_rfl
theorem acc (t : Vec ByteArray × Vec ByteArray) (x : Bool) (h : F t.1 t.2 = some x) : ACc Try.prog 56 (encA t) [] true [] fun rv obs => (rv, obs) = encR x := by
  refine fun_okc (L := (L V0)) (jn := []) (cmds := []) (ks := []) (hin := []) (fn := Try.f56) (body := (bodyOf Try.f56)) Gok hm Try.func56 (by kernel_rfl) (by kernel_rfl) (by rw [e]; exact Lor.ok_cons ok0 (Lor.ok_nil _ _)) ?_ h
  refine (main V0 _ t.1 t.2).trans ?_
  rw [V0_enc]
  refine congrArg (fun K => B (F0 fuelN) t.1 t.2 K) ?_
  funext x1
  exact ofC_enc encRI some (x1)
theorem ac0 (t : Vec ByteArray × Vec ByteArray) (x : Bool) (h : F t.1 t.2 = some x) : AC Try.prog 56 (encA t) [] true [] fun rv obs => (rv, obs) = encR x := ACc.ac (body := bodyOf Try.f56) Try.func56 (by kernel_rfl) (by kernel_rfl) (acc t x h)
theorem ac (args : List AV) (x : Bool) (h : Q args = some x) : AC Try.prog 56 args [] false [] fun rv obs => (rv, obs) = encR x := by
  obtain ⟨t, rfl, h2⟩ := ofC_some h
  refine (ac0 t x h2).flat fun rv obs e => ?_
  obtain rfl : rv = (encR x).1 := congrArg Prod.fst e
  obtain rfl : obs = (encR x).2 := congrArg Prod.snd e
  refine ⟨by simp [encR, AV.Flat, K.Flat, C.Flat], ?_⟩
  simp [encR]
end spec_l12SameTexts
/-! loop.example/g00073/spec.Twins -/
namespace spec_Twins
noncomputable def B1 {ρ : Type} (C1 : (Vec (Vec Int)) → (Vec (ByteArray × Int × Int × (Vec Int))) → Int → Option (Vec ByteArray)) (C2 : (Vec ByteArray) → (Vec ByteArray) → Option Bool) (v1 : Bool) (v2 : Int) (v3 : Int) (v4 : Vec (Vec Int)) (v5 : Vec (ByteArray × Int × Int × (Vec Int))) (v6 : Vec (Vec Int)) (W : Bool → Int → Int → (Vec (Vec Int)) → (Vec (ByteArray × Int × Int × (Vec Int))) → (Vec (Vec Int)) → Option ρ) (K2 : Bool → Int → (Vec (Vec Int)) → (Vec (ByteArray × Int × Int × (Vec Int))) → (Vec (Vec Int)) → Option ρ) : Option ρ :=
  sel (decide (v3 < (v4.n : Int))) ((C1 v4 v5 v2).bind fun r2 => (C1 v4 v5 v3).bind fun r3 => (C2 r2 r3).bind fun r4 => sel (r4) (chk (decide ((v6.n + (Vec.lit [(Vec.lit [v2, v3] : Vec Int)] : Vec (Vec Int)).n) * 25 ≤ maxN)) (W v1 v2 (wr (v3 + (1 : Int))) v4 v5 (Vec.app v6 (Vec.lit [(Vec.lit [v2, v3] : Vec Int)] : Vec (Vec Int))))) (W v1 v2 (wr (v3 + (1 : Int))) v4 v5 v6)) (K2 v1 v2 v4 v5 v6)
noncomputable def F1 {ρ : Type} : Nat → Bool → Int → Int → (Vec (Vec Int)) → (Vec (ByteArray × Int × Int × (Vec Int))) → (Vec (Vec Int)) → (Bool → Int → (Vec (Vec Int)) → (Vec (ByteArray × Int × Int × (Vec Int))) → (Vec (Vec Int)) → Option ρ) → Option ρ
  | 0, _, _, _, _, _, _, _ => none
  | k + 1, v1, v2, v3, v4, v5, v6, K2 => B1 spec_l06Text.F spec_l12SameTexts.F v1 v2 v3 v4 v5 v6 (fun v1' v2' v3' v4' v5' v6' => F1 k v1' v2' v3' v4' v5' v6' K2) K2
noncomputable def B0 {ρ : Type} (L1 : Bool → Int → Int → (Vec (Vec Int)) → (Vec (ByteArray × Int × Int × (Vec Int))) → (Vec (Vec Int)) → (Bool → Int → (Vec (Vec Int)) → (Vec (ByteArray × Int × Int × (Vec Int))) → (Vec (Vec Int)) → Option ρ) → Option ρ) (v1 : Bool) (v2 : Int) (v3 : Vec (Vec Int)) (v4 : Vec (ByteArray × Int × Int × (Vec Int))) (v5 : Vec (Vec Int)) (W : Bool → Int → (Vec (Vec Int)) → (Vec (ByteArray × Int × Int × (Vec Int))) → (Vec (Vec Int)) → Option ρ) (K0 : (Vec (Vec Int)) → Option ρ) : Option ρ :=
  sel (decide (v2 < (v3.n : Int))) (sel (v1) (L1 v1 v2 (wr (v2 + (1 : Int))) v3 v4 v5 (fun e11 e12 e13 e14 e15 => W e11 (wr (e12 + (1 : Int))) e13 e14 e15)) (K0 v5)) (K0 v5)
noncomputable def F0 {ρ : Type} : Nat → Bool → Int → (Vec (Vec Int)) → (Vec (ByteArray × Int × Int × (Vec Int))) → (Vec (Vec Int)) → ((Vec (Vec Int)) → Option ρ) → Option ρ
  | 0, _, _, _, _, _, _ => none
  | k + 1, v1, v2, v3, v4, v5, K0 => B0 (F1 fuelN) v1 v2 v3 v4 v5 (fun v1' v2' v3' v4' v5' => F0 k v1' v2' v3' v4' v5' K0) K0
noncomputable def B {ρ : Type} (C0 : (Vec (Vec Int)) → (Vec (ByteArray × Int × Int × (Vec Int))) → Option Bool) (L0 : Bool → Int → (Vec (Vec Int)) → (Vec (ByteArray × Int × Int × (Vec Int))) → (Vec (Vec Int)) → ((Vec (Vec Int)) → Option ρ) → Option ρ) (a1 : Vec (Vec Int)) (a2 : Vec (ByteArray × Int × Int × (Vec Int))) (K : (Vec (Vec Int)) → Option ρ) : Option ρ :=
  (C0 a1 a2).bind fun r1 => L0 r1 (0 : Int) a1 a2 (Vec.nil : Vec (Vec Int)) (fun e01 => K e01)
noncomputable def F (a1 : Vec (Vec Int)) (a2 : Vec (ByteArray × Int × Int × (Vec Int))) : Option (Vec (Vec Int)) := B spec_WeaveOk.F (F0 fuelN) a1 a2 (fun x1 => some (x1))
def encA (t : Vec (Vec Int) × (Vec (ByteArray × Int × Int × (Vec Int)))) : List AV := [.a [cl t.1, cl t.2]]
def encR (x : Vec (Vec Int)) : AV × List Ob := (.c (.h 0), [ro x])
theorem encAI : ∀ a b, encA a = encA b → a = b := by
  intro a b h
  obtain ⟨a0, a1⟩ := a
  obtain ⟨b0, b1⟩ := b
  simp [encA, encRw_iff] at h
  simp_all
theorem encRI : ∀ a b, encR a = encR b → a = b := by
  intro a b h
  simp [encR, encRw_iff] at h
  simp_all
noncomputable def Q (args : List AV) : Option (Vec (Vec Int)) := ofC encA (fun t => F t.1 t.2) args
theorem wrap : (fun (y1 : Vec (Vec Int)) (y2 : Vec (ByteArray × Int × Int × (Vec Int))) => Q [.a [cl y1, cl y2]]) = F := by
  funext y1 y2
  exact ofC_enc encAI _ (y1, y2)
noncomputable def G (Q0 : List AV → Option Bool) (Q1 : List AV → Option (Vec ByteArray)) (Q2 : List AV → Option Bool) : Orc := ⟨fun f => sel (Nat.beq f 48) 0 (sel (Nat.beq f 57) 0 (sel (Nat.beq f 56) 0 (9))), fun ρ f args K => sel (Nat.beq f 48) (qEntry spec_WeaveOk.encR Q0 args K) (sel (Nat.beq f 57) (qEntry spec_l06Text.encR Q1 args K) (sel (Nat.beq f 56) (qEntry spec_l12SameTexts.encR Q2 args K) (Option.none))), noE, false⟩
noncomputable def L (W1 : (ρ : Type) → List AV → List Ob → (Bool → Int → (Vec (Vec Int)) → (Vec (ByteArray × Int × Int × (Vec Int))) → (Vec (Vec Int)) → Option ρ) → Option ρ) (W0 : (ρ : Type) → List AV → List Ob → ((Vec (Vec Int)) → Option ρ) → Option ρ) : Lor := fun ρ j st K => sel (Nat.beq j 0) (cutO Try.prog 43 [1, 3, 4, 5] 0 [] [.ad (.s 3) 22] st fun avs obs => W0 ρ avs obs (fun z1 => K (.exit 0) (mkS 43 [3] [.c (.h 0)] [ro z1] []))) (sel (Nat.beq j 1) (cutO Try.prog 43 [1, 3, 4, 5, 6] 0 [] [] st fun avs obs => W1 ρ avs obs (fun z1 z2 z3 z4 z5 => K (.exit 2) (mkS 43 [1, 3, 4, 5] [.c (.p 0 0), .c (.h 1), vb z1, vi z2] [.box [cl z3, cl z4], ro z5] []))) (Option.none))
noncomputable def c0 : Code := loopC (atomN [] 0 (bodyOf Try.f18) 0)
noncomputable def c1 : Code := loopC (atomN [] 1 c0 0)
def ct0 : Cut := ⟨[1, 3, 4, 5], [.ad (.s 3) 22]⟩
def lv0 : Exit → Cut
  | .exit 0 => ⟨[3], []⟩
  | _ => ⟨[], []⟩
theorem step0 (Q0 Q1 Q2) (W1 W0) {ρ : Type} (K : Exit → St → Option ρ) (W : List AV → List Ob → Option ρ) (v1 v2 v3 v4 v5) : exC Try.prog (G Q0 Q1 Q2) (L W1 W0) [] 1 c0 (mkS 43 [1, 3, 4, 5] [.c (.p 0 0), .c (.h 1), vb v1, vi v2] [.box [cl v3, cl v4], ro v5] []) (bodyK Try.prog 43 0 [] ct0 W lv0 K) =
    B0 (fun w1 w2 w3 w4 w5 w6 k2 => W1 ρ [.c (.p 0 0), .c (.h 1), vb w1, vi w2, vi w3] [.box [cl w4, cl w5], ro w6] k2) v1 v2 v3 v4 v5 (fun u1 u2 u3 u4 u5 => W [.c (.p 0 0), .c (.h 1), vb u1, vi u2] [.box [cl u3, cl u4], ro u5]) (fun z1 => K (.exit 0) (mkS 43 [3] [.c (.h 0)] [ro z1] [])) := by kernel_rfl
def enc0 (t : Bool × Int × Vec (Vec Int) × (Vec (ByteArray × Int × Int × (Vec Int))) × Vec (Vec Int)) : List AV × List Ob := ([.c (.p 0 0), .c (.h 1), vb t.1, vi t.2.1], [.box [cl t.2.2.1, cl t.2.2.2.1], ro t.2.2.2.2])
theorem enc0I : ∀ a b, enc0 a = enc0 b → a = b := by
  intro a b h
  obtain ⟨a0, a1, a2, a3, a4⟩ := a
  obtain ⟨b0, b1, b2, b3, b4⟩ := b
  simp [enc0, encRw_iff] at h
  simp_all
noncomputable def V0 : (ρ : Type) → List AV → List Ob → ((Vec (Vec Int)) → Option ρ) → Option ρ := fun ρ avs obs k0 => ofC enc0 (fun t => F0 fuelN t.1 t.2.1 t.2.2.1 t.2.2.2.1 t.2.2.2.2 k0) (avs, obs)
theorem V0_enc (ρ : Type) : (fun w1 w2 w3 w4 w5 k0 => V0 ρ [.c (.p 0 0), .c (.h 1), vb w1, vi w2] [.box [cl w3, cl w4], ro w5] k0) = F0 fuelN := by
  funext w1 w2 w3 w4 w5 k0
  exact ofC_enc enc0I _ (w1, w2, w3, w4, w5)
def ct1 : Cut := ⟨[1, 3, 4, 5, 6], []⟩
def lv1 : Exit → Cut
  | .exit 2 => ⟨[1, 3, 4, 5], [.ad (.s 3) 22]⟩
  | _ => ⟨[], []⟩
theorem step1 (Q0 Q1 Q2) (W1 W0) {ρ : Type} (K : Exit → St → Option ρ) (W : List AV → List Ob → Option ρ) (v1 v2 v3 v4 v5 v6) : exC Try.prog (G Q0 Q1 Q2) (L W1 W0) [] 2 c1 (mkS 43 [1, 3, 4, 5, 6] [.c (.p 0 0), .c (.h 1), vb v1, vi v2, vi v3] [.box [cl v4, cl v5], ro v6] []) (bodyK Try.prog 43 0 [] ct1 W lv1 K) =
    B1 (fun y1 y2 y3 => Q1 [.a [cl y1, cl y2], vi y3]) (fun y1 y2 => Q2 [vl y1, vl y2]) v1 v2 v3 v4 v5 v6 (fun u1 u2 u3 u4 u5 u6 => W [.c (.p 0 0), .c (.h 1), vb u1, vi u2, vi u3] [.box [cl u4, cl u5], ro u6]) (fun z1 z2 z3 z4 z5 => K (.exit 2) (mkS 43 [1, 3, 4, 5] [.c (.p 0 0), .c (.h 1), vb z1, vi z2] [.box [cl z3, cl z4], ro z5] [])) := by kernel_rfl
def enc1 (t : Bool × Int × Int × Vec (Vec Int) × (Vec (ByteArray × Int × Int × (Vec Int))) × Vec (Vec Int)) : List AV × List Ob := ([.c (.p 0 0), .c (.h 1), vb t.1, vi t.2.1, vi t.2.2.1], [.box [cl t.2.2.2.1, cl t.2.2.2.2.1], ro t.2.2.2.2.2])
theorem enc1I : ∀ a b, enc1 a = enc1 b → a = b := by
  intro a b h
  obtain ⟨a0, a1, a2, a3, a4, a5⟩ := a
  obtain ⟨b0, b1, b2, b3, b4, b5⟩ := b
  simp [enc1, encRw_iff] at h
  simp_all
noncomputable def V1 : (ρ : Type) → List AV → List Ob → (Bool → Int → (Vec (Vec Int)) → (Vec (ByteArray × Int × Int × (Vec Int))) → (Vec (Vec Int)) → Option ρ) → Option ρ := fun ρ avs obs k2 => ofC enc1 (fun t => F1 fuelN t.1 t.2.1 t.2.2.1 t.2.2.2.1 t.2.2.2.2.1 t.2.2.2.2.2 k2) (avs, obs)
theorem V1_enc (ρ : Type) : (fun w1 w2 w3 w4 w5 w6 k2 => V1 ρ [.c (.p 0 0), .c (.h 1), vb w1, vi w2, vi w3] [.box [cl w4, cl w5], ro w6] k2) = F1 fuelN := by
  funext w1 w2 w3 w4 w5 w6 k2
  exact ofC_enc enc1I _ (w1, w2, w3, w4, w5, w6)
theorem main (Q0 Q1 Q2) (W1 W0) {ρ : Type} (K : AV → List Ob → Option ρ) (a1 a2) : exC Try.prog (G Q0 Q1 Q2) (L W1 W0) [] 0 (bodyOf Try.f18) (entry 43 [.a [cl a1, cl a2]] [] []) (finO Try.prog Try.f18.results.toList 0 [] [] K) =
    B (fun y1 y2 => Q0 [.a [cl y1, cl y2]]) (fun w1 w2 w3 w4 w5 k0 => W0 ρ [.c (.p 0 0), .c (.h 1), vb w1, vi w2] [.box [cl w3, cl w4], ro w5] k0) a1 a2 (fun x1 => K (.c (.h 0)) [ro x1]) := by kernel_rfl
theorem Gok : (G spec_WeaveOk.Q spec_l06Text.Q spec_l12SameTexts.Q).ok Try.prog := ⟨(by
    intro ρ f args K r h
    rcases sel_cases h with ⟨hb, h⟩ | ⟨-, h⟩
    · obtain rfl := beq_nat hb
      exact qEntry_ok spec_WeaveOk.ac h
    rcases sel_cases h with ⟨hb, h⟩ | ⟨-, h⟩
    · obtain rfl := beq_nat hb
      exact qEntry_ok spec_l06Text.ac h
    rcases sel_cases h with ⟨hb, h⟩ | ⟨-, h⟩
    · obtain rfl := beq_nat hb
      exact qEntry_ok spec_l12SameTexts.ac h
    cases h),
  (by
    intro ρ f args K
    simp only [G]
    cases Nat.beq f 48 with
    | true => exact qEntry_nat args K
    | false =>
    simp only [sel]
    cases Nat.beq f 57 with
    | true => exact qEntry_nat args K
    | false =>
    simp only [sel]
    cases Nat.beq f 56 with
    | true => exact qEntry_nat args K
    | false =>
    simp only [sel]
    rfl),
  (fun ρ f st caps args dst K r h => (by cases h))⟩
theorem hm : Try.prog.follows .mixedOrders = true := by kernel_rfl
theorem e1 : atomsL [] 2 c1 = [] := by kernel_rfl
theorem ok1 (ρ : Type) (st : St) (K : Exit → St → Option ρ) (r : ρ) (h : (L V1 V0) ρ 1 st K = some r) : AW Try.prog (.loop c1) st fun e st' => K e st' = some r := by
  refine loop_ok (ct := ct1) (lv := lv1) (n := 43) (m := 0) (ks := []) (j := 1) (jn := []) (L := (L V1 V0)) Gok hm (by rw [e1]; exact Lor.ok_nil _ _) enc1I (fun k t => F1 k t.1 t.2.1 t.2.2.1 t.2.2.2.1 t.2.2.2.2.1 t.2.2.2.2.2 (fun z1 z2 z3 z4 z5 => K (.exit 2) (mkS 43 [1, 3, 4, 5] [.c (.p 0 0), .c (.h 1), vb z1, vi z2] [.box [cl z3, cl z4], ro z5] []))) (fun t => rfl) (fun k t => ?_) (fun _ => fuelN) h
  refine (step1 spec_WeaveOk.Q spec_l06Text.Q spec_l12SameTexts.Q V1 V0 K _ t.1 t.2.1 t.2.2.1 t.2.2.2.1 t.2.2.2.2.1 t.2.2.2.2.2).trans ?_
  rw [spec_l06Text.wrap, spec_l12SameTexts.wrap]
  refine congrArg (fun W => B1 spec_l06Text.F spec_l12SameTexts.F t.1 t.2.1 t.2.2.1 t.2.2.2.1 t.2.2.2.2.1 t.2.2.2.2.2 W (fun z1 z2 z3 z4 z5 => K (.exit 2) (mkS 43 [1, 3, 4, 5] [.c (.p 0 0), .c (.h 1), vb z1, vi z2] [.box [cl z3, cl z4], ro z5] []))) ?_
  funext u1 u2 u3 u4 u5 u6
  exact ofC_enc enc1I _ (u1, u2, u3, u4, u5, u6)
theorem e0 : atomsL [] 1 c0 = [(1, 1, .loop c1)] := by kernel_rfl
theorem ok0 (ρ : Type) (st : St) (K : Exit → St → Option ρ) (r : ρ) (h : (L V1 V0) ρ 0 st K = some r) : AW Try.prog (.loop c0) st fun e st' => K e st' = some r := by
  refine loop_ok (ct := ct0) (lv := lv0) (n := 43) (m := 0) (ks := []) (j := 0) (jn := []) (L := (L V1 V0)) Gok hm (by rw [e0]; exact Lor.ok_cons ok1 (Lor.ok_nil _ _)) enc0I (fun k t => F0 k t.1 t.2.1 t.2.2.1 t.2.2.2.1 t.2.2.2.2 (fun z1 => K (.exit 0) (mkS 43 [3] [.c (.h 0)] [ro z1] []))) (fun t => rfl) (fun k t => ?_) (fun _ => fuelN) h
  refine (step0 spec_WeaveOk.Q spec_l06Text.Q spec_l12SameTexts.Q V1 V0 K _ t.1 t.2.1 t.2.2.1 t.2.2.2.1 t.2.2.2.2).trans ?_
  rw [V1_enc]
  refine congrArg (fun W => B0 (F1 fuelN) t.1 t.2.1 t.2.2.1 t.2.2.2.1 t.2.2.2.2 W (fun z1 => K (.exit 0) (mkS 43 [3] [.c (.h 0)] [ro z1] []))) ?_
  funext u1 u2 u3 u4 u5
  exact ofC_enc enc0I _ (u1, u2, u3, u4, u5)
theorem e : atomsL [] 0 (bodyOf Try.f18) = [(0, 0, .loop c0)] := by kernel_rfl
theorem acc (t : Vec (Vec Int) × (Vec (ByteArray × Int × Int × (Vec Int)))) (x : Vec (Vec Int)) (h : F t.1 t.2 = some x) : ACc Try.prog 18 (encA t) [] true [] fun rv obs => (rv, obs) = encR x := by
  refine fun_okc (L := (L V1 V0)) (jn := []) (cmds := []) (ks := []) (hin := []) (fn := Try.f18) (body := (bodyOf Try.f18)) Gok hm Try.func18 (by kernel_rfl) (by kernel_rfl) (by rw [e]; exact Lor.ok_cons ok0 (Lor.ok_nil _ _)) ?_ h
  refine (main spec_WeaveOk.Q spec_l06Text.Q spec_l12SameTexts.Q V1 V0 _ t.1 t.2).trans ?_
  rw [spec_WeaveOk.wrap, V0_enc]
  refine congrArg (fun K => B spec_WeaveOk.F (F0 fuelN) t.1 t.2 K) ?_
  funext x1
  exact ofC_enc encRI some (x1)
theorem ac0 (t : Vec (Vec Int) × (Vec (ByteArray × Int × Int × (Vec Int)))) (x : Vec (Vec Int)) (h : F t.1 t.2 = some x) : AC Try.prog 18 (encA t) [] true [] fun rv obs => (rv, obs) = encR x := ACc.ac (body := bodyOf Try.f18) Try.func18 (by kernel_rfl) (by kernel_rfl) (acc t x h)
theorem ac (args : List AV) (x : Vec (Vec Int)) (h : Q args = some x) : AC Try.prog 18 args [] false [] fun rv obs => (rv, obs) = encR x := by
  obtain ⟨t, rfl, h2⟩ := ofC_some h
  refine (ac0 t x h2).flat fun rv obs e => ?_
  obtain rfl : rv = (encR x).1 := congrArg Prod.fst e
  obtain rfl : obs = (encR x).2 := congrArg Prod.snd e
  refine ⟨by simp [encR, AV.Flat, K.Flat, C.Flat], ?_⟩
  intro o ho
  simp only [encR, List.mem_cons, List.not_mem_nil, or_false] at ho
  subst ho
  exact flat_rw rfl _
end spec_Twins
/-! (*loop.example/g00073/impl.Weave).linesAt -/
namespace impl_Weave_linesAt
noncomputable def B0 {ρ : Type} (v1 : Vec (Vec Int)) (v2 : Vec (ByteArray × Int × Int × (Vec Int))) (v3 : Vec Int) (v4 : Int) (v5 : Int) (v6 : Vec ByteArray) (W : (Vec (Vec Int)) → (Vec (ByteArray × Int × Int × (Vec Int))) → (Vec Int) → Int → Int → (Vec ByteArray) → Option ρ) (K0 : (Vec ByteArray) → Option ρ) : Option ρ :=
  sel (decide (v5 < v4)) (chk (decide (0 ≤ v5 ∧ v5 < (v3.n : Int))) (chk (decide (0 ≤ (v3.g v5.toNat) ∧ (v3.g v5.toNat) < (v2.n : Int))) (chk (decide ((v6.n + (Vec.lit [(v2.g (v3.g v5.toNat).toNat).1] : Vec ByteArray).n) * 17 ≤ maxN)) (W v1 v2 v3 v4 (wr (v5 + (1 : Int))) (Vec.app v6 (Vec.lit [(v2.g (v3.g v5.toNat).toNat).1] : Vec ByteArray)))))) (K0 v6)
noncomputable def F0 {ρ : Type} : Nat → (Vec (Vec Int)) → (Vec (ByteArray × Int × Int × (Vec Int))) → (Vec Int) → Int → Int → (Vec ByteArray) → ((Vec ByteArray) → Option ρ) → Option ρ
  | 0, _, _, _, _, _, _, _ => none
  | k + 1, v1, v2, v3, v4, v5, v6, K0 => B0 v1 v2 v3 v4 v5 v6 (fun v1' v2' v3' v4' v5' v6' => F0 k v1' v2' v3' v4' v5' v6' K0) K0
noncomputable def B {ρ : Type} (L0 : (Vec (Vec Int)) → (Vec (ByteArray × Int × Int × (Vec Int))) → (Vec Int) → Int → Int → (Vec ByteArray) → ((Vec ByteArray) → Option ρ) → Option ρ) (a1 : Vec (Vec Int)) (a2 : Vec (ByteArray × Int × Int × (Vec Int))) (a3 : Vec Int) (K : (Vec ByteArray) → Option ρ) : Option ρ :=
  L0 a1 a2 a3 (a3.n : Int) (0 : Int) (Vec.nil : Vec ByteArray) (fun e01 => K e01)
noncomputable def F (a1 : Vec (Vec Int)) (a2 : Vec (ByteArray × Int × Int × (Vec Int))) (a3 : Vec Int) : Option (Vec ByteArray) := B (F0 fuelN) a1 a2 a3 (fun x1 => some (x1))
def encA (t : Vec (Vec Int) × (Vec (ByteArray × Int × Int × (Vec Int))) × Vec Int) : List AV := [.ra [nl t.1, nl t.2.1], vl t.2.2]
def encR (x : Vec ByteArray) : AV × List Ob := (.c (.h 0), [ro x])
theorem encAI : ∀ a b, encA a = encA b → a = b := by
  intro a b h
  obtain ⟨a0, a1, a2⟩ := a
  obtain ⟨b0, b1, b2⟩ := b
  simp [encA, encRw_iff] at h
  simp_all
theorem encRI : ∀ a b, encR a = encR b → a = b := by
  intro a b h
  simp [encR, encRw_iff] at h
  simp_all
noncomputable def Q (args : List AV) : Option (Vec ByteArray) := ofC encA (fun t => F t.1 t.2.1 t.2.2) args
theorem wrap : (fun (y1 : Vec (Vec Int)) (y2 : Vec (ByteArray × Int × Int × (Vec Int))) (y3 : Vec Int) => Q [.ra [nl y1, nl y2], vl y3]) = F := by
  funext y1 y2 y3
  exact ofC_enc encAI _ (y1, y2, y3)
noncomputable def G : Orc := ⟨fun f => 9, fun ρ f args K => Option.none, noE, false⟩
noncomputable def L (W0 : (ρ : Type) → List AV → List Ob → ((Vec ByteArray) → Option ρ) → Option ρ) : Lor := fun ρ j st K => sel (Nat.beq j 0) (cutO Try.prog 27 [0, 5, 8, 9, 10] 0 [] [.ad (.s 5) 78] st fun avs obs => W0 ρ avs obs (fun z1 => K (.exit 0) (mkS 27 [5] [.c (.h 0)] [ro z1] []))) (Option.none)
noncomputable def c0 : Code := loopC (atomN [] 0 (bodyOf Try.f94) 0)
def ct0 : Cut := ⟨[0, 5, 8, 9, 10], [.ad (.s 5) 78]⟩
def lv0 : Exit → Cut
  | .exit 0 => ⟨[5], []⟩
  | _ => ⟨[], []⟩
theorem step0 (W0) {ρ : Type} (K : Exit → St → Option ρ) (W : List AV → List Ob → Option ρ) (v1 v2 v3 v4 v5 v6) : exC Try.prog (G) (L W0) [] 1 c0 (mkS 27 [0, 5, 8, 9, 10] [.ra [nl v1, nl v2], .c (.h 0), vl v3, vi v4, vi v5] [ro v6] []) (bodyK Try.prog 27 0 [] ct0 W lv0 K) =
    B0 v1 v2 v3 v4 v5 v6 (fun u1 u2 u3 u4 u5 u6 => W [.ra [nl u1, nl u2], .c (.h 0), vl u3, vi u4, vi u5] [ro u6]) (fun z1 => K (.exit 0) (mkS 27 [5] [.c (.h 0)] [ro z1] [])) := by kernel_rfl
def enc0 (t : Vec (Vec Int) × (Vec (ByteArray × Int × Int × (Vec Int))) × Vec Int × Int × Int × Vec ByteArray) : List AV × List Ob := ([.ra [nl t.1, nl t.2.1], .c (.h 0), vl t.2.2.1, vi t.2.2.2.1, vi t.2.2.2.2.1], [ro t.2.2.2.2.2])
theorem enc0I : ∀ a b, enc0 a = enc0 b → a = b := by
  intro a b h
  obtain ⟨a0, a1, a2, a3, a4, a5⟩ := a
  obtain ⟨b0, b1, b2, b3, b4, b5⟩ := b
  simp [enc0, encRw_iff] at h
  simp_all
noncomputable def V0 : (ρ : Type) → List AV → List Ob → ((Vec ByteArray) → Option ρ) → Option ρ := fun ρ avs obs k0 => ofC enc0 (fun t => F0 fuelN t.1 t.2.1 t.2.2.1 t.2.2.2.1 t.2.2.2.2.1 t.2.2.2.2.2 k0) (avs, obs)
theorem V0_enc (ρ : Type) : (fun w1 w2 w3 w4 w5 w6 k0 => V0 ρ [.ra [nl w1, nl w2], .c (.h 0), vl w3, vi w4, vi w5] [ro w6] k0) = F0 fuelN := by
  funext w1 w2 w3 w4 w5 w6 k0
  exact ofC_enc enc0I _ (w1, w2, w3, w4, w5, w6)
theorem main (W0) {ρ : Type} (K : AV → List Ob → Option ρ) (a1 a2 a3) : exC Try.prog (G) (L W0) [] 0 (bodyOf Try.f94) (entry 27 [.ra [nl a1, nl a2], vl a3] [] []) (finO Try.prog Try.f94.results.toList 0 [] [] K) =
    B (fun w1 w2 w3 w4 w5 w6 k0 => W0 ρ [.ra [nl w1, nl w2], .c (.h 0), vl w3, vi w4, vi w5] [ro w6] k0) a1 a2 a3 (fun x1 => K (.c (.h 0)) [ro x1]) := by kernel_rfl
theorem Gok : (G).ok Try.prog := ⟨(fun ρ f args K r h => (by cases h)),
  (fun ρ f args K => rfl),
  (fun ρ f st caps args dst K r h => (by cases h))⟩
theorem hm : Try.prog.follows .mixedOrders = true := by kernel_rfl
theorem e0 : atomsL [] 1 c0 = [] := by kernel_rfl
theorem ok0 (ρ : Type) (st : St) (K : Exit → St → Option ρ) (r : ρ) (h : (L V0) ρ 0 st K = some r) : AW Try.prog (.loop c0) st fun e st' => K e st' = some r := by
  refine loop_ok (ct := ct0) (lv := lv0) (n := 27) (m := 0) (ks := []) (j := 0) (jn := []) (L := (L V0)) Gok hm (by rw [e0]; exact Lor.ok_nil _ _) enc0I (fun k t => F0 k t.1 t.2.1 t.2.2.1 t.2.2.2.1 t.2.2.2.2.1 t.2.2.2.2.2 (fun z1 => K (.exit 0) (mkS 27 [5] [.c (.h 0)] [ro z1] []))) (fun t => rfl) (fun k t => ?_) (fun _ => fuelN) h
  refine (step0 V0 K _ t.1 t.2.1 t.2.2.1 t.2.2.2.1 t.2.2.2.2.1 t.2.2.2.2.2).trans ?_
  refine congrArg (fun W => B0 t.1 t.2.1 t.2.2.1 t.2.2.2.1 t.2.2.2.2.1 t.2.2.2.2.2 W (fun z1 => K (.exit 0) (mkS 27 [5] [.c (.h 0)] [ro z1] []))) ?_
  funext u1 u2 u3 u4 u5 u6
  exact ofC_enc enc0I _ (u1, u2, u3, u4, u5, u6)
theorem e : atomsL [] 0 (bodyOf Try.f94) = [(0, 0, .loop c0)] := by kernel_rfl
theorem acc (t : Vec (Vec Int) × (Vec (ByteArray × Int × Int × (Vec Int))) × Vec Int) (x : Vec ByteArray) (h : F t.1 t.2.1 t.2.2 = some x) : ACc Try.prog 94 (encA t) [] true [] fun rv obs => (rv, obs) = encR x := by
  refine fun_okc (L := (L V0)) (jn := []) (cmds := []) (ks := []) (hin := []) (fn := Try.f94) (body := (bodyOf Try.f94)) Gok hm Try.func94 (by kernel_rfl) (by kernel_rfl) (by rw [e]; exact Lor.ok_cons ok0 (Lor.ok_nil _ _)) ?_ h
  refine (main V0 _ t.1 t.2.1 t.2.2).trans ?_
  rw [V0_enc]
  refine congrArg (fun K => B (F0 fuelN) t.1 t.2.1 t.2.2 K) ?_
  funext x1
  exact ofC_enc encRI some (x1)
theorem ac0 (t : Vec (Vec Int) × (Vec (ByteArray × Int × Int × (Vec Int))) × Vec Int) (x : Vec ByteArray) (h : F t.1 t.2.1 t.2.2 = some x) : AC Try.prog 94 (encA t) [] true [] fun rv obs => (rv, obs) = encR x := ACc.ac (body := bodyOf Try.f94) Try.func94 (by kernel_rfl) (by kernel_rfl) (acc t x h)
theorem ac (args : List AV) (x : Vec ByteArray) (h : Q args = some x) : AC Try.prog 94 args [] false [] fun rv obs => (rv, obs) = encR x := by
  obtain ⟨t, rfl, h2⟩ := ofC_some h
  refine (ac0 t x h2).flat fun rv obs e => ?_
  obtain rfl : rv = (encR x).1 := congrArg Prod.fst e
  obtain rfl : obs = (encR x).2 := congrArg Prod.snd e
  refine ⟨by simp [encR, AV.Flat, K.Flat, C.Flat], ?_⟩
  intro o ho
  simp only [encR, List.mem_cons, List.not_mem_nil, or_false] at ho
  subst ho
  exact flat_rw rfl _
end impl_Weave_linesAt
/-! (*loop.example/g00073/impl.Weave).extract -/
namespace impl_Weave_extract
noncomputable def B {ρ : Type} (C0 : (Vec (Vec Int)) → Option (Vec (IK .u64))) (C1 : (Vec (Vec Int)) → (Vec (ByteArray × Int × Int × (Vec Int))) → Int → Option (Vec Int)) (C2 : (Vec (Vec Int)) → (Vec (ByteArray × Int × Int × (Vec Int))) → (Vec Int) → Option (Vec ByteArray)) (a1 : Vec (Vec Int)) (a2 : Vec (ByteArray × Int × Int × (Vec Int))) (a3 : Int) (K : (Vec ByteArray) → Option ρ) : Option ρ :=
  (C0 a1).bind fun r1 => chk (decide (0 ≤ a3 ∧ a3 < (r1.n : Int))) (chk (decide (a3.toNat < r1.n)) ((C1 a1 a2 ((r1.g a3.toNat).v)).bind fun r2 => (C2 a1 a2 r2).bind fun r3 => K r3))
noncomputable def F (a1 : Vec (Vec Int)) (a2 : Vec (ByteArray × Int × Int × (Vec Int))) (a3 : Int) : Option (Vec ByteArray) := B impl_closures.F impl_Weave_liveIn.F impl_Weave_linesAt.F a1 a2 a3 (fun x1 => some (x1))
def encA (t : Vec (Vec Int) × (Vec (ByteArray × Int × Int × (Vec Int))) × Int) : List AV := [.ra [nl t.1, nl t.2.1], vi t.2.2]
def encR (x : Vec ByteArray) : AV × List Ob := (.c (.h 0), [ro x])
theorem encAI : ∀ a b, encA a = encA b → a = b := by
  intro a b h
  obtain ⟨a0, a1, a2⟩ := a
  obtain ⟨b0, b1, b2⟩ := b
  simp [encA, encRw_iff] at h
  simp_all
theorem encRI : ∀ a b, encR a = encR b → a = b := by
  intro a b h
  simp [encR, encRw_iff] at h
  simp_all
noncomputable def Q (args : List AV) : Option (Vec ByteArray) := ofC encA (fun t => F t.1 t.2.1 t.2.2) args
theorem wrap : (fun (y1 : Vec (Vec Int)) (y2 : Vec (ByteArray × Int × Int × (Vec Int))) (y3 : Int) => Q [.ra [nl y1, nl y2], vi y3]) = F := by
  funext y1 y2 y3
  exact ofC_enc encAI _ (y1, y2, y3)
noncomputable def G (Q0 : List AV → Option (Vec (IK .u64))) (Q1 : List AV → Option (Vec Int)) (Q2 : List AV → Option (Vec ByteArray)) : Orc := ⟨fun f => sel (Nat.beq f 90) 0 (sel (Nat.beq f 95) 0 (sel (Nat.beq f 94) 0 (9))), fun ρ f args K => sel (Nat.beq f 90) (qEntry impl_closures.encR Q0 args K) (sel (Nat.beq f 95) (qEntry impl_Weave_liveIn.encR Q1 args K) (sel (Nat.beq f 94) (qEntry impl_Weave_linesAt.encR Q2 args K) (Option.none))), noE, false⟩
noncomputable def L : Lor := fun ρ j st K => Option.none
theorem main (Q0 Q1 Q2) {ρ : Type} (K : AV → List Ob → Option ρ) (a1 a2 a3) : exC Try.prog (G Q0 Q1 Q2) (L) [] 0 (bodyOf Try.f58) (entry 17 [.ra [nl a1, nl a2], vi a3] [] []) (finO Try.prog Try.f58.results.toList 0 [] [] K) =
    B (fun y1 => Q0 [vl y1]) (fun y1 y2 y3 => Q1 [.ra [nl y1, nl y2], vk .u64 y3]) (fun y1 y2 y3 => Q2 [.ra [nl y1, nl y2], vl y3]) a1 a2 a3 (fun x1 => K (.c (.h 0)) [ro x1]) := by kernel_rfl
theorem Gok : (G impl_closures.Q impl_Weave_liveIn.Q impl_Weave_linesAt.Q).ok Try.prog := ⟨(by
    intro ρ f args K r h
    rcases sel_cases h with ⟨hb, h⟩ | ⟨-, h⟩
    · obtain rfl := beq_nat hb
      exact qEntry_ok impl_closures.ac h
    rcases sel_cases h with ⟨hb, h⟩ | ⟨-, h⟩
    · obtain rfl := beq_nat hb
      exact qEntry_ok impl_Weave_liveIn.ac h
    rcases sel_cases h with ⟨hb, h⟩ | ⟨-, h⟩
    · obtain rfl := beq_nat hb
      exact qEntry_ok impl_Weave_linesAt.ac h
    cases h),
  (by
    intro ρ f args K
    simp only [G]
    cases Nat.beq f 90 with
    | true => exact qEntry_nat args K
    | false =>
    simp only [sel]
    cases Nat.beq f 95 with
    | true => exact qEntry_nat args K
    | false =>
    simp only [sel]
    cases Nat.beq f 94 with
    | true => exact qEntry_nat args K
    | false =>
    simp only [sel]
    rfl),
  (fun ρ f st caps args dst K r h => (by cases h))⟩
theorem hm : Try.prog.follows .mixedOrders = true := by kernel_rfl
theorem e : atomsL [] 0 (bodyOf Try.f58) = [] := by kernel_rfl
theorem acc (t : Vec (Vec Int) × (Vec (ByteArray × Int × Int × (Vec Int))) × Int) (x : Vec ByteArray) (h : F t.1 t.2.1 t.2.2 = some x) : ACc Try.prog 58 (encA t) [] true [] fun rv obs => (rv, obs) = encR x := by
  refine fun_okc (L := (L)) (jn := []) (cmds := []) (ks := []) (hin := []) (fn := Try.f58) (body := (bodyOf Try.f58)) Gok hm Try.func58 (by kernel_rfl) (by kernel_rfl) (by rw [e]; exact Lor.ok_nil _ _) ?_ h
  refine (main impl_closures.Q impl_Weave_liveIn.Q impl_Weave_linesAt.Q _ t.1 t.2.1 t.2.2).trans ?_
  rw [impl_closures.wrap, impl_Weave_liveIn.wrap, impl_Weave_linesAt.wrap]
  refine congrArg (fun K => B impl_closures.F impl_Weave_liveIn.F impl_Weave_linesAt.F t.1 t.2.1 t.2.2 K) ?_
  funext x1
  exact ofC_enc encRI some (x1)
theorem ac0 (t : Vec (Vec Int) × (Vec (ByteArray × Int × Int × (Vec Int))) × Int) (x : Vec ByteArray) (h : F t.1 t.2.1 t.2.2 = some x) : AC Try.prog 58 (encA t) [] true [] fun rv obs => (rv, obs) = encR x := ACc.ac (body := bodyOf Try.f58) Try.func58 (by kernel_rfl) (by kernel_rfl) (acc t x h)
theorem ac (args : List AV) (x : Vec ByteArray) (h : Q args = some x) : AC Try.prog 58 args [] false [] fun rv obs => (rv, obs) = encR x := by
  obtain ⟨t, rfl, h2⟩ := ofC_some h
  refine (ac0 t x h2).flat fun rv obs e => ?_
  obtain rfl : rv = (encR x).1 := congrArg Prod.fst e
  obtain rfl : obs = (encR x).2 := congrArg Prod.snd e
  refine ⟨by simp [encR, AV.Flat, K.Flat, C.Flat], ?_⟩
  intro o ho
  simp only [encR, List.mem_cons, List.not_mem_nil, or_false] at ho
  subst ho
  exact flat_rw rfl _
end impl_Weave_extract
/-! slices.Equal(()string,string) -/
namespace slices_Equal_string_string
noncomputable def B0 {ρ : Type} (v1 : Vec ByteArray) (v2 : Vec ByteArray) (v3 : Int) (v4 : Int) (W : (Vec ByteArray) → (Vec ByteArray) → Int → Int → Option ρ) (K0 : Unit → Option ρ) (Kr : Bool → Option ρ) : Option ρ :=
  sel (decide (v4 < v3)) (chk (decide (0 ≤ v4 ∧ v4 < (v1.n : Int))) (chk (decide (0 ≤ v4 ∧ v4 < (v2.n : Int))) (sel ((!decide ((v1.g v4.toNat) = (v2.g v4.toNat)))) (Kr false) (W v1 v2 v3 (wr (v4 + (1 : Int))))))) (K0 ())
noncomputable def F0 {ρ : Type} : Nat → (Vec ByteArray) → (Vec ByteArray) → Int → Int → (Unit → Option ρ) → (Bool → Option ρ) → Option ρ
  | 0, _, _, _, _, _, _ => none
  | k + 1, v1, v2, v3, v4, K0, Kr => B0 v1 v2 v3 v4 (fun v1' v2' v3' v4' => F0 k v1' v2' v3' v4' K0 Kr) K0 Kr
noncomputable def B {ρ : Type} (L0 : (Vec ByteArray) → (Vec ByteArray) → Int → Int → (Unit → Option ρ) → (Bool → Option ρ) → Option ρ) (a1 : Vec ByteArray) (a2 : Vec ByteArray) (K : Bool → Option ρ) : Option ρ :=
  sel ((!decide ((a1.n : Int) = (a2.n : Int)))) (K false) (L0 a1 a2 (a1.n : Int) (0 : Int) (fun _ => K true) (fun x01 => K x01))
noncomputable def F (a1 : Vec ByteArray) (a2 : Vec ByteArray) : Option Bool := B (F0 fuelN) a1 a2 (fun x1 => some (x1))
def encA (t : Vec ByteArray × Vec ByteArray) : List AV := [vl t.1, vl t.2]
def encR (x : Bool) : AV × List Ob := (vb x, [])
theorem encAI : ∀ a b, encA a = encA b → a = b := by
  intro a b h
  obtain ⟨a0, a1⟩ := a
  obtain ⟨b0, b1⟩ := b
  simp [encA, encRw_iff] at h
  simp_all
theorem encRI : ∀ a b, encR a = encR b → a = b := by
  intro a b h
  simp [encR, encRw_iff] at h
  simp_all
noncomputable def Q (args : List AV) : Option Bool := ofC encA (fun t => F t.1 t.2) args
theorem wrap : (fun (y1 : Vec ByteArray) (y2 : Vec ByteArray) => Q [vl y1, vl y2]) = F := by
  funext y1 y2
  exact ofC_enc encAI _ (y1, y2)
noncomputable def G : Orc := ⟨fun f => 9, fun ρ f args K => Option.none, noE, false⟩
noncomputable def L (W0 : (ρ : Type) → List AV → List Ob → (Unit → Option ρ) → (Bool → Option ρ) → Option ρ) : Lor := fun ρ j st K => sel (Nat.beq j 0) (cutO Try.prog 26 [0, 1, 12, 13] 0 [] [] st fun avs obs => W0 ρ avs obs (fun _ => K (.exit 0) (mkS 26 [] [] [] [])) (fun z1 => K .ret (mkS 26 [4] [vb z1] [] []))) (Option.none)
noncomputable def c0 : Code := loopC (atomN [] 0 (bodyOf Try.f59) 0)
def ct0 : Cut := ⟨[0, 1, 12, 13], []⟩
def lv0 : Exit → Cut
  | .exit 0 => ⟨[], []⟩
  | .ret => ⟨[4], []⟩
  | _ => ⟨[], []⟩
theorem step0 (W0) {ρ : Type} (K : Exit → St → Option ρ) (W : List AV → List Ob → Option ρ) (v1 v2 v3 v4) : exC Try.prog (G) (L W0) [] 1 c0 (mkS 26 [0, 1, 12, 13] [vl v1, vl v2, vi v3, vi v4] [] []) (bodyK Try.prog 26 0 [] ct0 W lv0 K) =
    B0 v1 v2 v3 v4 (fun u1 u2 u3 u4 => W [vl u1, vl u2, vi u3, vi u4] []) (fun _ => K (.exit 0) (mkS 26 [] [] [] [])) (fun z1 => K .ret (mkS 26 [4] [vb z1] [] [])) := by kernel_rfl
def enc0 (t : Vec ByteArray × Vec ByteArray × Int × Int) : List AV × List Ob := ([vl t.1, vl t.2.1, vi t.2.2.1, vi t.2.2.2], [])
theorem enc0I : ∀ a b, enc0 a = enc0 b → a = b := by
  intro a b h
  obtain ⟨a0, a1, a2, a3⟩ := a
  obtain ⟨b0, b1, b2, b3⟩ := b
  simp [enc0, encRw_iff] at h
  simp_all
noncomputable def V0 : (ρ : Type) → List AV → List Ob → (Unit → Option ρ) → (Bool → Option ρ) → Option ρ := fun ρ avs obs k0 kr => ofC enc0 (fun t => F0 fuelN t.1 t.2.1 t.2.2.1 t.2.2.2 k0 kr) (avs, obs)
theorem V0_enc (ρ : Type) : (fun w1 w2 w3 w4 k0 kr => V0 ρ [vl w1, vl w2, vi w3, vi w4] [] k0 kr) = F0 fuelN := by
  funext w1 w2 w3 w4 k0 kr
  exact ofC_enc enc0I _ (w1, w2, w3, w4)
theorem main (W0) {ρ : Type} (K : AV → List Ob → Option ρ) (a1 a2) : exC Try.prog (G) (L W0) [] 0 (bodyOf Try.f59) (entry 26 [vl a1, vl a2] [] []) (finO Try.prog Try.f59.results.toList 0 [] [] K) =
    B (fun w1 w2 w3 w4 k0 kr => W0 ρ [vl w1, vl w2, vi w3, vi w4] [] k0 kr) a1 a2 (fun x1 => K (vb x1) []) := by kernel_rfl
theorem Gok : (G).ok Try.prog := ⟨(fun ρ f args K r h => (by cases h)),
  (fun ρ f args K => rfl),
  (fun ρ f st caps args dst K r h => (by cases h))⟩
theorem hm : Try.prog.follows .mixedOrders = true := by kernel_rfl
theorem e0 : atomsL [] 1 c0 = [] := by kernel_rfl
theorem ok0 (ρ : Type) (st : St) (K : Exit → St → Option ρ) (r : ρ) (h : (L V0) ρ 0 st K = some r) : AW Try.prog (.loop c0) st fun e st' => K e st' = some r := by
  refine loop_ok (ct := ct0) (lv := lv0) (n := 26) (m := 0) (ks := []) (j := 0) (jn := []) (L := (L V0)) Gok hm (by rw [e0]; exact Lor.ok_nil _ _) enc0I (fun k t => F0 k t.1 t.2.1 t.2.2.1 t.2.2.2 (fun _ => K (.exit 0) (mkS 26 [] [] [] [])) (fun z1 => K .ret (mkS 26 [4] [vb z1] [] []))) (fun t => rfl) (fun k t => ?_) (fun _ => fuelN) h
  refine (step0 V0 K _ t.1 t.2.1 t.2.2.1 t.2.2.2).trans ?_
  refine congrArg (fun W => B0 t.1 t.2.1 t.2.2.1 t.2.2.2 W (fun _ => K (.exit 0) (mkS 26 [] [] [] [])) (fun z1 => K .ret (mkS 26 [4] [vb z1] [] []))) ?_
  funext u1 u2 u3 u4
  exact ofC_enc enc0I _ (u1, u2, u3, u4)
theorem e : atomsL [] 0 (bodyOf Try.f59) = [(0, 0, .loop c0)] := by kernel_rfl
theorem acc (t : Vec ByteArray × Vec ByteArray) (x : Bool) (h : F t.1 t.2 = some x) : ACc Try.prog 59 (encA t) [] true [] fun rv obs => (rv, obs) = encR x := by
  refine fun_okc (L := (L V0)) (jn := []) (cmds := []) (ks := []) (hin := []) (fn := Try.f59) (body := (bodyOf Try.f59)) Gok hm Try.func59 (by kernel_rfl) (by kernel_rfl) (by rw [e]; exact Lor.ok_cons ok0 (Lor.ok_nil _ _)) ?_ h
  refine (main V0 _ t.1 t.2).trans ?_
  rw [V0_enc]
  refine congrArg (fun K => B (F0 fuelN) t.1 t.2 K) ?_
  funext x1
  exact ofC_enc encRI some (x1)
theorem ac0 (t : Vec ByteArray × Vec ByteArray) (x : Bool) (h : F t.1 t.2 = some x) : AC Try.prog 59 (encA t) [] true [] fun rv obs => (rv, obs) = encR x := ACc.ac (body := bodyOf Try.f59) Try.func59 (by kernel_rfl) (by kernel_rfl) (acc t x h)
theorem ac (args : List AV) (x : Bool) (h : Q args = some x) : AC Try.prog 59 args [] false [] fun rv obs => (rv, obs) = encR x := by
  obtain ⟨t, rfl, h2⟩ := ofC_some h
  refine (ac0 t x h2).flat fun rv obs e => ?_
  obtain rfl : rv = (encR x).1 := congrArg Prod.fst e
  obtain rfl : obs = (encR x).2 := congrArg Prod.snd e
  refine ⟨by simp [encR, AV.Flat, K.Flat, C.Flat], ?_⟩
  simp [encR]
end slices_Equal_string_string
/-! loop.example/g00073/impl.Twins -/
namespace impl_Twins
noncomputable def B2 {ρ : Type} (C2 : (Vec ByteArray) → (Vec ByteArray) → Option Bool) (v1 : Int) (v2 : Int) (v3 : Int) (v4 : Int) (v5 : Vec (Vec ByteArray)) (v6 : Vec (Vec Int)) (W : Int → Int → Int → Int → (Vec (Vec ByteArray)) → (Vec (Vec Int)) → Option ρ) (K4 : Int → Int → (Vec (Vec ByteArray)) → (Vec (Vec Int)) → Option ρ) : Option ρ :=
  sel (decide (v2 < (v5.n : Int))) (chk (decide (0 ≤ v1 ∧ v1 < (v5.n : Int))) (chk (decide (v1.toNat < v5.n)) (chk (decide (0 ≤ v2 ∧ v2 < (v5.n : Int))) (chk (decide (v2.toNat < v5.n)) ((C2 (v5.g v1.toNat) (v5.g v2.toNat)).bind fun r3 => sel (r3) (chk (decide ((v6.n + (Vec.lit [(Vec.lit [v1, v2] : Vec Int)] : Vec (Vec Int)).n) * 25 ≤ maxN)) (W v1 (wr (v2 + (1 : Int))) v3 v4 v5 (Vec.app v6 (Vec.lit [(Vec.lit [v1, v2] : Vec Int)] : Vec (Vec Int))))) (W v1 (wr (v2 + (1 : Int))) v3 v4 v5 v6)))))) (K4 v3 v4 v5 v6)
noncomputable def F2 {ρ : Type} : Nat → Int → Int → Int → Int → (Vec (Vec ByteArray)) → (Vec (Vec Int)) → (Int → Int → (Vec (Vec ByteArray)) → (Vec (Vec Int)) → Option ρ) → Option ρ
  | 0, _, _, _, _, _, _, _ => none
  | k + 1, v1, v2, v3, v4, v5, v6, K4 => B2 slices_Equal_string_string.F v1 v2 v3 v4 v5 v6 (fun v1' v2' v3' v4' v5' v6' => F2 k v1' v2' v3' v4' v5' v6' K4) K4
noncomputable def B1 {ρ : Type} (L2 : Int → Int → Int → Int → (Vec (Vec ByteArray)) → (Vec (Vec Int)) → (Int → Int → (Vec (Vec ByteArray)) → (Vec (Vec Int)) → Option ρ) → Option ρ) (v1 : Int) (v2 : Int) (v3 : Vec (Vec ByteArray)) (v4 : Vec (Vec Int)) (W : Int → Int → (Vec (Vec ByteArray)) → (Vec (Vec Int)) → Option ρ) (K2 : (Vec (Vec Int)) → Option ρ) : Option ρ :=
  sel (decide (v2 < v1)) (L2 v2 (wr (v2 + (1 : Int))) v1 v2 v3 v4 (fun e21 e22 e23 e24 => W e21 (wr (e22 + (1 : Int))) e23 e24)) (K2 v4)
noncomputable def F1 {ρ : Type} : Nat → Int → Int → (Vec (Vec ByteArray)) → (Vec (Vec Int)) → ((Vec (Vec Int)) → Option ρ) → Option ρ
  | 0, _, _, _, _, _ => none
  | k + 1, v1, v2, v3, v4, K2 => B1 (F2 fuelN) v1 v2 v3 v4 (fun v1' v2' v3' v4' => F1 k v1' v2' v3' v4' K2) K2
noncomputable def B0 {ρ : Type} (C1 : (Vec (Vec Int)) → (Vec (ByteArray × Int × Int × (Vec Int))) → Int → Option (Vec ByteArray)) (v1 : Int) (v2 : Int) (v3 : Vec (Vec Int)) (v4 : Vec (ByteArray × Int × Int × (Vec Int))) (v5 : Vec (Vec ByteArray)) (W : Int → Int → (Vec (Vec Int)) → (Vec (ByteArray × Int × Int × (Vec Int))) → (Vec (Vec ByteArray)) → Option ρ) (K0 : (Vec (Vec ByteArray)) → Option ρ) : Option ρ :=
  sel (decide (v2 < v1)) ((C1 v3 v4 v2).bind fun r2 => chk (decide ((v5.n + (Vec.lit [r2] : Vec (Vec ByteArray)).n) * 25 ≤ maxN)) (W v1 (wr (v2 + (1 : Int))) v3 v4 (Vec.app v5 (Vec.lit [r2] : Vec (Vec ByteArray))))) (K0 v5)
noncomputable def F0 {ρ : Type} : Nat → Int → Int → (Vec (Vec Int)) → (Vec (ByteArray × Int × Int × (Vec Int))) → (Vec (Vec ByteArray)) → ((Vec (Vec ByteArray)) → Option ρ) → Option ρ
  | 0, _, _, _, _, _, _ => none
  | k + 1, v1, v2, v3, v4, v5, K0 => B0 impl_Weave_extract.F v1 v2 v3 v4 v5 (fun v1' v2' v3' v4' v5' => F0 k v1' v2' v3' v4' v5' K0) K0
noncomputable def B {ρ : Type} (C0 : (Vec (Vec Int)) → (Vec (ByteArray × Int × Int × (Vec Int))) → Option Bool) (L0 : Int → Int → (Vec (Vec Int)) → (Vec (ByteArray × Int × Int × (Vec Int))) → (Vec (Vec ByteArray)) → ((Vec (Vec ByteArray)) → Option ρ) → Option ρ) (L1 : Int → Int → (Vec (Vec ByteArray)) → (Vec (Vec Int)) → ((Vec (Vec Int)) → Option ρ) → Option ρ) (a1 : Vec (Vec Int)) (a2 : Vec (ByteArray × Int × Int × (Vec Int))) (K : (Vec (Vec Int)) → Option ρ) : Option ρ :=
  (C0 a1 a2).bind fun r1 => sel ((!r1)) (K (Vec.nil : Vec (Vec Int))) (L0 (a1.n : Int) (0 : Int) a1 a2 (Vec.nil : Vec (Vec ByteArray)) (fun e01 => L1 (e01.n : Int) (0 : Int) e01 (Vec.nil : Vec (Vec Int)) (fun e11 => K e11)))
noncomputable def F (a1 : Vec (Vec Int)) (a2 : Vec (ByteArray × Int × Int × (Vec Int))) : Option (Vec (Vec Int)) := B impl_WeaveOk.F (F0 fuelN) (F1 fuelN) a1 a2 (fun x1 => some (x1))
def encA (t : Vec (Vec Int) × (Vec (ByteArray × Int × Int × (Vec Int)))) : List AV := [.a [cl t.1, cl t.2]]
def encR (x : Vec (Vec Int)) : AV × List Ob := (.c (.h 0), [ro x])
theorem encAI : ∀ a b, encA a = encA b → a = b := by
  intro a b h
  obtain ⟨a0, a1⟩ := a
  obtain ⟨b0, b1⟩ := b
  simp [encA, encRw_iff] at h
  simp_all
theorem encRI : ∀ a b, encR a = encR b → a = b := by
  intro a b h
  simp [encR, encRw_iff] at h
  simp_all
noncomputable def Q (args : List AV) : Option (Vec (Vec Int)) := ofC encA (fun t => F t.1 t.2) args
theorem wrap : (fun (y1 : Vec (Vec Int)) (y2 : Vec (ByteArray × Int × Int × (Vec Int))) => Q [.a [cl y1, cl y2]]) = F := by
  funext y1 y2
  exact ofC_enc encAI _ (y1, y2)
noncomputable def G (Q0 : List AV → Option Bool) (Q1 : List AV → Option (Vec ByteArray)) (Q2 : List AV → Option Bool) : Orc := ⟨fun f => sel (Nat.beq f 53) 0 (sel (Nat.beq f 58) 0 (sel (Nat.beq f 59) 0 (9))), fun ρ f args K => sel (Nat.beq f 53) (qEntry impl_WeaveOk.encR Q0 args K) (sel (Nat.beq f 58) (qEntry impl_Weave_extract.encR Q1 args K) (sel (Nat.beq f 59) (qEntry slices_Equal_string_string.encR Q2 args K) (Option.none))), noE, false⟩
noncomputable def L (W2 : (ρ : Type) → List AV → List Ob → (Int → Int → (Vec (Vec ByteArray)) → (Vec (Vec Int)) → Option ρ) → Option ρ) (W1 : (ρ : Type) → List AV → List Ob → ((Vec (Vec Int)) → Option ρ) → Option ρ) (W0 : (ρ : Type) → List AV → List Ob → ((Vec (Vec ByteArray)) → Option ρ) → Option ρ) : Lor := fun ρ j st K => sel (Nat.beq j 0) (cutO Try.prog 53 [1, 3, 13, 14] 0 [] [.ad (.s 3) 80] st fun avs obs => W0 ρ avs obs (fun z1 => K (.exit 0) (mkS 53 [3] [.c (.h 0)] [ro z1] []))) (sel (Nat.beq j 1) (cutO Try.prog 53 [3, 5, 24, 25] 0 [] [.ad (.s 5) 22] st fun avs obs => W1 ρ avs obs (fun z1 => K (.exit 2) (mkS 53 [5] [.c (.h 0)] [ro z1] []))) (sel (Nat.beq j 2) (cutO Try.prog 53 [3, 5, 6, 7, 24, 25] 0 [] [] st fun avs obs => W2 ρ avs obs (fun z1 z2 z3 z4 => K (.exit 4) (mkS 53 [3, 5, 24, 25] [.c (.h 0), .c (.h 1), vi z1, vi z2] [ro z3, ro z4] []))) (Option.none)))
noncomputable def c0 : Code := loopC (atomN [] 0 (bodyOf Try.f19) 0)
noncomputable def c1 : Code := loopC (atomN [] 0 (bodyOf Try.f19) 1)
noncomputable def c2 : Code := loopC (atomN [] 2 c1 0)
def ct0 : Cut := ⟨[1, 3, 13, 14], [.ad (.s 3) 80]⟩
def lv0 : Exit → Cut
  | .exit 0 => ⟨[3], []⟩
  | _ => ⟨[], []⟩
theorem step0 (Q0 Q1 Q2) (W2 W1 W0) {ρ : Type} (K : Exit → St → Option ρ) (W : List AV → List Ob → Option ρ) (v1 v2 v3 v4 v5) : exC Try.prog (G Q0 Q1 Q2) (L W2 W1 W0) [] 1 c0 (mkS 53 [1, 3, 13, 14] [.c (.p 0 0), .c (.h 1), vi v1, vi v2] [.box [cl v3, cl v4], ro v5] []) (bodyK Try.prog 53 0 [] ct0 W lv0 K) =
    B0 (fun y1 y2 y3 => Q1 [.ra [nl y1, nl y2], vi y3]) v1 v2 v3 v4 v5 (fun u1 u2 u3 u4 u5 => W [.c (.p 0 0), .c (.h 1), vi u1, vi u2] [.box [cl u3, cl u4], ro u5]) (fun z1 => K (.exit 0) (mkS 53 [3] [.c (.h 0)] [ro z1] [])) := by kernel_rfl
def enc0 (t : Int × Int × Vec (Vec Int) × (Vec (ByteArray × Int × Int × (Vec Int))) × Vec (Vec ByteArray)) : List AV × List Ob := ([.c (.p 0 0), .c (.h 1), vi t.1, vi t.2.1], [.box [cl t.2.2.1, cl t.2.2.2.1], ro t.2.2.2.2])
theorem enc0I : ∀ a b, enc0 a = enc0 b → a = b := by
  intro a b h
  obtain ⟨a0, a1, a2, a3, a4⟩ := a
  obtain ⟨b0, b1, b2, b3, b4⟩ := b
  simp [enc0, encRw_iff] at h
  simp_all
noncomputable def V0 : (ρ : Type) → List AV → List Ob → ((Vec (Vec ByteArray)) → Option ρ) → Option ρ := fun ρ avs obs k0 => ofC enc0 (fun t => F0 fuelN t.1 t.2.1 t.2.2.1 t.2.2.2.1 t.2.2.2.2 k0) (avs, obs)
theorem V0_enc (ρ : Type) : (fun w1 w2 w3 w4 w5 k0 => V0 ρ [.c (.p 0 0), .c (.h 1), vi w1, vi w2] [.box [cl w3, cl w4], ro w5] k0) = F0 fuelN := by
  funext w1 w2 w3 w4 w5 k0
  exact ofC_enc enc0I _ (w1, w2, w3, w4, w5)
def ct1 : Cut := ⟨[3, 5, 24, 25], [.ad (.s 5) 22]⟩
def lv1 : Exit → Cut
  | .exit 2 => ⟨[5], []⟩
  | _ => ⟨[], []⟩
theorem step1 (Q0 Q1 Q2) (W2 W1 W0) {ρ : Type} (K : Exit → St → Option ρ) (W : List AV → List Ob → Option ρ) (v1 v2 v3 v4) : exC Try.prog (G Q0 Q1 Q2) (L W2 W1 W0) [] 2 c1 (mkS 53 [3, 5, 24, 25] [.c (.h 0), .c (.h 1), vi v1, vi v2] [ro v3, ro v4] []) (bodyK Try.prog 53 0 [] ct1 W lv1 K) =
    B1 (fun w1 w2 w3 w4 w5 w6 k4 => W2 ρ [.c (.h 0), .c (.h 1), vi w1, vi w2, vi w3, vi w4] [ro w5, ro w6] k4) v1 v2 v3 v4 (fun u1 u2 u3 u4 => W [.c (.h 0), .c (.h 1), vi u1, vi u2] [ro u3, ro u4]) (fun z1 => K (.exit 2) (mkS 53 [5] [.c (.h 0)] [ro z1] [])) := by kernel_rfl
def enc1 (t : Int × Int × Vec (Vec ByteArray) × Vec (Vec Int)) : List AV × List Ob := ([.c (.h 0), .c (.h 1), vi t.1, vi t.2.1], [ro t.2.2.1, ro t.2.2.2])
theorem enc1I : ∀ a b, enc1 a = enc1 b → a = b := by
  intro a b h
  obtain ⟨a0, a1, a2, a3⟩ := a
  obtain ⟨b0, b1, b2, b3⟩ := b
  simp [enc1, encRw_iff] at h
  simp_all
noncomputable def V1 : (ρ : Type) → List AV → List Ob → ((Vec (Vec Int)) → Option ρ) → Option ρ := fun ρ avs obs k2 => ofC enc1 (fun t => F1 fuelN t.1 t.2.1 t.2.2.1 t.2.2.2 k2) (avs, obs)
theorem V1_enc (ρ : Type) : (fun w1 w2 w3 w4 k2 => V1 ρ [.c (.h 0), .c (.h 1), vi w1, vi w2] [ro w3, ro w4] k2) = F1 fuelN := by
  funext w1 w2 w3 w4 k2
  exact ofC_enc enc1I _ (w1, w2, w3, w4)
def ct2 : Cut := ⟨[3, 5, 6, 7, 24, 25], []⟩
def lv2 : Exit → Cut
  | .exit 4 => ⟨[3, 5, 24, 25], [.ad (.s 5) 22]⟩
  | _ => ⟨[], []⟩
theorem step2 (Q0 Q1 Q2) (W2 W1 W0) {ρ : Type} (K : Exit → St → Option ρ) (W : List AV → List Ob → Option ρ) (v1 v2 v3 v4 v5 v6) : exC Try.prog (G Q0 Q1 Q2) (L W2 W1 W0) [] 3 c2 (mkS 53 [3, 5, 6, 7, 24, 25] [.c (.h 0), .c (.h 1), vi v1, vi v2, vi v3, vi v4] [ro v5, ro v6] []) (bodyK Try.prog 53 0 [] ct2 W lv2 K) =
    B2 (fun y1 y2 => Q2 [vl y1, vl y2]) v1 v2 v3 v4 v5 v6 (fun u1 u2 u3 u4 u5 u6 => W [.c (.h 0), .c (.h 1), vi u1, vi u2, vi u3, vi u4] [ro u5, ro u6]) (fun z1 z2 z3 z4 => K (.exit 4) (mkS 53 [3, 5, 24, 25] [.c (.h 0), .c (.h 1), vi z1, vi z2] [ro z3, ro z4] [])) := by kernel_rfl
def enc2 (t : Int × Int × Int × Int × Vec (Vec ByteArray) × Vec (Vec Int)) : List AV × List Ob := ([.c (.h 0), .c (.h 1), vi t.1, vi t.2.1, vi t.2.2.1, vi t.2.2.2.1], [ro t.2.2.2.2.1, ro t.2.2.2.2.2])
theorem enc2I : ∀ a b, enc2 a = enc2 b → a = b := by
  intro a b h
  obtain ⟨a0, a1, a2, a3, a4, a5⟩ := a
  obtain ⟨b0, b1, b2, b3, b4, b5⟩ := b
  simp [enc2, encRw_iff] at h
  simp_all
noncomputable def V2 : (ρ : Type) → List AV → List Ob → (Int → Int → (Vec (Vec ByteArray)) → (Vec (Vec Int)) → Option ρ) → Option ρ := fun ρ avs obs k4 => ofC enc2 (fun t => F2 fuelN t.1 t.2.1 t.2.2.1 t.2.2.2.1 t.2.2.2.2.1 t.2.2.2.2.2 k4) (avs, obs)
theorem V2_enc (ρ : Type) : (fun w1 w2 w3 w4 w5 w6 k4 => V2 ρ [.c (.h 0), .c (.h 1), vi w1, vi w2, vi w3, vi w4] [ro w5, ro w6] k4) = F2 fuelN := by
  funext w1 w2 w3 w4 w5 w6 k4
  exact ofC_enc enc2I _ (w1, w2, w3, w4, w5, w6)
theorem main (Q0 Q1 Q2) (W2 W1 W0) {ρ : Type} (K : AV → List Ob → Option ρ) (a1 a2) : exC Try.prog (G Q0 Q1 Q2) (L W2 W1 W0) [] 0 (bodyOf Try.f19) (entry 53 [.a [cl a1, cl a2]] [] []) (finO Try.prog Try.f19.results.toList 0 [] [.ad (.s 2) 22] K) =
    B (fun y1 y2 => Q0 [.a [cl y1, cl y2]]) (fun w1 w2 w3 w4 w5 k0 => W0 ρ [.c (.p 0 0), .c (.h 1), vi w1, vi w2] [.box [cl w3, cl w4], ro w5] k0) (fun w1 w2 w3 w4 k2 => W1 ρ [.c (.h 0), .c (.h 1), vi w1, vi w2] [ro w3, ro w4] k2) a1 a2 (fun x1 => K (.c (.h 0)) [ro x1]) := by kernel_rfl
theorem Gok : (G impl_WeaveOk.Q impl_Weave_extract.Q slices_Equal_string_string.Q).ok Try.prog := ⟨(by
    intro ρ f args K r h
    rcases sel_cases h with ⟨hb, h⟩ | ⟨-, h⟩
    · obtain rfl := beq_nat hb
      exact qEntry_ok impl_WeaveOk.ac h
    rcases sel_cases h with ⟨hb, h⟩ | ⟨-, h⟩
    · obtain rfl := beq_nat hb
      exact qEntry_ok impl_Weave_extract.ac h
    rcases sel_cases h with ⟨hb, h⟩ | ⟨-, h⟩
    · obtain rfl := beq_nat hb
      exact qEntry_ok slices_Equal_string_string.ac h
    cases h),
  (by
    intro ρ f args K
    simp only [G]
    cases Nat.beq f 53 with
    | true => exact qEntry_nat args K
    | false =>
    simp only [sel]
    cases Nat.beq f 58 with
    | true => exact qEntry_nat args K
    | false =>
    simp only [sel]
    cases Nat.beq f 59 with
    | true => exact qEntry_nat args K
    | false =>
    simp only [sel]
    rfl),
  (fun ρ f st caps args dst K r h => (by cases h))⟩
theorem hm : Try.prog.follows .mixedOrders = true := by kernel_rfl
theorem e2 : atomsL [] 3 c2 = [] := by kernel_rfl
theorem ok2 (ρ : Type) (st : St) (K : Exit → St → Option ρ) (r : ρ) (h : (L V2 V1 V0) ρ 2 st K = some r) : AW Try.prog (.loop c2) st fun e st' => K e st' = some r := by
  refine loop_ok (ct := ct2) (lv := lv2) (n := 53) (m := 0) (ks := []) (j := 2) (jn := []) (L := (L V2 V1 V0)) Gok hm (by rw [e2]; exact Lor.ok_nil _ _) enc2I (fun k t => F2 k t.1 t.2.1 t.2.2.1 t.2.2.2.1 t.2.2.2.2.1 t.2.2.2.2.2 (fun z1 z2 z3 z4 => K (.exit 4) (mkS 53 [3, 5, 24, 25] [.c (.h 0), .c (.h 1), vi z1, vi z2] [ro z3, ro z4] []))) (fun t => rfl) (fun k t => ?_) (fun _ => fuelN) h
  refine (step2 impl_WeaveOk.Q impl_Weave_extract.Q slices_Equal_string_string.Q V2 V1 V0 K _ t.1 t.2.1 t.2.2.1 t.2.2.2.1 t.2.2.2.2.1 t.2.2.2.2.2).trans ?_
  rw [slices_Equal_string_string.wrap]
  refine congrArg (fun W => B2 slices_Equal_string_string.F t.1 t.2.1 t.2.2.1 t.2.2.2.1 t.2.2.2.2.1 t.2.2.2.2.2 W (fun z1 z2 z3 z4 => K (.exit 4) (mkS 53 [3, 5, 24, 25] [.c (.h 0), .c (.h 1), vi z1, vi z2] [ro z3, ro z4] []))) ?_
  funext u1 u2 u3 u4 u5 u6
  exact ofC_enc enc2I _ (u1, u2, u3, u4, u5, u6)
theorem e1 : atomsL [] 2 c1 = [(2, 2, .loop c2)] := by kernel_rfl
theorem ok1 (ρ : Type) (st : St) (K : Exit → St → Option ρ) (r : ρ) (h : (L V2 V1 V0) ρ 1 st K = some r) : AW Try.prog (.loop c1) st fun e st' => K e st' = some r := by
  refine loop_ok (ct := ct1) (lv := lv1) (n := 53) (m := 0) (ks := []) (j := 1) (jn := []) (L := (L V2 V1 V0)) Gok hm (by rw [e1]; exact Lor.ok_cons ok2 (Lor.ok_nil _ _)) enc1I (fun k t => F1 k t.1 t.2.1 t.2.2.1 t.2.2.2 (fun z1 => K (.exit 2) (mkS 53 [5] [.c (.h 0)] [ro z1] []))) (fun t => rfl) (fun k t => ?_) (fun _ => fuelN) h
  refine (step1 impl_WeaveOk.Q impl_Weave_extract.Q slices_Equal_string_string.Q V2 V1 V0 K _ t.1 t.2.1 t.2.2.1 t.2.2.2).trans ?_
  rw [V2_enc]
  refine congrArg (fun W => B1 (F2 fuelN) t.1 t.2.1 t.2.2.1 t.2.2.2 W (fun z1 => K (.exit 2) (mkS 53 [5] [.c (.h 0)] [ro z1] []))) ?_
  funext u1 u2 u3 u4
  exact ofC_enc enc1I _ (u1, u2, u3, u4)
theorem e0 : atomsL [] 1 c0 = [] := by kernel_rfl
theorem ok0 (ρ : Type) (st : St) (K : Exit → St → Option ρ) (r : ρ) (h : (L V2 V1 V0) ρ 0 st K = some r) : AW Try.prog (.loop c0) st fun e st' => K e st' = some r := by
  refine loop_ok (ct := ct0) (lv := lv0) (n := 53) (m := 0) (ks := []) (j := 0) (jn := []) (L := (L V2 V1 V0)) Gok hm (by rw [e0]; exact Lor.ok_nil _ _) enc0I (fun k t => F0 k t.1 t.2.1 t.2.2.1 t.2.2.2.1 t.2.2.2.2 (fun z1 => K (.exit 0) (mkS 53 [3] [.c (.h 0)] [ro z1] []))) (fun t => rfl) (fun k t => ?_) (fun _ => fuelN) h
  refine (step0 impl_WeaveOk.Q impl_Weave_extract.Q slices_Equal_string_string.Q V2 V1 V0 K _ t.1 t.2.1 t.2.2.1 t.2.2.2.1 t.2.2.2.2).trans ?_
  rw [impl_Weave_extract.wrap]
  refine congrArg (fun W => B0 impl_Weave_extract.F t.1 t.2.1 t.2.2.1 t.2.2.2.1 t.2.2.2.2 W (fun z1 => K (.exit 0) (mkS 53 [3] [.c (.h 0)] [ro z1] []))) ?_
  funext u1 u2 u3 u4 u5
  exact ofC_enc enc0I _ (u1, u2, u3, u4, u5)
theorem e : atomsL [] 0 (bodyOf Try.f19) = [(0, 0, .loop c0), (1, 1, .loop c1)] := by kernel_rfl
theorem acc (t : Vec (Vec Int) × (Vec (ByteArray × Int × Int × (Vec Int)))) (x : Vec (Vec Int)) (h : F t.1 t.2 = some x) : ACc Try.prog 19 (encA t) [] true [] fun rv obs => (rv, obs) = encR x := by
  refine fun_okc (L := (L V2 V1 V0)) (jn := []) (cmds := [.ad (.s 2) 22]) (ks := []) (hin := []) (fn := Try.f19) (body := (bodyOf Try.f19)) Gok hm Try.func19 (by kernel_rfl) (by kernel_rfl) (by rw [e]; exact Lor.ok_cons ok0 (Lor.ok_cons ok1 (Lor.ok_nil _ _))) ?_ h
  refine (main impl_WeaveOk.Q impl_Weave_extract.Q slices_Equal_string_string.Q V2 V1 V0 _ t.1 t.2).trans ?_
  rw [impl_WeaveOk.wrap, V0_enc, V1_enc]
  refine congrArg (fun K => B impl_WeaveOk.F (F0 fuelN) (F1 fuelN) t.1 t.2 K) ?_
  funext x1
  exact ofC_enc encRI some (x1)
theorem ac0 (t : Vec (Vec Int) × (Vec (ByteArray × Int × Int × (Vec Int)))) (x : Vec (Vec Int)) (h : F t.1 t.2 = some x) : AC Try.prog 19 (encA t) [] true [] fun rv obs => (rv, obs) = encR x := ACc.ac (body := bodyOf Try.f19) Try.func19 (by kernel_rfl) (by kernel_rfl) (acc t x h)
theorem ac (args : List AV) (x : Vec (Vec Int)) (h : Q args = some x) : AC Try.prog 19 args [] false [] fun rv obs => (rv, obs) = encR x := by
  obtain ⟨t, rfl, h2⟩ := ofC_some h
  refine (ac0 t x h2).flat fun rv obs e => ?_
  obtain rfl : rv = (encR x).1 := congrArg Prod.fst e
  obtain rfl : obs = (encR x).2 := congrArg Prod.snd e
  refine ⟨by simp [encR, AV.Flat, K.Flat, C.Flat], ?_⟩
  intro o ho
  simp only [encR, List.mem_cons, List.not_mem_nil, or_false] at ho
  subst ho
  exact flat_rw rfl _
end impl_Twins
/-! loop.example/g00073/laws.heldIntS -/
namespace laws_heldIntS
noncomputable def B0 {ρ : Type} (v1 : Vec Int) (v2 : Int) (v3 : Int) (W : (Vec Int) → Int → Int → Option ρ) (K0 : Int → Option ρ) (Kr : Int → Option ρ) : Option ρ :=
  sel (decide (v3 < (v1.n : Int))) (chk (decide (0 ≤ v3 ∧ v3 < (v1.n : Int))) (sel ((!decide ((v1.g v3.toNat) = v2))) (Kr (-1 : Int)) (W v1 (wr (v2 + (1 : Int))) (wr (v3 + (1 : Int)))))) (K0 v2)
noncomputable def F0 {ρ : Type} : Nat → (Vec Int) → Int → Int → (Int → Option ρ) → (Int → Option ρ) → Option ρ
  | 0, _, _, _, _, _ => none
  | k + 1, v1, v2, v3, K0, Kr => B0 v1 v2 v3 (fun v1' v2' v3' => F0 k v1' v2' v3' K0 Kr) K0 Kr
noncomputable def B {ρ : Type} (L0 : (Vec Int) → Int → Int → (Int → Option ρ) → (Int → Option ρ) → Option ρ) (a1 : Vec Int) (a2 : Int) (K : Int → Option ρ) : Option ρ :=
  L0 a1 a2 (0 : Int) (fun e01 => K e01) (fun x01 => K x01)
noncomputable def F (a1 : Vec Int) (a2 : Int) : Option Int := B (F0 fuelN) a1 a2 (fun x1 => some (x1))
def encA (t : Vec Int × Int) : List AV := [vl t.1, vi t.2]
def encR (x : Int) : AV × List Ob := (vi x, [])
theorem encAI : ∀ a b, encA a = encA b → a = b := by
  intro a b h
  obtain ⟨a0, a1⟩ := a
  obtain ⟨b0, b1⟩ := b
  simp [encA, encRw_iff] at h
  simp_all
theorem encRI : ∀ a b, encR a = encR b → a = b := by
  intro a b h
  simp [encR, encRw_iff] at h
  simp_all
noncomputable def Q (args : List AV) : Option Int := ofC encA (fun t => F t.1 t.2) args
theorem wrap : (fun (y1 : Vec Int) (y2 : Int) => Q [vl y1, vi y2]) = F := by
  funext y1 y2
  exact ofC_enc encAI _ (y1, y2)
noncomputable def G : Orc := ⟨fun f => 9, fun ρ f args K => Option.none, noE, false⟩
noncomputable def L (W0 : (ρ : Type) → List AV → List Ob → (Int → Option ρ) → (Int → Option ρ) → Option ρ) : Lor := fun ρ j st K => sel (Nat.beq j 0) (cutO Try.prog 21 [0, 1, 5] 0 [] [] st fun avs obs => W0 ρ avs obs (fun z1 => K (.exit 0) (mkS 21 [1] [vi z1] [] [])) (fun z1 => K .ret (mkS 21 [4] [vi z1] [] []))) (Option.none)
noncomputable def c0 : Code := loopC (atomN [] 0 (bodyOf Try.f63) 0)
def ct0 : Cut := ⟨[0, 1, 5], []⟩
def lv0 : Exit → Cut
  | .exit 0 => ⟨[1], []⟩
  | .ret => ⟨[4], []⟩
  | _ => ⟨[], []⟩
theorem step0 (W0) {ρ : Type} (K : Exit → St → Option ρ) (W : List AV → List Ob → Option ρ) (v1 v2 v3) : exC Try.prog (G) (L W0) [] 1 c0 (mkS 21 [0, 1, 5] [vl v1, vi v2, vi v3] [] []) (bodyK Try.prog 21 0 [] ct0 W lv0 K) =
    B0 v1 v2 v3 (fun u1 u2 u3 => W [vl u1, vi u2, vi u3] []) (fun z1 => K (.exit 0) (mkS 21 [1] [vi z1] [] [])) (fun z1 => K .ret (mkS 21 [4] [vi z1] [] [])) := by kernel_rfl
def enc0 (t : Vec Int × Int × Int) : List AV × List Ob := ([vl t.1, vi t.2.1, vi t.2.2], [])
theorem enc0I : ∀ a b, enc0 a = enc0 b → a = b := by
  intro a b h
  obtain ⟨a0, a1, a2⟩ := a
  obtain ⟨b0, b1, b2⟩ := b
  simp [enc0, encRw_iff] at h
  simp_all
noncomputable def V0 : (ρ : Type) → List AV → List Ob → (Int → Option ρ) → (Int → Option ρ) → Option ρ := fun ρ avs obs k0 kr => ofC enc0 (fun t => F0 fuelN t.1 t.2.1 t.2.2 k0 kr) (avs, obs)
theorem V0_enc (ρ : Type) : (fun w1 w2 w3 k0 kr => V0 ρ [vl w1, vi w2, vi w3] [] k0 kr) = F0 fuelN := by
  funext w1 w2 w3 k0 kr
  exact ofC_enc enc0I _ (w1, w2, w3)
theorem main (W0) {ρ : Type} (K : AV → List Ob → Option ρ) (a1 a2) : exC Try.prog (G) (L W0) [] 0 (bodyOf Try.f63) (entry 21 [vl a1, vi a2] [] []) (finO Try.prog Try.f63.results.toList 0 [] [] K) =
    B (fun w1 w2 w3 k0 kr => W0 ρ [vl w1, vi w2, vi w3] [] k0 kr) a1 a2 (fun x1 => K (vi x1) []) := by kernel_rfl
theorem Gok : (G).ok Try.prog := ⟨(fun ρ f args K r h => (by cases h)),
  (fun ρ f args K => rfl),
  (fun ρ f st caps args dst K r h => (by cases h))⟩
theorem hm : Try.prog.follows .mixedOrders = true := by kernel_rfl
theorem e0 : atomsL [] 1 c0 = [] := by kernel_rfl
theorem ok0 (ρ : Type) (st : St) (K : Exit → St → Option ρ) (r : ρ) (h : (L V0) ρ 0 st K = some r) : AW Try.prog (.loop c0) st fun e st' => K e st' = some r := by
  refine loop_ok (ct := ct0) (lv := lv0) (n := 21) (m := 0) (ks := []) (j := 0) (jn := []) (L := (L V0)) Gok hm (by rw [e0]; exact Lor.ok_nil _ _) enc0I (fun k t => F0 k t.1 t.2.1 t.2.2 (fun z1 => K (.exit 0) (mkS 21 [1] [vi z1] [] [])) (fun z1 => K .ret (mkS 21 [4] [vi z1] [] []))) (fun t => rfl) (fun k t => ?_) (fun _ => fuelN) h
  refine (step0 V0 K _ t.1 t.2.1 t.2.2).trans ?_
  refine congrArg (fun W => B0 t.1 t.2.1 t.2.2 W (fun z1 => K (.exit 0) (mkS 21 [1] [vi z1] [] [])) (fun z1 => K .ret (mkS 21 [4] [vi z1] [] []))) ?_
  funext u1 u2 u3
  exact ofC_enc enc0I _ (u1, u2, u3)
theorem e : atomsL [] 0 (bodyOf Try.f63) = [(0, 0, .loop c0)] := by kernel_rfl
theorem acc (t : Vec Int × Int) (x : Int) (h : F t.1 t.2 = some x) : ACc Try.prog 63 (encA t) [] true [] fun rv obs => (rv, obs) = encR x := by
  refine fun_okc (L := (L V0)) (jn := []) (cmds := []) (ks := []) (hin := []) (fn := Try.f63) (body := (bodyOf Try.f63)) Gok hm Try.func63 (by kernel_rfl) (by kernel_rfl) (by rw [e]; exact Lor.ok_cons ok0 (Lor.ok_nil _ _)) ?_ h
  refine (main V0 _ t.1 t.2).trans ?_
  rw [V0_enc]
  refine congrArg (fun K => B (F0 fuelN) t.1 t.2 K) ?_
  funext x1
  exact ofC_enc encRI some (x1)
theorem ac0 (t : Vec Int × Int) (x : Int) (h : F t.1 t.2 = some x) : AC Try.prog 63 (encA t) [] true [] fun rv obs => (rv, obs) = encR x := ACc.ac (body := bodyOf Try.f63) Try.func63 (by kernel_rfl) (by kernel_rfl) (acc t x h)
theorem ac (args : List AV) (x : Int) (h : Q args = some x) : AC Try.prog 63 args [] false [] fun rv obs => (rv, obs) = encR x := by
  obtain ⟨t, rfl, h2⟩ := ofC_some h
  refine (ac0 t x h2).flat fun rv obs e => ?_
  obtain rfl : rv = (encR x).1 := congrArg Prod.fst e
  obtain rfl : obs = (encR x).2 := congrArg Prod.snd e
  refine ⟨by simp [encR, AV.Flat, K.Flat, C.Flat], ?_⟩
  simp [encR]
end laws_heldIntS
/-! loop.example/g00073/laws.heldIntSS -/
namespace laws_heldIntSS
noncomputable def B0 {ρ : Type} (C0 : (Vec Int) → Int → Option Int) (v1 : Vec (Vec Int)) (v2 : Int) (v3 : Int) (W : (Vec (Vec Int)) → Int → Int → Option ρ) (K0 : Int → Option ρ) (Kr : Int → Option ρ) : Option ρ :=
  sel (decide (v3 < (v1.n : Int))) (chk (decide (0 ≤ v3 ∧ v3 < (v1.n : Int))) ((C0 (v1.g v3.toNat) v2).bind fun r1 => sel (decide (r1 < (0 : Int))) (Kr (-1 : Int)) (W v1 r1 (wr (v3 + (1 : Int)))))) (K0 v2)
noncomputable def F0 {ρ : Type} : Nat → (Vec (Vec Int)) → Int → Int → (Int → Option ρ) → (Int → Option ρ) → Option ρ
  | 0, _, _, _, _, _ => none
  | k + 1, v1, v2, v3, K0, Kr => B0 laws_heldIntS.F v1 v2 v3 (fun v1' v2' v3' => F0 k v1' v2' v3' K0 Kr) K0 Kr
noncomputable def B {ρ : Type} (L0 : (Vec (Vec Int)) → Int → Int → (Int → Option ρ) → (Int → Option ρ) → Option ρ) (a1 : Vec (Vec Int)) (a2 : Int) (K : Int → Option ρ) : Option ρ :=
  L0 a1 a2 (0 : Int) (fun e01 => K e01) (fun x01 => K x01)
noncomputable def F (a1 : Vec (Vec Int)) (a2 : Int) : Option Int := B (F0 fuelN) a1 a2 (fun x1 => some (x1))
def encA (t : Vec (Vec Int) × Int) : List AV := [vl t.1, vi t.2]
def encR (x : Int) : AV × List Ob := (vi x, [])
theorem encAI : ∀ a b, encA a = encA b → a = b := by
  intro a b h
  obtain ⟨a0, a1⟩ := a
  obtain ⟨b0, b1⟩ := b
  simp [encA, encRw_iff] at h
  simp_all
theorem encRI : ∀ a b, encR a = encR b → a = b := by
  intro a b h
  simp [encR, encRw_iff] at h
  simp_all
noncomputable def Q (args : List AV) : Option Int := ofC encA (fun t => F t.1 t.2) args
theorem wrap : (fun (y1 : Vec (Vec Int)) (y2 : Int) => Q [vl y1, vi y2]) = F := by
  funext y1 y2
  exact ofC_enc encAI _ (y1, y2)
noncomputable def G (Q0 : List AV → Option Int) : Orc := ⟨fun f => sel (Nat.beq f 63) 0 (9), fun ρ f args K => sel (Nat.beq f 63) (qEntry laws_heldIntS.encR Q0 args K) (Option.none), noE, false⟩
noncomputable def L (W0 : (ρ : Type) → List AV → List Ob → (Int → Option ρ) → (Int → Option ρ) → Option ρ) : Lor := fun ρ j st K => sel (Nat.beq j 0) (cutO Try.prog 21 [0, 1, 5] 0 [] [] st fun avs obs => W0 ρ avs obs (fun z1 => K (.exit 0) (mkS 21 [1] [vi z1] [] [])) (fun z1 => K .ret (mkS 21 [4] [vi z1] [] []))) (Option.none)
noncomputable def c0 : Code := loopC (atomN [] 0 (bodyOf Try.f23) 0)
def ct0 : Cut := ⟨[0, 1, 5], []⟩
def lv0 : Exit → Cut
  | .exit 0 => ⟨[1], []⟩
  | .ret => ⟨[4], []⟩
  | _ => ⟨[], []⟩
theorem step0 (Q0) (W0) {ρ : Type} (K : Exit → St → Option ρ) (W : List AV → List Ob → Option ρ) (v1 v2 v3) : exC Try.prog (G Q0) (L W0) [] 1 c0 (mkS 21 [0, 1, 5] [vl v1, vi v2, vi v3] [] []) (bodyK Try.prog 21 0 [] ct0 W lv0 K) =
    B0 (fun y1 y2 => Q0 [vl y1, vi y2]) v1 v2 v3 (fun u1 u2 u3 => W [vl u1, vi u2, vi u3] []) (fun z1 => K (.exit 0) (mkS 21 [1] [vi z1] [] [])) (fun z1 => K .ret (mkS 21 [4] [vi z1] [] [])) := by kernel_rfl
def enc0 (t : Vec (Vec Int) × Int × Int) : List AV × List Ob := ([vl t.1, vi t.2.1, vi t.2.2], [])
theorem enc0I : ∀ a b, enc0 a = enc0 b → a = b := by
  intro a b h
  obtain ⟨a0, a1, a2⟩ := a
  obtain ⟨b0, b1, b2⟩ := b
  simp [enc0, encRw_iff] at h
  simp_all
noncomputable def V0 : (ρ : Type) → List AV → List Ob → (Int → Option ρ) → (Int → Option ρ) → Option ρ := fun ρ avs obs k0 kr => ofC enc0 (fun t => F0 fuelN t.1 t.2.1 t.2.2 k0 kr) (avs, obs)
theorem V0_enc (ρ : Type) : (fun w1 w2 w3 k0 kr => V0 ρ [vl w1, vi w2, vi w3] [] k0 kr) = F0 fuelN := by
  funext w1 w2 w3 k0 kr
  exact ofC_enc enc0I _ (w1, w2, w3)
theorem main (Q0) (W0) {ρ : Type} (K : AV → List Ob → Option ρ) (a1 a2) : exC Try.prog (G Q0) (L W0) [] 0 (bodyOf Try.f23) (entry 21 [vl a1, vi a2] [] []) (finO Try.prog Try.f23.results.toList 0 [] [] K) =
    B (fun w1 w2 w3 k0 kr => W0 ρ [vl w1, vi w2, vi w3] [] k0 kr) a1 a2 (fun x1 => K (vi x1) []) := by kernel_rfl
theorem Gok : (G laws_heldIntS.Q).ok Try.prog := ⟨(by
    intro ρ f args K r h
    rcases sel_cases h with ⟨hb, h⟩ | ⟨-, h⟩
    · obtain rfl := beq_nat hb
      exact qEntry_ok laws_heldIntS.ac h
    cases h),
  (by
    intro ρ f args K
    simp only [G]
    cases Nat.beq f 63 with
    | true => exact qEntry_nat args K
    | false =>
    simp only [sel]
    rfl),
  (fun ρ f st caps args dst K r h => (by cases h))⟩
theorem hm : Try.prog.follows .mixedOrders = true := by kernel_rfl
theorem e0 : atomsL [] 1 c0 = [] := by kernel_rfl
theorem ok0 (ρ : Type) (st : St) (K : Exit → St → Option ρ) (r : ρ) (h : (L V0) ρ 0 st K = some r) : AW Try.prog (.loop c0) st fun e st' => K e st' = some r := by
  refine loop_ok (ct := ct0) (lv := lv0) (n := 21) (m := 0) (ks := []) (j := 0) (jn := []) (L := (L V0)) Gok hm (by rw [e0]; exact Lor.ok_nil _ _) enc0I (fun k t => F0 k t.1 t.2.1 t.2.2 (fun z1 => K (.exit 0) (mkS 21 [1] [vi z1] [] [])) (fun z1 => K .ret (mkS 21 [4] [vi z1] [] []))) (fun t => rfl) (fun k t => ?_) (fun _ => fuelN) h
  refine (step0 laws_heldIntS.Q V0 K _ t.1 t.2.1 t.2.2).trans ?_
  rw [laws_heldIntS.wrap]
  refine congrArg (fun W => B0 laws_heldIntS.F t.1 t.2.1 t.2.2 W (fun z1 => K (.exit 0) (mkS 21 [1] [vi z1] [] [])) (fun z1 => K .ret (mkS 21 [4] [vi z1] [] []))) ?_
  funext u1 u2 u3
  exact ofC_enc enc0I _ (u1, u2, u3)
theorem e : atomsL [] 0 (bodyOf Try.f23) = [(0, 0, .loop c0)] := by kernel_rfl
theorem acc (t : Vec (Vec Int) × Int) (x : Int) (h : F t.1 t.2 = some x) : ACc Try.prog 23 (encA t) [] true [] fun rv obs => (rv, obs) = encR x := by
  refine fun_okc (L := (L V0)) (jn := []) (cmds := []) (ks := []) (hin := []) (fn := Try.f23) (body := (bodyOf Try.f23)) Gok hm Try.func23 (by kernel_rfl) (by kernel_rfl) (by rw [e]; exact Lor.ok_cons ok0 (Lor.ok_nil _ _)) ?_ h
  refine (main laws_heldIntS.Q V0 _ t.1 t.2).trans ?_
  rw [V0_enc]
  refine congrArg (fun K => B (F0 fuelN) t.1 t.2 K) ?_
  funext x1
  exact ofC_enc encRI some (x1)
theorem ac0 (t : Vec (Vec Int) × Int) (x : Int) (h : F t.1 t.2 = some x) : AC Try.prog 23 (encA t) [] true [] fun rv obs => (rv, obs) = encR x := ACc.ac (body := bodyOf Try.f23) Try.func23 (by kernel_rfl) (by kernel_rfl) (acc t x h)
theorem ac (args : List AV) (x : Int) (h : Q args = some x) : AC Try.prog 23 args [] false [] fun rv obs => (rv, obs) = encR x := by
  obtain ⟨t, rfl, h2⟩ := ofC_some h
  refine (ac0 t x h2).flat fun rv obs e => ?_
  obtain rfl : rv = (encR x).1 := congrArg Prod.fst e
  obtain rfl : obs = (encR x).2 := congrArg Prod.snd e
  refine ⟨by simp [encR, AV.Flat, K.Flat, C.Flat], ?_⟩
  simp [encR]
end laws_heldIntSS
/-! loop.example/g00073/laws.FnExactTwins -/
namespace laws_FnExactTwins
noncomputable def B {ρ : Type} (C0 : (Vec (Vec Int)) → (Vec (ByteArray × Int × Int × (Vec Int))) → Int → Option Int) (C1 : (Vec (Vec Int)) → (Vec (ByteArray × Int × Int × (Vec Int))) → Option (Vec (Vec Int) × (Vec (ByteArray × Int × Int × (Vec Int))))) (C2 : (Vec (Vec Int)) → (Vec (ByteArray × Int × Int × (Vec Int))) → Option (Vec (Vec Int))) (C3 : (Vec (Vec Int)) → (Vec (ByteArray × Int × Int × (Vec Int))) → Option (Vec (Vec Int))) (C4 : (Vec (Vec Int)) → (Vec (Vec Int)) → Option Bool) (C5 : (Vec (Vec Int)) → (Vec (ByteArray × Int × Int × (Vec Int))) → (Vec (Vec Int)) → (Vec (ByteArray × Int × Int × (Vec Int))) → Option Bool) (C6 : Int → (Vec (Vec Int)) → (Vec (ByteArray × Int × Int × (Vec Int))) → Option (Int × Vec (Vec Int) × (Vec (ByteArray × Int × Int × (Vec Int))))) (C7 : Int → (Vec (Vec Int)) → Option (Int × Vec (Vec Int))) (C8 : (Vec (Vec Int)) → Int → Option Int) (a1 : Vec (Vec Int)) (a2 : Vec (ByteArray × Int × Int × (Vec Int))) (K : Bool → Option ρ) : Option ρ :=
  (C0 a1 a2 (1048576 : Int)).bind fun r1 => sel (decide (r1 < (0 : Int))) (K true) ((C1 a1 a2).bind fun r2 => (C2 r2.1 r2.2).bind fun r3 => (C1 a1 a2).bind fun r4 => (C3 r4.1 r4.2).bind fun r5 => (C4 r5 r3).bind fun r6 => sel ((!r6)) (K false) ((C1 a1 a2).bind fun r7 => (C5 r4.1 r4.2 r7.1 r7.2).bind fun r8 => sel ((!r8)) (K false) ((C6 (1 : Int) r4.1 r4.2).bind fun r9 => sel (decide (r9.1 < (0 : Int))) (K false) ((C4 r5 r3).bind fun r10 => sel ((!r10)) (K false) ((C7 (1 : Int) r5).bind fun r11 => (C8 r11.2 (1 : Int)).bind fun r12 => sel (decide (r12 < (0 : Int))) (K false) (sel ((!decide (r12 = r11.1))) (K false) ((C1 a1 a2).bind fun r13 => (C3 r13.1 r13.2).bind fun r14 => (C4 r14 r3).bind fun r15 => sel ((!r15)) (K false) ((C8 r11.2 (1 : Int)).bind fun r16 => sel (decide (r16 < (0 : Int))) (K false) (sel ((!decide (r16 = r11.1))) (K false) (K true))))))))))
noncomputable def F (a1 : Vec (Vec Int)) (a2 : Vec (ByteArray × Int × Int × (Vec Int))) : Option Bool := B laws_szWeave.F laws_toWeave.F spec_Twins.F impl_Twins.F laws_eqIntSS.F laws_eqWeave.F laws_markWeave_saeda.F laws_markIntSS_s45a1.F laws_heldIntSS.F a1 a2 (fun x1 => some (x1))
def encA (t : Vec (Vec Int) × (Vec (ByteArray × Int × Int × (Vec Int)))) : List AV := [.a [cl t.1, cl t.2]]
def encR (x : Bool) : AV × List Ob := (vb x, [])
theorem encAI : ∀ a b, encA a = encA b → a = b := by
  intro a b h
  obtain ⟨a0, a1⟩ := a
  obtain ⟨b0, b1⟩ := b
  simp [encA, encRw_iff] at h
  simp_all
theorem encRI : ∀ a b, encR a = encR b → a = b := by
  intro a b h
  simp [encR, encRw_iff] at h
  simp_all
noncomputable def Q (args : List AV) : Option Bool := ofC encA (fun t => F t.1 t.2) args
theorem wrap : (fun (y1 : Vec (Vec Int)) (y2 : Vec (ByteArray × Int × Int × (Vec Int))) => Q [.a [cl y1, cl y2]]) = F := by
  funext y1 y2
  exact ofC_enc encAI _ (y1, y2)
noncomputable def G (Q0 : List AV → Option Int) (Q1 : List AV → Option (Vec (Vec Int) × (Vec (ByteArray × Int × Int × (Vec Int))))) (Q2 : List AV → Option (Vec (Vec Int))) (Q3 : List AV → Option (Vec (Vec Int))) (Q4 : List AV → Option Bool) (Q5 : List AV → Option Bool) (Q6 : List AV → List Ob → Option (Int × Vec (Vec Int) × (Vec (ByteArray × Int × Int × (Vec Int))))) (Q7 : List AV → List Ob → Option (Int × Vec (Vec Int))) (Q8 : List AV → Option Int) : Orc := ⟨fun f => sel (Nat.beq f 11) 0 (sel (Nat.beq f 13) 0 (sel (Nat.beq f 18) 0 (sel (Nat.beq f 19) 0 (sel (Nat.beq f 20) 0 (sel (Nat.beq f 15) 0 (sel (Nat.beq f 23) 0 (9))))))), fun ρ f args K => sel (Nat.beq f 11) (qEntry laws_szWeave.encR Q0 args K) (sel (Nat.beq f 13) (qEntry laws_toWeave.encR Q1 args K) (sel (Nat.beq f 18) (qEntry spec_Twins.encR Q2 args K) (sel (Nat.beq f 19) (qEntry impl_Twins.encR Q3 args K) (sel (Nat.beq f 20) (qEntry laws_eqIntSS.encR Q4 args K) (sel (Nat.beq f 15) (qEntry laws_eqWeave.encR Q5 args K) (sel (Nat.beq f 23) (qEntry laws_heldIntSS.encR Q8 args K) (Option.none))))))), fun ρ f st args dst K => sel (Nat.beq f 21) (callE Try.prog 21 [true, false] false [true, true] laws_markWeave_saeda.encR Q6 st args dst K) (sel (Nat.beq f 22) (callE Try.prog 22 [true, false] false [true] laws_markIntSS_s45a1.encR Q7 st args dst K) (Option.none)), false⟩
noncomputable def L : Lor := fun ρ j st K => Option.none
theorem main (Q0 Q1 Q2 Q3 Q4 Q5 Q6 Q7 Q8) {ρ : Type} (K : AV → List Ob → Option ρ) (a1 a2) : exC Try.prog (G Q0 Q1 Q2 Q3 Q4 Q5 Q6 Q7 Q8) (L) [] 0 (bodyOf Try.f5) (entry 69 [.a [cl a1, cl a2]] [] []) (finO Try.prog Try.f5.results.toList 0 [] [] K) =
    B (fun y1 y2 y3 => Q0 [.a [cl y1, cl y2], vi y3]) (fun y1 y2 => Q1 [.a [cl y1, cl y2]]) (fun y1 y2 => Q2 [.a [cl y1, cl y2]]) (fun y1 y2 => Q3 [.a [cl y1, cl y2]]) (fun y1 y2 => Q4 [vl y1, vl y2]) (fun y1 y2 y3 y4 => Q5 [.a [cl y1, cl y2], .a [cl y3, cl y4]]) (fun y1 y2 y3 => Q6 [.a [.h 0, .h 1], vi y1] [ro y2, ro y3]) (fun y1 y2 => Q7 [.c (.h 0), vi y1] [ro y2]) (fun y1 y2 => Q8 [vl y1, vi y2]) a1 a2 (fun x1 => K (vb x1) []) := by kernel_rfl
theorem Gok : (G laws_szWeave.Q laws_toWeave.Q spec_Twins.Q impl_Twins.Q laws_eqIntSS.Q laws_eqWeave.Q laws_markWeave_saeda.Q laws_markIntSS_s45a1.Q laws_heldIntSS.Q).ok Try.prog := ⟨(by
    intro ρ f args K r h
    rcases sel_cases h with ⟨hb, h⟩ | ⟨-, h⟩
    · obtain rfl := beq_nat hb
      exact qEntry_ok laws_szWeave.ac h
    rcases sel_cases h with ⟨hb, h⟩ | ⟨-, h⟩
    · obtain rfl := beq_nat hb
      exact qEntry_ok laws_toWeave.ac h
    rcases sel_cases h with ⟨hb, h⟩ | ⟨-, h⟩
    · obtain rfl := beq_nat hb
      exact qEntry_ok spec_Twins.ac h
    rcases sel_cases h with ⟨hb, h⟩ | ⟨-, h⟩
    · obtain rfl := beq_nat hb
      exact qEntry_ok impl_Twins.ac h
    rcases sel_cases h with ⟨hb, h⟩ | ⟨-, h⟩
    · obtain rfl := beq_nat hb
      exact qEntry_ok laws_eqIntSS.ac h
    rcases sel_cases h with ⟨hb, h⟩ | ⟨-, h⟩
    · obtain rfl := beq_nat hb
      exact qEntry_ok laws_eqWeave.ac h
    rcases sel_cases h with ⟨hb, h⟩ | ⟨-, h⟩
    · obtain rfl := beq_nat hb
      exact qEntry_ok laws_heldIntSS.ac h
    cases h),
  (by
    intro ρ f args K
    simp only [G]
    cases Nat.beq f 11 with
    | true => exact qEntry_nat args K
    | false =>
    simp only [sel]
    cases Nat.beq f 13 with
    | true => exact qEntry_nat args K
    | false =>
    simp only [sel]
    cases Nat.beq f 18 with
    | true => exact qEntry_nat args K
    | false =>
    simp only [sel]
    cases Nat.beq f 19 with
    | true => exact qEntry_nat args K
    | false =>
    simp only [sel]
    cases Nat.beq f 20 with
    | true => exact qEntry_nat args K
    | false =>
    simp only [sel]
    cases Nat.beq f 15 with
    | true => exact qEntry_nat args K
    | false =>
    simp only [sel]
    cases Nat.beq f 23 with
    | true => exact qEntry_nat args K
    | false =>
    simp only [sel]
    rfl),
  (by
    intro ρ f st caps args dst K r h
    rcases sel_cases h with ⟨hb, h⟩ | ⟨-, h⟩
    · obtain rfl := beq_nat hb
      exact callE_ok (fun h => by cases h) laws_markWeave_saeda.ac h
    rcases sel_cases h with ⟨hb, h⟩ | ⟨-, h⟩
    · obtain rfl := beq_nat hb
      exact callE_ok (fun h => by cases h) laws_markIntSS_s45a1.ac h
    cases h)⟩
theorem hm : Try.prog.follows .mixedOrders = true := by kernel_rfl
theorem e : atomsL [] 0 (bodyOf Try.f5) = [] := by kernel_rfl
theorem acc (t : Vec (Vec Int) × (Vec (ByteArray × Int × Int × (Vec Int)))) (x : Bool) (h : F t.1 t.2 = some x) : ACc Try.prog 5 (encA t) [] true [] fun rv obs => (rv, obs) = encR x := by
  refine fun_okc (L := (L)) (jn := []) (cmds := []) (ks := []) (hin := []) (fn := Try.f5) (body := (bodyOf Try.f5)) Gok hm Try.func5 (by kernel_rfl) (by kernel_rfl) (by rw [e]; exact Lor.ok_nil _ _) ?_ h
  refine (main laws_szWeave.Q laws_toWeave.Q spec_Twins.Q impl_Twins.Q laws_eqIntSS.Q laws_eqWeave.Q laws_markWeave_saeda.Q laws_markIntSS_s45a1.Q laws_heldIntSS.Q _ t.1 t.2).trans ?_
  rw [laws_szWeave.wrap, laws_toWeave.wrap, spec_Twins.wrap, impl_Twins.wrap, laws_eqIntSS.wrap, laws_eqWeave.wrap, laws_markWeave_saeda.wrap, laws_markIntSS_s45a1.wrap, laws_heldIntSS.wrap]
  refine congrArg (fun K => B laws_szWeave.F laws_toWeave.F spec_Twins.F impl_Twins.F laws_eqIntSS.F laws_eqWeave.F laws_markWeave_saeda.F laws_markIntSS_s45a1.F laws_heldIntSS.F t.1 t.2 K) ?_
  funext x1
  exact ofC_enc encRI some (x1)
theorem ac0 (t : Vec (Vec Int) × (Vec (ByteArray × Int × Int × (Vec Int)))) (x : Bool) (h : F t.1 t.2 = some x) : AC Try.prog 5 (encA t) [] true [] fun rv obs => (rv, obs) = encR x := ACc.ac (body := bodyOf Try.f5) Try.func5 (by kernel_rfl) (by kernel_rfl) (acc t x h)
theorem ac (args : List AV) (x : Bool) (h : Q args = some x) : AC Try.prog 5 args [] false [] fun rv obs => (rv, obs) = encR x := by
  obtain ⟨t, rfl, h2⟩ := ofC_some h
  refine (ac0 t x h2).flat fun rv obs e => ?_
  obtain rfl : rv = (encR x).1 := congrArg Prod.fst e
  obtain rfl : obs = (encR x).2 := congrArg Prod.snd e
  refine ⟨by simp [encR, AV.Flat, K.Flat, C.Flat], ?_⟩
  simp [encR]
end laws_FnExactTwins
end Go.Al
