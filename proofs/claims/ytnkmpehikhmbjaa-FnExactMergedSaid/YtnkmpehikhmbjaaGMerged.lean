import Derived.Test.YtnkmpehikhmbjaaAlE
import Derived.Test.YtnkmpehikhmbjaaSC
import Derived.Test.YtnkmpehikhmbjaaGWl
import Derived.Test.YtnkmpehikhmbjaaGMkW
import Derived.Test.YtnkmpehikhmbjaaGClIn
set_option linter.unusedVariables false
set_option linter.unusedSimpArgs false
set_option linter.constructorNameAsVariable false
set_option linter.unusedSectionVars false
set_option maxRecDepth 100000
namespace Go.Al
open Go.Proofs

/-! loop.example/g00073/spec.MergedBy -/
namespace spec_MergedBy
noncomputable def B0 {ρ : Type} (v1 : Vec Int) (v2 : Vec (Bool × (Vec ByteArray) × (Vec ByteArray) × (Vec ByteArray))) (v3 : Int) (v4 : Int) (v5 : Vec ByteArray) (W : (Vec Int) → (Vec (Bool × (Vec ByteArray) × (Vec ByteArray) × (Vec ByteArray))) → Int → Int → (Vec ByteArray) → Option ρ) (K0 : (Vec ByteArray) → Option ρ) (Kr : Bool → Option ρ) : Option ρ :=
  sel (decide (v4 < (v2.n : Int))) (chk (decide (0 ≤ v4 ∧ v4 < (v2.n : Int))) (chk (decide ((v5.n + ((v2.g v4.toNat).2.1).n) * 17 ≤ maxN)) (sel ((!(v2.g v4.toNat).1)) (W v1 v2 v3 (wr (v4 + (1 : Int))) (Vec.app v5 ((v2.g v4.toNat).2.1))) (chk (decide (0 ≤ v3 ∧ v3 < (v1.n : Int))) (sel (decide ((v1.g v3.toNat) = (0 : Int))) (chk (decide (((Vec.app v5 ((v2.g v4.toNat).2.1)).n + ((v2.g v4.toNat).2.2.1).n) * 17 ≤ maxN)) (W v1 v2 (wr (v3 + (1 : Int))) (wr (v4 + (1 : Int))) (Vec.app (Vec.app v5 ((v2.g v4.toNat).2.1)) ((v2.g v4.toNat).2.2.1)))) (sel (decide ((v1.g v3.toNat) = (1 : Int))) (chk (decide (((Vec.app v5 ((v2.g v4.toNat).2.1)).n + ((v2.g v4.toNat).2.2.2).n) * 17 ≤ maxN)) (W v1 v2 (wr (v3 + (1 : Int))) (wr (v4 + (1 : Int))) (Vec.app (Vec.app v5 ((v2.g v4.toNat).2.1)) ((v2.g v4.toNat).2.2.2)))) (sel (decide ((v1.g v3.toNat) = (2 : Int))) (chk (decide (((Vec.app v5 ((v2.g v4.toNat).2.1)).n + ((v2.g v4.toNat).2.2.1).n) * 17 ≤ maxN)) (chk (decide (((Vec.app (Vec.app v5 ((v2.g v4.toNat).2.1)) ((v2.g v4.toNat).2.2.1)).n + ((v2.g v4.toNat).2.2.2).n) * 17 ≤ maxN)) (W v1 v2 (wr (v3 + (1 : Int))) (wr (v4 + (1 : Int))) (Vec.app (Vec.app (Vec.app v5 ((v2.g v4.toNat).2.1)) ((v2.g v4.toNat).2.2.1)) ((v2.g v4.toNat).2.2.2))))) (sel (decide ((v1.g v3.toNat) = (3 : Int))) (chk (decide (((Vec.app v5 ((v2.g v4.toNat).2.1)).n + ((v2.g v4.toNat).2.2.2).n) * 17 ≤ maxN)) (chk (decide (((Vec.app (Vec.app v5 ((v2.g v4.toNat).2.1)) ((v2.g v4.toNat).2.2.2)).n + ((v2.g v4.toNat).2.2.1).n) * 17 ≤ maxN)) (W v1 v2 (wr (v3 + (1 : Int))) (wr (v4 + (1 : Int))) (Vec.app (Vec.app (Vec.app v5 ((v2.g v4.toNat).2.1)) ((v2.g v4.toNat).2.2.2)) ((v2.g v4.toNat).2.2.1))))) (sel (decide ((v1.g v3.toNat) = (4 : Int))) (W v1 v2 (wr (v3 + (1 : Int))) (wr (v4 + (1 : Int))) (Vec.app v5 ((v2.g v4.toNat).2.1))) (Kr false)))))))))) (K0 v5)
noncomputable def F0 {ρ : Type} : Nat → (Vec Int) → (Vec (Bool × (Vec ByteArray) × (Vec ByteArray) × (Vec ByteArray))) → Int → Int → (Vec ByteArray) → ((Vec ByteArray) → Option ρ) → (Bool → Option ρ) → Option ρ
  | 0, _, _, _, _, _, _, _ => none
  | k + 1, v1, v2, v3, v4, v5, K0, Kr => B0 v1 v2 v3 v4 v5 (fun v1' v2' v3' v4' v5' => F0 k v1' v2' v3' v4' v5' K0 Kr) K0 Kr
noncomputable def B {ρ : Type} (C0 : (Vec (Vec Int)) → (Vec (ByteArray × Int × Int × (Vec Int))) → Int → Int → Option Int) (C1 : (Vec (Vec Int)) → (Vec (ByteArray × Int × Int × (Vec Int))) → Int → Int → Option (Int × (Vec (Bool × (Vec ByteArray) × (Vec ByteArray) × (Vec ByteArray))))) (L0 : (Vec Int) → (Vec (Bool × (Vec ByteArray) × (Vec ByteArray) × (Vec ByteArray))) → Int → Int → (Vec ByteArray) → ((Vec ByteArray) → Option ρ) → (Bool → Option ρ) → Option ρ) (a1 : Vec (Vec Int)) (a2 : Vec (ByteArray × Int × Int × (Vec Int))) (a3 : Int) (a4 : Int) (a5 : Vec Int) (K : Bool → (Vec ByteArray) → Option ρ) : Option ρ :=
  (C0 a1 a2 a3 a4).bind fun r1 => sel (decide (r1 < (0 : Int))) (K false (Vec.nil : Vec ByteArray)) (sel ((!decide (r1 = (a5.n : Int)))) (K false (Vec.nil : Vec ByteArray)) ((C1 a1 a2 a3 a4).bind fun r2 => L0 a5 r2.2 (0 : Int) (0 : Int) (Vec.nil : Vec ByteArray) (fun e01 => K true e01) (fun x01 => K x01 (Vec.nil : Vec ByteArray))))
noncomputable def F (a1 : Vec (Vec Int)) (a2 : Vec (ByteArray × Int × Int × (Vec Int))) (a3 : Int) (a4 : Int) (a5 : Vec Int) : Option (Bool × Vec ByteArray) := B spec_Clashes.F spec_RegionsOf.F (F0 fuelN) a1 a2 a3 a4 a5 (fun x1 x2 => some (x1, x2))
def encA (t : Vec (Vec Int) × (Vec (ByteArray × Int × Int × (Vec Int))) × Int × Int × Vec Int) : List AV := [.a [cl t.1, cl t.2.1], vi t.2.2.1, vi t.2.2.2.1, vl t.2.2.2.2]
def encR (x : Bool × Vec ByteArray) : AV × List Ob := (.tup [.c (.h 0), .c (cb x.1)], [ro x.2])
theorem encAI : ∀ a b, encA a = encA b → a = b := by
  intro a b h
  obtain ⟨a0, a1, a2, a3, a4⟩ := a
  obtain ⟨b0, b1, b2, b3, b4⟩ := b
  simp [encA, encRw_iff] at h
  simp_all
theorem encRI : ∀ a b, encR a = encR b → a = b := by
  intro a b h
  obtain ⟨a0, a1⟩ := a
  obtain ⟨b0, b1⟩ := b
  simp [encR, encRw_iff] at h
  simp_all
noncomputable def Q (args : List AV) : Option (Bool × Vec ByteArray) := ofC encA (fun t => F t.1 t.2.1 t.2.2.1 t.2.2.2.1 t.2.2.2.2) args
theorem wrap : (fun (y1 : Vec (Vec Int)) (y2 : Vec (ByteArray × Int × Int × (Vec Int))) (y3 : Int) (y4 : Int) (y5 : Vec Int) => Q [.a [cl y1, cl y2], vi y3, vi y4, vl y5]) = F := by
  funext y1 y2 y3 y4 y5
  exact ofC_enc encAI _ (y1, y2, y3, y4, y5)
noncomputable def G (Q0 : List AV → Option Int) (Q1 : List AV → Option (Int × (Vec (Bool × (Vec ByteArray) × (Vec ByteArray) × (Vec ByteArray))))) : Orc := ⟨fun f => sel (Nat.beq f 71) 0 (sel (Nat.beq f 20) 0 (9)), fun ρ f args K => sel (Nat.beq f 71) (qEntry spec_Clashes.encR Q0 args K) (sel (Nat.beq f 20) (qEntry spec_RegionsOf.encR Q1 args K) (Option.none)), noE, false⟩
noncomputable def L (W0 : (ρ : Type) → List AV → List Ob → ((Vec ByteArray) → Option ρ) → (Bool → Option ρ) → Option ρ) : Lor := fun ρ j st K => sel (Nat.beq j 0) (cutO Try.prog 95 [3, 11, 12, 14, 15] 0 [] [.ad (.s 11) 51, .fr (.s 12)] st fun avs obs => W0 ρ avs obs (fun z1 => K (.exit 0) (mkS 95 [11] [.c (.h 0)] [ro z1] [])) (fun z1 => K .ret (mkS 95 [8, 9] [.c (.z), vb z1] [] []))) (Option.none)
noncomputable def c0 : Code := loopC (atomN [] 0 (bodyOf Try.f35) 0)
def ct0 : Cut := ⟨[3, 11, 12, 14, 15], [.ad (.s 11) 51, .fr (.s 12)]⟩
def lv0 : Exit → Cut
  | .exit 0 => ⟨[11], []⟩
  | .ret => ⟨[8, 9], []⟩
  | _ => ⟨[], []⟩
theorem step0 (Q0 Q1) (W0) {ρ : Type} (K : Exit → St → Option ρ) (W : List AV → List Ob → Option ρ) (v1 v2 v3 v4 v5) : exC Try.prog (G Q0 Q1) (L W0) [] 1 c0 (mkS 95 [3, 11, 12, 14, 15] [vl v1, .c (.h 0), vl v2, vi v3, vi v4] [ro v5] []) (bodyK Try.prog 95 0 [] ct0 W lv0 K) =
    B0 v1 v2 v3 v4 v5 (fun u1 u2 u3 u4 u5 => W [vl u1, .c (.h 0), vl u2, vi u3, vi u4] [ro u5]) (fun z1 => K (.exit 0) (mkS 95 [11] [.c (.h 0)] [ro z1] [])) (fun z1 => K .ret (mkS 95 [8, 9] [.c (.z), vb z1] [] [])) := by kernel_rfl
def enc0 (t : Vec Int × (Vec (Bool × (Vec ByteArray) × (Vec ByteArray) × (Vec ByteArray))) × Int × Int × Vec ByteArray) : List AV × List Ob := ([vl t.1, .c (.h 0), vl t.2.1, vi t.2.2.1, vi t.2.2.2.1], [ro t.2.2.2.2])
theorem enc0I : ∀ a b, enc0 a = enc0 b → a = b := by
  intro a b h
  obtain ⟨a0, a1, a2, a3, a4⟩ := a
  obtain ⟨b0, b1, b2, b3, b4⟩ := b
  simp [enc0, encRw_iff] at h
  simp_all
noncomputable def V0 : (ρ : Type) → List AV → List Ob → ((Vec ByteArray) → Option ρ) → (Bool → Option ρ) → Option ρ := fun ρ avs obs k0 kr => ofC enc0 (fun t => F0 fuelN t.1 t.2.1 t.2.2.1 t.2.2.2.1 t.2.2.2.2 k0 kr) (avs, obs)
theorem V0_enc (ρ : Type) : (fun w1 w2 w3 w4 w5 k0 kr => V0 ρ [vl w1, .c (.h 0), vl w2, vi w3, vi w4] [ro w5] k0 kr) = F0 fuelN := by
  funext w1 w2 w3 w4 w5 k0 kr
  exact ofC_enc enc0I _ (w1, w2, w3, w4, w5)
theorem main (Q0 Q1) (W0) {ρ : Type} (K : AV → List Ob → Option ρ) (a1 a2 a3 a4 a5) : exC Try.prog (G Q0 Q1) (L W0) [] 0 (bodyOf Try.f35) (entry 95 [.a [cl a1, cl a2], vi a3, vi a4, vl a5] [] []) (finO Try.prog Try.f35.results.toList 0 [] [.ad (.s 8) 51] K) =
    B (fun y1 y2 y3 y4 => Q0 [.a [cl y1, cl y2], vi y3, vi y4]) (fun y1 y2 y3 y4 => Q1 [.a [cl y1, cl y2], vi y3, vi y4]) (fun w1 w2 w3 w4 w5 k0 kr => W0 ρ [vl w1, .c (.h 0), vl w2, vi w3, vi w4] [ro w5] k0 kr) a1 a2 a3 a4 a5 (fun x1 x2 => K (.tup [.c (.h 0), .c (cb x1)]) [ro x2]) := by kernel_rfl
theorem Gok : (G spec_Clashes.Q spec_RegionsOf.Q).ok Try.prog := ⟨(by
    intro ρ f args K r h
    rcases sel_cases h with ⟨hb, h⟩ | ⟨-, h⟩
    · obtain rfl := beq_nat hb
      exact qEntry_ok spec_Clashes.ac h
    rcases sel_cases h with ⟨hb, h⟩ | ⟨-, h⟩
    · obtain rfl := beq_nat hb
      exact qEntry_ok spec_RegionsOf.ac h
    cases h),
  (by
    intro ρ f args K
    simp only [G]
    cases Nat.beq f 71 with
    | true => exact qEntry_nat args K
    | false =>
    simp only [sel]
    cases Nat.beq f 20 with
    | true => exact qEntry_nat args K
    | false =>
    simp only [sel]
    rfl),
  (fun ρ f st caps args dst K r h => (by cases h))⟩
theorem hm : Try.prog.follows .mixedOrders = true := by kernel_rfl
theorem e0 : atomsL [] 1 c0 = [] := by kernel_rfl
theorem ok0 (ρ : Type) (st : St) (K : Exit → St → Option ρ) (r : ρ) (h : (L V0) ρ 0 st K = some r) : AW Try.prog (.loop c0) st fun e st' => K e st' = some r := by
  refine loop_ok (ct := ct0) (lv := lv0) (n := 95) (m := 0) (ks := []) (j := 0) (jn := []) (L := (L V0)) Gok hm (by rw [e0]; exact Lor.ok_nil _ _) enc0I (fun k t => F0 k t.1 t.2.1 t.2.2.1 t.2.2.2.1 t.2.2.2.2 (fun z1 => K (.exit 0) (mkS 95 [11] [.c (.h 0)] [ro z1] [])) (fun z1 => K .ret (mkS 95 [8, 9] [.c (.z), vb z1] [] []))) (fun t => rfl) (fun k t => ?_) (fun _ => fuelN) h
  refine (step0 spec_Clashes.Q spec_RegionsOf.Q V0 K _ t.1 t.2.1 t.2.2.1 t.2.2.2.1 t.2.2.2.2).trans ?_
  refine congrArg (fun W => B0 t.1 t.2.1 t.2.2.1 t.2.2.2.1 t.2.2.2.2 W (fun z1 => K (.exit 0) (mkS 95 [11] [.c (.h 0)] [ro z1] [])) (fun z1 => K .ret (mkS 95 [8, 9] [.c (.z), vb z1] [] []))) ?_
  funext u1 u2 u3 u4 u5
  exact ofC_enc enc0I _ (u1, u2, u3, u4, u5)
theorem e : atomsL [] 0 (bodyOf Try.f35) = [(0, 0, .loop c0)] := by kernel_rfl
theorem acc (t : Vec (Vec Int) × (Vec (ByteArray × Int × Int × (Vec Int))) × Int × Int × Vec Int) (x : Bool × Vec ByteArray) (h : F t.1 t.2.1 t.2.2.1 t.2.2.2.1 t.2.2.2.2 = some x) : ACc Try.prog 35 (encA t) [] true [] fun rv obs => (rv, obs) = encR x := by
  refine fun_okc (L := (L V0)) (jn := []) (cmds := [.ad (.s 8) 51]) (ks := []) (hin := []) (fn := Try.f35) (body := (bodyOf Try.f35)) Gok hm Try.func35 (by kernel_rfl) (by kernel_rfl) (by rw [e]; exact Lor.ok_cons ok0 (Lor.ok_nil _ _)) ?_ h
  refine (main spec_Clashes.Q spec_RegionsOf.Q V0 _ t.1 t.2.1 t.2.2.1 t.2.2.2.1 t.2.2.2.2).trans ?_
  rw [spec_Clashes.wrap, spec_RegionsOf.wrap, V0_enc]
  refine congrArg (fun K => B spec_Clashes.F spec_RegionsOf.F (F0 fuelN) t.1 t.2.1 t.2.2.1 t.2.2.2.1 t.2.2.2.2 K) ?_
  funext x1 x2
  exact ofC_enc encRI some (x1, x2)
theorem ac0 (t : Vec (Vec Int) × (Vec (ByteArray × Int × Int × (Vec Int))) × Int × Int × Vec Int) (x : Bool × Vec ByteArray) (h : F t.1 t.2.1 t.2.2.1 t.2.2.2.1 t.2.2.2.2 = some x) : AC Try.prog 35 (encA t) [] true [] fun rv obs => (rv, obs) = encR x := ACc.ac (body := bodyOf Try.f35) Try.func35 (by kernel_rfl) (by kernel_rfl) (acc t x h)
theorem ac (args : List AV) (x : Bool × Vec ByteArray) (h : Q args = some x) : AC Try.prog 35 args [] false [] fun rv obs => (rv, obs) = encR x := by
  obtain ⟨t, rfl, h2⟩ := ofC_some h
  refine (ac0 t x h2).flat fun rv obs e => ?_
  obtain rfl : rv = (encR x).1 := congrArg Prod.fst e
  obtain rfl : obs = (encR x).2 := congrArg Prod.snd e
  refine ⟨by simp [encR, AV.Flat, K.Flat, C.Flat], ?_⟩
  intro o ho
  simp only [encR, List.mem_cons, List.not_mem_nil, or_false] at ho
  subst ho
  exact flat_rw rfl _
end spec_MergedBy
/-! loop.example/g00073/spec.Merged -/
namespace spec_Merged
noncomputable def B {ρ : Type} (C0 : (Vec (Vec Int)) → (Vec (ByteArray × Int × Int × (Vec Int))) → Int → Int → (Vec Int) → Option (Bool × Vec ByteArray)) (a1 : Vec (Vec Int)) (a2 : Vec (ByteArray × Int × Int × (Vec Int))) (a3 : Int) (a4 : Int) (K : Bool → (Vec ByteArray) → Option ρ) : Option ρ :=
  (C0 a1 a2 a3 a4 (Vec.nil : Vec Int)).bind fun r1 => K r1.1 r1.2
noncomputable def F (a1 : Vec (Vec Int)) (a2 : Vec (ByteArray × Int × Int × (Vec Int))) (a3 : Int) (a4 : Int) : Option (Bool × Vec ByteArray) := B spec_MergedBy.F a1 a2 a3 a4 (fun x1 x2 => some (x1, x2))
def encA (t : Vec (Vec Int) × (Vec (ByteArray × Int × Int × (Vec Int))) × Int × Int) : List AV := [.a [cl t.1, cl t.2.1], vi t.2.2.1, vi t.2.2.2]
def encR (x : Bool × Vec ByteArray) : AV × List Ob := (.tup [.c (.h 0), .c (cb x.1)], [ro x.2])
theorem encAI : ∀ a b, encA a = encA b → a = b := by
  intro a b h
  obtain ⟨a0, a1, a2, a3⟩ := a
  obtain ⟨b0, b1, b2, b3⟩ := b
  simp [encA, encRw_iff] at h
  simp_all
theorem encRI : ∀ a b, encR a = encR b → a = b := by
  intro a b h
  obtain ⟨a0, a1⟩ := a
  obtain ⟨b0, b1⟩ := b
  simp [encR, encRw_iff] at h
  simp_all
noncomputable def Q (args : List AV) : Option (Bool × Vec ByteArray) := ofC encA (fun t => F t.1 t.2.1 t.2.2.1 t.2.2.2) args
theorem wrap : (fun (y1 : Vec (Vec Int)) (y2 : Vec (ByteArray × Int × Int × (Vec Int))) (y3 : Int) (y4 : Int) => Q [.a [cl y1, cl y2], vi y3, vi y4]) = F := by
  funext y1 y2 y3 y4
  exact ofC_enc encAI _ (y1, y2, y3, y4)
noncomputable def G (Q0 : List AV → Option (Bool × Vec ByteArray)) : Orc := ⟨fun f => sel (Nat.beq f 35) 0 (9), fun ρ f args K => sel (Nat.beq f 35) (qEntry spec_MergedBy.encR Q0 args K) (Option.none), noE, false⟩
noncomputable def L : Lor := fun ρ j st K => Option.none
theorem main (Q0) {ρ : Type} (K : AV → List Ob → Option ρ) (a1 a2 a3 a4) : exC Try.prog (G Q0) (L) [] 0 (bodyOf Try.f33) (entry 15 [.a [cl a1, cl a2], vi a3, vi a4] [] []) (finO Try.prog Try.f33.results.toList 0 [] [] K) =
    B (fun y1 y2 y3 y4 y5 => Q0 [.a [cl y1, cl y2], vi y3, vi y4, vl y5]) a1 a2 a3 a4 (fun x1 x2 => K (.tup [.c (.h 0), .c (cb x1)]) [ro x2]) := by kernel_rfl
theorem Gok : (G spec_MergedBy.Q).ok Try.prog := ⟨(by
    intro ρ f args K r h
    rcases sel_cases h with ⟨hb, h⟩ | ⟨-, h⟩
    · obtain rfl := beq_nat hb
      exact qEntry_ok spec_MergedBy.ac h
    cases h),
  (by
    intro ρ f args K
    simp only [G]
    cases Nat.beq f 35 with
    | true => exact qEntry_nat args K
    | false =>
    simp only [sel]
    rfl),
  (fun ρ f st caps args dst K r h => (by cases h))⟩
theorem hm : Try.prog.follows .mixedOrders = true := by kernel_rfl
theorem e : atomsL [] 0 (bodyOf Try.f33) = [] := by kernel_rfl
theorem acc (t : Vec (Vec Int) × (Vec (ByteArray × Int × Int × (Vec Int))) × Int × Int) (x : Bool × Vec ByteArray) (h : F t.1 t.2.1 t.2.2.1 t.2.2.2 = some x) : ACc Try.prog 33 (encA t) [] true [] fun rv obs => (rv, obs) = encR x := by
  refine fun_okc (L := (L)) (jn := []) (cmds := []) (ks := []) (hin := []) (fn := Try.f33) (body := (bodyOf Try.f33)) Gok hm Try.func33 (by kernel_rfl) (by kernel_rfl) (by rw [e]; exact Lor.ok_nil _ _) ?_ h
  refine (main spec_MergedBy.Q _ t.1 t.2.1 t.2.2.1 t.2.2.2).trans ?_
  rw [spec_MergedBy.wrap]
  refine congrArg (fun K => B spec_MergedBy.F t.1 t.2.1 t.2.2.1 t.2.2.2 K) ?_
  funext x1 x2
  exact ofC_enc encRI some (x1, x2)
theorem ac0 (t : Vec (Vec Int) × (Vec (ByteArray × Int × Int × (Vec Int))) × Int × Int) (x : Bool × Vec ByteArray) (h : F t.1 t.2.1 t.2.2.1 t.2.2.2 = some x) : AC Try.prog 33 (encA t) [] true [] fun rv obs => (rv, obs) = encR x := ACc.ac (body := bodyOf Try.f33) Try.func33 (by kernel_rfl) (by kernel_rfl) (acc t x h)
theorem ac (args : List AV) (x : Bool × Vec ByteArray) (h : Q args = some x) : AC Try.prog 33 args [] false [] fun rv obs => (rv, obs) = encR x := by
  obtain ⟨t, rfl, h2⟩ := ofC_some h
  refine (ac0 t x h2).flat fun rv obs e => ?_
  obtain rfl : rv = (encR x).1 := congrArg Prod.fst e
  obtain rfl : obs = (encR x).2 := congrArg Prod.snd e
  refine ⟨by simp [encR, AV.Flat, K.Flat, C.Flat], ?_⟩
  intro o ho
  simp only [encR, List.mem_cons, List.not_mem_nil, or_false] at ho
  subst ho
  exact flat_rw rfl _
end spec_Merged
/-! loop.example/g00073/impl.noLines -/
namespace impl_noLines
noncomputable def B {ρ : Type} (a1 : Int) (a2 : Bool) (a3 : Vec ByteArray) (a4 : Vec ByteArray) (a5 : Vec ByteArray) (K : (Vec ByteArray) → Option ρ) : Option ρ :=
  K (Vec.nil : Vec ByteArray)
noncomputable def F (a1 : Int) (a2 : Bool) (a3 : Vec ByteArray) (a4 : Vec ByteArray) (a5 : Vec ByteArray) : Option (Vec ByteArray) := B a1 a2 a3 a4 a5 (fun x1 => some (x1))
def encA (t : Int × Bool × Vec ByteArray × Vec ByteArray × Vec ByteArray) : List AV := [vi t.1, .a [cb t.2.1, cl t.2.2.1, cl t.2.2.2.1, cl t.2.2.2.2]]
def encR (x : Vec ByteArray) : AV × List Ob := (.c (.h 0), [ro x])
theorem encAI : ∀ a b, encA a = encA b → a = b := by
  intro a b h
  obtain ⟨a0, a1, a2, a3, a4⟩ := a
  obtain ⟨b0, b1, b2, b3, b4⟩ := b
  simp [encA, encRw_iff] at h
  simp_all
theorem encRI : ∀ a b, encR a = encR b → a = b := by
  intro a b h
  simp [encR, encRw_iff] at h
  simp_all
noncomputable def Q (args : List AV) : Option (Vec ByteArray) := ofC encA (fun t => F t.1 t.2.1 t.2.2.1 t.2.2.2.1 t.2.2.2.2) args
theorem wrap : (fun (y1 : Int) (y2 : Bool) (y3 : Vec ByteArray) (y4 : Vec ByteArray) (y5 : Vec ByteArray) => Q [vi y1, .a [cb y2, cl y3, cl y4, cl y5]]) = F := by
  funext y1 y2 y3 y4 y5
  exact ofC_enc encAI _ (y1, y2, y3, y4, y5)
noncomputable def G : Orc := ⟨fun f => 9, fun ρ f args K => Option.none, noE, false⟩
noncomputable def L : Lor := fun ρ j st K => Option.none
theorem main {ρ : Type} (K : AV → List Ob → Option ρ) (a1 a2 a3 a4 a5) : exC Try.prog (G) (L) [] 0 (bodyOf Try.f70) (entry 5 [vi a1, .a [cb a2, cl a3, cl a4, cl a5]] [] []) (finO Try.prog Try.f70.results.toList 0 [] [.ad (.s 4) 51] K) =
    B a1 a2 a3 a4 a5 (fun x1 => K (.c (.h 0)) [ro x1]) := by kernel_rfl
theorem Gok : (G).ok Try.prog := ⟨(fun ρ f args K r h => (by cases h)),
  (fun ρ f args K => rfl),
  (fun ρ f st caps args dst K r h => (by cases h))⟩
theorem hm : Try.prog.follows .mixedOrders = true := by kernel_rfl
theorem e : atomsL [] 0 (bodyOf Try.f70) = [] := by kernel_rfl
theorem acc (t : Int × Bool × Vec ByteArray × Vec ByteArray × Vec ByteArray) (x : Vec ByteArray) (h : F t.1 t.2.1 t.2.2.1 t.2.2.2.1 t.2.2.2.2 = some x) : ACc Try.prog 70 (encA t) [] true [] fun rv obs => (rv, obs) = encR x := by
  refine fun_okc (L := (L)) (jn := []) (cmds := [.ad (.s 4) 51]) (ks := []) (hin := []) (fn := Try.f70) (body := (bodyOf Try.f70)) Gok hm Try.func70 (by kernel_rfl) (by kernel_rfl) (by rw [e]; exact Lor.ok_nil _ _) ?_ h
  refine (main _ t.1 t.2.1 t.2.2.1 t.2.2.2.1 t.2.2.2.2).trans ?_
  refine congrArg (fun K => B t.1 t.2.1 t.2.2.1 t.2.2.2.1 t.2.2.2.2 K) ?_
  funext x1
  exact ofC_enc encRI some (x1)
theorem ac0 (t : Int × Bool × Vec ByteArray × Vec ByteArray × Vec ByteArray) (x : Vec ByteArray) (h : F t.1 t.2.1 t.2.2.1 t.2.2.2.1 t.2.2.2.2 = some x) : AC Try.prog 70 (encA t) [] true [] fun rv obs => (rv, obs) = encR x := ACc.ac (body := bodyOf Try.f70) Try.func70 (by kernel_rfl) (by kernel_rfl) (acc t x h)
theorem ac (args : List AV) (x : Vec ByteArray) (h : Q args = some x) : AC Try.prog 70 args [] false [] fun rv obs => (rv, obs) = encR x := by
  obtain ⟨t, rfl, h2⟩ := ofC_some h
  refine (ac0 t x h2).flat fun rv obs e => ?_
  obtain rfl : rv = (encR x).1 := congrArg Prod.fst e
  obtain rfl : obs = (encR x).2 := congrArg Prod.snd e
  refine ⟨by simp [encR, AV.Flat, K.Flat, C.Flat], ?_⟩
  intro o ho
  simp only [encR, List.mem_cons, List.not_mem_nil, or_false] at ho
  subst ho
  exact flat_rw rfl _
end impl_noLines
/-! loop.example/g00073/impl.linesOf -/
namespace impl_linesOf_s3d25
noncomputable def B0 {ρ : Type} (C0 : Int → Bool → (Vec ByteArray) → (Vec ByteArray) → (Vec ByteArray) → Option (Vec ByteArray)) (v1 : Int) (v2 : Vec (Bool × (Vec ByteArray) × (Vec ByteArray) × (Vec ByteArray))) (v3 : Int) (v4 : Int) (v5 : Vec ByteArray) (W : Int → (Vec (Bool × (Vec ByteArray) × (Vec ByteArray) × (Vec ByteArray))) → Int → Int → (Vec ByteArray) → Option ρ) (K0 : (Vec ByteArray) → Option ρ) : Option ρ :=
  sel (decide (v4 < v3)) (chk (decide (0 ≤ v4 ∧ v4 < (v2.n : Int))) (sel ((!(v2.g v4.toNat).1)) (chk (decide ((v5.n + ((v2.g v4.toNat).2.1).n) * 17 ≤ maxN)) (W v1 v2 v3 (wr (v4 + (1 : Int))) (Vec.app v5 ((v2.g v4.toNat).2.1)))) ((C0 v1 ((v2.g v4.toNat).1) ((v2.g v4.toNat).2.1) ((v2.g v4.toNat).2.2.1) ((v2.g v4.toNat).2.2.2)).bind fun r1 => chk (decide ((v5.n + r1.n) * 17 ≤ maxN)) (W (wr (v1 + (1 : Int))) v2 v3 (wr (v4 + (1 : Int))) (Vec.app v5 r1))))) (K0 v5)
noncomputable def F0 {ρ : Type} : Nat → Int → (Vec (Bool × (Vec ByteArray) × (Vec ByteArray) × (Vec ByteArray))) → Int → Int → (Vec ByteArray) → ((Vec ByteArray) → Option ρ) → Option ρ
  | 0, _, _, _, _, _, _ => none
  | k + 1, v1, v2, v3, v4, v5, K0 => B0 impl_noLines.F v1 v2 v3 v4 v5 (fun v1' v2' v3' v4' v5' => F0 k v1' v2' v3' v4' v5' K0) K0
noncomputable def B {ρ : Type} (L0 : Int → (Vec (Bool × (Vec ByteArray) × (Vec ByteArray) × (Vec ByteArray))) → Int → Int → (Vec ByteArray) → ((Vec ByteArray) → Option ρ) → Option ρ) (a1 : Vec (Bool × (Vec ByteArray) × (Vec ByteArray) × (Vec ByteArray))) (K : (Vec ByteArray) → Option ρ) : Option ρ :=
  L0 (0 : Int) a1 (a1.n : Int) (0 : Int) (Vec.nil : Vec ByteArray) (fun e01 => K e01)
noncomputable def F (a1 : Vec (Bool × (Vec ByteArray) × (Vec ByteArray) × (Vec ByteArray))) : Option (Vec ByteArray) := B (F0 fuelN) a1 (fun x1 => some (x1))
def encA (t : Vec (Bool × (Vec ByteArray) × (Vec ByteArray) × (Vec ByteArray))) : List AV := [vl t, .fn 70 []]
def encR (x : Vec ByteArray) : AV × List Ob := (.c (.h 0), [ro x])
theorem encAI : ∀ a b, encA a = encA b → a = b := by
  intro a b h
  simp [encA, encRw_iff] at h
  simp_all
theorem encRI : ∀ a b, encR a = encR b → a = b := by
  intro a b h
  simp [encR, encRw_iff] at h
  simp_all
noncomputable def Q (args : List AV) : Option (Vec ByteArray) := ofC encA (fun t => F t) args
theorem wrap : (fun (y1 : Vec (Bool × (Vec ByteArray) × (Vec ByteArray) × (Vec ByteArray))) => Q [vl y1, .fn 70 []]) = F := by
  funext y1
  exact ofC_enc encAI _ (y1)
noncomputable def G (Q0 : List AV → Option (Vec ByteArray)) : Orc := ⟨fun f => sel (Nat.beq f 70) 0 (9), fun ρ f args K => sel (Nat.beq f 70) (qEntry impl_noLines.encR Q0 args K) (Option.none), noE, false⟩
noncomputable def L (W0 : (ρ : Type) → List AV → List Ob → ((Vec ByteArray) → Option ρ) → Option ρ) : Lor := fun ρ j st K => sel (Nat.beq j 0) (cutO Try.prog 32 [1, 5, 6, 9, 10, 11] 0 [] [.ad (.s 5) 51] st fun avs obs => W0 ρ avs obs (fun z1 => K (.exit 0) (mkS 32 [5] [.c (.h 0)] [ro z1] []))) (Option.none)
noncomputable def c0 : Code := loopC (atomN [] 0 (bodyOf Try.f66) 0)
def ct0 : Cut := ⟨[1, 5, 6, 9, 10, 11], [.ad (.s 5) 51]⟩
def lv0 : Exit → Cut
  | .exit 0 => ⟨[5], []⟩
  | _ => ⟨[], []⟩
theorem step0 (Q0) (W0) {ρ : Type} (K : Exit → St → Option ρ) (W : List AV → List Ob → Option ρ) (v1 v2 v3 v4 v5) : exC Try.prog (G Q0) (L W0) [] 1 c0 (mkS 32 [1, 5, 6, 9, 10, 11] [.fn 70 [], .c (.h 0), vi v1, vl v2, vi v3, vi v4] [ro v5] []) (bodyK Try.prog 32 0 [] ct0 W lv0 K) =
    B0 (fun y1 y2 y3 y4 y5 => Q0 [vi y1, .a [cb y2, cl y3, cl y4, cl y5]]) v1 v2 v3 v4 v5 (fun u1 u2 u3 u4 u5 => W [.fn 70 [], .c (.h 0), vi u1, vl u2, vi u3, vi u4] [ro u5]) (fun z1 => K (.exit 0) (mkS 32 [5] [.c (.h 0)] [ro z1] [])) := by kernel_rfl
def enc0 (t : Int × (Vec (Bool × (Vec ByteArray) × (Vec ByteArray) × (Vec ByteArray))) × Int × Int × Vec ByteArray) : List AV × List Ob := ([.fn 70 [], .c (.h 0), vi t.1, vl t.2.1, vi t.2.2.1, vi t.2.2.2.1], [ro t.2.2.2.2])
theorem enc0I : ∀ a b, enc0 a = enc0 b → a = b := by
  intro a b h
  obtain ⟨a0, a1, a2, a3, a4⟩ := a
  obtain ⟨b0, b1, b2, b3, b4⟩ := b
  simp [enc0, encRw_iff] at h
  simp_all
noncomputable def V0 : (ρ : Type) → List AV → List Ob → ((Vec ByteArray) → Option ρ) → Option ρ := fun ρ avs obs k0 => ofC enc0 (fun t => F0 fuelN t.1 t.2.1 t.2.2.1 t.2.2.2.1 t.2.2.2.2 k0) (avs, obs)
theorem V0_enc (ρ : Type) : (fun w1 w2 w3 w4 w5 k0 => V0 ρ [.fn 70 [], .c (.h 0), vi w1, vl w2, vi w3, vi w4] [ro w5] k0) = F0 fuelN := by
  funext w1 w2 w3 w4 w5 k0
  exact ofC_enc enc0I _ (w1, w2, w3, w4, w5)
theorem main (Q0) (W0) {ρ : Type} (K : AV → List Ob → Option ρ) (a1) : exC Try.prog (G Q0) (L W0) [] 0 (bodyOf Try.f66) (entry 32 [vl a1, .fn 70 []] [] []) (finO Try.prog Try.f66.results.toList 0 [] [] K) =
    B (fun w1 w2 w3 w4 w5 k0 => W0 ρ [.fn 70 [], .c (.h 0), vi w1, vl w2, vi w3, vi w4] [ro w5] k0) a1 (fun x1 => K (.c (.h 0)) [ro x1]) := by kernel_rfl
theorem Gok : (G impl_noLines.Q).ok Try.prog := ⟨(by
    intro ρ f args K r h
    rcases sel_cases h with ⟨hb, h⟩ | ⟨-, h⟩
    · obtain rfl := beq_nat hb
      exact qEntry_ok impl_noLines.ac h
    cases h),
  (by
    intro ρ f args K
    simp only [G]
    cases Nat.beq f 70 with
    | true => exact qEntry_nat args K
    | false =>
    simp only [sel]
    rfl),
  (fun ρ f st caps args dst K r h => (by cases h))⟩
theorem hm : Try.prog.follows .mixedOrders = true := by kernel_rfl
theorem e0 : atomsL [] 1 c0 = [] := by kernel_rfl
theorem ok0 (ρ : Type) (st : St) (K : Exit → St → Option ρ) (r : ρ) (h : (L V0) ρ 0 st K = some r) : AW Try.prog (.loop c0) st fun e st' => K e st' = some r := by
  refine loop_ok (ct := ct0) (lv := lv0) (n := 32) (m := 0) (ks := []) (j := 0) (jn := []) (L := (L V0)) Gok hm (by rw [e0]; exact Lor.ok_nil _ _) enc0I (fun k t => F0 k t.1 t.2.1 t.2.2.1 t.2.2.2.1 t.2.2.2.2 (fun z1 => K (.exit 0) (mkS 32 [5] [.c (.h 0)] [ro z1] []))) (fun t => rfl) (fun k t => ?_) (fun _ => fuelN) h
  refine (step0 impl_noLines.Q V0 K _ t.1 t.2.1 t.2.2.1 t.2.2.2.1 t.2.2.2.2).trans ?_
  rw [impl_noLines.wrap]
  refine congrArg (fun W => B0 impl_noLines.F t.1 t.2.1 t.2.2.1 t.2.2.2.1 t.2.2.2.2 W (fun z1 => K (.exit 0) (mkS 32 [5] [.c (.h 0)] [ro z1] []))) ?_
  funext u1 u2 u3 u4 u5
  exact ofC_enc enc0I _ (u1, u2, u3, u4, u5)
theorem e : atomsL [] 0 (bodyOf Try.f66) = [(0, 0, .loop c0)] := by kernel_rfl
theorem acc (t : Vec (Bool × (Vec ByteArray) × (Vec ByteArray) × (Vec ByteArray))) (x : Vec ByteArray) (h : F t = some x) : ACc Try.prog 66 (encA t) [] true [] fun rv obs => (rv, obs) = encR x := by
  refine fun_okc (L := (L V0)) (jn := []) (cmds := []) (ks := []) (hin := []) (fn := Try.f66) (body := (bodyOf Try.f66)) Gok hm Try.func66 (by kernel_rfl) (by kernel_rfl) (by rw [e]; exact Lor.ok_cons ok0 (Lor.ok_nil _ _)) ?_ h
  refine (main impl_noLines.Q V0 _ t).trans ?_
  rw [V0_enc]
  refine congrArg (fun K => B (F0 fuelN) t K) ?_
  funext x1
  exact ofC_enc encRI some (x1)
theorem ac0 (t : Vec (Bool × (Vec ByteArray) × (Vec ByteArray) × (Vec ByteArray))) (x : Vec ByteArray) (h : F t = some x) : AC Try.prog 66 (encA t) [] true [] fun rv obs => (rv, obs) = encR x := ACc.ac (body := bodyOf Try.f66) Try.func66 (by kernel_rfl) (by kernel_rfl) (acc t x h)
theorem ac (args : List AV) (x : Vec ByteArray) (h : Q args = some x) : AC Try.prog 66 args [] false [] fun rv obs => (rv, obs) = encR x := by
  obtain ⟨t, rfl, h2⟩ := ofC_some h
  refine (ac0 t x h2).flat fun rv obs e => ?_
  obtain rfl : rv = (encR x).1 := congrArg Prod.fst e
  obtain rfl : obs = (encR x).2 := congrArg Prod.snd e
  refine ⟨by simp [encR, AV.Flat, K.Flat, C.Flat], ?_⟩
  intro o ho
  simp only [encR, List.mem_cons, List.not_mem_nil, or_false] at ho
  subst ho
  exact flat_rw rfl _
end impl_linesOf_s3d25
/-! loop.example/g00073/impl.Merged -/
namespace impl_Merged
noncomputable def B {ρ : Type} (C0 : (Vec (Vec Int)) → (Vec (ByteArray × Int × Int × (Vec Int))) → Int → Int → Option (Int × (Vec (Bool × (Vec ByteArray) × (Vec ByteArray) × (Vec ByteArray))))) (C1 : (Vec (Bool × (Vec ByteArray) × (Vec ByteArray) × (Vec ByteArray))) → Option Int) (C2 : (Vec (Bool × (Vec ByteArray) × (Vec ByteArray) × (Vec ByteArray))) → Option (Vec ByteArray)) (a1 : Vec (Vec Int)) (a2 : Vec (ByteArray × Int × Int × (Vec Int))) (a3 : Int) (a4 : Int) (K : Bool → (Vec ByteArray) → Option ρ) : Option ρ :=
  (C0 a1 a2 a3 a4).bind fun r1 => sel ((!decide (r1.1 = (0 : Int)))) (K false (Vec.nil : Vec ByteArray)) ((C1 r1.2).bind fun r2 => sel (decide ((0 : Int) < r2)) (K false (Vec.nil : Vec ByteArray)) ((C2 r1.2).bind fun r3 => K true r3))
noncomputable def F (a1 : Vec (Vec Int)) (a2 : Vec (ByteArray × Int × Int × (Vec Int))) (a3 : Int) (a4 : Int) : Option (Bool × Vec ByteArray) := B impl_RegionsOf.F impl_clashesIn.F impl_linesOf_s3d25.F a1 a2 a3 a4 (fun x1 x2 => some (x1, x2))
def encA (t : Vec (Vec Int) × (Vec (ByteArray × Int × Int × (Vec Int))) × Int × Int) : List AV := [.a [cl t.1, cl t.2.1], vi t.2.2.1, vi t.2.2.2]
def encR (x : Bool × Vec ByteArray) : AV × List Ob := (.tup [.c (.h 0), .c (cb x.1)], [ro x.2])
theorem encAI : ∀ a b, encA a = encA b → a = b := by
  intro a b h
  obtain ⟨a0, a1, a2, a3⟩ := a
  obtain ⟨b0, b1, b2, b3⟩ := b
  simp [encA, encRw_iff] at h
  simp_all
theorem encRI : ∀ a b, encR a = encR b → a = b := by
  intro a b h
  obtain ⟨a0, a1⟩ := a
  obtain ⟨b0, b1⟩ := b
  simp [encR, encRw_iff] at h
  simp_all
noncomputable def Q (args : List AV) : Option (Bool × Vec ByteArray) := ofC encA (fun t => F t.1 t.2.1 t.2.2.1 t.2.2.2) args
theorem wrap : (fun (y1 : Vec (Vec Int)) (y2 : Vec (ByteArray × Int × Int × (Vec Int))) (y3 : Int) (y4 : Int) => Q [.a [cl y1, cl y2], vi y3, vi y4]) = F := by
  funext y1 y2 y3 y4
  exact ofC_enc encAI _ (y1, y2, y3, y4)
noncomputable def G (Q0 : List AV → Option (Int × (Vec (Bool × (Vec ByteArray) × (Vec ByteArray) × (Vec ByteArray))))) (Q1 : List AV → Option Int) (Q2 : List AV → Option (Vec ByteArray)) : Orc := ⟨fun f => sel (Nat.beq f 22) 0 (sel (Nat.beq f 69) 0 (sel (Nat.beq f 66) 0 (9))), fun ρ f args K => sel (Nat.beq f 22) (qEntry impl_RegionsOf.encR Q0 args K) (sel (Nat.beq f 69) (qEntry impl_clashesIn.encR Q1 args K) (sel (Nat.beq f 66) (qEntry impl_linesOf_s3d25.encR Q2 args K) (Option.none))), noE, false⟩
noncomputable def L : Lor := fun ρ j st K => Option.none
theorem main (Q0 Q1 Q2) {ρ : Type} (K : AV → List Ob → Option ρ) (a1 a2 a3 a4) : exC Try.prog (G Q0 Q1 Q2) (L) [] 0 (bodyOf Try.f34) (entry 26 [.a [cl a1, cl a2], vi a3, vi a4] [] []) (finO Try.prog Try.f34.results.toList 0 [] [.ad (.s 6) 51] K) =
    B (fun y1 y2 y3 y4 => Q0 [.a [cl y1, cl y2], vi y3, vi y4]) (fun y1 => Q1 [vl y1]) (fun y1 => Q2 [vl y1, .fn 70 []]) a1 a2 a3 a4 (fun x1 x2 => K (.tup [.c (.h 0), .c (cb x1)]) [ro x2]) := by kernel_rfl
theorem Gok : (G impl_RegionsOf.Q impl_clashesIn.Q impl_linesOf_s3d25.Q).ok Try.prog := ⟨(by
    intro ρ f args K r h
    rcases sel_cases h with ⟨hb, h⟩ | ⟨-, h⟩
    · obtain rfl := beq_nat hb
      exact qEntry_ok impl_RegionsOf.ac h
    rcases sel_cases h with ⟨hb, h⟩ | ⟨-, h⟩
    · obtain rfl := beq_nat hb
      exact qEntry_ok impl_clashesIn.ac h
    rcases sel_cases h with ⟨hb, h⟩ | ⟨-, h⟩
    · obtain rfl := beq_nat hb
      exact qEntry_ok impl_linesOf_s3d25.ac h
    cases h),
  (by
    intro ρ f args K
    simp only [G]
    cases Nat.beq f 22 with
    | true => exact qEntry_nat args K
    | false =>
    simp only [sel]
    cases Nat.beq f 69 with
    | true => exact qEntry_nat args K
    | false =>
    simp only [sel]
    cases Nat.beq f 66 with
    | true => exact qEntry_nat args K
    | false =>
    simp only [sel]
    rfl),
  (fun ρ f st caps args dst K r h => (by cases h))⟩
theorem hm : Try.prog.follows .mixedOrders = true := by kernel_rfl
theorem e : atomsL [] 0 (bodyOf Try.f34) = [] := by kernel_rfl
theorem acc (t : Vec (Vec Int) × (Vec (ByteArray × Int × Int × (Vec Int))) × Int × Int) (x : Bool × Vec ByteArray) (h : F t.1 t.2.1 t.2.2.1 t.2.2.2 = some x) : ACc Try.prog 34 (encA t) [] true [] fun rv obs => (rv, obs) = encR x := by
  refine fun_okc (L := (L)) (jn := []) (cmds := [.ad (.s 6) 51]) (ks := []) (hin := []) (fn := Try.f34) (body := (bodyOf Try.f34)) Gok hm Try.func34 (by kernel_rfl) (by kernel_rfl) (by rw [e]; exact Lor.ok_nil _ _) ?_ h
  refine (main impl_RegionsOf.Q impl_clashesIn.Q impl_linesOf_s3d25.Q _ t.1 t.2.1 t.2.2.1 t.2.2.2).trans ?_
  rw [impl_RegionsOf.wrap, impl_clashesIn.wrap, impl_linesOf_s3d25.wrap]
  refine congrArg (fun K => B impl_RegionsOf.F impl_clashesIn.F impl_linesOf_s3d25.F t.1 t.2.1 t.2.2.1 t.2.2.2 K) ?_
  funext x1 x2
  exact ofC_enc encRI some (x1, x2)
theorem ac0 (t : Vec (Vec Int) × (Vec (ByteArray × Int × Int × (Vec Int))) × Int × Int) (x : Bool × Vec ByteArray) (h : F t.1 t.2.1 t.2.2.1 t.2.2.2 = some x) : AC Try.prog 34 (encA t) [] true [] fun rv obs => (rv, obs) = encR x := ACc.ac (body := bodyOf Try.f34) Try.func34 (by kernel_rfl) (by kernel_rfl) (acc t x h)
theorem ac (args : List AV) (x : Bool × Vec ByteArray) (h : Q args = some x) : AC Try.prog 34 args [] false [] fun rv obs => (rv, obs) = encR x := by
  obtain ⟨t, rfl, h2⟩ := ofC_some h
  refine (ac0 t x h2).flat fun rv obs e => ?_
  obtain rfl : rv = (encR x).1 := congrArg Prod.fst e
  obtain rfl : obs = (encR x).2 := congrArg Prod.snd e
  refine ⟨by simp [encR, AV.Flat, K.Flat, C.Flat], ?_⟩
  intro o ho
  simp only [encR, List.mem_cons, List.not_mem_nil, or_false] at ho
  subst ho
  exact flat_rw rfl _
end impl_Merged
/-! loop.example/g00073/laws.eqStringS -/
namespace laws_eqStringS
noncomputable def B0 {ρ : Type} (v1 : Vec ByteArray) (v2 : Vec ByteArray) (v3 : Int) (W : (Vec ByteArray) → (Vec ByteArray) → Int → Option ρ) (K0 : Unit → Option ρ) (Kr : Bool → Option ρ) : Option ρ :=
  sel (decide (v3 < (v1.n : Int))) (chk (decide (0 ≤ v3 ∧ v3 < (v1.n : Int))) (chk (decide (0 ≤ v3 ∧ v3 < (v2.n : Int))) (sel ((!decide ((v1.g v3.toNat) = (v2.g v3.toNat)))) (Kr false) (W v1 v2 (wr (v3 + (1 : Int))))))) (K0 ())
noncomputable def F0 {ρ : Type} : Nat → (Vec ByteArray) → (Vec ByteArray) → Int → (Unit → Option ρ) → (Bool → Option ρ) → Option ρ
  | 0, _, _, _, _, _ => none
  | k + 1, v1, v2, v3, K0, Kr => B0 v1 v2 v3 (fun v1' v2' v3' => F0 k v1' v2' v3' K0 Kr) K0 Kr
noncomputable def B {ρ : Type} (L0 : (Vec ByteArray) → (Vec ByteArray) → Int → (Unit → Option ρ) → (Bool → Option ρ) → Option ρ) (a1 : Vec ByteArray) (a2 : Vec ByteArray) (K : Bool → Option ρ) : Option ρ :=
  sel ((!decide ((a1.n : Int) = (a2.n : Int)))) (K false) (L0 a1 a2 (0 : Int) (fun _ => K true) (fun x01 => K x01))
noncomputable def F (a1 : Vec ByteArray) (a2 : Vec ByteArray) : Option Bool := B (F0 fuelN) a1 a2 (fun x1 => some (x1))
def encA (t : Vec ByteArray × Vec ByteArray) : List AV := [vl t.1, vl t.2]
def encR (x : Bool) : AV × List Ob := (vb x, [])
theorem encAI : ∀ a b, encA a = encA b → a = b := by
  intro a b h
  obtain ⟨a0, a1⟩ := a
  obtain ⟨b0, b1⟩ := b
  simp [encA, encRw_iff] at h
  simp_all
theorem encRI : ∀ a b, encR a = encR b → a = b := by
  intro a b h
  simp [encR, encRw_iff] at h
  simp_all
noncomputable def Q (args : List AV) : Option Bool := ofC encA (fun t => F t.1 t.2) args
theorem wrap : (fun (y1 : Vec ByteArray) (y2 : Vec ByteArray) => Q [vl y1, vl y2]) = F := by
  funext y1 y2
  exact ofC_enc encAI _ (y1, y2)
noncomputable def G : Orc := ⟨fun f => 9, fun ρ f args K => Option.none, noE, false⟩
noncomputable def L (W0 : (ρ : Type) → List AV → List Ob → (Unit → Option ρ) → (Bool → Option ρ) → Option ρ) : Lor := fun ρ j st K => sel (Nat.beq j 0) (cutO Try.prog 26 [0, 1, 5] 0 [] [] st fun avs obs => W0 ρ avs obs (fun _ => K (.exit 0) (mkS 26 [] [] [] [])) (fun z1 => K .ret (mkS 26 [4] [vb z1] [] []))) (Option.none)
noncomputable def c0 : Code := loopC (atomN [] 0 (bodyOf Try.f30) 0)
def ct0 : Cut := ⟨[0, 1, 5], []⟩
def lv0 : Exit → Cut
  | .exit 0 => ⟨[], []⟩
  | .ret => ⟨[4], []⟩
  | _ => ⟨[], []⟩
theorem step0 (W0) {ρ : Type} (K : Exit → St → Option ρ) (W : List AV → List Ob → Option ρ) (v1 v2 v3) : exC Try.prog (G) (L W0) [] 1 c0 (mkS 26 [0, 1, 5] [vl v1, vl v2, vi v3] [] []) (bodyK Try.prog 26 0 [] ct0 W lv0 K) =
    B0 v1 v2 v3 (fun u1 u2 u3 => W [vl u1, vl u2, vi u3] []) (fun _ => K (.exit 0) (mkS 26 [] [] [] [])) (fun z1 => K .ret (mkS 26 [4] [vb z1] [] [])) := by kernel_rfl
def enc0 (t : Vec ByteArray × Vec ByteArray × Int) : List AV × List Ob := ([vl t.1, vl t.2.1, vi t.2.2], [])
theorem enc0I : ∀ a b, enc0 a = enc0 b → a = b := by
  intro a b h
  obtain ⟨a0, a1, a2⟩ := a
  obtain ⟨b0, b1, b2⟩ := b
  simp [enc0, encRw_iff] at h
  simp_all
noncomputable def V0 : (ρ : Type) → List AV → List Ob → (Unit → Option ρ) → (Bool → Option ρ) → Option ρ := fun ρ avs obs k0 kr => ofC enc0 (fun t => F0 fuelN t.1 t.2.1 t.2.2 k0 kr) (avs, obs)
theorem V0_enc (ρ : Type) : (fun w1 w2 w3 k0 kr => V0 ρ [vl w1, vl w2, vi w3] [] k0 kr) = F0 fuelN := by
  funext w1 w2 w3 k0 kr
  exact ofC_enc enc0I _ (w1, w2, w3)
theorem main (W0) {ρ : Type} (K : AV → List Ob → Option ρ) (a1 a2) : exC Try.prog (G) (L W0) [] 0 (bodyOf Try.f30) (entry 26 [vl a1, vl a2] [] []) (finO Try.prog Try.f30.results.toList 0 [] [] K) =
    B (fun w1 w2 w3 k0 kr => W0 ρ [vl w1, vl w2, vi w3] [] k0 kr) a1 a2 (fun x1 => K (vb x1) []) := by kernel_rfl
theorem Gok : (G).ok Try.prog := ⟨(fun ρ f args K r h => (by cases h)),
  (fun ρ f args K => rfl),
  (fun ρ f st caps args dst K r h => (by cases h))⟩
theorem hm : Try.prog.follows .mixedOrders = true := by kernel_rfl
theorem e0 : atomsL [] 1 c0 = [] := by kernel_rfl
theorem ok0 (ρ : Type) (st : St) (K : Exit → St → Option ρ) (r : ρ) (h : (L V0) ρ 0 st K = some r) : AW Try.prog (.loop c0) st fun e st' => K e st' = some r := by
  refine loop_ok (ct := ct0) (lv := lv0) (n := 26) (m := 0) (ks := []) (j := 0) (jn := []) (L := (L V0)) Gok hm (by rw [e0]; exact Lor.ok_nil _ _) enc0I (fun k t => F0 k t.1 t.2.1 t.2.2 (fun _ => K (.exit 0) (mkS 26 [] [] [] [])) (fun z1 => K .ret (mkS 26 [4] [vb z1] [] []))) (fun t => rfl) (fun k t => ?_) (fun _ => fuelN) h
  refine (step0 V0 K _ t.1 t.2.1 t.2.2).trans ?_
  refine congrArg (fun W => B0 t.1 t.2.1 t.2.2 W (fun _ => K (.exit 0) (mkS 26 [] [] [] [])) (fun z1 => K .ret (mkS 26 [4] [vb z1] [] []))) ?_
  funext u1 u2 u3
  exact ofC_enc enc0I _ (u1, u2, u3)
theorem e : atomsL [] 0 (bodyOf Try.f30) = [(0, 0, .loop c0)] := by kernel_rfl
theorem acc (t : Vec ByteArray × Vec ByteArray) (x : Bool) (h : F t.1 t.2 = some x) : ACc Try.prog 30 (encA t) [] true [] fun rv obs => (rv, obs) = encR x := by
  refine fun_okc (L := (L V0)) (jn := []) (cmds := []) (ks := []) (hin := []) (fn := Try.f30) (body := (bodyOf Try.f30)) Gok hm Try.func30 (by kernel_rfl) (by kernel_rfl) (by rw [e]; exact Lor.ok_cons ok0 (Lor.ok_nil _ _)) ?_ h
  refine (main V0 _ t.1 t.2).trans ?_
  rw [V0_enc]
  refine congrArg (fun K => B (F0 fuelN) t.1 t.2 K) ?_
  funext x1
  exact ofC_enc encRI some (x1)
theorem ac0 (t : Vec ByteArray × Vec ByteArray) (x : Bool) (h : F t.1 t.2 = some x) : AC Try.prog 30 (encA t) [] true [] fun rv obs => (rv, obs) = encR x := ACc.ac (body := bodyOf Try.f30) Try.func30 (by kernel_rfl) (by kernel_rfl) (acc t x h)
theorem ac (args : List AV) (x : Bool) (h : Q args = some x) : AC Try.prog 30 args [] false [] fun rv obs => (rv, obs) = encR x := by
  obtain ⟨t, rfl, h2⟩ := ofC_some h
  refine (ac0 t x h2).flat fun rv obs e => ?_
  obtain rfl : rv = (encR x).1 := congrArg Prod.fst e
  obtain rfl : obs = (encR x).2 := congrArg Prod.snd e
  refine ⟨by simp [encR, AV.Flat, K.Flat, C.Flat], ?_⟩
  simp [encR]
end laws_eqStringS
/-! loop.example/g00073/laws.markStringS -/
namespace laws_markStringS_s1401
noncomputable def B0 {ρ : Type} (C0 : Int → Option ByteArray) (v1 : Int) (v2 : Int) (v3 : Vec ByteArray) (W : Int → Int → (Vec ByteArray) → Option ρ) (K0 : Int → (Vec ByteArray) → Option ρ) : Option ρ :=
  sel (decide (v2 < (v3.n : Int))) ((C0 v1).bind fun r1 => chk (decide (0 ≤ v2 ∧ v2 < (v3.n : Int))) (chk (decide (v2.toNat < v3.n)) (W (wr (v1 + (1 : Int))) (wr (v2 + (1 : Int))) (Vec.set v3 v2.toNat r1)))) (K0 v1 v3)
noncomputable def F0 {ρ : Type} : Nat → Int → Int → (Vec ByteArray) → (Int → (Vec ByteArray) → Option ρ) → Option ρ
  | 0, _, _, _, _ => none
  | k + 1, v1, v2, v3, K0 => B0 laws_markText.F v1 v2 v3 (fun v1' v2' v3' => F0 k v1' v2' v3' K0) K0
noncomputable def B {ρ : Type} (L0 : Int → Int → (Vec ByteArray) → (Int → (Vec ByteArray) → Option ρ) → Option ρ) (a1 : Int) (a2 : Vec ByteArray) (K : Int → (Vec ByteArray) → Option ρ) : Option ρ :=
  L0 a1 (0 : Int) a2 (fun e01 e02 => K e01 e02)
noncomputable def F (a1 : Int) (a2 : Vec ByteArray) : Option (Int × Vec ByteArray) := B (F0 fuelN) a1 a2 (fun x1 x2 => some (x1, x2))
def encA (t : Int × Vec ByteArray) : List AV × List Ob := ([.c (.h 0), vi t.1], [ro t.2])
def encR (x : Int × Vec ByteArray) : AV × List Ob := (vi x.1, [ro x.2])
theorem encAI : ∀ a b, encA a = encA b → a = b := by
  intro a b h
  obtain ⟨a0, a1⟩ := a
  obtain ⟨b0, b1⟩ := b
  simp [encA, encRw_iff] at h
  simp_all
theorem encRI : ∀ a b, encR a = encR b → a = b := by
  intro a b h
  obtain ⟨a0, a1⟩ := a
  obtain ⟨b0, b1⟩ := b
  simp [encR, encRw_iff] at h
  simp_all
noncomputable def Q (args : List AV) (hin : List Ob) : Option (Int × Vec ByteArray) := ofC encA (fun t => F t.1 t.2) (args, hin)
theorem wrap : (fun (y1 : Int) (y2 : Vec ByteArray) => Q [.c (.h 0), vi y1] [ro y2]) = F := by
  funext y1 y2
  exact ofC_enc encAI _ (y1, y2)
noncomputable def G (Q0 : List AV → Option ByteArray) : Orc := ⟨fun f => sel (Nat.beq f 51) 0 (9), fun ρ f args K => sel (Nat.beq f 51) (qEntry laws_markText.encR Q0 args K) (Option.none), noE, false⟩
noncomputable def L (W0 : (ρ : Type) → List AV → List Ob → (Int → (Vec ByteArray) → Option ρ) → Option ρ) : Lor := fun ρ j st K => sel (Nat.beq j 0) (cutO Try.prog 20 [0, 1, 5] 1 [true] [] st fun avs obs => W0 ρ avs obs (fun z1 z2 => K (.exit 0) (mkS 20 [1] [vi z1] [ro z2] [true]))) (Option.none)
noncomputable def c0 : Code := loopC (atomN [] 0 (bodyOf Try.f31) 0)
def ct0 : Cut := ⟨[0, 1, 5], []⟩
def lv0 : Exit → Cut
  | .exit 0 => ⟨[1], []⟩
  | _ => ⟨[], []⟩
theorem step0 (Q0) (W0) {ρ : Type} (K : Exit → St → Option ρ) (W : List AV → List Ob → Option ρ) (v1 v2 v3) : exC Try.prog (G Q0) (L W0) [] 1 c0 (mkS 20 [0, 1, 5] [.c (.h 0), vi v1, vi v2] [ro v3] [true]) (bodyK Try.prog 20 1 [true] ct0 W lv0 K) =
    B0 (fun y1 => Q0 [vi y1]) v1 v2 v3 (fun u1 u2 u3 => W [.c (.h 0), vi u1, vi u2] [ro u3]) (fun z1 z2 => K (.exit 0) (mkS 20 [1] [vi z1] [ro z2] [true])) := by kernel_rfl
def enc0 (t : Int × Int × Vec ByteArray) : List AV × List Ob := ([.c (.h 0), vi t.1, vi t.2.1], [ro t.2.2])
theorem enc0I : ∀ a b, enc0 a = enc0 b → a = b := by
  intro a b h
  obtain ⟨a0, a1, a2⟩ := a
  obtain ⟨b0, b1, b2⟩ := b
  simp [enc0, encRw_iff] at h
  simp_all
noncomputable def V0 : (ρ : Type) → List AV → List Ob → (Int → (Vec ByteArray) → Option ρ) → Option ρ := fun ρ avs obs k0 => ofC enc0 (fun t => F0 fuelN t.1 t.2.1 t.2.2 k0) (avs, obs)
theorem V0_enc (ρ : Type) : (fun w1 w2 w3 k0 => V0 ρ [.c (.h 0), vi w1, vi w2] [ro w3] k0) = F0 fuelN := by
  funext w1 w2 w3 k0
  exact ofC_enc enc0I _ (w1, w2, w3)
theorem main (Q0) (W0) {ρ : Type} (K : AV → List Ob → Option ρ) (a1 a2) : exC Try.prog (G Q0) (L W0) [] 0 (bodyOf Try.f31) (entry 20 [.c (.h 0), vi a1] [ro a2] [true]) (finO Try.prog Try.f31.results.toList 1 [true] [] K) =
    B (fun w1 w2 w3 k0 => W0 ρ [.c (.h 0), vi w1, vi w2] [ro w3] k0) a1 a2 (fun x1 x2 => K (vi x1) [ro x2]) := by kernel_rfl
theorem Gok : (G laws_markText.Q).ok Try.prog := ⟨(by
    intro ρ f args K r h
    rcases sel_cases h with ⟨hb, h⟩ | ⟨-, h⟩
    · obtain rfl := beq_nat hb
      exact qEntry_ok laws_markText.ac h
    cases h),
  (by
    intro ρ f args K
    simp only [G]
    cases Nat.beq f 51 with
    | true => exact qEntry_nat args K
    | false =>
    simp only [sel]
    rfl),
  (fun ρ f st caps args dst K r h => (by cases h))⟩
theorem hm : Try.prog.follows .mixedOrders = true := by kernel_rfl
theorem e0 : atomsL [] 1 c0 = [] := by kernel_rfl
theorem ok0 (ρ : Type) (st : St) (K : Exit → St → Option ρ) (r : ρ) (h : (L V0) ρ 0 st K = some r) : AW Try.prog (.loop c0) st fun e st' => K e st' = some r := by
  refine loop_ok (ct := ct0) (lv := lv0) (n := 20) (m := 1) (ks := [true]) (j := 0) (jn := []) (L := (L V0)) Gok hm (by rw [e0]; exact Lor.ok_nil _ _) enc0I (fun k t => F0 k t.1 t.2.1 t.2.2 (fun z1 z2 => K (.exit 0) (mkS 20 [1] [vi z1] [ro z2] [true]))) (fun t => rfl) (fun k t => ?_) (fun _ => fuelN) h
  refine (step0 laws_markText.Q V0 K _ t.1 t.2.1 t.2.2).trans ?_
  rw [laws_markText.wrap]
  refine congrArg (fun W => B0 laws_markText.F t.1 t.2.1 t.2.2 W (fun z1 z2 => K (.exit 0) (mkS 20 [1] [vi z1] [ro z2] [true]))) ?_
  funext u1 u2 u3
  exact ofC_enc enc0I _ (u1, u2, u3)
theorem e : atomsL [] 0 (bodyOf Try.f31) = [(0, 0, .loop c0)] := by kernel_rfl
theorem acc (t : Int × Vec ByteArray) (x : Int × Vec ByteArray) (h : F t.1 t.2 = some x) : ACc Try.prog 31 (encA t).1 (encA t).2 true [true] fun rv obs => (rv, obs) = encR x := by
  refine fun_okc (L := (L V0)) (jn := []) (cmds := []) (ks := [true]) (hin := (encA t).2) (fn := Try.f31) (body := (bodyOf Try.f31)) Gok hm Try.func31 (by kernel_rfl) (by kernel_rfl) (by rw [e]; exact Lor.ok_cons ok0 (Lor.ok_nil _ _)) ?_ h
  refine (main laws_markText.Q V0 _ t.1 t.2).trans ?_
  rw [V0_enc]
  refine congrArg (fun K => B (F0 fuelN) t.1 t.2 K) ?_
  funext x1 x2
  exact ofC_enc encRI some (x1, x2)
theorem ac0 (t : Int × Vec ByteArray) (x : Int × Vec ByteArray) (h : F t.1 t.2 = some x) : AC Try.prog 31 (encA t).1 (encA t).2 true [true] fun rv obs => (rv, obs) = encR x := ACc.ac (body := bodyOf Try.f31) Try.func31 (by kernel_rfl) (by kernel_rfl) (acc t x h)
theorem ac (args : List AV) (hin : List Ob) (x : Int × Vec ByteArray) (h : Q args hin = some x) : AC Try.prog 31 args hin false [true] fun rv obs => (rv, obs) = encR x := by
  obtain ⟨t, he, h2⟩ := ofC_some h
  obtain rfl : args = (encA t).1 := (congrArg Prod.fst he).symm
  obtain rfl : hin = (encA t).2 := (congrArg Prod.snd he).symm
  refine (ac0 t x h2).flat fun rv obs e => ?_
  obtain rfl : rv = (encR x).1 := congrArg Prod.fst e
  obtain rfl : obs = (encR x).2 := congrArg Prod.snd e
  refine ⟨by simp [encR, AV.Flat, K.Flat, C.Flat], ?_⟩
  intro o ho
  simp only [encR, List.mem_cons, List.not_mem_nil, or_false] at ho
  subst ho
  exact flat_rw rfl _
end laws_markStringS_s1401
/-! loop.example/g00073/laws.heldStringS -/
namespace laws_heldStringS
noncomputable def B0 {ρ : Type} (C0 : Int → Option ByteArray) (v1 : Vec ByteArray) (v2 : Int) (v3 : Int) (W : (Vec ByteArray) → Int → Int → Option ρ) (K0 : Int → Option ρ) (Kr : Int → Option ρ) : Option ρ :=
  sel (decide (v3 < (v1.n : Int))) (chk (decide (0 ≤ v3 ∧ v3 < (v1.n : Int))) ((C0 v2).bind fun r1 => sel ((!decide ((v1.g v3.toNat) = r1))) (Kr (-1 : Int)) (W v1 (wr (v2 + (1 : Int))) (wr (v3 + (1 : Int)))))) (K0 v2)
noncomputable def F0 {ρ : Type} : Nat → (Vec ByteArray) → Int → Int → (Int → Option ρ) → (Int → Option ρ) → Option ρ
  | 0, _, _, _, _, _ => none
  | k + 1, v1, v2, v3, K0, Kr => B0 laws_markText.F v1 v2 v3 (fun v1' v2' v3' => F0 k v1' v2' v3' K0 Kr) K0 Kr
noncomputable def B {ρ : Type} (L0 : (Vec ByteArray) → Int → Int → (Int → Option ρ) → (Int → Option ρ) → Option ρ) (a1 : Vec ByteArray) (a2 : Int) (K : Int → Option ρ) : Option ρ :=
  L0 a1 a2 (0 : Int) (fun e01 => K e01) (fun x01 => K x01)
noncomputable def F (a1 : Vec ByteArray) (a2 : Int) : Option Int := B (F0 fuelN) a1 a2 (fun x1 => some (x1))
def encA (t : Vec ByteArray × Int) : List AV := [vl t.1, vi t.2]
def encR (x : Int) : AV × List Ob := (vi x, [])
theorem encAI : ∀ a b, encA a = encA b → a = b := by
  intro a b h
  obtain ⟨a0, a1⟩ := a
  obtain ⟨b0, b1⟩ := b
  simp [encA, encRw_iff] at h
  simp_all
theorem encRI : ∀ a b, encR a = encR b → a = b := by
  intro a b h
  simp [encR, encRw_iff] at h
  simp_all
noncomputable def Q (args : List AV) : Option Int := ofC encA (fun t => F t.1 t.2) args
theorem wrap : (fun (y1 : Vec ByteArray) (y2 : Int) => Q [vl y1, vi y2]) = F := by
  funext y1 y2
  exact ofC_enc encAI _ (y1, y2)
noncomputable def G (Q0 : List AV → Option ByteArray) : Orc := ⟨fun f => sel (Nat.beq f 51) 0 (9), fun ρ f args K => sel (Nat.beq f 51) (qEntry laws_markText.encR Q0 args K) (Option.none), noE, false⟩
noncomputable def L (W0 : (ρ : Type) → List AV → List Ob → (Int → Option ρ) → (Int → Option ρ) → Option ρ) : Lor := fun ρ j st K => sel (Nat.beq j 0) (cutO Try.prog 22 [0, 1, 5] 0 [] [] st fun avs obs => W0 ρ avs obs (fun z1 => K (.exit 0) (mkS 22 [1] [vi z1] [] [])) (fun z1 => K .ret (mkS 22 [4] [vi z1] [] []))) (Option.none)
noncomputable def c0 : Code := loopC (atomN [] 0 (bodyOf Try.f32) 0)
def ct0 : Cut := ⟨[0, 1, 5], []⟩
def lv0 : Exit → Cut
  | .exit 0 => ⟨[1], []⟩
  | .ret => ⟨[4], []⟩
  | _ => ⟨[], []⟩
theorem step0 (Q0) (W0) {ρ : Type} (K : Exit → St → Option ρ) (W : List AV → List Ob → Option ρ) (v1 v2 v3) : exC Try.prog (G Q0) (L W0) [] 1 c0 (mkS 22 [0, 1, 5] [vl v1, vi v2, vi v3] [] []) (bodyK Try.prog 22 0 [] ct0 W lv0 K) =
    B0 (fun y1 => Q0 [vi y1]) v1 v2 v3 (fun u1 u2 u3 => W [vl u1, vi u2, vi u3] []) (fun z1 => K (.exit 0) (mkS 22 [1] [vi z1] [] [])) (fun z1 => K .ret (mkS 22 [4] [vi z1] [] [])) := by kernel_rfl
def enc0 (t : Vec ByteArray × Int × Int) : List AV × List Ob := ([vl t.1, vi t.2.1, vi t.2.2], [])
theorem enc0I : ∀ a b, enc0 a = enc0 b → a = b := by
  intro a b h
  obtain ⟨a0, a1, a2⟩ := a
  obtain ⟨b0, b1, b2⟩ := b
  simp [enc0, encRw_iff] at h
  simp_all
noncomputable def V0 : (ρ : Type) → List AV → List Ob → (Int → Option ρ) → (Int → Option ρ) → Option ρ := fun ρ avs obs k0 kr => ofC enc0 (fun t => F0 fuelN t.1 t.2.1 t.2.2 k0 kr) (avs, obs)
theorem V0_enc (ρ : Type) : (fun w1 w2 w3 k0 kr => V0 ρ [vl w1, vi w2, vi w3] [] k0 kr) = F0 fuelN := by
  funext w1 w2 w3 k0 kr
  exact ofC_enc enc0I _ (w1, w2, w3)
theorem main (Q0) (W0) {ρ : Type} (K : AV → List Ob → Option ρ) (a1 a2) : exC Try.prog (G Q0) (L W0) [] 0 (bodyOf Try.f32) (entry 22 [vl a1, vi a2] [] []) (finO Try.prog Try.f32.results.toList 0 [] [] K) =
    B (fun w1 w2 w3 k0 kr => W0 ρ [vl w1, vi w2, vi w3] [] k0 kr) a1 a2 (fun x1 => K (vi x1) []) := by kernel_rfl
theorem Gok : (G laws_markText.Q).ok Try.prog := ⟨(by
    intro ρ f args K r h
    rcases sel_cases h with ⟨hb, h⟩ | ⟨-, h⟩
    · obtain rfl := beq_nat hb
      exact qEntry_ok laws_markText.ac h
    cases h),
  (by
    intro ρ f args K
    simp only [G]
    cases Nat.beq f 51 with
    | true => exact qEntry_nat args K
    | false =>
    simp only [sel]
    rfl),
  (fun ρ f st caps args dst K r h => (by cases h))⟩
theorem hm : Try.prog.follows .mixedOrders = true := by kernel_rfl
theorem e0 : atomsL [] 1 c0 = [] := by kernel_rfl
theorem ok0 (ρ : Type) (st : St) (K : Exit → St → Option ρ) (r : ρ) (h : (L V0) ρ 0 st K = some r) : AW Try.prog (.loop c0) st fun e st' => K e st' = some r := by
  refine loop_ok (ct := ct0) (lv := lv0) (n := 22) (m := 0) (ks := []) (j := 0) (jn := []) (L := (L V0)) Gok hm (by rw [e0]; exact Lor.ok_nil _ _) enc0I (fun k t => F0 k t.1 t.2.1 t.2.2 (fun z1 => K (.exit 0) (mkS 22 [1] [vi z1] [] [])) (fun z1 => K .ret (mkS 22 [4] [vi z1] [] []))) (fun t => rfl) (fun k t => ?_) (fun _ => fuelN) h
  refine (step0 laws_markText.Q V0 K _ t.1 t.2.1 t.2.2).trans ?_
  rw [laws_markText.wrap]
  refine congrArg (fun W => B0 laws_markText.F t.1 t.2.1 t.2.2 W (fun z1 => K (.exit 0) (mkS 22 [1] [vi z1] [] [])) (fun z1 => K .ret (mkS 22 [4] [vi z1] [] []))) ?_
  funext u1 u2 u3
  exact ofC_enc enc0I _ (u1, u2, u3)
theorem e : atomsL [] 0 (bodyOf Try.f32) = [(0, 0, .loop c0)] := by kernel_rfl
theorem acc (t : Vec ByteArray × Int) (x : Int) (h : F t.1 t.2 = some x) : ACc Try.prog 32 (encA t) [] true [] fun rv obs => (rv, obs) = encR x := by
  refine fun_okc (L := (L V0)) (jn := []) (cmds := []) (ks := []) (hin := []) (fn := Try.f32) (body := (bodyOf Try.f32)) Gok hm Try.func32 (by kernel_rfl) (by kernel_rfl) (by rw [e]; exact Lor.ok_cons ok0 (Lor.ok_nil _ _)) ?_ h
  refine (main laws_markText.Q V0 _ t.1 t.2).trans ?_
  rw [V0_enc]
  refine congrArg (fun K => B (F0 fuelN) t.1 t.2 K) ?_
  funext x1
  exact ofC_enc encRI some (x1)
theorem ac0 (t : Vec ByteArray × Int) (x : Int) (h : F t.1 t.2 = some x) : AC Try.prog 32 (encA t) [] true [] fun rv obs => (rv, obs) = encR x := ACc.ac (body := bodyOf Try.f32) Try.func32 (by kernel_rfl) (by kernel_rfl) (acc t x h)
theorem ac (args : List AV) (x : Int) (h : Q args = some x) : AC Try.prog 32 args [] false [] fun rv obs => (rv, obs) = encR x := by
  obtain ⟨t, rfl, h2⟩ := ofC_some h
  refine (ac0 t x h2).flat fun rv obs e => ?_
  obtain rfl : rv = (encR x).1 := congrArg Prod.fst e
  obtain rfl : obs = (encR x).2 := congrArg Prod.snd e
  refine ⟨by simp [encR, AV.Flat, K.Flat, C.Flat], ?_⟩
  simp [encR]
end laws_heldStringS
/-! loop.example/g00073/laws.FnExactMerged -/
namespace laws_FnExactMerged
noncomputable def B {ρ : Type} (C0 : (Vec (Vec Int)) → (Vec (ByteArray × Int × Int × (Vec Int))) → Int → Option Int) (C1 : (Vec (Vec Int)) → (Vec (ByteArray × Int × Int × (Vec Int))) → Option (Vec (Vec Int) × (Vec (ByteArray × Int × Int × (Vec Int))))) (C2 : (Vec (Vec Int)) → (Vec (ByteArray × Int × Int × (Vec Int))) → Int → Int → Option (Bool × Vec ByteArray)) (C3 : (Vec (Vec Int)) → (Vec (ByteArray × Int × Int × (Vec Int))) → Int → Int → Option (Bool × Vec ByteArray)) (C4 : (Vec ByteArray) → (Vec ByteArray) → Option Bool) (C5 : (Vec (Vec Int)) → (Vec (ByteArray × Int × Int × (Vec Int))) → (Vec (Vec Int)) → (Vec (ByteArray × Int × Int × (Vec Int))) → Option Bool) (C6 : Int → (Vec (Vec Int)) → (Vec (ByteArray × Int × Int × (Vec Int))) → Option (Int × Vec (Vec Int) × (Vec (ByteArray × Int × Int × (Vec Int))))) (C7 : Int → (Vec ByteArray) → Option (Int × Vec ByteArray)) (C8 : (Vec ByteArray) → Int → Option Int) (a1 : Vec (Vec Int)) (a2 : Vec (ByteArray × Int × Int × (Vec Int))) (a3 : Int) (a4 : Int) (K : Bool → Option ρ) : Option ρ :=
  (C0 a1 a2 (1048576 : Int)).bind fun r1 => sel (decide (r1 < (0 : Int))) (K true) ((C1 a1 a2).bind fun r2 => (C2 r2.1 r2.2 a3 a4).bind fun r3 => (C1 a1 a2).bind fun r4 => (C3 r4.1 r4.2 a3 a4).bind fun r5 => (C4 r5.2 r3.2).bind fun r6 => sel ((!r6)) (K false) (sel ((!(r5.1 == r3.1))) (K false) ((C1 a1 a2).bind fun r7 => (C5 r4.1 r4.2 r7.1 r7.2).bind fun r8 => sel ((!r8)) (K false) ((C6 (1 : Int) r4.1 r4.2).bind fun r9 => sel (decide (r9.1 < (0 : Int))) (K false) ((C4 r5.2 r3.2).bind fun r10 => sel ((!r10)) (K false) (sel ((!(r5.1 == r3.1))) (K false) ((C7 (1 : Int) r5.2).bind fun r11 => (C8 r11.2 (1 : Int)).bind fun r12 => sel (decide (r12 < (0 : Int))) (K false) (sel ((!decide (r12 = r11.1))) (K false) ((C1 a1 a2).bind fun r13 => (C3 r13.1 r13.2 a3 a4).bind fun r14 => (C4 r14.2 r3.2).bind fun r15 => sel ((!r15)) (K false) (sel ((!(r14.1 == r3.1))) (K false) ((C8 r11.2 (1 : Int)).bind fun r16 => sel (decide (r16 < (0 : Int))) (K false) (sel ((!decide (r16 = r11.1))) (K false) (K true)))))))))))))
noncomputable def F (a1 : Vec (Vec Int)) (a2 : Vec (ByteArray × Int × Int × (Vec Int))) (a3 : Int) (a4 : Int) : Option Bool := B laws_szWeave.F laws_toWeave.F spec_Merged.F impl_Merged.F laws_eqStringS.F laws_eqWeave.F laws_markWeave_saeda.F laws_markStringS_s1401.F laws_heldStringS.F a1 a2 a3 a4 (fun x1 => some (x1))
def encA (t : Vec (Vec Int) × (Vec (ByteArray × Int × Int × (Vec Int))) × Int × Int) : List AV := [.a [cl t.1, cl t.2.1], vi t.2.2.1, vi t.2.2.2]
def encR (x : Bool) : AV × List Ob := (vb x, [])
theorem encAI : ∀ a b, encA a = encA b → a = b := by
  intro a b h
  obtain ⟨a0, a1, a2, a3⟩ := a
  obtain ⟨b0, b1, b2, b3⟩ := b
  simp [encA, encRw_iff] at h
  simp_all
theorem encRI : ∀ a b, encR a = encR b → a = b := by
  intro a b h
  simp [encR, encRw_iff] at h
  simp_all
noncomputable def Q (args : List AV) : Option Bool := ofC encA (fun t => F t.1 t.2.1 t.2.2.1 t.2.2.2) args
theorem wrap : (fun (y1 : Vec (Vec Int)) (y2 : Vec (ByteArray × Int × Int × (Vec Int))) (y3 : Int) (y4 : Int) => Q [.a [cl y1, cl y2], vi y3, vi y4]) = F := by
  funext y1 y2 y3 y4
  exact ofC_enc encAI _ (y1, y2, y3, y4)
noncomputable def G (Q0 : List AV → Option Int) (Q1 : List AV → Option (Vec (Vec Int) × (Vec (ByteArray × Int × Int × (Vec Int))))) (Q2 : List AV → Option (Bool × Vec ByteArray)) (Q3 : List AV → Option (Bool × Vec ByteArray)) (Q4 : List AV → Option Bool) (Q5 : List AV → Option Bool) (Q6 : List AV → List Ob → Option (Int × Vec (Vec Int) × (Vec (ByteArray × Int × Int × (Vec Int))))) (Q7 : List AV → List Ob → Option (Int × Vec ByteArray)) (Q8 : List AV → Option Int) : Orc := ⟨fun f => sel (Nat.beq f 19) 0 (sel (Nat.beq f 21) 0 (sel (Nat.beq f 33) 0 (sel (Nat.beq f 34) 0 (sel (Nat.beq f 30) 0 (sel (Nat.beq f 24) 0 (sel (Nat.beq f 32) 0 (9))))))), fun ρ f args K => sel (Nat.beq f 19) (qEntry laws_szWeave.encR Q0 args K) (sel (Nat.beq f 21) (qEntry laws_toWeave.encR Q1 args K) (sel (Nat.beq f 33) (qEntry spec_Merged.encR Q2 args K) (sel (Nat.beq f 34) (qEntry impl_Merged.encR Q3 args K) (sel (Nat.beq f 30) (qEntry laws_eqStringS.encR Q4 args K) (sel (Nat.beq f 24) (qEntry laws_eqWeave.encR Q5 args K) (sel (Nat.beq f 32) (qEntry laws_heldStringS.encR Q8 args K) (Option.none))))))), fun ρ f st args dst K => sel (Nat.beq f 25) (callE Try.prog 25 [true, false] false [true, true] laws_markWeave_saeda.encR Q6 st args dst K) (sel (Nat.beq f 31) (callE Try.prog 31 [true, false] false [true] laws_markStringS_s1401.encR Q7 st args dst K) (Option.none)), false⟩
noncomputable def L : Lor := fun ρ j st K => Option.none
theorem main (Q0 Q1 Q2 Q3 Q4 Q5 Q6 Q7 Q8) {ρ : Type} (K : AV → List Ob → Option ρ) (a1 a2 a3 a4) : exC Try.prog (G Q0 Q1 Q2 Q3 Q4 Q5 Q6 Q7 Q8) (L) [] 0 (bodyOf Try.f6) (entry 106 [.a [cl a1, cl a2], vi a3, vi a4] [] []) (finO Try.prog Try.f6.results.toList 0 [] [] K) =
    B (fun y1 y2 y3 => Q0 [.a [cl y1, cl y2], vi y3]) (fun y1 y2 => Q1 [.a [cl y1, cl y2]]) (fun y1 y2 y3 y4 => Q2 [.a [cl y1, cl y2], vi y3, vi y4]) (fun y1 y2 y3 y4 => Q3 [.a [cl y1, cl y2], vi y3, vi y4]) (fun y1 y2 => Q4 [vl y1, vl y2]) (fun y1 y2 y3 y4 => Q5 [.a [cl y1, cl y2], .a [cl y3, cl y4]]) (fun y1 y2 y3 => Q6 [.a [.h 0, .h 1], vi y1] [ro y2, ro y3]) (fun y1 y2 => Q7 [.c (.h 0), vi y1] [ro y2]) (fun y1 y2 => Q8 [vl y1, vi y2]) a1 a2 a3 a4 (fun x1 => K (vb x1) []) := by kernel_rfl
theorem Gok : (G laws_szWeave.Q laws_toWeave.Q spec_Merged.Q impl_Merged.Q laws_eqStringS.Q laws_eqWeave.Q laws_markWeave_saeda.Q laws_markStringS_s1401.Q laws_heldStringS.Q).ok Try.prog := ⟨(by
    intro ρ f args K r h
    rcases sel_cases h with ⟨hb, h⟩ | ⟨-, h⟩
    · obtain rfl := beq_nat hb
      exact qEntry_ok laws_szWeave.ac h
    rcases sel_cases h with ⟨hb, h⟩ | ⟨-, h⟩
    · obtain rfl := beq_nat hb
      exact qEntry_ok laws_toWeave.ac h
    rcases sel_cases h with ⟨hb, h⟩ | ⟨-, h⟩
    · obtain rfl := beq_nat hb
      exact qEntry_ok spec_Merged.ac h
    rcases sel_cases h with ⟨hb, h⟩ | ⟨-, h⟩
    · obtain rfl := beq_nat hb
      exact qEntry_ok impl_Merged.ac h
    rcases sel_cases h with ⟨hb, h⟩ | ⟨-, h⟩
    · obtain rfl := beq_nat hb
      exact qEntry_ok laws_eqStringS.ac h
    rcases sel_cases h with ⟨hb, h⟩ | ⟨-, h⟩
    · obtain rfl := beq_nat hb
      exact qEntry_ok laws_eqWeave.ac h
    rcases sel_cases h with ⟨hb, h⟩ | ⟨-, h⟩
    · obtain rfl := beq_nat hb
      exact qEntry_ok laws_heldStringS.ac h
    cases h),
  (by
    intro ρ f args K
    simp only [G]
    cases Nat.beq f 19 with
    | true => exact qEntry_nat args K
    | false =>
    simp only [sel]
    cases Nat.beq f 21 with
    | true => exact qEntry_nat args K
    | false =>
    simp only [sel]
    cases Nat.beq f 33 with
    | true => exact qEntry_nat args K
    | false =>
    simp only [sel]
    cases Nat.beq f 34 with
    | true => exact qEntry_nat args K
    | false =>
    simp only [sel]
    cases Nat.beq f 30 with
    | true => exact qEntry_nat args K
    | false =>
    simp only [sel]
    cases Nat.beq f 24 with
    | true => exact qEntry_nat args K
    | false =>
    simp only [sel]
    cases Nat.beq f 32 with
    | true => exact qEntry_nat args K
    | false =>
    simp only [sel]
    rfl),
  (by
    intro ρ f st caps args dst K r h
    rcases sel_cases h with ⟨hb, h⟩ | ⟨-, h⟩
    · obtain rfl := beq_nat hb
      exact callE_ok (fun h => by cases h) laws_markWeave_saeda.ac h
    rcases sel_cases h with ⟨hb, h⟩ | ⟨-, h⟩
    · obtain rfl := beq_nat hb
      exact callE_ok (fun h => by cases h) laws_markStringS_s1401.ac h
    cases h)⟩
theorem hm : Try.prog.follows .mixedOrders = true := by kernel_rfl
theorem e : atomsL [] 0 (bodyOf Try.f6) = [] := by kernel_rfl
theorem acc (t : Vec (Vec Int) × (Vec (ByteArray × Int × Int × (Vec Int))) × Int × Int) (x : Bool) (h : F t.1 t.2.1 t.2.2.1 t.2.2.2 = some x) : ACc Try.prog 6 (encA t) [] true [] fun rv obs => (rv, obs) = encR x := by
  refine fun_okc (L := (L)) (jn := []) (cmds := []) (ks := []) (hin := []) (fn := Try.f6) (body := (bodyOf Try.f6)) Gok hm Try.func6 (by kernel_rfl) (by kernel_rfl) (by rw [e]; exact Lor.ok_nil _ _) ?_ h
  refine (main laws_szWeave.Q laws_toWeave.Q spec_Merged.Q impl_Merged.Q laws_eqStringS.Q laws_eqWeave.Q laws_markWeave_saeda.Q laws_markStringS_s1401.Q laws_heldStringS.Q _ t.1 t.2.1 t.2.2.1 t.2.2.2).trans ?_
  rw [laws_szWeave.wrap, laws_toWeave.wrap, spec_Merged.wrap, impl_Merged.wrap, laws_eqStringS.wrap, laws_eqWeave.wrap, laws_markWeave_saeda.wrap, laws_markStringS_s1401.wrap, laws_heldStringS.wrap]
  refine congrArg (fun K => B laws_szWeave.F laws_toWeave.F spec_Merged.F impl_Merged.F laws_eqStringS.F laws_eqWeave.F laws_markWeave_saeda.F laws_markStringS_s1401.F laws_heldStringS.F t.1 t.2.1 t.2.2.1 t.2.2.2 K) ?_
  funext x1
  exact ofC_enc encRI some (x1)
theorem ac0 (t : Vec (Vec Int) × (Vec (ByteArray × Int × Int × (Vec Int))) × Int × Int) (x : Bool) (h : F t.1 t.2.1 t.2.2.1 t.2.2.2 = some x) : AC Try.prog 6 (encA t) [] true [] fun rv obs => (rv, obs) = encR x := ACc.ac (body := bodyOf Try.f6) Try.func6 (by kernel_rfl) (by kernel_rfl) (acc t x h)
theorem ac (args : List AV) (x : Bool) (h : Q args = some x) : AC Try.prog 6 args [] false [] fun rv obs => (rv, obs) = encR x := by
  obtain ⟨t, rfl, h2⟩ := ofC_some h
  refine (ac0 t x h2).flat fun rv obs e => ?_
  obtain rfl : rv = (encR x).1 := congrArg Prod.fst e
  obtain rfl : obs = (encR x).2 := congrArg Prod.snd e
  refine ⟨by simp [encR, AV.Flat, K.Flat, C.Flat], ?_⟩
  simp [encR]
end laws_FnExactMerged
end Go.Al
