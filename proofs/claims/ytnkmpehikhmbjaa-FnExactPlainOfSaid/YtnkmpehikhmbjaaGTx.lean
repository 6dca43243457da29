import Derived.Test.YtnkmpehikhmbjaaAlE
import Derived.Test.YtnkmpehikhmbjaaSC
import Derived.Test.YtnkmpehikhmbjaaGWv
import Derived.Test.YtnkmpehikhmbjaaGCmp
set_option linter.unusedVariables false
set_option linter.unusedSimpArgs false
set_option linter.constructorNameAsVariable false
set_option linter.unusedSectionVars false
set_option maxRecDepth 100000
namespace Go.Al
open Go.Proofs

/-! loop.example/g00073/spec.l06Lines -/
namespace spec_l06Lines
noncomputable def B0 {ρ : Type} (v1 : Vec Int) (v2 : Int) (v3 : Vec (Vec Int)) (v4 : Vec (ByteArray × Int × Int × (Vec Int))) (v5 : Vec ByteArray) (W : (Vec Int) → Int → (Vec (Vec Int)) → (Vec (ByteArray × Int × Int × (Vec Int))) → (Vec ByteArray) → Option ρ) (K0 : (Vec ByteArray) → Option ρ) : Option ρ :=
  sel (decide (v2 < (v1.n : Int))) (chk (decide (0 ≤ v2 ∧ v2 < (v1.n : Int))) (chk (decide (0 ≤ (v1.g v2.toNat) ∧ (v1.g v2.toNat) < (v4.n : Int))) (chk (decide ((v5.n + (Vec.lit [(v4.g (v1.g v2.toNat).toNat).1] : Vec ByteArray).n) * 17 ≤ maxN)) (W v1 (wr (v2 + (1 : Int))) v3 v4 (Vec.app v5 (Vec.lit [(v4.g (v1.g v2.toNat).toNat).1] : Vec ByteArray)))))) (K0 v5)
noncomputable def F0 {ρ : Type} : Nat → (Vec Int) → Int → (Vec (Vec Int)) → (Vec (ByteArray × Int × Int × (Vec Int))) → (Vec ByteArray) → ((Vec ByteArray) → Option ρ) → Option ρ
  | 0, _, _, _, _, _, _ => none
  | k + 1, v1, v2, v3, v4, v5, K0 => B0 v1 v2 v3 v4 v5 (fun v1' v2' v3' v4' v5' => F0 k v1' v2' v3' v4' v5' K0) K0
noncomputable def B {ρ : Type} (L0 : (Vec Int) → Int → (Vec (Vec Int)) → (Vec (ByteArray × Int × Int × (Vec Int))) → (Vec ByteArray) → ((Vec ByteArray) → Option ρ) → Option ρ) (a1 : Vec (Vec Int)) (a2 : Vec (ByteArray × Int × Int × (Vec Int))) (a3 : Vec Int) (K : (Vec ByteArray) → Option ρ) : Option ρ :=
  L0 a3 (0 : Int) a1 a2 (Vec.nil : Vec ByteArray) (fun e01 => K e01)
noncomputable def F (a1 : Vec (Vec Int)) (a2 : Vec (ByteArray × Int × Int × (Vec Int))) (a3 : Vec Int) : Option (Vec ByteArray) := B (F0 fuelN) a1 a2 a3 (fun x1 => some (x1))
def encA (t : Vec (Vec Int) × (Vec (ByteArray × Int × Int × (Vec Int))) × Vec Int) : List AV := [.a [cl t.1, cl t.2.1], vl t.2.2]
def encR (x : Vec ByteArray) : AV × List Ob := (.c (.h 0), [ro x])
theorem encAI : ∀ a b, encA a = encA b → a = b := by
  intro a b h
  obtain ⟨a0, a1, a2⟩ := a
  obtain ⟨b0, b1, b2⟩ := b
  simp [encA, encRw_iff] at h
  simp_all
theorem encRI : ∀ a b, encR a = encR b → a = b := by
  intro a b h
  simp [encR, encRw_iff] at h
  simp_all
noncomputable def Q (args : List AV) : Option (Vec ByteArray) := ofC encA (fun t => F t.1 t.2.1 t.2.2) args
theorem wrap : (fun (y1 : Vec (Vec Int)) (y2 : Vec (ByteArray × Int × Int × (Vec Int))) (y3 : Vec Int) => Q [.a [cl y1, cl y2], vl y3]) = F := by
  funext y1 y2 y3
  exact ofC_enc encAI _ (y1, y2, y3)
noncomputable def G : Orc := ⟨fun f => 9, fun ρ f args K => Option.none, noE, false⟩
noncomputable def L (W0 : (ρ : Type) → List AV → List Ob → ((Vec ByteArray) → Option ρ) → Option ρ) : Lor := fun ρ j st K => sel (Nat.beq j 0) (cutO Try.prog 27 [1, 2, 5, 6] 0 [] [.ad (.s 5) 51] st fun avs obs => W0 ρ avs obs (fun z1 => K (.exit 0) (mkS 27 [5] [.c (.h 0)] [ro z1] []))) (Option.none)
noncomputable def c0 : Code := loopC (atomN [] 0 (bodyOf Try.f77) 0)
def ct0 : Cut := ⟨[1, 2, 5, 6], [.ad (.s 5) 51]⟩
def lv0 : Exit → Cut
  | .exit 0 => ⟨[5], []⟩
  | _ => ⟨[], []⟩
theorem step0 (W0) {ρ : Type} (K : Exit → St → Option ρ) (W : List AV → List Ob → Option ρ) (v1 v2 v3 v4 v5) : exC Try.prog (G) (L W0) [] 1 c0 (mkS 27 [1, 2, 5, 6] [vl v1, .c (.p 0 0), .c (.h 1), vi v2] [.box [cl v3, cl v4], ro v5] []) (bodyK Try.prog 27 0 [] ct0 W lv0 K) =
    B0 v1 v2 v3 v4 v5 (fun u1 u2 u3 u4 u5 => W [vl u1, .c (.p 0 0), .c (.h 1), vi u2] [.box [cl u3, cl u4], ro u5]) (fun z1 => K (.exit 0) (mkS 27 [5] [.c (.h 0)] [ro z1] [])) := by kernel_rfl
def enc0 (t : Vec Int × Int × Vec (Vec Int) × (Vec (ByteArray × Int × Int × (Vec Int))) × Vec ByteArray) : List AV × List Ob := ([vl t.1, .c (.p 0 0), .c (.h 1), vi t.2.1], [.box [cl t.2.2.1, cl t.2.2.2.1], ro t.2.2.2.2])
theorem enc0I : ∀ a b, enc0 a = enc0 b → a = b := by
  intro a b h
  obtain ⟨a0, a1, a2, a3, a4⟩ := a
  obtain ⟨b0, b1, b2, b3, b4⟩ := b
  simp [enc0, encRw_iff] at h
  simp_all
noncomputable def V0 : (ρ : Type) → List AV → List Ob → ((Vec ByteArray) → Option ρ) → Option ρ := fun ρ avs obs k0 => ofC enc0 (fun t => F0 fuelN t.1 t.2.1 t.2.2.1 t.2.2.2.1 t.2.2.2.2 k0) (avs, obs)
theorem V0_enc (ρ : Type) : (fun w1 w2 w3 w4 w5 k0 => V0 ρ [vl w1, .c (.p 0 0), .c (.h 1), vi w2] [.box [cl w3, cl w4], ro w5] k0) = F0 fuelN := by
  funext w1 w2 w3 w4 w5 k0
  exact ofC_enc enc0I _ (w1, w2, w3, w4, w5)
theorem main (W0) {ρ : Type} (K : AV → List Ob → Option ρ) (a1 a2 a3) : exC Try.prog (G) (L W0) [] 0 (bodyOf Try.f77) (entry 27 [.a [cl a1, cl a2], vl a3] [] []) (finO Try.prog Try.f77.results.toList 0 [] [] K) =
    B (fun w1 w2 w3 w4 w5 k0 => W0 ρ [vl w1, .c (.p 0 0), .c (.h 1), vi w2] [.box [cl w3, cl w4], ro w5] k0) a1 a2 a3 (fun x1 => K (.c (.h 0)) [ro x1]) := by kernel_rfl
theorem Gok : (G).ok Try.prog := ⟨(fun ρ f args K r h => (by cases h)),
  (fun ρ f args K => rfl),
  (fun ρ f st caps args dst K r h => (by cases h))⟩
theorem hm : Try.prog.follows .mixedOrders = true := by kernel_rfl
theorem e0 : atomsL [] 1 c0 = [] := by kernel_rfl
theorem ok0 (ρ : Type) (st : St) (K : Exit → St → Option ρ) (r : ρ) (h : (L V0) ρ 0 st K = some r) : AW Try.prog (.loop c0) st fun e st' => K e st' = some r := by
  refine loop_ok (ct := ct0) (lv := lv0) (n := 27) (m := 0) (ks := []) (j := 0) (jn := []) (L := (L V0)) Gok hm (by rw [e0]; exact Lor.ok_nil _ _) enc0I (fun k t => F0 k t.1 t.2.1 t.2.2.1 t.2.2.2.1 t.2.2.2.2 (fun z1 => K (.exit 0) (mkS 27 [5] [.c (.h 0)] [ro z1] []))) (fun t => rfl) (fun k t => ?_) (fun _ => fuelN) h
  refine (step0 V0 K _ t.1 t.2.1 t.2.2.1 t.2.2.2.1 t.2.2.2.2).trans ?_
  refine congrArg (fun W => B0 t.1 t.2.1 t.2.2.1 t.2.2.2.1 t.2.2.2.2 W (fun z1 => K (.exit 0) (mkS 27 [5] [.c (.h 0)] [ro z1] []))) ?_
  funext u1 u2 u3 u4 u5
  exact ofC_enc enc0I _ (u1, u2, u3, u4, u5)
theorem e : atomsL [] 0 (bodyOf Try.f77) = [(0, 0, .loop c0)] := by kernel_rfl
theorem acc (t : Vec (Vec Int) × (Vec (ByteArray × Int × Int × (Vec Int))) × Vec Int) (x : Vec ByteArray) (h : F t.1 t.2.1 t.2.2 = some x) : ACc Try.prog 77 (encA t) [] true [] fun rv obs => (rv, obs) = encR x := by
  refine fun_okc (L := (L V0)) (jn := []) (cmds := []) (ks := []) (hin := []) (fn := Try.f77) (body := (bodyOf Try.f77)) Gok hm Try.func77 (by kernel_rfl) (by kernel_rfl) (by rw [e]; exact Lor.ok_cons ok0 (Lor.ok_nil _ _)) ?_ h
  refine (main V0 _ t.1 t.2.1 t.2.2).trans ?_
  rw [V0_enc]
  refine congrArg (fun K => B (F0 fuelN) t.1 t.2.1 t.2.2 K) ?_
  funext x1
  exact ofC_enc encRI some (x1)
theorem ac0 (t : Vec (Vec Int) × (Vec (ByteArray × Int × Int × (Vec Int))) × Vec Int) (x : Vec ByteArray) (h : F t.1 t.2.1 t.2.2 = some x) : AC Try.prog 77 (encA t) [] true [] fun rv obs => (rv, obs) = encR x := ACc.ac (body := bodyOf Try.f77) Try.func77 (by kernel_rfl) (by kernel_rfl) (acc t x h)
theorem ac (args : List AV) (x : Vec ByteArray) (h : Q args = some x) : AC Try.prog 77 args [] false [] fun rv obs => (rv, obs) = encR x := by
  obtain ⟨t, rfl, h2⟩ := ofC_some h
  refine (ac0 t x h2).flat fun rv obs e => ?_
  obtain rfl : rv = (encR x).1 := congrArg Prod.fst e
  obtain rfl : obs = (encR x).2 := congrArg Prod.snd e
  refine ⟨by simp [encR, AV.Flat, K.Flat, C.Flat], ?_⟩
  intro o ho
  simp only [encR, List.mem_cons, List.not_mem_nil, or_false] at ho
  subst ho
  exact flat_rw rfl _
end spec_l06Lines
/-! (*loop.example/g00073/impl.Weave).linesAt -/
namespace impl_Weave_linesAt
noncomputable def B0 {ρ : Type} (v1 : Vec (Vec Int)) (v2 : Vec (ByteArray × Int × Int × (Vec Int))) (v3 : Vec Int) (v4 : Int) (v5 : Int) (v6 : Vec ByteArray) (W : (Vec (Vec Int)) → (Vec (ByteArray × Int × Int × (Vec Int))) → (Vec Int) → Int → Int → (Vec ByteArray) → Option ρ) (K0 : (Vec ByteArray) → Option ρ) : Option ρ :=
  sel (decide (v5 < v4)) (chk (decide (0 ≤ v5 ∧ v5 < (v3.n : Int))) (chk (decide (0 ≤ (v3.g v5.toNat) ∧ (v3.g v5.toNat) < (v2.n : Int))) (chk (decide ((v6.n + (Vec.lit [(v2.g (v3.g v5.toNat).toNat).1] : Vec ByteArray).n) * 17 ≤ maxN)) (W v1 v2 v3 v4 (wr (v5 + (1 : Int))) (Vec.app v6 (Vec.lit [(v2.g (v3.g v5.toNat).toNat).1] : Vec ByteArray)))))) (K0 v6)
noncomputable def F0 {ρ : Type} : Nat → (Vec (Vec Int)) → (Vec (ByteArray × Int × Int × (Vec Int))) → (Vec Int) → Int → Int → (Vec ByteArray) → ((Vec ByteArray) → Option ρ) → Option ρ
  | 0, _, _, _, _, _, _, _ => none
  | k + 1, v1, v2, v3, v4, v5, v6, K0 => B0 v1 v2 v3 v4 v5 v6 (fun v1' v2' v3' v4' v5' v6' => F0 k v1' v2' v3' v4' v5' v6' K0) K0
noncomputable def B {ρ : Type} (L0 : (Vec (Vec Int)) → (Vec (ByteArray × Int × Int × (Vec Int))) → (Vec Int) → Int → Int → (Vec ByteArray) → ((Vec ByteArray) → Option ρ) → Option ρ) (a1 : Vec (Vec Int)) (a2 : Vec (ByteArray × Int × Int × (Vec Int))) (a3 : Vec Int) (K : (Vec ByteArray) → Option ρ) : Option ρ :=
  L0 a1 a2 a3 (a3.n : Int) (0 : Int) (Vec.nil : Vec ByteArray) (fun e01 => K e01)
noncomputable def F (a1 : Vec (Vec Int)) (a2 : Vec (ByteArray × Int × Int × (Vec Int))) (a3 : Vec Int) : Option (Vec ByteArray) := B (F0 fuelN) a1 a2 a3 (fun x1 => some (x1))
def encA (t : Vec (Vec Int) × (Vec (ByteArray × Int × Int × (Vec Int))) × Vec Int) : List AV := [.ra [nl t.1, nl t.2.1], vl t.2.2]
def encR (x : Vec ByteArray) : AV × List Ob := (.c (.h 0), [ro x])
theorem encAI : ∀ a b, encA a = encA b → a = b := by
  intro a b h
  obtain ⟨a0, a1, a2⟩ := a
  obtain ⟨b0, b1, b2⟩ := b
  simp [encA, encRw_iff] at h
  simp_all
theorem encRI : ∀ a b, encR a = encR b → a = b := by
  intro a b h
  simp [encR, encRw_iff] at h
  simp_all
noncomputable def Q (args : List AV) : Option (Vec ByteArray) := ofC encA (fun t => F t.1 t.2.1 t.2.2) args
theorem wrap : (fun (y1 : Vec (Vec Int)) (y2 : Vec (ByteArray × Int × Int × (Vec Int))) (y3 : Vec Int) => Q [.ra [nl y1, nl y2], vl y3]) = F := by
  funext y1 y2 y3
  exact ofC_enc encAI _ (y1, y2, y3)
noncomputable def G : Orc := ⟨fun f => 9, fun ρ f args K => Option.none, noE, false⟩
noncomputable def L (W0 : (ρ : Type) → List AV → List Ob → ((Vec ByteArray) → Option ρ) → Option ρ) : Lor := fun ρ j st K => sel (Nat.beq j 0) (cutO Try.prog 27 [0, 5, 8, 9, 10] 0 [] [.ad (.s 5) 51] st fun avs obs => W0 ρ avs obs (fun z1 => K (.exit 0) (mkS 27 [5] [.c (.h 0)] [ro z1] []))) (Option.none)
noncomputable def c0 : Code := loopC (atomN [] 0 (bodyOf Try.f142) 0)
def ct0 : Cut := ⟨[0, 5, 8, 9, 10], [.ad (.s 5) 51]⟩
def lv0 : Exit → Cut
  | .exit 0 => ⟨[5], []⟩
  | _ => ⟨[], []⟩
theorem step0 (W0) {ρ : Type} (K : Exit → St → Option ρ) (W : List AV → List Ob → Option ρ) (v1 v2 v3 v4 v5 v6) : exC Try.prog (G) (L W0) [] 1 c0 (mkS 27 [0, 5, 8, 9, 10] [.ra [nl v1, nl v2], .c (.h 0), vl v3, vi v4, vi v5] [ro v6] []) (bodyK Try.prog 27 0 [] ct0 W lv0 K) =
    B0 v1 v2 v3 v4 v5 v6 (fun u1 u2 u3 u4 u5 u6 => W [.ra [nl u1, nl u2], .c (.h 0), vl u3, vi u4, vi u5] [ro u6]) (fun z1 => K (.exit 0) (mkS 27 [5] [.c (.h 0)] [ro z1] [])) := by kernel_rfl
def enc0 (t : Vec (Vec Int) × (Vec (ByteArray × Int × Int × (Vec Int))) × Vec Int × Int × Int × Vec ByteArray) : List AV × List Ob := ([.ra [nl t.1, nl t.2.1], .c (.h 0), vl t.2.2.1, vi t.2.2.2.1, vi t.2.2.2.2.1], [ro t.2.2.2.2.2])
theorem enc0I : ∀ a b, enc0 a = enc0 b → a = b := by
  intro a b h
  obtain ⟨a0, a1, a2, a3, a4, a5⟩ := a
  obtain ⟨b0, b1, b2, b3, b4, b5⟩ := b
  simp [enc0, encRw_iff] at h
  simp_all
noncomputable def V0 : (ρ : Type) → List AV → List Ob → ((Vec ByteArray) → Option ρ) → Option ρ := fun ρ avs obs k0 => ofC enc0 (fun t => F0 fuelN t.1 t.2.1 t.2.2.1 t.2.2.2.1 t.2.2.2.2.1 t.2.2.2.2.2 k0) (avs, obs)
theorem V0_enc (ρ : Type) : (fun w1 w2 w3 w4 w5 w6 k0 => V0 ρ [.ra [nl w1, nl w2], .c (.h 0), vl w3, vi w4, vi w5] [ro w6] k0) = F0 fuelN := by
  funext w1 w2 w3 w4 w5 w6 k0
  exact ofC_enc enc0I _ (w1, w2, w3, w4, w5, w6)
theorem main (W0) {ρ : Type} (K : AV → List Ob → Option ρ) (a1 a2 a3) : exC Try.prog (G) (L W0) [] 0 (bodyOf Try.f142) (entry 27 [.ra [nl a1, nl a2], vl a3] [] []) (finO Try.prog Try.f142.results.toList 0 [] [] K) =
    B (fun w1 w2 w3 w4 w5 w6 k0 => W0 ρ [.ra [nl w1, nl w2], .c (.h 0), vl w3, vi w4, vi w5] [ro w6] k0) a1 a2 a3 (fun x1 => K (.c (.h 0)) [ro x1]) := by kernel_rfl
theorem Gok : (G).ok Try.prog := ⟨(fun ρ f args K r h => (by cases h)),
  (fun ρ f args K => rfl),
  (fun ρ f st caps args dst K r h => (by cases h))⟩
theorem hm : Try.prog.follows .mixedOrders = true := by kernel_rfl
theorem e0 : atomsL [] 1 c0 = [] := by kernel_rfl
theorem ok0 (ρ : Type) (st : St) (K : Exit → St → Option ρ) (r : ρ) (h : (L V0) ρ 0 st K = some r) : AW Try.prog (.loop c0) st fun e st' => K e st' = some r := by
  refine loop_ok (ct := ct0) (lv := lv0) (n := 27) (m := 0) (ks := []) (j := 0) (jn := []) (L := (L V0)) Gok hm (by rw [e0]; exact Lor.ok_nil _ _) enc0I (fun k t => F0 k t.1 t.2.1 t.2.2.1 t.2.2.2.1 t.2.2.2.2.1 t.2.2.2.2.2 (fun z1 => K (.exit 0) (mkS 27 [5] [.c (.h 0)] [ro z1] []))) (fun t => rfl) (fun k t => ?_) (fun _ => fuelN) h
  refine (step0 V0 K _ t.1 t.2.1 t.2.2.1 t.2.2.2.1 t.2.2.2.2.1 t.2.2.2.2.2).trans ?_
  refine congrArg (fun W => B0 t.1 t.2.1 t.2.2.1 t.2.2.2.1 t.2.2.2.2.1 t.2.2.2.2.2 W (fun z1 => K (.exit 0) (mkS 27 [5] [.c (.h 0)] [ro z1] []))) ?_
  funext u1 u2 u3 u4 u5 u6
  exact ofC_enc enc0I _ (u1, u2, u3, u4, u5, u6)
theorem e : atomsL [] 0 (bodyOf Try.f142) = [(0, 0, .loop c0)] := by kernel_rfl
theorem acc (t : Vec (Vec Int) × (Vec (ByteArray × Int × Int × (Vec Int))) × Vec Int) (x : Vec ByteArray) (h : F t.1 t.2.1 t.2.2 = some x) : ACc Try.prog 142 (encA t) [] true [] fun rv obs => (rv, obs) = encR x := by
  refine fun_okc (L := (L V0)) (jn := []) (cmds := []) (ks := []) (hin := []) (fn := Try.f142) (body := (bodyOf Try.f142)) Gok hm Try.func142 (by kernel_rfl) (by kernel_rfl) (by rw [e]; exact Lor.ok_cons ok0 (Lor.ok_nil _ _)) ?_ h
  refine (main V0 _ t.1 t.2.1 t.2.2).trans ?_
  rw [V0_enc]
  refine congrArg (fun K => B (F0 fuelN) t.1 t.2.1 t.2.2 K) ?_
  funext x1
  exact ofC_enc encRI some (x1)
theorem ac0 (t : Vec (Vec Int) × (Vec (ByteArray × Int × Int × (Vec Int))) × Vec Int) (x : Vec ByteArray) (h : F t.1 t.2.1 t.2.2 = some x) : AC Try.prog 142 (encA t) [] true [] fun rv obs => (rv, obs) = encR x := ACc.ac (body := bodyOf Try.f142) Try.func142 (by kernel_rfl) (by kernel_rfl) (acc t x h)
theorem ac (args : List AV) (x : Vec ByteArray) (h : Q args = some x) : AC Try.prog 142 args [] false [] fun rv obs => (rv, obs) = encR x := by
  obtain ⟨t, rfl, h2⟩ := ofC_some h
  refine (ac0 t x h2).flat fun rv obs e => ?_
  obtain rfl : rv = (encR x).1 := congrArg Prod.fst e
  obtain rfl : obs = (encR x).2 := congrArg Prod.snd e
  refine ⟨by simp [encR, AV.Flat, K.Flat, C.Flat], ?_⟩
  intro o ho
  simp only [encR, List.mem_cons, List.not_mem_nil, or_false] at ho
  subst ho
  exact flat_rw rfl _
end impl_Weave_linesAt
/-! (*loop.example/g00073/impl.Weave).extract -/
namespace impl_Weave_extract
noncomputable def B {ρ : Type} (C0 : (Vec (Vec Int)) → Option (Vec (IK .u64))) (C1 : (Vec (Vec Int)) → (Vec (ByteArray × Int × Int × (Vec Int))) → Int → Option (Vec Int)) (C2 : (Vec (Vec Int)) → (Vec (ByteArray × Int × Int × (Vec Int))) → (Vec Int) → Option (Vec ByteArray)) (a1 : Vec (Vec Int)) (a2 : Vec (ByteArray × Int × Int × (Vec Int))) (a3 : Int) (K : (Vec ByteArray) → Option ρ) : Option ρ :=
  (C0 a1).bind fun r1 => chk (decide (0 ≤ a3 ∧ a3 < (r1.n : Int))) (chk (decide (a3.toNat < r1.n)) ((C1 a1 a2 ((r1.g a3.toNat).v)).bind fun r2 => (C2 a1 a2 r2).bind fun r3 => K r3))
noncomputable def F (a1 : Vec (Vec Int)) (a2 : Vec (ByteArray × Int × Int × (Vec Int))) (a3 : Int) : Option (Vec ByteArray) := B impl_closures.F impl_Weave_liveIn.F impl_Weave_linesAt.F a1 a2 a3 (fun x1 => some (x1))
def encA (t : Vec (Vec Int) × (Vec (ByteArray × Int × Int × (Vec Int))) × Int) : List AV := [.ra [nl t.1, nl t.2.1], vi t.2.2]
def encR (x : Vec ByteArray) : AV × List Ob := (.c (.h 0), [ro x])
theorem encAI : ∀ a b, encA a = encA b → a = b := by
  intro a b h
  obtain ⟨a0, a1, a2⟩ := a
  obtain ⟨b0, b1, b2⟩ := b
  simp [encA, encRw_iff] at h
  simp_all
theorem encRI : ∀ a b, encR a = encR b → a = b := by
  intro a b h
  simp [encR, encRw_iff] at h
  simp_all
noncomputable def Q (args : List AV) : Option (Vec ByteArray) := ofC encA (fun t => F t.1 t.2.1 t.2.2) args
theorem wrap : (fun (y1 : Vec (Vec Int)) (y2 : Vec (ByteArray × Int × Int × (Vec Int))) (y3 : Int) => Q [.ra [nl y1, nl y2], vi y3]) = F := by
  funext y1 y2 y3
  exact ofC_enc encAI _ (y1, y2, y3)
noncomputable def G (Q0 : List AV → Option (Vec (IK .u64))) (Q1 : List AV → Option (Vec Int)) (Q2 : List AV → Option (Vec ByteArray)) : Orc := ⟨fun f => sel (Nat.beq f 117) 0 (sel (Nat.beq f 139) 0 (sel (Nat.beq f 142) 0 (9))), fun ρ f args K => sel (Nat.beq f 117) (qEntry impl_closures.encR Q0 args K) (sel (Nat.beq f 139) (qEntry impl_Weave_liveIn.encR Q1 args K) (sel (Nat.beq f 142) (qEntry impl_Weave_linesAt.encR Q2 args K) (Option.none))), noE, false⟩
noncomputable def L : Lor := fun ρ j st K => Option.none
theorem main (Q0 Q1 Q2) {ρ : Type} (K : AV → List Ob → Option ρ) (a1 a2 a3) : exC Try.prog (G Q0 Q1 Q2) (L) [] 0 (bodyOf Try.f120) (entry 17 [.ra [nl a1, nl a2], vi a3] [] []) (finO Try.prog Try.f120.results.toList 0 [] [] K) =
    B (fun y1 => Q0 [vl y1]) (fun y1 y2 y3 => Q1 [.ra [nl y1, nl y2], vk .u64 y3]) (fun y1 y2 y3 => Q2 [.ra [nl y1, nl y2], vl y3]) a1 a2 a3 (fun x1 => K (.c (.h 0)) [ro x1]) := by kernel_rfl
theorem Gok : (G impl_closures.Q impl_Weave_liveIn.Q impl_Weave_linesAt.Q).ok Try.prog := ⟨(by
    intro ρ f args K r h
    rcases sel_cases h with ⟨hb, h⟩ | ⟨-, h⟩
    · obtain rfl := beq_nat hb
      exact qEntry_ok impl_closures.ac h
    rcases sel_cases h with ⟨hb, h⟩ | ⟨-, h⟩
    · obtain rfl := beq_nat hb
      exact qEntry_ok impl_Weave_liveIn.ac h
    rcases sel_cases h with ⟨hb, h⟩ | ⟨-, h⟩
    · obtain rfl := beq_nat hb
      exact qEntry_ok impl_Weave_linesAt.ac h
    cases h),
  (by
    intro ρ f args K
    simp only [G]
    cases Nat.beq f 117 with
    | true => exact qEntry_nat args K
    | false =>
    simp only [sel]
    cases Nat.beq f 139 with
    | true => exact qEntry_nat args K
    | false =>
    simp only [sel]
    cases Nat.beq f 142 with
    | true => exact qEntry_nat args K
    | false =>
    simp only [sel]
    rfl),
  (fun ρ f st caps args dst K r h => (by cases h))⟩
theorem hm : Try.prog.follows .mixedOrders = true := by kernel_rfl
theorem e : atomsL [] 0 (bodyOf Try.f120) = [] := by kernel_rfl
theorem acc (t : Vec (Vec Int) × (Vec (ByteArray × Int × Int × (Vec Int))) × Int) (x : Vec ByteArray) (h : F t.1 t.2.1 t.2.2 = some x) : ACc Try.prog 120 (encA t) [] true [] fun rv obs => (rv, obs) = encR x := by
  refine fun_okc (L := (L)) (jn := []) (cmds := []) (ks := []) (hin := []) (fn := Try.f120) (body := (bodyOf Try.f120)) Gok hm Try.func120 (by kernel_rfl) (by kernel_rfl) (by rw [e]; exact Lor.ok_nil _ _) ?_ h
  refine (main impl_closures.Q impl_Weave_liveIn.Q impl_Weave_linesAt.Q _ t.1 t.2.1 t.2.2).trans ?_
  rw [impl_closures.wrap, impl_Weave_liveIn.wrap, impl_Weave_linesAt.wrap]
  refine congrArg (fun K => B impl_closures.F impl_Weave_liveIn.F impl_Weave_linesAt.F t.1 t.2.1 t.2.2 K) ?_
  funext x1
  exact ofC_enc encRI some (x1)
theorem ac0 (t : Vec (Vec Int) × (Vec (ByteArray × Int × Int × (Vec Int))) × Int) (x : Vec ByteArray) (h : F t.1 t.2.1 t.2.2 = some x) : AC Try.prog 120 (encA t) [] true [] fun rv obs => (rv, obs) = encR x := ACc.ac (body := bodyOf Try.f120) Try.func120 (by kernel_rfl) (by kernel_rfl) (acc t x h)
theorem ac (args : List AV) (x : Vec ByteArray) (h : Q args = some x) : AC Try.prog 120 args [] false [] fun rv obs => (rv, obs) = encR x := by
  obtain ⟨t, rfl, h2⟩ := ofC_some h
  refine (ac0 t x h2).flat fun rv obs e => ?_
  obtain rfl : rv = (encR x).1 := congrArg Prod.fst e
  obtain rfl : obs = (encR x).2 := congrArg Prod.snd e
  refine ⟨by simp [encR, AV.Flat, K.Flat, C.Flat], ?_⟩
  intro o ho
  simp only [encR, List.mem_cons, List.not_mem_nil, or_false] at ho
  subst ho
  exact flat_rw rfl _
end impl_Weave_extract
/-! (*loop.example/g00073/impl.Weave).annotate -/
namespace impl_Weave_annotate
noncomputable def B0 {ρ : Type} (C2 : ByteArray → Int → Int → (Vec Int) → Option (Int × Int × ByteArray)) (v1 : Vec (Vec Int)) (v2 : Vec (ByteArray × Int × Int × (Vec Int))) (v3 : Int) (v4 : Int) (v5 : Vec (Int × Int × ByteArray)) (v6 : Vec Int) (W : (Vec (Vec Int)) → (Vec (ByteArray × Int × Int × (Vec Int))) → Int → Int → (Vec (Int × Int × ByteArray)) → (Vec Int) → Option ρ) (K0 : (Vec (Int × Int × ByteArray)) → Option ρ) : Option ρ :=
  sel (decide (v4 < v3)) (chk (decide (0 ≤ v4 ∧ v4 < (v6.n : Int))) (chk (decide (v4.toNat < v6.n)) (chk (decide (0 ≤ (v6.g v4.toNat) ∧ (v6.g v4.toNat) < (v2.n : Int))) ((C2 ((v2.g (v6.g v4.toNat).toNat).1) ((v2.g (v6.g v4.toNat).toNat).2.1) ((v2.g (v6.g v4.toNat).toNat).2.2.1) ((v2.g (v6.g v4.toNat).toNat).2.2.2)).bind fun r3 => chk (decide ((v5.n + (Vec.lit [(r3.1, r3.2.1, r3.2.2)] : Vec (Int × Int × ByteArray)).n) * 33 ≤ maxN)) (W v1 v2 v3 (wr (v4 + (1 : Int))) (Vec.app v5 (Vec.lit [(r3.1, r3.2.1, r3.2.2)] : Vec (Int × Int × ByteArray))) v6))))) (K0 v5)
noncomputable def F0 {ρ : Type} : Nat → (Vec (Vec Int)) → (Vec (ByteArray × Int × Int × (Vec Int))) → Int → Int → (Vec (Int × Int × ByteArray)) → (Vec Int) → ((Vec (Int × Int × ByteArray)) → Option ρ) → Option ρ
  | 0, _, _, _, _, _, _, _ => none
  | k + 1, v1, v2, v3, v4, v5, v6, K0 => B0 impl_Body_note.F v1 v2 v3 v4 v5 v6 (fun v1' v2' v3' v4' v5' v6' => F0 k v1' v2' v3' v4' v5' v6' K0) K0
noncomputable def B {ρ : Type} (C0 : (Vec (Vec Int)) → Option (Vec (IK .u64))) (C1 : (Vec (Vec Int)) → (Vec (ByteArray × Int × Int × (Vec Int))) → Int → Option (Vec Int)) (L0 : (Vec (Vec Int)) → (Vec (ByteArray × Int × Int × (Vec Int))) → Int → Int → (Vec (Int × Int × ByteArray)) → (Vec Int) → ((Vec (Int × Int × ByteArray)) → Option ρ) → Option ρ) (a1 : Vec (Vec Int)) (a2 : Vec (ByteArray × Int × Int × (Vec Int))) (a3 : Int) (K : (Vec (Int × Int × ByteArray)) → Option ρ) : Option ρ :=
  (C0 a1).bind fun r1 => chk (decide (0 ≤ a3 ∧ a3 < (r1.n : Int))) (chk (decide (a3.toNat < r1.n)) ((C1 a1 a2 ((r1.g a3.toNat).v)).bind fun r2 => L0 a1 a2 (r2.n : Int) (0 : Int) (Vec.nil : Vec (Int × Int × ByteArray)) r2 (fun e01 => K e01)))
noncomputable def F (a1 : Vec (Vec Int)) (a2 : Vec (ByteArray × Int × Int × (Vec Int))) (a3 : Int) : Option (Vec (Int × Int × ByteArray)) := B impl_closures.F impl_Weave_liveIn.F (F0 fuelN) a1 a2 a3 (fun x1 => some (x1))
def encA (t : Vec (Vec Int) × (Vec (ByteArray × Int × Int × (Vec Int))) × Int) : List AV := [.ra [nl t.1, nl t.2.1], vi t.2.2]
def encR (x : Vec (Int × Int × ByteArray)) : AV × List Ob := (.c (.h 0), [ro x])
theorem encAI : ∀ a b, encA a = encA b → a = b := by
  intro a b h
  obtain ⟨a0, a1, a2⟩ := a
  obtain ⟨b0, b1, b2⟩ := b
  simp [encA, encRw_iff] at h
  simp_all
theorem encRI : ∀ a b, encR a = encR b → a = b := by
  intro a b h
  simp [encR, encRw_iff] at h
  simp_all
noncomputable def Q (args : List AV) : Option (Vec (Int × Int × ByteArray)) := ofC encA (fun t => F t.1 t.2.1 t.2.2) args
theorem wrap : (fun (y1 : Vec (Vec Int)) (y2 : Vec (ByteArray × Int × Int × (Vec Int))) (y3 : Int) => Q [.ra [nl y1, nl y2], vi y3]) = F := by
  funext y1 y2 y3
  exact ofC_enc encAI _ (y1, y2, y3)
noncomputable def G (Q0 : List AV → Option (Vec (IK .u64))) (Q1 : List AV → Option (Vec Int)) (Q2 : List AV → Option (Int × Int × ByteArray)) : Orc := ⟨fun f => sel (Nat.beq f 117) 0 (sel (Nat.beq f 139) 0 (sel (Nat.beq f 141) 0 (9))), fun ρ f args K => sel (Nat.beq f 117) (qEntry impl_closures.encR Q0 args K) (sel (Nat.beq f 139) (qEntry impl_Weave_liveIn.encR Q1 args K) (sel (Nat.beq f 141) (qEntry impl_Body_note.encR Q2 args K) (Option.none))), noE, false⟩
noncomputable def L (W0 : (ρ : Type) → List AV → List Ob → ((Vec (Int × Int × ByteArray)) → Option ρ) → Option ρ) : Lor := fun ρ j st K => sel (Nat.beq j 0) (cutO Try.prog 36 [0, 5, 17, 18, 19] 0 [] [.ad (.s 5) 154] st fun avs obs => W0 ρ avs obs (fun z1 => K (.exit 0) (mkS 36 [5] [.c (.h 0)] [ro z1] []))) (Option.none)
noncomputable def c0 : Code := loopC (atomN [] 0 (bodyOf Try.f119) 0)
def ct0 : Cut := ⟨[0, 5, 17, 18, 19], [.ad (.s 5) 154]⟩
def lv0 : Exit → Cut
  | .exit 0 => ⟨[5], []⟩
  | _ => ⟨[], []⟩
theorem step0 (Q0 Q1 Q2) (W0) {ρ : Type} (K : Exit → St → Option ρ) (W : List AV → List Ob → Option ρ) (v1 v2 v3 v4 v5 v6) : exC Try.prog (G Q0 Q1 Q2) (L W0) [] 1 c0 (mkS 36 [0, 5, 17, 18, 19] [.ra [nl v1, nl v2], .c (.h 0), .c (.h 1), vi v3, vi v4] [ro v5, ro v6] []) (bodyK Try.prog 36 0 [] ct0 W lv0 K) =
    B0 (fun y1 y2 y3 y4 => Q2 [.a [cs y1, ci y2, ci y3, cl y4]]) v1 v2 v3 v4 v5 v6 (fun u1 u2 u3 u4 u5 u6 => W [.ra [nl u1, nl u2], .c (.h 0), .c (.h 1), vi u3, vi u4] [ro u5, ro u6]) (fun z1 => K (.exit 0) (mkS 36 [5] [.c (.h 0)] [ro z1] [])) := by kernel_rfl
def enc0 (t : Vec (Vec Int) × (Vec (ByteArray × Int × Int × (Vec Int))) × Int × Int × (Vec (Int × Int × ByteArray)) × Vec Int) : List AV × List Ob := ([.ra [nl t.1, nl t.2.1], .c (.h 0), .c (.h 1), vi t.2.2.1, vi t.2.2.2.1], [ro t.2.2.2.2.1, ro t.2.2.2.2.2])
theorem enc0I : ∀ a b, enc0 a = enc0 b → a = b := by
  intro a b h
  obtain ⟨a0, a1, a2, a3, a4, a5⟩ := a
  obtain ⟨b0, b1, b2, b3, b4, b5⟩ := b
  simp [enc0, encRw_iff] at h
  simp_all
noncomputable def V0 : (ρ : Type) → List AV → List Ob → ((Vec (Int × Int × ByteArray)) → Option ρ) → Option ρ := fun ρ avs obs k0 => ofC enc0 (fun t => F0 fuelN t.1 t.2.1 t.2.2.1 t.2.2.2.1 t.2.2.2.2.1 t.2.2.2.2.2 k0) (avs, obs)
theorem V0_enc (ρ : Type) : (fun w1 w2 w3 w4 w5 w6 k0 => V0 ρ [.ra [nl w1, nl w2], .c (.h 0), .c (.h 1), vi w3, vi w4] [ro w5, ro w6] k0) = F0 fuelN := by
  funext w1 w2 w3 w4 w5 w6 k0
  exact ofC_enc enc0I _ (w1, w2, w3, w4, w5, w6)
theorem main (Q0 Q1 Q2) (W0) {ρ : Type} (K : AV → List Ob → Option ρ) (a1 a2 a3) : exC Try.prog (G Q0 Q1 Q2) (L W0) [] 0 (bodyOf Try.f119) (entry 36 [.ra [nl a1, nl a2], vi a3] [] []) (finO Try.prog Try.f119.results.toList 0 [] [] K) =
    B (fun y1 => Q0 [vl y1]) (fun y1 y2 y3 => Q1 [.ra [nl y1, nl y2], vk .u64 y3]) (fun w1 w2 w3 w4 w5 w6 k0 => W0 ρ [.ra [nl w1, nl w2], .c (.h 0), .c (.h 1), vi w3, vi w4] [ro w5, ro w6] k0) a1 a2 a3 (fun x1 => K (.c (.h 0)) [ro x1]) := by kernel_rfl
theorem Gok : (G impl_closures.Q impl_Weave_liveIn.Q impl_Body_note.Q).ok Try.prog := ⟨(by
    intro ρ f args K r h
    rcases sel_cases h with ⟨hb, h⟩ | ⟨-, h⟩
    · obtain rfl := beq_nat hb
      exact qEntry_ok impl_closures.ac h
    rcases sel_cases h with ⟨hb, h⟩ | ⟨-, h⟩
    · obtain rfl := beq_nat hb
      exact qEntry_ok impl_Weave_liveIn.ac h
    rcases sel_cases h with ⟨hb, h⟩ | ⟨-, h⟩
    · obtain rfl := beq_nat hb
      exact qEntry_ok impl_Body_note.ac h
    cases h),
  (by
    intro ρ f args K
    simp only [G]
    cases Nat.beq f 117 with
    | true => exact qEntry_nat args K
    | false =>
    simp only [sel]
    cases Nat.beq f 139 with
    | true => exact qEntry_nat args K
    | false =>
    simp only [sel]
    cases Nat.beq f 141 with
    | true => exact qEntry_nat args K
    | false =>
    simp only [sel]
    rfl),
  (fun ρ f st caps args dst K r h => (by cases h))⟩
theorem hm : Try.prog.follows .mixedOrders = true := by kernel_rfl
theorem e0 : atomsL [] 1 c0 = [] := by kernel_rfl
theorem ok0 (ρ : Type) (st : St) (K : Exit → St → Option ρ) (r : ρ) (h : (L V0) ρ 0 st K = some r) : AW Try.prog (.loop c0) st fun e st' => K e st' = some r := by
  refine loop_ok (ct := ct0) (lv := lv0) (n := 36) (m := 0) (ks := []) (j := 0) (jn := []) (L := (L V0)) Gok hm (by rw [e0]; exact Lor.ok_nil _ _) enc0I (fun k t => F0 k t.1 t.2.1 t.2.2.1 t.2.2.2.1 t.2.2.2.2.1 t.2.2.2.2.2 (fun z1 => K (.exit 0) (mkS 36 [5] [.c (.h 0)] [ro z1] []))) (fun t => rfl) (fun k t => ?_) (fun _ => fuelN) h
  refine (step0 impl_closures.Q impl_Weave_liveIn.Q impl_Body_note.Q V0 K _ t.1 t.2.1 t.2.2.1 t.2.2.2.1 t.2.2.2.2.1 t.2.2.2.2.2).trans ?_
  rw [impl_Body_note.wrap]
  refine congrArg (fun W => B0 impl_Body_note.F t.1 t.2.1 t.2.2.1 t.2.2.2.1 t.2.2.2.2.1 t.2.2.2.2.2 W (fun z1 => K (.exit 0) (mkS 36 [5] [.c (.h 0)] [ro z1] []))) ?_
  funext u1 u2 u3 u4 u5 u6
  exact ofC_enc enc0I _ (u1, u2, u3, u4, u5, u6)
theorem e : atomsL [] 0 (bodyOf Try.f119) = [(0, 0, .loop c0)] := by kernel_rfl
theorem acc (t : Vec (Vec Int) × (Vec (ByteArray × Int × Int × (Vec Int))) × Int) (x : Vec (Int × Int × ByteArray)) (h : F t.1 t.2.1 t.2.2 = some x) : ACc Try.prog 119 (encA t) [] true [] fun rv obs => (rv, obs) = encR x := by
  refine fun_okc (L := (L V0)) (jn := []) (cmds := []) (ks := []) (hin := []) (fn := Try.f119) (body := (bodyOf Try.f119)) Gok hm Try.func119 (by kernel_rfl) (by kernel_rfl) (by rw [e]; exact Lor.ok_cons ok0 (Lor.ok_nil _ _)) ?_ h
  refine (main impl_closures.Q impl_Weave_liveIn.Q impl_Body_note.Q V0 _ t.1 t.2.1 t.2.2).trans ?_
  rw [impl_closures.wrap, impl_Weave_liveIn.wrap, V0_enc]
  refine congrArg (fun K => B impl_closures.F impl_Weave_liveIn.F (F0 fuelN) t.1 t.2.1 t.2.2 K) ?_
  funext x1
  exact ofC_enc encRI some (x1)
theorem ac0 (t : Vec (Vec Int) × (Vec (ByteArray × Int × Int × (Vec Int))) × Int) (x : Vec (Int × Int × ByteArray)) (h : F t.1 t.2.1 t.2.2 = some x) : AC Try.prog 119 (encA t) [] true [] fun rv obs => (rv, obs) = encR x := ACc.ac (body := bodyOf Try.f119) Try.func119 (by kernel_rfl) (by kernel_rfl) (acc t x h)
theorem ac (args : List AV) (x : Vec (Int × Int × ByteArray)) (h : Q args = some x) : AC Try.prog 119 args [] false [] fun rv obs => (rv, obs) = encR x := by
  obtain ⟨t, rfl, h2⟩ := ofC_some h
  refine (ac0 t x h2).flat fun rv obs e => ?_
  obtain rfl : rv = (encR x).1 := congrArg Prod.fst e
  obtain rfl : obs = (encR x).2 := congrArg Prod.snd e
  refine ⟨by simp [encR, AV.Flat, K.Flat, C.Flat], ?_⟩
  intro o ho
  simp only [encR, List.mem_cons, List.not_mem_nil, or_false] at ho
  subst ho
  exact flat_rw rfl _
end impl_Weave_annotate
end Go.Al
