import Derived.Test.YtdiclekkkaaahaaAlE
import Derived.Test.YtdiclekkkaaahaaSC
import Derived.Test.YtdiclekkkaaahaaGNm
set_option linter.unusedVariables false
set_option linter.unusedSimpArgs false
set_option linter.constructorNameAsVariable false
set_option linter.unusedSectionVars false
set_option maxRecDepth 100000
namespace Go.Al
open Go.Proofs

/-! loop.example/g00073/spec.l14Graph -/
namespace spec_l14Graph
noncomputable def B0 {ρ : Type} (v1 : Vec ((Vec Int) × ByteArray × (Vec (ByteArray × Int × Int)))) (v2 : Int) (v3 : Vec (IVec Int)) (W : (Vec ((Vec Int) × ByteArray × (Vec (ByteArray × Int × Int)))) → Int → (Vec (IVec Int)) → Option ρ) (K0 : (Vec (IVec Int)) → Option ρ) : Option ρ :=
  sel (decide (v2 < (v1.n : Int))) (chk (decide (0 ≤ v2 ∧ v2 < (v1.n : Int))) (chk (decide ((v3.n + (Vec.lit [⟨(v1.g v2.toNat).1⟩] : Vec (IVec Int)).n) * 25 ≤ maxN)) (W v1 (wr (v2 + (1 : Int))) (Vec.app v3 (Vec.lit [⟨(v1.g v2.toNat).1⟩] : Vec (IVec Int)))))) (K0 v3)
noncomputable def F0 {ρ : Type} : Nat → (Vec ((Vec Int) × ByteArray × (Vec (ByteArray × Int × Int)))) → Int → (Vec (IVec Int)) → ((Vec (IVec Int)) → Option ρ) → Option ρ
  | 0, _, _, _, _ => none
  | k + 1, v1, v2, v3, K0 => B0 v1 v2 v3 (fun v1' v2' v3' => F0 k v1' v2' v3' K0) K0
noncomputable def B {ρ : Type} (L0 : (Vec ((Vec Int) × ByteArray × (Vec (ByteArray × Int × Int)))) → Int → (Vec (IVec Int)) → ((Vec (IVec Int)) → Option ρ) → Option ρ) (a1 : Vec ((Vec Int) × ByteArray × (Vec (ByteArray × Int × Int)))) (K : (Vec (IVec Int)) → Option ρ) : Option ρ :=
  L0 a1 (0 : Int) (Vec.nil : Vec (IVec Int)) (fun e01 => K e01)
noncomputable def F (a1 : Vec ((Vec Int) × ByteArray × (Vec (ByteArray × Int × Int)))) : Option (Vec (IVec Int)) := B (F0 fuelN) a1 (fun x1 => some (x1))
def encA (t : Vec ((Vec Int) × ByteArray × (Vec (ByteArray × Int × Int)))) : List AV := [vl t]
def encR (x : Vec (IVec Int)) : AV × List Ob := (.c (.h 0), [ro x])
theorem encAI : ∀ a b, encA a = encA b → a = b := by
  intro a b h
  simp [encA, encRw_iff] at h
  simp_all
theorem encRI : ∀ a b, encR a = encR b → a = b := by
  intro a b h
  simp [encR, encRw_iff] at h
  simp_all
noncomputable def Q (args : List AV) : Option (Vec (IVec Int)) := ofC encA (fun t => F t) args
theorem wrap : (fun (y1 : Vec ((Vec Int) × ByteArray × (Vec (ByteArray × Int × Int)))) => Q [vl y1]) = F := by
  funext y1
  exact ofC_enc encAI _ (y1)
noncomputable def G : Orc := ⟨fun f => 9, fun ρ f args K => Option.none, noE, false⟩
noncomputable def L (W0 : (ρ : Type) → List AV → List Ob → ((Vec (IVec Int)) → Option ρ) → Option ρ) : Lor := fun ρ j st K => sel (Nat.beq j 0) (cutO Try.prog 21 [0, 3, 4] 0 [] [.ai (.s 3) 43 [true]] st fun avs obs => W0 ρ avs obs (fun z1 => K (.exit 0) (mkS 21 [3] [.c (.h 0)] [ro z1] []))) (Option.none)
noncomputable def c0 : Code := loopC (atomN [] 0 (bodyOf Try.f25) 0)
def ct0 : Cut := ⟨[0, 3, 4], [.ai (.s 3) 43 [true]]⟩
def lv0 : Exit → Cut
  | .exit 0 => ⟨[3], []⟩
  | _ => ⟨[], []⟩
theorem step0 (W0) {ρ : Type} (K : Exit → St → Option ρ) (W : List AV → List Ob → Option ρ) (v1 v2 v3) : exC Try.prog (G) (L W0) [] 1 c0 (mkS 21 [0, 3, 4] [vl v1, .c (.h 0), vi v2] [ro v3] []) (bodyK Try.prog 21 0 [] ct0 W lv0 K) =
    B0 v1 v2 v3 (fun u1 u2 u3 => W [vl u1, .c (.h 0), vi u2] [ro u3]) (fun z1 => K (.exit 0) (mkS 21 [3] [.c (.h 0)] [ro z1] [])) := by kernel_rfl
def enc0 (t : (Vec ((Vec Int) × ByteArray × (Vec (ByteArray × Int × Int)))) × Int × Vec (IVec Int)) : List AV × List Ob := ([vl t.1, .c (.h 0), vi t.2.1], [ro t.2.2])
theorem enc0I : ∀ a b, enc0 a = enc0 b → a = b := by
  intro a b h
  obtain ⟨a0, a1, a2⟩ := a
  obtain ⟨b0, b1, b2⟩ := b
  simp [enc0, encRw_iff] at h
  simp_all
noncomputable def V0 : (ρ : Type) → List AV → List Ob → ((Vec (IVec Int)) → Option ρ) → Option ρ := fun ρ avs obs k0 => ofC enc0 (fun t => F0 fuelN t.1 t.2.1 t.2.2 k0) (avs, obs)
theorem V0_enc (ρ : Type) : (fun w1 w2 w3 k0 => V0 ρ [vl w1, .c (.h 0), vi w2] [ro w3] k0) = F0 fuelN := by
  funext w1 w2 w3 k0
  exact ofC_enc enc0I _ (w1, w2, w3)
theorem main (W0) {ρ : Type} (K : AV → List Ob → Option ρ) (a1) : exC Try.prog (G) (L W0) [] 0 (bodyOf Try.f25) (entry 21 [vl a1] [] []) (finO Try.prog Try.f25.results.toList 0 [] [] K) =
    B (fun w1 w2 w3 k0 => W0 ρ [vl w1, .c (.h 0), vi w2] [ro w3] k0) a1 (fun x1 => K (.c (.h 0)) [ro x1]) := by kernel_rfl
theorem Gok : (G).ok Try.prog := ⟨(fun ρ f args K r h => (by cases h)),
  (fun ρ f args K => rfl),
  (fun ρ f st caps args dst K r h => (by cases h))⟩
theorem hm : Try.prog.follows .mixedOrders = true := by kernel_rfl
theorem e0 : atomsL [] 1 c0 = [] := by kernel_rfl
theorem ok0 (ρ : Type) (st : St) (K : Exit → St → Option ρ) (r : ρ) (h : (L V0) ρ 0 st K = some r) : AW Try.prog (.loop c0) st fun e st' => K e st' = some r := by
  refine loop_ok (ct := ct0) (lv := lv0) (n := 21) (m := 0) (ks := []) (j := 0) (jn := []) (L := (L V0)) Gok hm (by rw [e0]; exact Lor.ok_nil _ _) enc0I (fun k t => F0 k t.1 t.2.1 t.2.2 (fun z1 => K (.exit 0) (mkS 21 [3] [.c (.h 0)] [ro z1] []))) (fun t => rfl) (fun k t => ?_) (fun _ => fuelN) h
  refine (step0 V0 K _ t.1 t.2.1 t.2.2).trans ?_
  refine congrArg (fun W => B0 t.1 t.2.1 t.2.2 W (fun z1 => K (.exit 0) (mkS 21 [3] [.c (.h 0)] [ro z1] []))) ?_
  funext u1 u2 u3
  exact ofC_enc enc0I _ (u1, u2, u3)
theorem e : atomsL [] 0 (bodyOf Try.f25) = [(0, 0, .loop c0)] := by kernel_rfl
theorem acc (t : Vec ((Vec Int) × ByteArray × (Vec (ByteArray × Int × Int)))) (x : Vec (IVec Int)) (h : F t = some x) : ACc Try.prog 25 (encA t) [] true [] fun rv obs => (rv, obs) = encR x := by
  refine fun_okc (L := (L V0)) (jn := []) (cmds := []) (ks := []) (hin := []) (fn := Try.f25) (body := (bodyOf Try.f25)) Gok hm Try.func25 (by kernel_rfl) (by kernel_rfl) (by rw [e]; exact Lor.ok_cons ok0 (Lor.ok_nil _ _)) ?_ h
  refine (main V0 _ t).trans ?_
  rw [V0_enc]
  refine congrArg (fun K => B (F0 fuelN) t K) ?_
  funext x1
  exact ofC_enc encRI some (x1)
theorem ac0 (t : Vec ((Vec Int) × ByteArray × (Vec (ByteArray × Int × Int)))) (x : Vec (IVec Int)) (h : F t = some x) : AC Try.prog 25 (encA t) [] true [] fun rv obs => (rv, obs) = encR x := ACc.ac (body := bodyOf Try.f25) Try.func25 (by kernel_rfl) (by kernel_rfl) (acc t x h)
theorem ac (args : List AV) (x : Vec (IVec Int)) (h : Q args = some x) : AC Try.prog 25 args [] true [] fun rv obs => (rv, obs) = encR x := by
  obtain ⟨t, rfl, h2⟩ := ofC_some h
  exact ac0 t x h2
end spec_l14Graph
/-! loop.example/g00073/spec.GraphOk -/
namespace spec_GraphOk_s2a58
noncomputable def B0 {ρ : Type} (C0 : (Vec Int) → Int → Option Bool) (v1 : Vec (IVec Int)) (v2 : Int) (W : (Vec (IVec Int)) → Int → Option ρ) (K0 : Unit → Option ρ) (Kr : Bool → Option ρ) : Option ρ :=
  sel (decide (v2 < (v1.n : Int))) (chk (decide (0 ≤ v2 ∧ v2 < (v1.n : Int))) (sel (decide ((4 : Int) < (((v1.g v2.toNat).v).n : Int))) (Kr false) (chk (decide (0 ≤ v2 ∧ v2 < (v1.n : Int))) ((C0 ((v1.g v2.toNat).v) v2).bind fun r1 => sel ((!r1)) (Kr false) (W v1 (wr (v2 + (1 : Int)))))))) (K0 ())
noncomputable def F0 {ρ : Type} : Nat → (Vec (IVec Int)) → Int → (Unit → Option ρ) → (Bool → Option ρ) → Option ρ
  | 0, _, _, _, _ => none
  | k + 1, v1, v2, K0, Kr => B0 spec_l05Rise.F v1 v2 (fun v1' v2' => F0 k v1' v2' K0 Kr) K0 Kr
noncomputable def B {ρ : Type} (L0 : (Vec (IVec Int)) → Int → (Unit → Option ρ) → (Bool → Option ρ) → Option ρ) (a1 : Vec (IVec Int)) (K : Bool → Option ρ) : Option ρ :=
  sel (decide ((40 : Int) < (a1.n : Int))) (K false) (L0 a1 (0 : Int) (fun _ => K true) (fun x01 => K x01))
noncomputable def F (a1 : Vec (IVec Int)) : Option Bool := B (F0 fuelN) a1 (fun x1 => some (x1))
def encA (t : Vec (IVec Int)) : List AV := [vl t]
def encR (x : Bool) : AV × List Ob := (vb x, [])
theorem encAI : ∀ a b, encA a = encA b → a = b := by
  intro a b h
  simp [encA, encRw_iff] at h
  simp_all
theorem encRI : ∀ a b, encR a = encR b → a = b := by
  intro a b h
  simp [encR, encRw_iff] at h
  simp_all
noncomputable def Q (args : List AV) : Option Bool := ofC encA (fun t => F t) args
theorem wrap : (fun (y1 : Vec (IVec Int)) => Q [vl y1]) = F := by
  funext y1
  exact ofC_enc encAI _ (y1)
noncomputable def G (Q0 : List AV → Option Bool) : Orc := ⟨fun f => sel (Nat.beq f 59) 0 (9), fun ρ f args K => sel (Nat.beq f 59) (qEntry spec_l05Rise.encR Q0 args K) (Option.none), noE, false⟩
noncomputable def L (W0 : (ρ : Type) → List AV → List Ob → (Unit → Option ρ) → (Bool → Option ρ) → Option ρ) : Lor := fun ρ j st K => sel (Nat.beq j 0) (cutO Try.prog 28 [0, 3] 0 [] [] st fun avs obs => W0 ρ avs obs (fun _ => K (.exit 0) (mkS 28 [] [] [] [])) (fun z1 => K .ret (mkS 28 [2] [vb z1] [] []))) (Option.none)
noncomputable def c0 : Code := loopC (atomN [] 0 (bodyOf Try.f24) 0)
def ct0 : Cut := ⟨[0, 3], []⟩
def lv0 : Exit → Cut
  | .exit 0 => ⟨[], []⟩
  | .ret => ⟨[2], []⟩
  | _ => ⟨[], []⟩
theorem step0 (Q0) (W0) {ρ : Type} (K : Exit → St → Option ρ) (W : List AV → List Ob → Option ρ) (v1 v2) : exC Try.prog (G Q0) (L W0) [] 1 c0 (mkS 28 [0, 3] [vl v1, vi v2] [] []) (bodyK Try.prog 28 0 [] ct0 W lv0 K) =
    B0 (fun y1 y2 => Q0 [vl y1, vi y2]) v1 v2 (fun u1 u2 => W [vl u1, vi u2] []) (fun _ => K (.exit 0) (mkS 28 [] [] [] [])) (fun z1 => K .ret (mkS 28 [2] [vb z1] [] [])) := by kernel_rfl
def enc0 (t : Vec (IVec Int) × Int) : List AV × List Ob := ([vl t.1, vi t.2], [])
theorem enc0I : ∀ a b, enc0 a = enc0 b → a = b := by
  intro a b h
  obtain ⟨a0, a1⟩ := a
  obtain ⟨b0, b1⟩ := b
  simp [enc0, encRw_iff] at h
  simp_all
noncomputable def V0 : (ρ : Type) → List AV → List Ob → (Unit → Option ρ) → (Bool → Option ρ) → Option ρ := fun ρ avs obs k0 kr => ofC enc0 (fun t => F0 fuelN t.1 t.2 k0 kr) (avs, obs)
theorem V0_enc (ρ : Type) : (fun w1 w2 k0 kr => V0 ρ [vl w1, vi w2] [] k0 kr) = F0 fuelN := by
  funext w1 w2 k0 kr
  exact ofC_enc enc0I _ (w1, w2)
theorem main (Q0) (W0) {ρ : Type} (K : AV → List Ob → Option ρ) (a1) : exC Try.prog (G Q0) (L W0) [] 0 (bodyOf Try.f24) (entry 28 [vl a1] [] []) (finO Try.prog Try.f24.results.toList 0 [] [] K) =
    B (fun w1 w2 k0 kr => W0 ρ [vl w1, vi w2] [] k0 kr) a1 (fun x1 => K (vb x1) []) := by kernel_rfl
theorem Gok : (G spec_l05Rise.Q).ok Try.prog := ⟨(by
    intro ρ f args K r h
    rcases sel_cases h with ⟨hb, h⟩ | ⟨-, h⟩
    · obtain rfl := beq_nat hb
      exact qEntry_ok spec_l05Rise.ac h
    cases h),
  (by
    intro ρ f args K
    simp only [G]
    cases Nat.beq f 59 with
    | true => exact qEntry_nat args K
    | false =>
    simp only [sel]
    rfl),
  (fun ρ f st caps args dst K r h => (by cases h))⟩
theorem hm : Try.prog.follows .mixedOrders = true := by kernel_rfl
theorem e0 : atomsL [] 1 c0 = [] := by kernel_rfl
theorem ok0 (ρ : Type) (st : St) (K : Exit → St → Option ρ) (r : ρ) (h : (L V0) ρ 0 st K = some r) : AW Try.prog (.loop c0) st fun e st' => K e st' = some r := by
  refine loop_ok (ct := ct0) (lv := lv0) (n := 28) (m := 0) (ks := []) (j := 0) (jn := []) (L := (L V0)) Gok hm (by rw [e0]; exact Lor.ok_nil _ _) enc0I (fun k t => F0 k t.1 t.2 (fun _ => K (.exit 0) (mkS 28 [] [] [] [])) (fun z1 => K .ret (mkS 28 [2] [vb z1] [] []))) (fun t => rfl) (fun k t => ?_) (fun _ => fuelN) h
  refine (step0 spec_l05Rise.Q V0 K _ t.1 t.2).trans ?_
  rw [spec_l05Rise.wrap]
  refine congrArg (fun W => B0 spec_l05Rise.F t.1 t.2 W (fun _ => K (.exit 0) (mkS 28 [] [] [] [])) (fun z1 => K .ret (mkS 28 [2] [vb z1] [] []))) ?_
  funext u1 u2
  exact ofC_enc enc0I _ (u1, u2)
theorem e : atomsL [] 0 (bodyOf Try.f24) = [(0, 0, .loop c0)] := by kernel_rfl
theorem acc (t : Vec (IVec Int)) (x : Bool) (h : F t = some x) : ACc Try.prog 24 (encA t) [] true [] fun rv obs => (rv, obs) = encR x := by
  refine fun_okc (L := (L V0)) (jn := []) (cmds := []) (ks := []) (hin := []) (fn := Try.f24) (body := (bodyOf Try.f24)) Gok hm Try.func24 (by kernel_rfl) (by kernel_rfl) (by rw [e]; exact Lor.ok_cons ok0 (Lor.ok_nil _ _)) ?_ h
  refine (main spec_l05Rise.Q V0 _ t).trans ?_
  rw [V0_enc]
  refine congrArg (fun K => B (F0 fuelN) t K) ?_
  funext x1
  exact ofC_enc encRI some (x1)
theorem ac0 (t : Vec (IVec Int)) (x : Bool) (h : F t = some x) : AC Try.prog 24 (encA t) [] true [] fun rv obs => (rv, obs) = encR x := ACc.ac (body := bodyOf Try.f24) Try.func24 (by kernel_rfl) (by kernel_rfl) (acc t x h)
theorem ac (args : List AV) (x : Bool) (h : Q args = some x) : AC Try.prog 24 args [] false [] fun rv obs => (rv, obs) = encR x := by
  obtain ⟨t, rfl, h2⟩ := ofC_some h
  refine (ac0 t x h2).flat fun rv obs e => ?_
  obtain rfl : rv = (encR x).1 := congrArg Prod.fst e
  obtain rfl : obs = (encR x).2 := congrArg Prod.snd e
  refine ⟨by simp [encR, AV.Flat, K.Flat, C.Flat], ?_⟩
  simp [encR]
end spec_GraphOk_s2a58
/-! loop.example/g00073/spec.NoteOk -/
namespace spec_NoteOk
noncomputable def B0 {ρ : Type} (v1 : ByteArray) (v2 : Int) (W : ByteArray → Int → Option ρ) (K0 : ByteArray → Option ρ) (Kr : Bool → Option ρ) : Option ρ :=
  sel (decide (v2 < (v1.size : Int))) (sel (decide ((v1.size : Int) ≤ (40 : Int))) (chk (decide (0 ≤ v2 ∧ v2 < (v1.size : Int))) (sel (decide ((byteAt v1 v2.toNat) < (32 : Int))) (Kr false) (chk (decide (0 ≤ v2 ∧ v2 < (v1.size : Int))) (sel (decide ((126 : Int) < (byteAt v1 v2.toNat))) (Kr false) (W v1 (wr (v2 + (1 : Int)))))))) (K0 v1)) (K0 v1)
noncomputable def F0 {ρ : Type} : Nat → ByteArray → Int → (ByteArray → Option ρ) → (Bool → Option ρ) → Option ρ
  | 0, _, _, _, _ => none
  | k + 1, v1, v2, K0, Kr => B0 v1 v2 (fun v1' v2' => F0 k v1' v2' K0 Kr) K0 Kr
noncomputable def B {ρ : Type} (L0 : ByteArray → Int → (ByteArray → Option ρ) → (Bool → Option ρ) → Option ρ) (a1 : ByteArray) (K : Bool → Option ρ) : Option ρ :=
  L0 a1 (0 : Int) (fun e01 => K (decide ((e01.size : Int) ≤ (40 : Int)))) (fun x01 => K x01)
noncomputable def F (a1 : ByteArray) : Option Bool := B (F0 fuelN) a1 (fun x1 => some (x1))
def encA (t : ByteArray) : List AV := [vs t]
def encR (x : Bool) : AV × List Ob := (vb x, [])
theorem encAI : ∀ a b, encA a = encA b → a = b := by
  intro a b h
  simp [encA, encRw_iff] at h
  simp_all
theorem encRI : ∀ a b, encR a = encR b → a = b := by
  intro a b h
  simp [encR, encRw_iff] at h
  simp_all
noncomputable def Q (args : List AV) : Option Bool := ofC encA (fun t => F t) args
theorem wrap : (fun (y1 : ByteArray) => Q [vs y1]) = F := by
  funext y1
  exact ofC_enc encAI _ (y1)
noncomputable def G : Orc := ⟨fun f => 9, fun ρ f args K => Option.none, noE, false⟩
noncomputable def L (W0 : (ρ : Type) → List AV → List Ob → (ByteArray → Option ρ) → (Bool → Option ρ) → Option ρ) : Lor := fun ρ j st K => sel (Nat.beq j 0) (cutO Try.prog 28 [0, 3] 0 [] [] st fun avs obs => W0 ρ avs obs (fun z1 => K (.exit 0) (mkS 28 [0] [vs z1] [] [])) (fun z1 => K .ret (mkS 28 [2] [vb z1] [] []))) (Option.none)
noncomputable def c0 : Code := loopC (atomN [] 0 (bodyOf Try.f27) 0)
def ct0 : Cut := ⟨[0, 3], []⟩
def lv0 : Exit → Cut
  | .exit 0 => ⟨[0], []⟩
  | .ret => ⟨[2], []⟩
  | _ => ⟨[], []⟩
theorem step0 (W0) {ρ : Type} (K : Exit → St → Option ρ) (W : List AV → List Ob → Option ρ) (v1 v2) : exC Try.prog (G) (L W0) [] 1 c0 (mkS 28 [0, 3] [vs v1, vi v2] [] []) (bodyK Try.prog 28 0 [] ct0 W lv0 K) =
    B0 v1 v2 (fun u1 u2 => W [vs u1, vi u2] []) (fun z1 => K (.exit 0) (mkS 28 [0] [vs z1] [] [])) (fun z1 => K .ret (mkS 28 [2] [vb z1] [] [])) := by kernel_rfl
def enc0 (t : ByteArray × Int) : List AV × List Ob := ([vs t.1, vi t.2], [])
theorem enc0I : ∀ a b, enc0 a = enc0 b → a = b := by
  intro a b h
  obtain ⟨a0, a1⟩ := a
  obtain ⟨b0, b1⟩ := b
  simp [enc0, encRw_iff] at h
  simp_all
noncomputable def V0 : (ρ : Type) → List AV → List Ob → (ByteArray → Option ρ) → (Bool → Option ρ) → Option ρ := fun ρ avs obs k0 kr => ofC enc0 (fun t => F0 fuelN t.1 t.2 k0 kr) (avs, obs)
theorem V0_enc (ρ : Type) : (fun w1 w2 k0 kr => V0 ρ [vs w1, vi w2] [] k0 kr) = F0 fuelN := by
  funext w1 w2 k0 kr
  exact ofC_enc enc0I _ (w1, w2)
theorem main (W0) {ρ : Type} (K : AV → List Ob → Option ρ) (a1) : exC Try.prog (G) (L W0) [] 0 (bodyOf Try.f27) (entry 28 [vs a1] [] []) (finO Try.prog Try.f27.results.toList 0 [] [] K) =
    B (fun w1 w2 k0 kr => W0 ρ [vs w1, vi w2] [] k0 kr) a1 (fun x1 => K (vb x1) []) := by kernel_rfl
theorem Gok : (G).ok Try.prog := ⟨(fun ρ f args K r h => (by cases h)),
  (fun ρ f args K => rfl),
  (fun ρ f st caps args dst K r h => (by cases h))⟩
theorem hm : Try.prog.follows .mixedOrders = true := by kernel_rfl
theorem e0 : atomsL [] 1 c0 = [] := by kernel_rfl
theorem ok0 (ρ : Type) (st : St) (K : Exit → St → Option ρ) (r : ρ) (h : (L V0) ρ 0 st K = some r) : AW Try.prog (.loop c0) st fun e st' => K e st' = some r := by
  refine loop_ok (ct := ct0) (lv := lv0) (n := 28) (m := 0) (ks := []) (j := 0) (jn := []) (L := (L V0)) Gok hm (by rw [e0]; exact Lor.ok_nil _ _) enc0I (fun k t => F0 k t.1 t.2 (fun z1 => K (.exit 0) (mkS 28 [0] [vs z1] [] [])) (fun z1 => K .ret (mkS 28 [2] [vb z1] [] []))) (fun t => rfl) (fun k t => ?_) (fun _ => fuelN) h
  refine (step0 V0 K _ t.1 t.2).trans ?_
  refine congrArg (fun W => B0 t.1 t.2 W (fun z1 => K (.exit 0) (mkS 28 [0] [vs z1] [] [])) (fun z1 => K .ret (mkS 28 [2] [vb z1] [] []))) ?_
  funext u1 u2
  exact ofC_enc enc0I _ (u1, u2)
theorem e : atomsL [] 0 (bodyOf Try.f27) = [(0, 0, .loop c0)] := by kernel_rfl
theorem acc (t : ByteArray) (x : Bool) (h : F t = some x) : ACc Try.prog 27 (encA t) [] true [] fun rv obs => (rv, obs) = encR x := by
  refine fun_okc (L := (L V0)) (jn := []) (cmds := []) (ks := []) (hin := []) (fn := Try.f27) (body := (bodyOf Try.f27)) Gok hm Try.func27 (by kernel_rfl) (by kernel_rfl) (by rw [e]; exact Lor.ok_cons ok0 (Lor.ok_nil _ _)) ?_ h
  refine (main V0 _ t).trans ?_
  rw [V0_enc]
  refine congrArg (fun K => B (F0 fuelN) t K) ?_
  funext x1
  exact ofC_enc encRI some (x1)
theorem ac0 (t : ByteArray) (x : Bool) (h : F t = some x) : AC Try.prog 27 (encA t) [] true [] fun rv obs => (rv, obs) = encR x := ACc.ac (body := bodyOf Try.f27) Try.func27 (by kernel_rfl) (by kernel_rfl) (acc t x h)
theorem ac (args : List AV) (x : Bool) (h : Q args = some x) : AC Try.prog 27 args [] false [] fun rv obs => (rv, obs) = encR x := by
  obtain ⟨t, rfl, h2⟩ := ofC_some h
  refine (ac0 t x h2).flat fun rv obs e => ?_
  obtain rfl : rv = (encR x).1 := congrArg Prod.fst e
  obtain rfl : obs = (encR x).2 := congrArg Prod.snd e
  refine ⟨by simp [encR, AV.Flat, K.Flat, C.Flat], ?_⟩
  simp [encR]
end spec_NoteOk
/-! loop.example/g00073/spec.CommitsOk -/
namespace spec_CommitsOk
noncomputable def B2 {ρ : Type} (v1 : Vec ((Vec Int) × ByteArray × (Vec (ByteArray × Int × Int)))) (v2 : Vec Int) (v3 : Int) (v4 : Int) (W : (Vec ((Vec Int) × ByteArray × (Vec (ByteArray × Int × Int)))) → (Vec Int) → Int → Int → Option ρ) (K4 : (Vec ((Vec Int) × ByteArray × (Vec (ByteArray × Int × Int)))) → (Vec Int) → Int → Option ρ) (Kr : Bool → Option ρ) : Option ρ :=
  chk (decide (0 ≤ v3 ∧ v3 < (v1.n : Int))) (sel (decide (v4 < (((v1.g v3.toNat).2.2).n : Int))) (chk (decide (0 ≤ v3 ∧ v3 < (v1.n : Int))) (chk (decide (0 ≤ v4 ∧ v4 < (((v1.g v3.toNat).2.2).n : Int))) (sel (decide ((v2.n : Int) ≤ (((v1.g v3.toNat).2.2).g v4.toNat).2.1)) (Kr false) (chk (decide (0 ≤ (((v1.g v3.toNat).2.2).g v4.toNat).2.1 ∧ (((v1.g v3.toNat).2.2).g v4.toNat).2.1 < (v2.n : Int))) (sel (decide ((v2.g ((((v1.g v3.toNat).2.2).g v4.toNat).2.1).toNat) ≤ (((v1.g v3.toNat).2.2).g v4.toNat).2.2)) (Kr false) (W v1 v2 v3 (wr (v4 + (1 : Int))))))))) (K4 v1 v2 v3))
noncomputable def F2 {ρ : Type} : Nat → (Vec ((Vec Int) × ByteArray × (Vec (ByteArray × Int × Int)))) → (Vec Int) → Int → Int → ((Vec ((Vec Int) × ByteArray × (Vec (ByteArray × Int × Int)))) → (Vec Int) → Int → Option ρ) → (Bool → Option ρ) → Option ρ
  | 0, _, _, _, _, _, _ => none
  | k + 1, v1, v2, v3, v4, K4, Kr => B2 v1 v2 v3 v4 (fun v1' v2' v3' v4' => F2 k v1' v2' v3' v4' K4 Kr) K4 Kr
noncomputable def B1 {ρ : Type} (C3 : ByteArray → Option Bool) (C4 : (Vec (ByteArray × Int × Int)) → Option Bool) (L2 : (Vec ((Vec Int) × ByteArray × (Vec (ByteArray × Int × Int)))) → (Vec Int) → Int → Int → ((Vec ((Vec Int) × ByteArray × (Vec (ByteArray × Int × Int)))) → (Vec Int) → Int → Option ρ) → (Bool → Option ρ) → Option ρ) (v1 : Vec ((Vec Int) × ByteArray × (Vec (ByteArray × Int × Int)))) (v2 : Vec Int) (v3 : Int) (W : (Vec ((Vec Int) × ByteArray × (Vec (ByteArray × Int × Int)))) → (Vec Int) → Int → Option ρ) (K2 : Unit → Option ρ) (Kr : Bool → Option ρ) : Option ρ :=
  sel (decide (v3 < (v1.n : Int))) (chk (decide (0 ≤ v3 ∧ v3 < (v1.n : Int))) ((C3 ((v1.g v3.toNat).2.1)).bind fun r4 => sel ((!r4)) (Kr false) (chk (decide (0 ≤ v3 ∧ v3 < (v1.n : Int))) ((C4 ((v1.g v3.toNat).2.2)).bind fun r5 => sel ((!r5)) (Kr false) (L2 v1 v2 v3 (0 : Int) (fun e21 e22 e23 => W e21 e22 (wr (e23 + (1 : Int)))) (fun x21 => Kr x21)))))) (K2 ())
noncomputable def F1 {ρ : Type} : Nat → (Vec ((Vec Int) × ByteArray × (Vec (ByteArray × Int × Int)))) → (Vec Int) → Int → (Unit → Option ρ) → (Bool → Option ρ) → Option ρ
  | 0, _, _, _, _, _ => none
  | k + 1, v1, v2, v3, K2, Kr => B1 spec_NoteOk.F spec_NamesOk.F (F2 fuelN) v1 v2 v3 (fun v1' v2' v3' => F1 k v1' v2' v3' K2 Kr) K2 Kr
noncomputable def B0 {ρ : Type} (C2 : Int → Int → Int → Option Bool) (v1 : Vec ((Vec Int) × ByteArray × (Vec (ByteArray × Int × Int)))) (v2 : Vec Int) (v3 : Int) (W : (Vec ((Vec Int) × ByteArray × (Vec (ByteArray × Int × Int)))) → (Vec Int) → Int → Option ρ) (K0 : (Vec ((Vec Int) × ByteArray × (Vec (ByteArray × Int × Int)))) → (Vec Int) → Option ρ) (Kr : Bool → Option ρ) : Option ρ :=
  sel (decide (v3 < (v2.n : Int))) (chk (decide (0 ≤ v3 ∧ v3 < (v2.n : Int))) ((C2 (v2.g v3.toNat) (0 : Int) (40 : Int)).bind fun r3 => sel ((!r3)) (Kr false) (W v1 v2 (wr (v3 + (1 : Int)))))) (K0 v1 v2)
noncomputable def F0 {ρ : Type} : Nat → (Vec ((Vec Int) × ByteArray × (Vec (ByteArray × Int × Int)))) → (Vec Int) → Int → ((Vec ((Vec Int) × ByteArray × (Vec (ByteArray × Int × Int)))) → (Vec Int) → Option ρ) → (Bool → Option ρ) → Option ρ
  | 0, _, _, _, _, _ => none
  | k + 1, v1, v2, v3, K0, Kr => B0 spec_l01In.F v1 v2 v3 (fun v1' v2' v3' => F0 k v1' v2' v3' K0 Kr) K0 Kr
noncomputable def B {ρ : Type} (C0 : (Vec ((Vec Int) × ByteArray × (Vec (ByteArray × Int × Int)))) → Option (Vec (IVec Int))) (C1 : (Vec (IVec Int)) → Option Bool) (L0 : (Vec ((Vec Int) × ByteArray × (Vec (ByteArray × Int × Int)))) → (Vec Int) → Int → ((Vec ((Vec Int) × ByteArray × (Vec (ByteArray × Int × Int)))) → (Vec Int) → Option ρ) → (Bool → Option ρ) → Option ρ) (L1 : (Vec ((Vec Int) × ByteArray × (Vec (ByteArray × Int × Int)))) → (Vec Int) → Int → (Unit → Option ρ) → (Bool → Option ρ) → Option ρ) (a1 : Vec ((Vec Int) × ByteArray × (Vec (ByteArray × Int × Int)))) (a2 : Vec Int) (K : Bool → Option ρ) : Option ρ :=
  sel (decide ((40 : Int) < (a1.n : Int))) (K false) (sel (decide ((12 : Int) < (a2.n : Int))) (K false) ((C0 a1).bind fun r1 => (C1 r1).bind fun r2 => sel ((!r2)) (K false) (L0 a1 a2 (0 : Int) (fun e01 e02 => L1 e01 e02 (0 : Int) (fun _ => K true) (fun x11 => K x11)) (fun x01 => K x01))))
noncomputable def F (a1 : Vec ((Vec Int) × ByteArray × (Vec (ByteArray × Int × Int)))) (a2 : Vec Int) : Option Bool := B spec_l14Graph.F spec_GraphOk_s2a58.F (F0 fuelN) (F1 fuelN) a1 a2 (fun x1 => some (x1))
def encA (t : (Vec ((Vec Int) × ByteArray × (Vec (ByteArray × Int × Int)))) × Vec Int) : List AV := [vl t.1, vl t.2]
def encR (x : Bool) : AV × List Ob := (vb x, [])
theorem encAI : ∀ a b, encA a = encA b → a = b := by
  intro a b h
  obtain ⟨a0, a1⟩ := a
  obtain ⟨b0, b1⟩ := b
  simp [encA, encRw_iff] at h
  simp_all
theorem encRI : ∀ a b, encR a = encR b → a = b := by
  intro a b h
  simp [encR, encRw_iff] at h
  simp_all
noncomputable def Q (args : List AV) : Option Bool := ofC encA (fun t => F t.1 t.2) args
theorem wrap : (fun (y1 : Vec ((Vec Int) × ByteArray × (Vec (ByteArray × Int × Int)))) (y2 : Vec Int) => Q [vl y1, vl y2]) = F := by
  funext y1 y2
  exact ofC_enc encAI _ (y1, y2)
noncomputable def G (Q0 : List AV → Option (Vec (IVec Int))) (Q1 : List AV → Option Bool) (Q2 : List AV → Option Bool) (Q3 : List AV → Option Bool) (Q4 : List AV → Option Bool) : Orc := ⟨fun f => sel (Nat.beq f 25) 1 (sel (Nat.beq f 24) 0 (sel (Nat.beq f 26) 0 (sel (Nat.beq f 27) 0 (sel (Nat.beq f 28) 0 (9))))), fun ρ f args K => sel (Nat.beq f 25) (qEntry spec_l14Graph.encR Q0 args K) (sel (Nat.beq f 24) (qEntry spec_GraphOk_s2a58.encR Q1 args K) (sel (Nat.beq f 26) (qEntry spec_l01In.encR Q2 args K) (sel (Nat.beq f 27) (qEntry spec_NoteOk.encR Q3 args K) (sel (Nat.beq f 28) (qEntry spec_NamesOk.encR Q4 args K) (Option.none))))), noE, false⟩
noncomputable def L (W2 : (ρ : Type) → List AV → List Ob → ((Vec ((Vec Int) × ByteArray × (Vec (ByteArray × Int × Int)))) → (Vec Int) → Int → Option ρ) → (Bool → Option ρ) → Option ρ) (W1 : (ρ : Type) → List AV → List Ob → (Unit → Option ρ) → (Bool → Option ρ) → Option ρ) (W0 : (ρ : Type) → List AV → List Ob → ((Vec ((Vec Int) × ByteArray × (Vec (ByteArray × Int × Int)))) → (Vec Int) → Option ρ) → (Bool → Option ρ) → Option ρ) : Lor := fun ρ j st K => sel (Nat.beq j 0) (cutO Try.prog 90 [0, 1, 5] 0 [] [] st fun avs obs => W0 ρ avs obs (fun z1 z2 => K (.exit 0) (mkS 90 [0, 1] [vl z1, vl z2] [] [])) (fun z1 => K .ret (mkS 90 [4] [vb z1] [] []))) (sel (Nat.beq j 1) (cutO Try.prog 90 [0, 1, 6] 0 [] [] st fun avs obs => W1 ρ avs obs (fun _ => K (.exit 2) (mkS 90 [] [] [] [])) (fun z1 => K .ret (mkS 90 [4] [vb z1] [] []))) (sel (Nat.beq j 2) (cutO Try.prog 90 [0, 1, 6, 7] 0 [] [] st fun avs obs => W2 ρ avs obs (fun z1 z2 z3 => K (.exit 4) (mkS 90 [0, 1, 6] [vl z1, vl z2, vi z3] [] [])) (fun z1 => K .ret (mkS 90 [4] [vb z1] [] []))) (Option.none)))
noncomputable def c0 : Code := loopC (atomN [] 0 (bodyOf Try.f7) 0)
noncomputable def c1 : Code := loopC (atomN [] 0 (bodyOf Try.f7) 1)
noncomputable def c2 : Code := loopC (atomN [] 2 c1 0)
def ct0 : Cut := ⟨[0, 1, 5], []⟩
def lv0 : Exit → Cut
  | .exit 0 => ⟨[0, 1], []⟩
  | .ret => ⟨[4], []⟩
  | _ => ⟨[], []⟩
theorem step0 (Q0 Q1 Q2 Q3 Q4) (W2 W1 W0) {ρ : Type} (K : Exit → St → Option ρ) (W : List AV → List Ob → Option ρ) (v1 v2 v3) : exC Try.prog (G Q0 Q1 Q2 Q3 Q4) (L W2 W1 W0) [] 1 c0 (mkS 90 [0, 1, 5] [vl v1, vl v2, vi v3] [] []) (bodyK Try.prog 90 0 [] ct0 W lv0 K) =
    B0 (fun y1 y2 y3 => Q2 [vi y1, vi y2, vi y3]) v1 v2 v3 (fun u1 u2 u3 => W [vl u1, vl u2, vi u3] []) (fun z1 z2 => K (.exit 0) (mkS 90 [0, 1] [vl z1, vl z2] [] [])) (fun z1 => K .ret (mkS 90 [4] [vb z1] [] [])) := by kernel_rfl
def enc0 (t : (Vec ((Vec Int) × ByteArray × (Vec (ByteArray × Int × Int)))) × Vec Int × Int) : List AV × List Ob := ([vl t.1, vl t.2.1, vi t.2.2], [])
theorem enc0I : ∀ a b, enc0 a = enc0 b → a = b := by
  intro a b h
  obtain ⟨a0, a1, a2⟩ := a
  obtain ⟨b0, b1, b2⟩ := b
  simp [enc0, encRw_iff] at h
  simp_all
noncomputable def V0 : (ρ : Type) → List AV → List Ob → ((Vec ((Vec Int) × ByteArray × (Vec (ByteArray × Int × Int)))) → (Vec Int) → Option ρ) → (Bool → Option ρ) → Option ρ := fun ρ avs obs k0 kr => ofC enc0 (fun t => F0 fuelN t.1 t.2.1 t.2.2 k0 kr) (avs, obs)
theorem V0_enc (ρ : Type) : (fun w1 w2 w3 k0 kr => V0 ρ [vl w1, vl w2, vi w3] [] k0 kr) = F0 fuelN := by
  funext w1 w2 w3 k0 kr
  exact ofC_enc enc0I _ (w1, w2, w3)
def ct1 : Cut := ⟨[0, 1, 6], []⟩
def lv1 : Exit → Cut
  | .exit 2 => ⟨[], []⟩
  | .ret => ⟨[4], []⟩
  | _ => ⟨[], []⟩
theorem step1 (Q0 Q1 Q2 Q3 Q4) (W2 W1 W0) {ρ : Type} (K : Exit → St → Option ρ) (W : List AV → List Ob → Option ρ) (v1 v2 v3) : exC Try.prog (G Q0 Q1 Q2 Q3 Q4) (L W2 W1 W0) [] 2 c1 (mkS 90 [0, 1, 6] [vl v1, vl v2, vi v3] [] []) (bodyK Try.prog 90 0 [] ct1 W lv1 K) =
    B1 (fun y1 => Q3 [vs y1]) (fun y1 => Q4 [vl y1]) (fun w1 w2 w3 w4 k4 kr => W2 ρ [vl w1, vl w2, vi w3, vi w4] [] k4 kr) v1 v2 v3 (fun u1 u2 u3 => W [vl u1, vl u2, vi u3] []) (fun _ => K (.exit 2) (mkS 90 [] [] [] [])) (fun z1 => K .ret (mkS 90 [4] [vb z1] [] [])) := by kernel_rfl
def enc1 (t : (Vec ((Vec Int) × ByteArray × (Vec (ByteArray × Int × Int)))) × Vec Int × Int) : List AV × List Ob := ([vl t.1, vl t.2.1, vi t.2.2], [])
theorem enc1I : ∀ a b, enc1 a = enc1 b → a = b := by
  intro a b h
  obtain ⟨a0, a1, a2⟩ := a
  obtain ⟨b0, b1, b2⟩ := b
  simp [enc1, encRw_iff] at h
  simp_all
noncomputable def V1 : (ρ : Type) → List AV → List Ob → (Unit → Option ρ) → (Bool → Option ρ) → Option ρ := fun ρ avs obs k2 kr => ofC enc1 (fun t => F1 fuelN t.1 t.2.1 t.2.2 k2 kr) (avs, obs)
theorem V1_enc (ρ : Type) : (fun w1 w2 w3 k2 kr => V1 ρ [vl w1, vl w2, vi w3] [] k2 kr) = F1 fuelN := by
  funext w1 w2 w3 k2 kr
  exact ofC_enc enc1I _ (w1, w2, w3)
def ct2 : Cut := ⟨[0, 1, 6, 7], []⟩
def lv2 : Exit → Cut
  | .exit 4 => ⟨[0, 1, 6], []⟩
  | .ret => ⟨[4], []⟩
  | _ => ⟨[], []⟩
theorem step2 (Q0 Q1 Q2 Q3 Q4) (W2 W1 W0) {ρ : Type} (K : Exit → St → Option ρ) (W : List AV → List Ob → Option ρ) (v1 v2 v3 v4) : exC Try.prog (G Q0 Q1 Q2 Q3 Q4) (L W2 W1 W0) [] 3 c2 (mkS 90 [0, 1, 6, 7] [vl v1, vl v2, vi v3, vi v4] [] []) (bodyK Try.prog 90 0 [] ct2 W lv2 K) =
    B2 v1 v2 v3 v4 (fun u1 u2 u3 u4 => W [vl u1, vl u2, vi u3, vi u4] []) (fun z1 z2 z3 => K (.exit 4) (mkS 90 [0, 1, 6] [vl z1, vl z2, vi z3] [] [])) (fun z1 => K .ret (mkS 90 [4] [vb z1] [] [])) := by kernel_rfl
def enc2 (t : (Vec ((Vec Int) × ByteArray × (Vec (ByteArray × Int × Int)))) × Vec Int × Int × Int) : List AV × List Ob := ([vl t.1, vl t.2.1, vi t.2.2.1, vi t.2.2.2], [])
theorem enc2I : ∀ a b, enc2 a = enc2 b → a = b := by
  intro a b h
  obtain ⟨a0, a1, a2, a3⟩ := a
  obtain ⟨b0, b1, b2, b3⟩ := b
  simp [enc2, encRw_iff] at h
  simp_all
noncomputable def V2 : (ρ : Type) → List AV → List Ob → ((Vec ((Vec Int) × ByteArray × (Vec (ByteArray × Int × Int)))) → (Vec Int) → Int → Option ρ) → (Bool → Option ρ) → Option ρ := fun ρ avs obs k4 kr => ofC enc2 (fun t => F2 fuelN t.1 t.2.1 t.2.2.1 t.2.2.2 k4 kr) (avs, obs)
theorem V2_enc (ρ : Type) : (fun w1 w2 w3 w4 k4 kr => V2 ρ [vl w1, vl w2, vi w3, vi w4] [] k4 kr) = F2 fuelN := by
  funext w1 w2 w3 w4 k4 kr
  exact ofC_enc enc2I _ (w1, w2, w3, w4)
theorem main (Q0 Q1 Q2 Q3 Q4) (W2 W1 W0) {ρ : Type} (K : AV → List Ob → Option ρ) (a1 a2) : exC Try.prog (G Q0 Q1 Q2 Q3 Q4) (L W2 W1 W0) [] 0 (bodyOf Try.f7) (entry 90 [vl a1, vl a2] [] []) (finO Try.prog Try.f7.results.toList 0 [] [] K) =
    B (fun y1 => Q0 [vl y1]) (fun y1 => Q1 [vl y1]) (fun w1 w2 w3 k0 kr => W0 ρ [vl w1, vl w2, vi w3] [] k0 kr) (fun w1 w2 w3 k2 kr => W1 ρ [vl w1, vl w2, vi w3] [] k2 kr) a1 a2 (fun x1 => K (vb x1) []) := by kernel_rfl
theorem Gok : (G spec_l14Graph.Q spec_GraphOk_s2a58.Q spec_l01In.Q spec_NoteOk.Q spec_NamesOk.Q).ok Try.prog := ⟨(by
    intro ρ f args K r h
    rcases sel_cases h with ⟨hb, h⟩ | ⟨-, h⟩
    · obtain rfl := beq_nat hb
      exact qEntry_ok spec_l14Graph.ac h
    rcases sel_cases h with ⟨hb, h⟩ | ⟨-, h⟩
    · obtain rfl := beq_nat hb
      exact qEntry_ok spec_GraphOk_s2a58.ac h
    rcases sel_cases h with ⟨hb, h⟩ | ⟨-, h⟩
    · obtain rfl := beq_nat hb
      exact qEntry_ok spec_l01In.ac h
    rcases sel_cases h with ⟨hb, h⟩ | ⟨-, h⟩
    · obtain rfl := beq_nat hb
      exact qEntry_ok spec_NoteOk.ac h
    rcases sel_cases h with ⟨hb, h⟩ | ⟨-, h⟩
    · obtain rfl := beq_nat hb
      exact qEntry_ok spec_NamesOk.ac h
    cases h),
  (by
    intro ρ f args K
    simp only [G]
    cases Nat.beq f 25 with
    | true => exact qEntry_nat args K
    | false =>
    simp only [sel]
    cases Nat.beq f 24 with
    | true => exact qEntry_nat args K
    | false =>
    simp only [sel]
    cases Nat.beq f 26 with
    | true => exact qEntry_nat args K
    | false =>
    simp only [sel]
    cases Nat.beq f 27 with
    | true => exact qEntry_nat args K
    | false =>
    simp only [sel]
    cases Nat.beq f 28 with
    | true => exact qEntry_nat args K
    | false =>
    simp only [sel]
    rfl),
  (fun ρ f st caps args dst K r h => (by cases h))⟩
theorem hm : Try.prog.follows .mixedOrders = true := by kernel_rfl
theorem e2 : atomsL [] 3 c2 = [] := by kernel_rfl
theorem ok2 (ρ : Type) (st : St) (K : Exit → St → Option ρ) (r : ρ) (h : (L V2 V1 V0) ρ 2 st K = some r) : AW Try.prog (.loop c2) st fun e st' => K e st' = some r := by
  refine loop_ok (ct := ct2) (lv := lv2) (n := 90) (m := 0) (ks := []) (j := 2) (jn := []) (L := (L V2 V1 V0)) Gok hm (by rw [e2]; exact Lor.ok_nil _ _) enc2I (fun k t => F2 k t.1 t.2.1 t.2.2.1 t.2.2.2 (fun z1 z2 z3 => K (.exit 4) (mkS 90 [0, 1, 6] [vl z1, vl z2, vi z3] [] [])) (fun z1 => K .ret (mkS 90 [4] [vb z1] [] []))) (fun t => rfl) (fun k t => ?_) (fun _ => fuelN) h
  refine (step2 spec_l14Graph.Q spec_GraphOk_s2a58.Q spec_l01In.Q spec_NoteOk.Q spec_NamesOk.Q V2 V1 V0 K _ t.1 t.2.1 t.2.2.1 t.2.2.2).trans ?_
  refine congrArg (fun W => B2 t.1 t.2.1 t.2.2.1 t.2.2.2 W (fun z1 z2 z3 => K (.exit 4) (mkS 90 [0, 1, 6] [vl z1, vl z2, vi z3] [] [])) (fun z1 => K .ret (mkS 90 [4] [vb z1] [] []))) ?_
  funext u1 u2 u3 u4
  exact ofC_enc enc2I _ (u1, u2, u3, u4)
theorem e1 : atomsL [] 2 c1 = [(2, 2, .loop c2)] := by kernel_rfl
theorem ok1 (ρ : Type) (st : St) (K : Exit → St → Option ρ) (r : ρ) (h : (L V2 V1 V0) ρ 1 st K = some r) : AW Try.prog (.loop c1) st fun e st' => K e st' = some r := by
  refine loop_ok (ct := ct1) (lv := lv1) (n := 90) (m := 0) (ks := []) (j := 1) (jn := []) (L := (L V2 V1 V0)) Gok hm (by rw [e1]; exact Lor.ok_cons ok2 (Lor.ok_nil _ _)) enc1I (fun k t => F1 k t.1 t.2.1 t.2.2 (fun _ => K (.exit 2) (mkS 90 [] [] [] [])) (fun z1 => K .ret (mkS 90 [4] [vb z1] [] []))) (fun t => rfl) (fun k t => ?_) (fun _ => fuelN) h
  refine (step1 spec_l14Graph.Q spec_GraphOk_s2a58.Q spec_l01In.Q spec_NoteOk.Q spec_NamesOk.Q V2 V1 V0 K _ t.1 t.2.1 t.2.2).trans ?_
  rw [spec_NoteOk.wrap, spec_NamesOk.wrap, V2_enc]
  refine congrArg (fun W => B1 spec_NoteOk.F spec_NamesOk.F (F2 fuelN) t.1 t.2.1 t.2.2 W (fun _ => K (.exit 2) (mkS 90 [] [] [] [])) (fun z1 => K .ret (mkS 90 [4] [vb z1] [] []))) ?_
  funext u1 u2 u3
  exact ofC_enc enc1I _ (u1, u2, u3)
theorem e0 : atomsL [] 1 c0 = [] := by kernel_rfl
theorem ok0 (ρ : Type) (st : St) (K : Exit → St → Option ρ) (r : ρ) (h : (L V2 V1 V0) ρ 0 st K = some r) : AW Try.prog (.loop c0) st fun e st' => K e st' = some r := by
  refine loop_ok (ct := ct0) (lv := lv0) (n := 90) (m := 0) (ks := []) (j := 0) (jn := []) (L := (L V2 V1 V0)) Gok hm (by rw [e0]; exact Lor.ok_nil _ _) enc0I (fun k t => F0 k t.1 t.2.1 t.2.2 (fun z1 z2 => K (.exit 0) (mkS 90 [0, 1] [vl z1, vl z2] [] [])) (fun z1 => K .ret (mkS 90 [4] [vb z1] [] []))) (fun t => rfl) (fun k t => ?_) (fun _ => fuelN) h
  refine (step0 spec_l14Graph.Q spec_GraphOk_s2a58.Q spec_l01In.Q spec_NoteOk.Q spec_NamesOk.Q V2 V1 V0 K _ t.1 t.2.1 t.2.2).trans ?_
  rw [spec_l01In.wrap]
  refine congrArg (fun W => B0 spec_l01In.F t.1 t.2.1 t.2.2 W (fun z1 z2 => K (.exit 0) (mkS 90 [0, 1] [vl z1, vl z2] [] [])) (fun z1 => K .ret (mkS 90 [4] [vb z1] [] []))) ?_
  funext u1 u2 u3
  exact ofC_enc enc0I _ (u1, u2, u3)
theorem e : atomsL [] 0 (bodyOf Try.f7) = [(0, 0, .loop c0), (1, 1, .loop c1)] := by kernel_rfl
theorem acc (t : (Vec ((Vec Int) × ByteArray × (Vec (ByteArray × Int × Int)))) × Vec Int) (x : Bool) (h : F t.1 t.2 = some x) : ACc Try.prog 7 (encA t) [] true [] fun rv obs => (rv, obs) = encR x := by
  refine fun_okc (L := (L V2 V1 V0)) (jn := []) (cmds := []) (ks := []) (hin := []) (fn := Try.f7) (body := (bodyOf Try.f7)) Gok hm Try.func7 (by kernel_rfl) (by kernel_rfl) (by rw [e]; exact Lor.ok_cons ok0 (Lor.ok_cons ok1 (Lor.ok_nil _ _))) ?_ h
  refine (main spec_l14Graph.Q spec_GraphOk_s2a58.Q spec_l01In.Q spec_NoteOk.Q spec_NamesOk.Q V2 V1 V0 _ t.1 t.2).trans ?_
  rw [spec_l14Graph.wrap, spec_GraphOk_s2a58.wrap, V0_enc, V1_enc]
  refine congrArg (fun K => B spec_l14Graph.F spec_GraphOk_s2a58.F (F0 fuelN) (F1 fuelN) t.1 t.2 K) ?_
  funext x1
  exact ofC_enc encRI some (x1)
theorem ac0 (t : (Vec ((Vec Int) × ByteArray × (Vec (ByteArray × Int × Int)))) × Vec Int) (x : Bool) (h : F t.1 t.2 = some x) : AC Try.prog 7 (encA t) [] true [] fun rv obs => (rv, obs) = encR x := ACc.ac (body := bodyOf Try.f7) Try.func7 (by kernel_rfl) (by kernel_rfl) (acc t x h)
theorem ac (args : List AV) (x : Bool) (h : Q args = some x) : AC Try.prog 7 args [] false [] fun rv obs => (rv, obs) = encR x := by
  obtain ⟨t, rfl, h2⟩ := ofC_some h
  refine (ac0 t x h2).flat fun rv obs e => ?_
  obtain rfl : rv = (encR x).1 := congrArg Prod.fst e
  obtain rfl : obs = (encR x).2 := congrArg Prod.snd e
  refine ⟨by simp [encR, AV.Flat, K.Flat, C.Flat], ?_⟩
  simp [encR]
end spec_CommitsOk
/-! loop.example/g00073/impl.graphOf -/
namespace impl_graphOf
noncomputable def B0 {ρ : Type} (v1 : Vec ((Vec Int) × ByteArray × (Vec (ByteArray × Int × Int)))) (v2 : Int) (v3 : Int) (v4 : Vec (IVec Int)) (W : (Vec ((Vec Int) × ByteArray × (Vec (ByteArray × Int × Int)))) → Int → Int → (Vec (IVec Int)) → Option ρ) (K0 : (Vec (IVec Int)) → Option ρ) : Option ρ :=
  sel (decide (v3 < v2)) (chk (decide (0 ≤ v3 ∧ v3 < (v1.n : Int))) (chk (decide ((v4.n + (Vec.lit [⟨(v1.g v3.toNat).1⟩] : Vec (IVec Int)).n) * 25 ≤ maxN)) (W v1 v2 (wr (v3 + (1 : Int))) (Vec.app v4 (Vec.lit [⟨(v1.g v3.toNat).1⟩] : Vec (IVec Int)))))) (K0 v4)
noncomputable def F0 {ρ : Type} : Nat → (Vec ((Vec Int) × ByteArray × (Vec (ByteArray × Int × Int)))) → Int → Int → (Vec (IVec Int)) → ((Vec (IVec Int)) → Option ρ) → Option ρ
  | 0, _, _, _, _, _ => none
  | k + 1, v1, v2, v3, v4, K0 => B0 v1 v2 v3 v4 (fun v1' v2' v3' v4' => F0 k v1' v2' v3' v4' K0) K0
noncomputable def B {ρ : Type} (L0 : (Vec ((Vec Int) × ByteArray × (Vec (ByteArray × Int × Int)))) → Int → Int → (Vec (IVec Int)) → ((Vec (IVec Int)) → Option ρ) → Option ρ) (a1 : Vec ((Vec Int) × ByteArray × (Vec (ByteArray × Int × Int)))) (K : (Vec (IVec Int)) → Option ρ) : Option ρ :=
  L0 a1 (a1.n : Int) (0 : Int) (Vec.nil : Vec (IVec Int)) (fun e01 => K e01)
noncomputable def F (a1 : Vec ((Vec Int) × ByteArray × (Vec (ByteArray × Int × Int)))) : Option (Vec (IVec Int)) := B (F0 fuelN) a1 (fun x1 => some (x1))
def encA (t : Vec ((Vec Int) × ByteArray × (Vec (ByteArray × Int × Int)))) : List AV := [vl t]
def encR (x : Vec (IVec Int)) : AV × List Ob := (.c (.h 0), [ro x])
theorem encAI : ∀ a b, encA a = encA b → a = b := by
  intro a b h
  simp [encA, encRw_iff] at h
  simp_all
theorem encRI : ∀ a b, encR a = encR b → a = b := by
  intro a b h
  simp [encR, encRw_iff] at h
  simp_all
noncomputable def Q (args : List AV) : Option (Vec (IVec Int)) := ofC encA (fun t => F t) args
theorem wrap : (fun (y1 : Vec ((Vec Int) × ByteArray × (Vec (ByteArray × Int × Int)))) => Q [vl y1]) = F := by
  funext y1
  exact ofC_enc encAI _ (y1)
noncomputable def G : Orc := ⟨fun f => 9, fun ρ f args K => Option.none, noE, false⟩
noncomputable def L (W0 : (ρ : Type) → List AV → List Ob → ((Vec (IVec Int)) → Option ρ) → Option ρ) : Lor := fun ρ j st K => sel (Nat.beq j 0) (cutO Try.prog 19 [3, 6, 7, 8] 0 [] [.ai (.s 3) 43 [true]] st fun avs obs => W0 ρ avs obs (fun z1 => K (.exit 0) (mkS 19 [3] [.c (.h 0)] [ro z1] []))) (Option.none)
noncomputable def c0 : Code := loopC (atomN [] 0 (bodyOf Try.f31) 0)
def ct0 : Cut := ⟨[3, 6, 7, 8], [.ai (.s 3) 43 [true]]⟩
def lv0 : Exit → Cut
  | .exit 0 => ⟨[3], []⟩
  | _ => ⟨[], []⟩
theorem step0 (W0) {ρ : Type} (K : Exit → St → Option ρ) (W : List AV → List Ob → Option ρ) (v1 v2 v3 v4) : exC Try.prog (G) (L W0) [] 1 c0 (mkS 19 [3, 6, 7, 8] [.c (.h 0), vl v1, vi v2, vi v3] [ro v4] []) (bodyK Try.prog 19 0 [] ct0 W lv0 K) =
    B0 v1 v2 v3 v4 (fun u1 u2 u3 u4 => W [.c (.h 0), vl u1, vi u2, vi u3] [ro u4]) (fun z1 => K (.exit 0) (mkS 19 [3] [.c (.h 0)] [ro z1] [])) := by kernel_rfl
def enc0 (t : (Vec ((Vec Int) × ByteArray × (Vec (ByteArray × Int × Int)))) × Int × Int × Vec (IVec Int)) : List AV × List Ob := ([.c (.h 0), vl t.1, vi t.2.1, vi t.2.2.1], [ro t.2.2.2])
theorem enc0I : ∀ a b, enc0 a = enc0 b → a = b := by
  intro a b h
  obtain ⟨a0, a1, a2, a3⟩ := a
  obtain ⟨b0, b1, b2, b3⟩ := b
  simp [enc0, encRw_iff] at h
  simp_all
noncomputable def V0 : (ρ : Type) → List AV → List Ob → ((Vec (IVec Int)) → Option ρ) → Option ρ := fun ρ avs obs k0 => ofC enc0 (fun t => F0 fuelN t.1 t.2.1 t.2.2.1 t.2.2.2 k0) (avs, obs)
theorem V0_enc (ρ : Type) : (fun w1 w2 w3 w4 k0 => V0 ρ [.c (.h 0), vl w1, vi w2, vi w3] [ro w4] k0) = F0 fuelN := by
  funext w1 w2 w3 w4 k0
  exact ofC_enc enc0I _ (w1, w2, w3, w4)
theorem main (W0) {ρ : Type} (K : AV → List Ob → Option ρ) (a1) : exC Try.prog (G) (L W0) [] 0 (bodyOf Try.f31) (entry 19 [vl a1] [] []) (finO Try.prog Try.f31.results.toList 0 [] [] K) =
    B (fun w1 w2 w3 w4 k0 => W0 ρ [.c (.h 0), vl w1, vi w2, vi w3] [ro w4] k0) a1 (fun x1 => K (.c (.h 0)) [ro x1]) := by kernel_rfl
theorem Gok : (G).ok Try.prog := ⟨(fun ρ f args K r h => (by cases h)),
  (fun ρ f args K => rfl),
  (fun ρ f st caps args dst K r h => (by cases h))⟩
theorem hm : Try.prog.follows .mixedOrders = true := by kernel_rfl
theorem e0 : atomsL [] 1 c0 = [] := by kernel_rfl
theorem ok0 (ρ : Type) (st : St) (K : Exit → St → Option ρ) (r : ρ) (h : (L V0) ρ 0 st K = some r) : AW Try.prog (.loop c0) st fun e st' => K e st' = some r := by
  refine loop_ok (ct := ct0) (lv := lv0) (n := 19) (m := 0) (ks := []) (j := 0) (jn := []) (L := (L V0)) Gok hm (by rw [e0]; exact Lor.ok_nil _ _) enc0I (fun k t => F0 k t.1 t.2.1 t.2.2.1 t.2.2.2 (fun z1 => K (.exit 0) (mkS 19 [3] [.c (.h 0)] [ro z1] []))) (fun t => rfl) (fun k t => ?_) (fun _ => fuelN) h
  refine (step0 V0 K _ t.1 t.2.1 t.2.2.1 t.2.2.2).trans ?_
  refine congrArg (fun W => B0 t.1 t.2.1 t.2.2.1 t.2.2.2 W (fun z1 => K (.exit 0) (mkS 19 [3] [.c (.h 0)] [ro z1] []))) ?_
  funext u1 u2 u3 u4
  exact ofC_enc enc0I _ (u1, u2, u3, u4)
theorem e : atomsL [] 0 (bodyOf Try.f31) = [(0, 0, .loop c0)] := by kernel_rfl
theorem acc (t : Vec ((Vec Int) × ByteArray × (Vec (ByteArray × Int × Int)))) (x : Vec (IVec Int)) (h : F t = some x) : ACc Try.prog 31 (encA t) [] true [] fun rv obs => (rv, obs) = encR x := by
  refine fun_okc (L := (L V0)) (jn := []) (cmds := []) (ks := []) (hin := []) (fn := Try.f31) (body := (bodyOf Try.f31)) Gok hm Try.func31 (by kernel_rfl) (by kernel_rfl) (by rw [e]; exact Lor.ok_cons ok0 (Lor.ok_nil _ _)) ?_ h
  refine (main V0 _ t).trans ?_
  rw [V0_enc]
  refine congrArg (fun K => B (F0 fuelN) t K) ?_
  funext x1
  exact ofC_enc encRI some (x1)
theorem ac0 (t : Vec ((Vec Int) × ByteArray × (Vec (ByteArray × Int × Int)))) (x : Vec (IVec Int)) (h : F t = some x) : AC Try.prog 31 (encA t) [] true [] fun rv obs => (rv, obs) = encR x := ACc.ac (body := bodyOf Try.f31) Try.func31 (by kernel_rfl) (by kernel_rfl) (acc t x h)
theorem ac (args : List AV) (x : Vec (IVec Int)) (h : Q args = some x) : AC Try.prog 31 args [] true [] fun rv obs => (rv, obs) = encR x := by
  obtain ⟨t, rfl, h2⟩ := ofC_some h
  exact ac0 t x h2
end impl_graphOf
/-! loop.example/g00073/impl.GraphOk -/
namespace impl_GraphOk_s2a58
noncomputable def B0 {ρ : Type} (C0 : (Vec Int) → Int → Option Bool) (v1 : Vec (IVec Int)) (v2 : Vec (IVec Int)) (v3 : Int) (v4 : Int) (W : (Vec (IVec Int)) → (Vec (IVec Int)) → Int → Int → Option ρ) (K0 : (Vec (IVec Int)) → Option ρ) (Kr : Bool → Option ρ) : Option ρ :=
  sel (decide (v4 < v3)) (chk (decide (0 ≤ v4 ∧ v4 < (v2.n : Int))) (sel (decide ((4 : Int) < (((v2.g v4.toNat).v).n : Int))) (Kr false) ((C0 ((v2.g v4.toNat).v) v4).bind fun r1 => sel ((!r1)) (Kr false) (W v1 v2 v3 (wr (v4 + (1 : Int))))))) (K0 v1)
noncomputable def F0 {ρ : Type} : Nat → (Vec (IVec Int)) → (Vec (IVec Int)) → Int → Int → ((Vec (IVec Int)) → Option ρ) → (Bool → Option ρ) → Option ρ
  | 0, _, _, _, _, _, _ => none
  | k + 1, v1, v2, v3, v4, K0, Kr => B0 impl_ascends.F v1 v2 v3 v4 (fun v1' v2' v3' v4' => F0 k v1' v2' v3' v4' K0 Kr) K0 Kr
noncomputable def B {ρ : Type} (L0 : (Vec (IVec Int)) → (Vec (IVec Int)) → Int → Int → ((Vec (IVec Int)) → Option ρ) → (Bool → Option ρ) → Option ρ) (a1 : Vec (IVec Int)) (K : Bool → Option ρ) : Option ρ :=
  L0 a1 a1 (a1.n : Int) (0 : Int) (fun e01 => K (decide ((e01.n : Int) ≤ (40 : Int)))) (fun x01 => K x01)
noncomputable def F (a1 : Vec (IVec Int)) : Option Bool := B (F0 fuelN) a1 (fun x1 => some (x1))
def encA (t : Vec (IVec Int)) : List AV := [vl t]
def encR (x : Bool) : AV × List Ob := (vb x, [])
theorem encAI : ∀ a b, encA a = encA b → a = b := by
  intro a b h
  simp [encA, encRw_iff] at h
  simp_all
theorem encRI : ∀ a b, encR a = encR b → a = b := by
  intro a b h
  simp [encR, encRw_iff] at h
  simp_all
noncomputable def Q (args : List AV) : Option Bool := ofC encA (fun t => F t) args
theorem wrap : (fun (y1 : Vec (IVec Int)) => Q [vl y1]) = F := by
  funext y1
  exact ofC_enc encAI _ (y1)
noncomputable def G (Q0 : List AV → Option Bool) : Orc := ⟨fun f => sel (Nat.beq f 62) 0 (9), fun ρ f args K => sel (Nat.beq f 62) (qEntry impl_ascends.encR Q0 args K) (Option.none), noE, false⟩
noncomputable def L (W0 : (ρ : Type) → List AV → List Ob → ((Vec (IVec Int)) → Option ρ) → (Bool → Option ρ) → Option ρ) : Lor := fun ρ j st K => sel (Nat.beq j 0) (cutO Try.prog 25 [0, 5, 6, 7] 0 [] [] st fun avs obs => W0 ρ avs obs (fun z1 => K (.exit 0) (mkS 25 [0] [vl z1] [] [])) (fun z1 => K .ret (mkS 25 [2] [vb z1] [] []))) (Option.none)
noncomputable def c0 : Code := loopC (atomN [] 0 (bodyOf Try.f30) 0)
def ct0 : Cut := ⟨[0, 5, 6, 7], []⟩
def lv0 : Exit → Cut
  | .exit 0 => ⟨[0], []⟩
  | .ret => ⟨[2], []⟩
  | _ => ⟨[], []⟩
theorem step0 (Q0) (W0) {ρ : Type} (K : Exit → St → Option ρ) (W : List AV → List Ob → Option ρ) (v1 v2 v3 v4) : exC Try.prog (G Q0) (L W0) [] 1 c0 (mkS 25 [0, 5, 6, 7] [vl v1, vl v2, vi v3, vi v4] [] []) (bodyK Try.prog 25 0 [] ct0 W lv0 K) =
    B0 (fun y1 y2 => Q0 [vl y1, vi y2]) v1 v2 v3 v4 (fun u1 u2 u3 u4 => W [vl u1, vl u2, vi u3, vi u4] []) (fun z1 => K (.exit 0) (mkS 25 [0] [vl z1] [] [])) (fun z1 => K .ret (mkS 25 [2] [vb z1] [] [])) := by kernel_rfl
def enc0 (t : Vec (IVec Int) × Vec (IVec Int) × Int × Int) : List AV × List Ob := ([vl t.1, vl t.2.1, vi t.2.2.1, vi t.2.2.2], [])
theorem enc0I : ∀ a b, enc0 a = enc0 b → a = b := by
  intro a b h
  obtain ⟨a0, a1, a2, a3⟩ := a
  obtain ⟨b0, b1, b2, b3⟩ := b
  simp [enc0, encRw_iff] at h
  simp_all
noncomputable def V0 : (ρ : Type) → List AV → List Ob → ((Vec (IVec Int)) → Option ρ) → (Bool → Option ρ) → Option ρ := fun ρ avs obs k0 kr => ofC enc0 (fun t => F0 fuelN t.1 t.2.1 t.2.2.1 t.2.2.2 k0 kr) (avs, obs)
theorem V0_enc (ρ : Type) : (fun w1 w2 w3 w4 k0 kr => V0 ρ [vl w1, vl w2, vi w3, vi w4] [] k0 kr) = F0 fuelN := by
  funext w1 w2 w3 w4 k0 kr
  exact ofC_enc enc0I _ (w1, w2, w3, w4)
theorem main (Q0) (W0) {ρ : Type} (K : AV → List Ob → Option ρ) (a1) : exC Try.prog (G Q0) (L W0) [] 0 (bodyOf Try.f30) (entry 25 [vl a1] [] []) (finO Try.prog Try.f30.results.toList 0 [] [] K) =
    B (fun w1 w2 w3 w4 k0 kr => W0 ρ [vl w1, vl w2, vi w3, vi w4] [] k0 kr) a1 (fun x1 => K (vb x1) []) := by kernel_rfl
theorem Gok : (G impl_ascends.Q).ok Try.prog := ⟨(by
    intro ρ f args K r h
    rcases sel_cases h with ⟨hb, h⟩ | ⟨-, h⟩
    · obtain rfl := beq_nat hb
      exact qEntry_ok impl_ascends.ac h
    cases h),
  (by
    intro ρ f args K
    simp only [G]
    cases Nat.beq f 62 with
    | true => exact qEntry_nat args K
    | false =>
    simp only [sel]
    rfl),
  (fun ρ f st caps args dst K r h => (by cases h))⟩
theorem hm : Try.prog.follows .mixedOrders = true := by kernel_rfl
theorem e0 : atomsL [] 1 c0 = [] := by kernel_rfl
theorem ok0 (ρ : Type) (st : St) (K : Exit → St → Option ρ) (r : ρ) (h : (L V0) ρ 0 st K = some r) : AW Try.prog (.loop c0) st fun e st' => K e st' = some r := by
  refine loop_ok (ct := ct0) (lv := lv0) (n := 25) (m := 0) (ks := []) (j := 0) (jn := []) (L := (L V0)) Gok hm (by rw [e0]; exact Lor.ok_nil _ _) enc0I (fun k t => F0 k t.1 t.2.1 t.2.2.1 t.2.2.2 (fun z1 => K (.exit 0) (mkS 25 [0] [vl z1] [] [])) (fun z1 => K .ret (mkS 25 [2] [vb z1] [] []))) (fun t => rfl) (fun k t => ?_) (fun _ => fuelN) h
  refine (step0 impl_ascends.Q V0 K _ t.1 t.2.1 t.2.2.1 t.2.2.2).trans ?_
  rw [impl_ascends.wrap]
  refine congrArg (fun W => B0 impl_ascends.F t.1 t.2.1 t.2.2.1 t.2.2.2 W (fun z1 => K (.exit 0) (mkS 25 [0] [vl z1] [] [])) (fun z1 => K .ret (mkS 25 [2] [vb z1] [] []))) ?_
  funext u1 u2 u3 u4
  exact ofC_enc enc0I _ (u1, u2, u3, u4)
theorem e : atomsL [] 0 (bodyOf Try.f30) = [(0, 0, .loop c0)] := by kernel_rfl
theorem acc (t : Vec (IVec Int)) (x : Bool) (h : F t = some x) : ACc Try.prog 30 (encA t) [] true [] fun rv obs => (rv, obs) = encR x := by
  refine fun_okc (L := (L V0)) (jn := []) (cmds := []) (ks := []) (hin := []) (fn := Try.f30) (body := (bodyOf Try.f30)) Gok hm Try.func30 (by kernel_rfl) (by kernel_rfl) (by rw [e]; exact Lor.ok_cons ok0 (Lor.ok_nil _ _)) ?_ h
  refine (main impl_ascends.Q V0 _ t).trans ?_
  rw [V0_enc]
  refine congrArg (fun K => B (F0 fuelN) t K) ?_
  funext x1
  exact ofC_enc encRI some (x1)
theorem ac0 (t : Vec (IVec Int)) (x : Bool) (h : F t = some x) : AC Try.prog 30 (encA t) [] true [] fun rv obs => (rv, obs) = encR x := ACc.ac (body := bodyOf Try.f30) Try.func30 (by kernel_rfl) (by kernel_rfl) (acc t x h)
theorem ac (args : List AV) (x : Bool) (h : Q args = some x) : AC Try.prog 30 args [] false [] fun rv obs => (rv, obs) = encR x := by
  obtain ⟨t, rfl, h2⟩ := ofC_some h
  refine (ac0 t x h2).flat fun rv obs e => ?_
  obtain rfl : rv = (encR x).1 := congrArg Prod.fst e
  obtain rfl : obs = (encR x).2 := congrArg Prod.snd e
  refine ⟨by simp [encR, AV.Flat, K.Flat, C.Flat], ?_⟩
  simp [encR]
end impl_GraphOk_s2a58
/-! loop.example/g00073/impl.NoteOk -/
namespace impl_NoteOk
noncomputable def B0 {ρ : Type} (v1 : ByteArray) (v2 : Int) (W : ByteArray → Int → Option ρ) (K0 : ByteArray → Option ρ) (Kr : Bool → Option ρ) : Option ρ :=
  sel (decide (v2 < (v1.size : Int))) (chk (decide (0 ≤ v2 ∧ v2 < (v1.size : Int))) (sel (decide ((byteAt v1 v2.toNat) < (32 : Int))) (Kr false) (chk (decide (0 ≤ v2 ∧ v2 < (v1.size : Int))) (sel (decide ((126 : Int) < (byteAt v1 v2.toNat))) (Kr false) (W v1 (wr (v2 + (1 : Int)))))))) (K0 v1)
noncomputable def F0 {ρ : Type} : Nat → ByteArray → Int → (ByteArray → Option ρ) → (Bool → Option ρ) → Option ρ
  | 0, _, _, _, _ => none
  | k + 1, v1, v2, K0, Kr => B0 v1 v2 (fun v1' v2' => F0 k v1' v2' K0 Kr) K0 Kr
noncomputable def B {ρ : Type} (L0 : ByteArray → Int → (ByteArray → Option ρ) → (Bool → Option ρ) → Option ρ) (a1 : ByteArray) (K : Bool → Option ρ) : Option ρ :=
  L0 a1 (0 : Int) (fun e01 => K (decide ((e01.size : Int) ≤ (40 : Int)))) (fun x01 => K x01)
noncomputable def F (a1 : ByteArray) : Option Bool := B (F0 fuelN) a1 (fun x1 => some (x1))
def encA (t : ByteArray) : List AV := [vs t]
def encR (x : Bool) : AV × List Ob := (vb x, [])
theorem encAI : ∀ a b, encA a = encA b → a = b := by
  intro a b h
  simp [encA, encRw_iff] at h
  simp_all
theorem encRI : ∀ a b, encR a = encR b → a = b := by
  intro a b h
  simp [encR, encRw_iff] at h
  simp_all
noncomputable def Q (args : List AV) : Option Bool := ofC encA (fun t => F t) args
theorem wrap : (fun (y1 : ByteArray) => Q [vs y1]) = F := by
  funext y1
  exact ofC_enc encAI _ (y1)
noncomputable def G : Orc := ⟨fun f => 9, fun ρ f args K => Option.none, noE, false⟩
noncomputable def L (W0 : (ρ : Type) → List AV → List Ob → (ByteArray → Option ρ) → (Bool → Option ρ) → Option ρ) : Lor := fun ρ j st K => sel (Nat.beq j 0) (cutO Try.prog 23 [0, 3] 0 [] [] st fun avs obs => W0 ρ avs obs (fun z1 => K (.exit 0) (mkS 23 [0] [vs z1] [] [])) (fun z1 => K .ret (mkS 23 [2] [vb z1] [] []))) (Option.none)
noncomputable def c0 : Code := loopC (atomN [] 0 (bodyOf Try.f33) 0)
def ct0 : Cut := ⟨[0, 3], []⟩
def lv0 : Exit → Cut
  | .exit 0 => ⟨[0], []⟩
  | .ret => ⟨[2], []⟩
  | _ => ⟨[], []⟩
theorem step0 (W0) {ρ : Type} (K : Exit → St → Option ρ) (W : List AV → List Ob → Option ρ) (v1 v2) : exC Try.prog (G) (L W0) [] 1 c0 (mkS 23 [0, 3] [vs v1, vi v2] [] []) (bodyK Try.prog 23 0 [] ct0 W lv0 K) =
    B0 v1 v2 (fun u1 u2 => W [vs u1, vi u2] []) (fun z1 => K (.exit 0) (mkS 23 [0] [vs z1] [] [])) (fun z1 => K .ret (mkS 23 [2] [vb z1] [] [])) := by kernel_rfl
def enc0 (t : ByteArray × Int) : List AV × List Ob := ([vs t.1, vi t.2], [])
theorem enc0I : ∀ a b, enc0 a = enc0 b → a = b := by
  intro a b h
  obtain ⟨a0, a1⟩ := a
  obtain ⟨b0, b1⟩ := b
  simp [enc0, encRw_iff] at h
  simp_all
noncomputable def V0 : (ρ : Type) → List AV → List Ob → (ByteArray → Option ρ) → (Bool → Option ρ) → Option ρ := fun ρ avs obs k0 kr => ofC enc0 (fun t => F0 fuelN t.1 t.2 k0 kr) (avs, obs)
theorem V0_enc (ρ : Type) : (fun w1 w2 k0 kr => V0 ρ [vs w1, vi w2] [] k0 kr) = F0 fuelN := by
  funext w1 w2 k0 kr
  exact ofC_enc enc0I _ (w1, w2)
theorem main (W0) {ρ : Type} (K : AV → List Ob → Option ρ) (a1) : exC Try.prog (G) (L W0) [] 0 (bodyOf Try.f33) (entry 23 [vs a1] [] []) (finO Try.prog Try.f33.results.toList 0 [] [] K) =
    B (fun w1 w2 k0 kr => W0 ρ [vs w1, vi w2] [] k0 kr) a1 (fun x1 => K (vb x1) []) := by kernel_rfl
theorem Gok : (G).ok Try.prog := ⟨(fun ρ f args K r h => (by cases h)),
  (fun ρ f args K => rfl),
  (fun ρ f st caps args dst K r h => (by cases h))⟩
theorem hm : Try.prog.follows .mixedOrders = true := by kernel_rfl
theorem e0 : atomsL [] 1 c0 = [] := by kernel_rfl
theorem ok0 (ρ : Type) (st : St) (K : Exit → St → Option ρ) (r : ρ) (h : (L V0) ρ 0 st K = some r) : AW Try.prog (.loop c0) st fun e st' => K e st' = some r := by
  refine loop_ok (ct := ct0) (lv := lv0) (n := 23) (m := 0) (ks := []) (j := 0) (jn := []) (L := (L V0)) Gok hm (by rw [e0]; exact Lor.ok_nil _ _) enc0I (fun k t => F0 k t.1 t.2 (fun z1 => K (.exit 0) (mkS 23 [0] [vs z1] [] [])) (fun z1 => K .ret (mkS 23 [2] [vb z1] [] []))) (fun t => rfl) (fun k t => ?_) (fun _ => fuelN) h
  refine (step0 V0 K _ t.1 t.2).trans ?_
  refine congrArg (fun W => B0 t.1 t.2 W (fun z1 => K (.exit 0) (mkS 23 [0] [vs z1] [] [])) (fun z1 => K .ret (mkS 23 [2] [vb z1] [] []))) ?_
  funext u1 u2
  exact ofC_enc enc0I _ (u1, u2)
theorem e : atomsL [] 0 (bodyOf Try.f33) = [(0, 0, .loop c0)] := by kernel_rfl
theorem acc (t : ByteArray) (x : Bool) (h : F t = some x) : ACc Try.prog 33 (encA t) [] true [] fun rv obs => (rv, obs) = encR x := by
  refine fun_okc (L := (L V0)) (jn := []) (cmds := []) (ks := []) (hin := []) (fn := Try.f33) (body := (bodyOf Try.f33)) Gok hm Try.func33 (by kernel_rfl) (by kernel_rfl) (by rw [e]; exact Lor.ok_cons ok0 (Lor.ok_nil _ _)) ?_ h
  refine (main V0 _ t).trans ?_
  rw [V0_enc]
  refine congrArg (fun K => B (F0 fuelN) t K) ?_
  funext x1
  exact ofC_enc encRI some (x1)
theorem ac0 (t : ByteArray) (x : Bool) (h : F t = some x) : AC Try.prog 33 (encA t) [] true [] fun rv obs => (rv, obs) = encR x := ACc.ac (body := bodyOf Try.f33) Try.func33 (by kernel_rfl) (by kernel_rfl) (acc t x h)
theorem ac (args : List AV) (x : Bool) (h : Q args = some x) : AC Try.prog 33 args [] false [] fun rv obs => (rv, obs) = encR x := by
  obtain ⟨t, rfl, h2⟩ := ofC_some h
  refine (ac0 t x h2).flat fun rv obs e => ?_
  obtain rfl : rv = (encR x).1 := congrArg Prod.fst e
  obtain rfl : obs = (encR x).2 := congrArg Prod.snd e
  refine ⟨by simp [encR, AV.Flat, K.Flat, C.Flat], ?_⟩
  simp [encR]
end impl_NoteOk
/-! loop.example/g00073/impl.CommitsOk -/
namespace impl_CommitsOk
noncomputable def B2 {ρ : Type} (v1 : Vec Int) (v2 : Vec ((Vec Int) × ByteArray × (Vec (ByteArray × Int × Int)))) (v3 : Int) (v4 : Int) (v5 : Vec (ByteArray × Int × Int)) (v6 : Int) (v7 : Int) (W : (Vec Int) → (Vec ((Vec Int) × ByteArray × (Vec (ByteArray × Int × Int)))) → Int → Int → (Vec (ByteArray × Int × Int)) → Int → Int → Option ρ) (K4 : (Vec Int) → (Vec ((Vec Int) × ByteArray × (Vec (ByteArray × Int × Int)))) → Int → Int → Option ρ) (Kr : Bool → Option ρ) : Option ρ :=
  sel (decide (v7 < v6)) (chk (decide (0 ≤ v7 ∧ v7 < (v5.n : Int))) (sel (decide ((v1.n : Int) ≤ (v5.g v7.toNat).2.1)) (Kr false) (chk (decide (0 ≤ (v5.g v7.toNat).2.1 ∧ (v5.g v7.toNat).2.1 < (v1.n : Int))) (sel (decide ((v1.g ((v5.g v7.toNat).2.1).toNat) ≤ (v5.g v7.toNat).2.2)) (Kr false) (W v1 v2 v3 v4 v5 v6 (wr (v7 + (1 : Int)))))))) (K4 v1 v2 v3 v4)
noncomputable def F2 {ρ : Type} : Nat → (Vec Int) → (Vec ((Vec Int) × ByteArray × (Vec (ByteArray × Int × Int)))) → Int → Int → (Vec (ByteArray × Int × Int)) → Int → Int → ((Vec Int) → (Vec ((Vec Int) × ByteArray × (Vec (ByteArray × Int × Int)))) → Int → Int → Option ρ) → (Bool → Option ρ) → Option ρ
  | 0, _, _, _, _, _, _, _, _, _ => none
  | k + 1, v1, v2, v3, v4, v5, v6, v7, K4, Kr => B2 v1 v2 v3 v4 v5 v6 v7 (fun v1' v2' v3' v4' v5' v6' v7' => F2 k v1' v2' v3' v4' v5' v6' v7' K4 Kr) K4 Kr
noncomputable def B1 {ρ : Type} (C3 : ByteArray → Option Bool) (C4 : (Vec (ByteArray × Int × Int)) → Option Bool) (L2 : (Vec Int) → (Vec ((Vec Int) × ByteArray × (Vec (ByteArray × Int × Int)))) → Int → Int → (Vec (ByteArray × Int × Int)) → Int → Int → ((Vec Int) → (Vec ((Vec Int) × ByteArray × (Vec (ByteArray × Int × Int)))) → Int → Int → Option ρ) → (Bool → Option ρ) → Option ρ) (v1 : Vec Int) (v2 : Vec ((Vec Int) × ByteArray × (Vec (ByteArray × Int × Int)))) (v3 : Int) (v4 : Int) (W : (Vec Int) → (Vec ((Vec Int) × ByteArray × (Vec (ByteArray × Int × Int)))) → Int → Int → Option ρ) (K2 : Unit → Option ρ) (Kr : Bool → Option ρ) : Option ρ :=
  sel (decide (v4 < v3)) (chk (decide (0 ≤ v4 ∧ v4 < (v2.n : Int))) ((C3 ((v2.g v4.toNat).2.1)).bind fun r4 => sel ((!r4)) (Kr false) ((C4 ((v2.g v4.toNat).2.2)).bind fun r5 => sel ((!r5)) (Kr false) (L2 v1 v2 v3 v4 ((v2.g v4.toNat).2.2) (((v2.g v4.toNat).2.2).n : Int) (0 : Int) (fun e21 e22 e23 e24 => W e21 e22 e23 (wr (e24 + (1 : Int)))) (fun x21 => Kr x21))))) (K2 ())
noncomputable def F1 {ρ : Type} : Nat → (Vec Int) → (Vec ((Vec Int) × ByteArray × (Vec (ByteArray × Int × Int)))) → Int → Int → (Unit → Option ρ) → (Bool → Option ρ) → Option ρ
  | 0, _, _, _, _, _, _ => none
  | k + 1, v1, v2, v3, v4, K2, Kr => B1 impl_NoteOk.F impl_NamesOk.F (F2 fuelN) v1 v2 v3 v4 (fun v1' v2' v3' v4' => F1 k v1' v2' v3' v4' K2 Kr) K2 Kr
noncomputable def B0 {ρ : Type} (C2 : Int → Int → Int → Option Bool) (v1 : Vec ((Vec Int) × ByteArray × (Vec (ByteArray × Int × Int)))) (v2 : Vec Int) (v3 : Vec Int) (v4 : Int) (v5 : Int) (W : (Vec ((Vec Int) × ByteArray × (Vec (ByteArray × Int × Int)))) → (Vec Int) → (Vec Int) → Int → Int → Option ρ) (K0 : (Vec ((Vec Int) × ByteArray × (Vec (ByteArray × Int × Int)))) → (Vec Int) → Option ρ) (Kr : Bool → Option ρ) : Option ρ :=
  sel (decide (v5 < v4)) (chk (decide (0 ≤ v5 ∧ v5 < (v3.n : Int))) ((C2 (v3.g v5.toNat) (0 : Int) (40 : Int)).bind fun r3 => sel ((!r3)) (Kr false) (W v1 v2 v3 v4 (wr (v5 + (1 : Int)))))) (K0 v1 v2)
noncomputable def F0 {ρ : Type} : Nat → (Vec ((Vec Int) × ByteArray × (Vec (ByteArray × Int × Int)))) → (Vec Int) → (Vec Int) → Int → Int → ((Vec ((Vec Int) × ByteArray × (Vec (ByteArray × Int × Int)))) → (Vec Int) → Option ρ) → (Bool → Option ρ) → Option ρ
  | 0, _, _, _, _, _, _, _ => none
  | k + 1, v1, v2, v3, v4, v5, K0, Kr => B0 impl_inRange.F v1 v2 v3 v4 v5 (fun v1' v2' v3' v4' v5' => F0 k v1' v2' v3' v4' v5' K0 Kr) K0 Kr
noncomputable def B {ρ : Type} (C0 : (Vec ((Vec Int) × ByteArray × (Vec (ByteArray × Int × Int)))) → Option (Vec (IVec Int))) (C1 : (Vec (IVec Int)) → Option Bool) (L0 : (Vec ((Vec Int) × ByteArray × (Vec (ByteArray × Int × Int)))) → (Vec Int) → (Vec Int) → Int → Int → ((Vec ((Vec Int) × ByteArray × (Vec (ByteArray × Int × Int)))) → (Vec Int) → Option ρ) → (Bool → Option ρ) → Option ρ) (L1 : (Vec Int) → (Vec ((Vec Int) × ByteArray × (Vec (ByteArray × Int × Int)))) → Int → Int → (Unit → Option ρ) → (Bool → Option ρ) → Option ρ) (a1 : Vec ((Vec Int) × ByteArray × (Vec (ByteArray × Int × Int)))) (a2 : Vec Int) (K : Bool → Option ρ) : Option ρ :=
  sel (decide ((40 : Int) < (a1.n : Int))) (K false) ((C0 a1).bind fun r1 => (C1 r1).bind fun r2 => sel ((!r2)) (K false) (sel (decide ((12 : Int) < (a2.n : Int))) (K false) (L0 a1 a2 a2 (a2.n : Int) (0 : Int) (fun e01 e02 => L1 e02 e01 (e01.n : Int) (0 : Int) (fun _ => K true) (fun x11 => K x11)) (fun x01 => K x01))))
noncomputable def F (a1 : Vec ((Vec Int) × ByteArray × (Vec (ByteArray × Int × Int)))) (a2 : Vec Int) : Option Bool := B impl_graphOf.F impl_GraphOk_s2a58.F (F0 fuelN) (F1 fuelN) a1 a2 (fun x1 => some (x1))
def encA (t : (Vec ((Vec Int) × ByteArray × (Vec (ByteArray × Int × Int)))) × Vec Int) : List AV := [vl t.1, vl t.2]
def encR (x : Bool) : AV × List Ob := (vb x, [])
theorem encAI : ∀ a b, encA a = encA b → a = b := by
  intro a b h
  obtain ⟨a0, a1⟩ := a
  obtain ⟨b0, b1⟩ := b
  simp [encA, encRw_iff] at h
  simp_all
theorem encRI : ∀ a b, encR a = encR b → a = b := by
  intro a b h
  simp [encR, encRw_iff] at h
  simp_all
noncomputable def Q (args : List AV) : Option Bool := ofC encA (fun t => F t.1 t.2) args
theorem wrap : (fun (y1 : Vec ((Vec Int) × ByteArray × (Vec (ByteArray × Int × Int)))) (y2 : Vec Int) => Q [vl y1, vl y2]) = F := by
  funext y1 y2
  exact ofC_enc encAI _ (y1, y2)
noncomputable def G (Q0 : List AV → Option (Vec (IVec Int))) (Q1 : List AV → Option Bool) (Q2 : List AV → Option Bool) (Q3 : List AV → Option Bool) (Q4 : List AV → Option Bool) : Orc := ⟨fun f => sel (Nat.beq f 31) 1 (sel (Nat.beq f 30) 0 (sel (Nat.beq f 32) 0 (sel (Nat.beq f 33) 0 (sel (Nat.beq f 34) 0 (9))))), fun ρ f args K => sel (Nat.beq f 31) (qEntry impl_graphOf.encR Q0 args K) (sel (Nat.beq f 30) (qEntry impl_GraphOk_s2a58.encR Q1 args K) (sel (Nat.beq f 32) (qEntry impl_inRange.encR Q2 args K) (sel (Nat.beq f 33) (qEntry impl_NoteOk.encR Q3 args K) (sel (Nat.beq f 34) (qEntry impl_NamesOk.encR Q4 args K) (Option.none))))), noE, false⟩
noncomputable def L (W2 : (ρ : Type) → List AV → List Ob → ((Vec Int) → (Vec ((Vec Int) × ByteArray × (Vec (ByteArray × Int × Int)))) → Int → Int → Option ρ) → (Bool → Option ρ) → Option ρ) (W1 : (ρ : Type) → List AV → List Ob → (Unit → Option ρ) → (Bool → Option ρ) → Option ρ) (W0 : (ρ : Type) → List AV → List Ob → ((Vec ((Vec Int) × ByteArray × (Vec (ByteArray × Int × Int)))) → (Vec Int) → Option ρ) → (Bool → Option ρ) → Option ρ) : Lor := fun ρ j st K => sel (Nat.beq j 0) (cutO Try.prog 75 [0, 1, 25, 26, 27] 0 [] [] st fun avs obs => W0 ρ avs obs (fun z1 z2 => K (.exit 0) (mkS 75 [0, 1] [vl z1, vl z2] [] [])) (fun z1 => K .ret (mkS 75 [4] [vb z1] [] []))) (sel (Nat.beq j 1) (cutO Try.prog 75 [1, 35, 36, 37] 0 [] [] st fun avs obs => W1 ρ avs obs (fun _ => K (.exit 2) (mkS 75 [] [] [] [])) (fun z1 => K .ret (mkS 75 [4] [vb z1] [] []))) (sel (Nat.beq j 2) (cutO Try.prog 75 [1, 35, 36, 37, 52, 53, 54] 0 [] [] st fun avs obs => W2 ρ avs obs (fun z1 z2 z3 z4 => K (.exit 4) (mkS 75 [1, 35, 36, 37] [vl z1, vl z2, vi z3, vi z4] [] [])) (fun z1 => K .ret (mkS 75 [4] [vb z1] [] []))) (Option.none)))
noncomputable def c0 : Code := loopC (atomN [] 0 (bodyOf Try.f10) 0)
noncomputable def c1 : Code := loopC (atomN [] 0 (bodyOf Try.f10) 1)
noncomputable def c2 : Code := loopC (atomN [] 2 c1 0)
def ct0 : Cut := ⟨[0, 1, 25, 26, 27], []⟩
def lv0 : Exit → Cut
  | .exit 0 => ⟨[0, 1], []⟩
  | .ret => ⟨[4], []⟩
  | _ => ⟨[], []⟩
theorem step0 (Q0 Q1 Q2 Q3 Q4) (W2 W1 W0) {ρ : Type} (K : Exit → St → Option ρ) (W : List AV → List Ob → Option ρ) (v1 v2 v3 v4 v5) : exC Try.prog (G Q0 Q1 Q2 Q3 Q4) (L W2 W1 W0) [] 1 c0 (mkS 75 [0, 1, 25, 26, 27] [vl v1, vl v2, vl v3, vi v4, vi v5] [] []) (bodyK Try.prog 75 0 [] ct0 W lv0 K) =
    B0 (fun y1 y2 y3 => Q2 [vi y1, vi y2, vi y3]) v1 v2 v3 v4 v5 (fun u1 u2 u3 u4 u5 => W [vl u1, vl u2, vl u3, vi u4, vi u5] []) (fun z1 z2 => K (.exit 0) (mkS 75 [0, 1] [vl z1, vl z2] [] [])) (fun z1 => K .ret (mkS 75 [4] [vb z1] [] [])) := by kernel_rfl
def enc0 (t : (Vec ((Vec Int) × ByteArray × (Vec (ByteArray × Int × Int)))) × Vec Int × Vec Int × Int × Int) : List AV × List Ob := ([vl t.1, vl t.2.1, vl t.2.2.1, vi t.2.2.2.1, vi t.2.2.2.2], [])
theorem enc0I : ∀ a b, enc0 a = enc0 b → a = b := by
  intro a b h
  obtain ⟨a0, a1, a2, a3, a4⟩ := a
  obtain ⟨b0, b1, b2, b3, b4⟩ := b
  simp [enc0, encRw_iff] at h
  simp_all
noncomputable def V0 : (ρ : Type) → List AV → List Ob → ((Vec ((Vec Int) × ByteArray × (Vec (ByteArray × Int × Int)))) → (Vec Int) → Option ρ) → (Bool → Option ρ) → Option ρ := fun ρ avs obs k0 kr => ofC enc0 (fun t => F0 fuelN t.1 t.2.1 t.2.2.1 t.2.2.2.1 t.2.2.2.2 k0 kr) (avs, obs)
theorem V0_enc (ρ : Type) : (fun w1 w2 w3 w4 w5 k0 kr => V0 ρ [vl w1, vl w2, vl w3, vi w4, vi w5] [] k0 kr) = F0 fuelN := by
  funext w1 w2 w3 w4 w5 k0 kr
  exact ofC_enc enc0I _ (w1, w2, w3, w4, w5)
def ct1 : Cut := ⟨[1, 35, 36, 37], []⟩
def lv1 : Exit → Cut
  | .exit 2 => ⟨[], []⟩
  | .ret => ⟨[4], []⟩
  | _ => ⟨[], []⟩
theorem step1 (Q0 Q1 Q2 Q3 Q4) (W2 W1 W0) {ρ : Type} (K : Exit → St → Option ρ) (W : List AV → List Ob → Option ρ) (v1 v2 v3 v4) : exC Try.prog (G Q0 Q1 Q2 Q3 Q4) (L W2 W1 W0) [] 2 c1 (mkS 75 [1, 35, 36, 37] [vl v1, vl v2, vi v3, vi v4] [] []) (bodyK Try.prog 75 0 [] ct1 W lv1 K) =
    B1 (fun y1 => Q3 [vs y1]) (fun y1 => Q4 [vl y1]) (fun w1 w2 w3 w4 w5 w6 w7 k4 kr => W2 ρ [vl w1, vl w2, vi w3, vi w4, vl w5, vi w6, vi w7] [] k4 kr) v1 v2 v3 v4 (fun u1 u2 u3 u4 => W [vl u1, vl u2, vi u3, vi u4] []) (fun _ => K (.exit 2) (mkS 75 [] [] [] [])) (fun z1 => K .ret (mkS 75 [4] [vb z1] [] [])) := by kernel_rfl
def enc1 (t : Vec Int × (Vec ((Vec Int) × ByteArray × (Vec (ByteArray × Int × Int)))) × Int × Int) : List AV × List Ob := ([vl t.1, vl t.2.1, vi t.2.2.1, vi t.2.2.2], [])
theorem enc1I : ∀ a b, enc1 a = enc1 b → a = b := by
  intro a b h
  obtain ⟨a0, a1, a2, a3⟩ := a
  obtain ⟨b0, b1, b2, b3⟩ := b
  simp [enc1, encRw_iff] at h
  simp_all
noncomputable def V1 : (ρ : Type) → List AV → List Ob → (Unit → Option ρ) → (Bool → Option ρ) → Option ρ := fun ρ avs obs k2 kr => ofC enc1 (fun t => F1 fuelN t.1 t.2.1 t.2.2.1 t.2.2.2 k2 kr) (avs, obs)
theorem V1_enc (ρ : Type) : (fun w1 w2 w3 w4 k2 kr => V1 ρ [vl w1, vl w2, vi w3, vi w4] [] k2 kr) = F1 fuelN := by
  funext w1 w2 w3 w4 k2 kr
  exact ofC_enc enc1I _ (w1, w2, w3, w4)
def ct2 : Cut := ⟨[1, 35, 36, 37, 52, 53, 54], []⟩
def lv2 : Exit → Cut
  | .exit 4 => ⟨[1, 35, 36, 37], []⟩
  | .ret => ⟨[4], []⟩
  | _ => ⟨[], []⟩
theorem step2 (Q0 Q1 Q2 Q3 Q4) (W2 W1 W0) {ρ : Type} (K : Exit → St → Option ρ) (W : List AV → List Ob → Option ρ) (v1 v2 v3 v4 v5 v6 v7) : exC Try.prog (G Q0 Q1 Q2 Q3 Q4) (L W2 W1 W0) [] 3 c2 (mkS 75 [1, 35, 36, 37, 52, 53, 54] [vl v1, vl v2, vi v3, vi v4, vl v5, vi v6, vi v7] [] []) (bodyK Try.prog 75 0 [] ct2 W lv2 K) =
    B2 v1 v2 v3 v4 v5 v6 v7 (fun u1 u2 u3 u4 u5 u6 u7 => W [vl u1, vl u2, vi u3, vi u4, vl u5, vi u6, vi u7] []) (fun z1 z2 z3 z4 => K (.exit 4) (mkS 75 [1, 35, 36, 37] [vl z1, vl z2, vi z3, vi z4] [] [])) (fun z1 => K .ret (mkS 75 [4] [vb z1] [] [])) := by kernel_rfl
def enc2 (t : Vec Int × (Vec ((Vec Int) × ByteArray × (Vec (ByteArray × Int × Int)))) × Int × Int × (Vec (ByteArray × Int × Int)) × Int × Int) : List AV × List Ob := ([vl t.1, vl t.2.1, vi t.2.2.1, vi t.2.2.2.1, vl t.2.2.2.2.1, vi t.2.2.2.2.2.1, vi t.2.2.2.2.2.2], [])
theorem enc2I : ∀ a b, enc2 a = enc2 b → a = b := by
  intro a b h
  obtain ⟨a0, a1, a2, a3, a4, a5, a6⟩ := a
  obtain ⟨b0, b1, b2, b3, b4, b5, b6⟩ := b
  simp [enc2, encRw_iff] at h
  simp_all
noncomputable def V2 : (ρ : Type) → List AV → List Ob → ((Vec Int) → (Vec ((Vec Int) × ByteArray × (Vec (ByteArray × Int × Int)))) → Int → Int → Option ρ) → (Bool → Option ρ) → Option ρ := fun ρ avs obs k4 kr => ofC enc2 (fun t => F2 fuelN t.1 t.2.1 t.2.2.1 t.2.2.2.1 t.2.2.2.2.1 t.2.2.2.2.2.1 t.2.2.2.2.2.2 k4 kr) (avs, obs)
theorem V2_enc (ρ : Type) : (fun w1 w2 w3 w4 w5 w6 w7 k4 kr => V2 ρ [vl w1, vl w2, vi w3, vi w4, vl w5, vi w6, vi w7] [] k4 kr) = F2 fuelN := by
  funext w1 w2 w3 w4 w5 w6 w7 k4 kr
  exact ofC_enc enc2I _ (w1, w2, w3, w4, w5, w6, w7)
theorem main (Q0 Q1 Q2 Q3 Q4) (W2 W1 W0) {ρ : Type} (K : AV → List Ob → Option ρ) (a1 a2) : exC Try.prog (G Q0 Q1 Q2 Q3 Q4) (L W2 W1 W0) [] 0 (bodyOf Try.f10) (entry 75 [vl a1, vl a2] [] []) (finO Try.prog Try.f10.results.toList 0 [] [] K) =
    B (fun y1 => Q0 [vl y1]) (fun y1 => Q1 [vl y1]) (fun w1 w2 w3 w4 w5 k0 kr => W0 ρ [vl w1, vl w2, vl w3, vi w4, vi w5] [] k0 kr) (fun w1 w2 w3 w4 k2 kr => W1 ρ [vl w1, vl w2, vi w3, vi w4] [] k2 kr) a1 a2 (fun x1 => K (vb x1) []) := by kernel_rfl
theorem Gok : (G impl_graphOf.Q impl_GraphOk_s2a58.Q impl_inRange.Q impl_NoteOk.Q impl_NamesOk.Q).ok Try.prog := ⟨(by
    intro ρ f args K r h
    rcases sel_cases h with ⟨hb, h⟩ | ⟨-, h⟩
    · obtain rfl := beq_nat hb
      exact qEntry_ok impl_graphOf.ac h
    rcases sel_cases h with ⟨hb, h⟩ | ⟨-, h⟩
    · obtain rfl := beq_nat hb
      exact qEntry_ok impl_GraphOk_s2a58.ac h
    rcases sel_cases h with ⟨hb, h⟩ | ⟨-, h⟩
    · obtain rfl := beq_nat hb
      exact qEntry_ok impl_inRange.ac h
    rcases sel_cases h with ⟨hb, h⟩ | ⟨-, h⟩
    · obtain rfl := beq_nat hb
      exact qEntry_ok impl_NoteOk.ac h
    rcases sel_cases h with ⟨hb, h⟩ | ⟨-, h⟩
    · obtain rfl := beq_nat hb
      exact qEntry_ok impl_NamesOk.ac h
    cases h),
  (by
    intro ρ f args K
    simp only [G]
    cases Nat.beq f 31 with
    | true => exact qEntry_nat args K
    | false =>
    simp only [sel]
    cases Nat.beq f 30 with
    | true => exact qEntry_nat args K
    | false =>
    simp only [sel]
    cases Nat.beq f 32 with
    | true => exact qEntry_nat args K
    | false =>
    simp only [sel]
    cases Nat.beq f 33 with
    | true => exact qEntry_nat args K
    | false =>
    simp only [sel]
    cases Nat.beq f 34 with
    | true => exact qEntry_nat args K
    | false =>
    simp only [sel]
    rfl),
  (fun ρ f st caps args dst K r h => (by cases h))⟩
theorem hm : Try.prog.follows .mixedOrders = true := by kernel_rfl
theorem e2 : atomsL [] 3 c2 = [] := by kernel_rfl
theorem ok2 (ρ : Type) (st : St) (K : Exit → St → Option ρ) (r : ρ) (h : (L V2 V1 V0) ρ 2 st K = some r) : AW Try.prog (.loop c2) st fun e st' => K e st' = some r := by
  refine loop_ok (ct := ct2) (lv := lv2) (n := 75) (m := 0) (ks := []) (j := 2) (jn := []) (L := (L V2 V1 V0)) Gok hm (by rw [e2]; exact Lor.ok_nil _ _) enc2I (fun k t => F2 k t.1 t.2.1 t.2.2.1 t.2.2.2.1 t.2.2.2.2.1 t.2.2.2.2.2.1 t.2.2.2.2.2.2 (fun z1 z2 z3 z4 => K (.exit 4) (mkS 75 [1, 35, 36, 37] [vl z1, vl z2, vi z3, vi z4] [] [])) (fun z1 => K .ret (mkS 75 [4] [vb z1] [] []))) (fun t => rfl) (fun k t => ?_) (fun _ => fuelN) h
  refine (step2 impl_graphOf.Q impl_GraphOk_s2a58.Q impl_inRange.Q impl_NoteOk.Q impl_NamesOk.Q V2 V1 V0 K _ t.1 t.2.1 t.2.2.1 t.2.2.2.1 t.2.2.2.2.1 t.2.2.2.2.2.1 t.2.2.2.2.2.2).trans ?_
  refine congrArg (fun W => B2 t.1 t.2.1 t.2.2.1 t.2.2.2.1 t.2.2.2.2.1 t.2.2.2.2.2.1 t.2.2.2.2.2.2 W (fun z1 z2 z3 z4 => K (.exit 4) (mkS 75 [1, 35, 36, 37] [vl z1, vl z2, vi z3, vi z4] [] [])) (fun z1 => K .ret (mkS 75 [4] [vb z1] [] []))) ?_
  funext u1 u2 u3 u4 u5 u6 u7
  exact ofC_enc enc2I _ (u1, u2, u3, u4, u5, u6, u7)
theorem e1 : atomsL [] 2 c1 = [(2, 2, .loop c2)] := by kernel_rfl
theorem ok1 (ρ : Type) (st : St) (K : Exit → St → Option ρ) (r : ρ) (h : (L V2 V1 V0) ρ 1 st K = some r) : AW Try.prog (.loop c1) st fun e st' => K e st' = some r := by
  refine loop_ok (ct := ct1) (lv := lv1) (n := 75) (m := 0) (ks := []) (j := 1) (jn := []) (L := (L V2 V1 V0)) Gok hm (by rw [e1]; exact Lor.ok_cons ok2 (Lor.ok_nil _ _)) enc1I (fun k t => F1 k t.1 t.2.1 t.2.2.1 t.2.2.2 (fun _ => K (.exit 2) (mkS 75 [] [] [] [])) (fun z1 => K .ret (mkS 75 [4] [vb z1] [] []))) (fun t => rfl) (fun k t => ?_) (fun _ => fuelN) h
  refine (step1 impl_graphOf.Q impl_GraphOk_s2a58.Q impl_inRange.Q impl_NoteOk.Q impl_NamesOk.Q V2 V1 V0 K _ t.1 t.2.1 t.2.2.1 t.2.2.2).trans ?_
  rw [impl_NoteOk.wrap, impl_NamesOk.wrap, V2_enc]
  refine congrArg (fun W => B1 impl_NoteOk.F impl_NamesOk.F (F2 fuelN) t.1 t.2.1 t.2.2.1 t.2.2.2 W (fun _ => K (.exit 2) (mkS 75 [] [] [] [])) (fun z1 => K .ret (mkS 75 [4] [vb z1] [] []))) ?_
  funext u1 u2 u3 u4
  exact ofC_enc enc1I _ (u1, u2, u3, u4)
theorem e0 : atomsL [] 1 c0 = [] := by kernel_rfl
theorem ok0 (ρ : Type) (st : St) (K : Exit → St → Option ρ) (r : ρ) (h : (L V2 V1 V0) ρ 0 st K = some r) : AW Try.prog (.loop c0) st fun e st' => K e st' = some r := by
  refine loop_ok (ct := ct0) (lv := lv0) (n := 75) (m := 0) (ks := []) (j := 0) (jn := []) (L := (L V2 V1 V0)) Gok hm (by rw [e0]; exact Lor.ok_nil _ _) enc0I (fun k t => F0 k t.1 t.2.1 t.2.2.1 t.2.2.2.1 t.2.2.2.2 (fun z1 z2 => K (.exit 0) (mkS 75 [0, 1] [vl z1, vl z2] [] [])) (fun z1 => K .ret (mkS 75 [4] [vb z1] [] []))) (fun t => rfl) (fun k t => ?_) (fun _ => fuelN) h
  refine (step0 impl_graphOf.Q impl_GraphOk_s2a58.Q impl_inRange.Q impl_NoteOk.Q impl_NamesOk.Q V2 V1 V0 K _ t.1 t.2.1 t.2.2.1 t.2.2.2.1 t.2.2.2.2).trans ?_
  rw [impl_inRange.wrap]
  refine congrArg (fun W => B0 impl_inRange.F t.1 t.2.1 t.2.2.1 t.2.2.2.1 t.2.2.2.2 W (fun z1 z2 => K (.exit 0) (mkS 75 [0, 1] [vl z1, vl z2] [] [])) (fun z1 => K .ret (mkS 75 [4] [vb z1] [] []))) ?_
  funext u1 u2 u3 u4 u5
  exact ofC_enc enc0I _ (u1, u2, u3, u4, u5)
theorem e : atomsL [] 0 (bodyOf Try.f10) = [(0, 0, .loop c0), (1, 1, .loop c1)] := by kernel_rfl
theorem acc (t : (Vec ((Vec Int) × ByteArray × (Vec (ByteArray × Int × Int)))) × Vec Int) (x : Bool) (h : F t.1 t.2 = some x) : ACc Try.prog 10 (encA t) [] true [] fun rv obs => (rv, obs) = encR x := by
  refine fun_okc (L := (L V2 V1 V0)) (jn := []) (cmds := []) (ks := []) (hin := []) (fn := Try.f10) (body := (bodyOf Try.f10)) Gok hm Try.func10 (by kernel_rfl) (by kernel_rfl) (by rw [e]; exact Lor.ok_cons ok0 (Lor.ok_cons ok1 (Lor.ok_nil _ _))) ?_ h
  refine (main impl_graphOf.Q impl_GraphOk_s2a58.Q impl_inRange.Q impl_NoteOk.Q impl_NamesOk.Q V2 V1 V0 _ t.1 t.2).trans ?_
  rw [impl_graphOf.wrap, impl_GraphOk_s2a58.wrap, V0_enc, V1_enc]
  refine congrArg (fun K => B impl_graphOf.F impl_GraphOk_s2a58.F (F0 fuelN) (F1 fuelN) t.1 t.2 K) ?_
  funext x1
  exact ofC_enc encRI some (x1)
theorem ac0 (t : (Vec ((Vec Int) × ByteArray × (Vec (ByteArray × Int × Int)))) × Vec Int) (x : Bool) (h : F t.1 t.2 = some x) : AC Try.prog 10 (encA t) [] true [] fun rv obs => (rv, obs) = encR x := ACc.ac (body := bodyOf Try.f10) Try.func10 (by kernel_rfl) (by kernel_rfl) (acc t x h)
theorem ac (args : List AV) (x : Bool) (h : Q args = some x) : AC Try.prog 10 args [] false [] fun rv obs => (rv, obs) = encR x := by
  obtain ⟨t, rfl, h2⟩ := ofC_some h
  refine (ac0 t x h2).flat fun rv obs e => ?_
  obtain rfl : rv = (encR x).1 := congrArg Prod.fst e
  obtain rfl : obs = (encR x).2 := congrArg Prod.snd e
  refine ⟨by simp [encR, AV.Flat, K.Flat, C.Flat], ?_⟩
  simp [encR]
end impl_CommitsOk
end Go.Al
