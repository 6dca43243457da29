import Derived.Test.YtdiclekkkaaahaaAlE
import Derived.Test.YtdiclekkkaaahaaSC
import Derived.Test.YtdiclekkkaaahaaGRise
set_option linter.unusedVariables false
set_option linter.unusedSimpArgs false
set_option linter.constructorNameAsVariable false
set_option linter.unusedSectionVars false
set_option maxRecDepth 100000
namespace Go.Al
open Go.Proofs

/-! loop.example/g00073/spec.PathOk -/
namespace spec_PathOk
noncomputable def B0 {ρ : Type} (v1 : ByteArray) (v2 : Int) (v3 : Int) (W : ByteArray → Int → Int → Option ρ) (K0 : Unit → Option ρ) (Kr : Bool → Option ρ) : Option ρ :=
  let d1 := (decide (0 ≤ (wr (v3 - (1 : Int))) ∧ (wr (v3 - (1 : Int))) < (v1.size : Int)))
  let d2 := (decide ((byteAt v1 ((wr (v3 - (1 : Int))).toNat)) = (47 : Int)))
  let d3 := (wr (v3 + (1 : Int)))
  let d5 := (decide ((0 : Int) < v3))
  let d6 := (byteAt v1 v3.toNat)
  let d4 := (decide (d6 = (47 : Int)))
  sel (decide (v3 < v2)) (chk (decide (0 ≤ v3 ∧ v3 < (v1.size : Int))) (sel (decide ((97 : Int) ≤ d6)) (sel (decide (d6 ≤ (122 : Int))) (sel d5 (sel d4 (chk d1 (sel d2 (Kr false) (W v1 v2 d3))) (W v1 v2 d3)) (W v1 v2 d3)) (sel (decide ((48 : Int) ≤ d6)) (sel (decide (d6 ≤ (57 : Int))) (sel d5 (sel d4 (chk d1 (sel d2 (Kr false) (W v1 v2 d3))) (W v1 v2 d3)) (W v1 v2 d3)) (sel (decide (d6 = (46 : Int))) (sel d5 (sel d4 (chk d1 (sel d2 (Kr false) (W v1 v2 d3))) (W v1 v2 d3)) (W v1 v2 d3)) (sel (decide (d6 = (45 : Int))) (sel d5 (sel d4 (chk d1 (sel d2 (Kr false) (W v1 v2 d3))) (W v1 v2 d3)) (W v1 v2 d3)) (sel ((!decide (d6 = (47 : Int)))) (Kr false) (sel d5 (sel d4 (chk d1 (sel d2 (Kr false) (W v1 v2 d3))) (W v1 v2 d3)) (W v1 v2 d3)))))) (sel (decide (d6 = (46 : Int))) (sel d5 (sel d4 (chk d1 (sel d2 (Kr false) (W v1 v2 d3))) (W v1 v2 d3)) (W v1 v2 d3)) (sel (decide (d6 = (45 : Int))) (sel d5 (sel d4 (chk d1 (sel d2 (Kr false) (W v1 v2 d3))) (W v1 v2 d3)) (W v1 v2 d3)) (sel ((!decide (d6 = (47 : Int)))) (Kr false) (sel d5 (sel d4 (chk d1 (sel d2 (Kr false) (W v1 v2 d3))) (W v1 v2 d3)) (W v1 v2 d3))))))) (sel (decide ((48 : Int) ≤ d6)) (sel (decide (d6 ≤ (57 : Int))) (sel d5 (sel d4 (chk d1 (sel d2 (Kr false) (W v1 v2 d3))) (W v1 v2 d3)) (W v1 v2 d3)) (sel (decide (d6 = (46 : Int))) (sel d5 (sel d4 (chk d1 (sel d2 (Kr false) (W v1 v2 d3))) (W v1 v2 d3)) (W v1 v2 d3)) (sel (decide (d6 = (45 : Int))) (sel d5 (sel d4 (chk d1 (sel d2 (Kr false) (W v1 v2 d3))) (W v1 v2 d3)) (W v1 v2 d3)) (sel ((!decide (d6 = (47 : Int)))) (Kr false) (sel d5 (sel d4 (chk d1 (sel d2 (Kr false) (W v1 v2 d3))) (W v1 v2 d3)) (W v1 v2 d3)))))) (sel (decide (d6 = (46 : Int))) (sel d5 (sel d4 (chk d1 (sel d2 (Kr false) (W v1 v2 d3))) (W v1 v2 d3)) (W v1 v2 d3)) (sel (decide (d6 = (45 : Int))) (sel d5 (sel d4 (chk d1 (sel d2 (Kr false) (W v1 v2 d3))) (W v1 v2 d3)) (W v1 v2 d3)) (sel ((!decide (d6 = (47 : Int)))) (Kr false) (sel d5 (sel d4 (chk d1 (sel d2 (Kr false) (W v1 v2 d3))) (W v1 v2 d3)) (W v1 v2 d3)))))))) (K0 ())
noncomputable def F0 {ρ : Type} : Nat → ByteArray → Int → Int → (Unit → Option ρ) → (Bool → Option ρ) → Option ρ
  | 0, _, _, _, _, _ => none
  | k + 1, v1, v2, v3, K0, Kr => B0 v1 v2 v3 (fun v1' v2' v3' => F0 k v1' v2' v3' K0 Kr) K0 Kr
noncomputable def B {ρ : Type} (C0 : Int → Int → Int → Option Bool) (L0 : ByteArray → Int → Int → (Unit → Option ρ) → (Bool → Option ρ) → Option ρ) (a1 : ByteArray) (K : Bool → Option ρ) : Option ρ :=
  (C0 (a1.size : Int) (1 : Int) (24 : Int)).bind fun r1 => sel ((!r1)) (K false) (chk (decide (0 ≤ (0 : Int) ∧ (0 : Int) < (a1.size : Int))) (sel (decide ((byteAt a1 ((0 : Int).toNat)) = (47 : Int))) (K false) (chk (decide (0 ≤ (wr ((a1.size : Int) - (1 : Int))) ∧ (wr ((a1.size : Int) - (1 : Int))) < (a1.size : Int))) (sel (decide ((byteAt a1 ((wr ((a1.size : Int) - (1 : Int))).toNat)) = (47 : Int))) (K false) (L0 a1 (a1.size : Int) (0 : Int) (fun _ => K true) (fun x01 => K x01))))))
noncomputable def F (a1 : ByteArray) : Option Bool := B spec_l01In.F (F0 fuelN) a1 (fun x1 => some (x1))
def encA (t : ByteArray) : List AV := [vs t]
def encR (x : Bool) : AV × List Ob := (vb x, [])
theorem encAI : ∀ a b, encA a = encA b → a = b := by
  intro a b h
  simp [encA, encRw_iff] at h
  simp_all
theorem encRI : ∀ a b, encR a = encR b → a = b := by
  intro a b h
  simp [encR, encRw_iff] at h
  simp_all
noncomputable def Q (args : List AV) : Option Bool := ofC encA (fun t => F t) args
theorem wrap : (fun (y1 : ByteArray) => Q [vs y1]) = F := by
  funext y1
  exact ofC_enc encAI _ (y1)
noncomputable def G (Q0 : List AV → Option Bool) : Orc := ⟨fun f => sel (Nat.beq f 26) 0 (9), fun ρ f args K => sel (Nat.beq f 26) (qEntry spec_l01In.encR Q0 args K) (Option.none), noE, false⟩
noncomputable def L (W0 : (ρ : Type) → List AV → List Ob → (Unit → Option ρ) → (Bool → Option ρ) → Option ρ) : Lor := fun ρ j st K => sel (Nat.beq j 0) (cutO Try.prog 73 [0, 3, 4] 0 [] [] st fun avs obs => W0 ρ avs obs (fun _ => K (.exit 0) (mkS 73 [] [] [] [])) (fun z1 => K .ret (mkS 73 [2] [vb z1] [] []))) (Option.none)
noncomputable def c0 : Code := loopC (atomN [] 0 (bodyOf Try.f60) 0)
def ct0 : Cut := ⟨[0, 3, 4], []⟩
def lv0 : Exit → Cut
  | .exit 0 => ⟨[], []⟩
  | .ret => ⟨[2], []⟩
  | _ => ⟨[], []⟩
theorem step0 (Q0) (W0) {ρ : Type} (K : Exit → St → Option ρ) (W : List AV → List Ob → Option ρ) (v1 v2 v3) : exC Try.prog (G Q0) (L W0) [] 1 c0 (mkS 73 [0, 3, 4] [vs v1, vi v2, vi v3] [] []) (bodyK Try.prog 73 0 [] ct0 W lv0 K) =
    B0 v1 v2 v3 (fun u1 u2 u3 => W [vs u1, vi u2, vi u3] []) (fun _ => K (.exit 0) (mkS 73 [] [] [] [])) (fun z1 => K .ret (mkS 73 [2] [vb z1] [] [])) := by kernel_rfl
def enc0 (t : ByteArray × Int × Int) : List AV × List Ob := ([vs t.1, vi t.2.1, vi t.2.2], [])
theorem enc0I : ∀ a b, enc0 a = enc0 b → a = b := by
  intro a b h
  obtain ⟨a0, a1, a2⟩ := a
  obtain ⟨b0, b1, b2⟩ := b
  simp [enc0, encRw_iff] at h
  simp_all
noncomputable def V0 : (ρ : Type) → List AV → List Ob → (Unit → Option ρ) → (Bool → Option ρ) → Option ρ := fun ρ avs obs k0 kr => ofC enc0 (fun t => F0 fuelN t.1 t.2.1 t.2.2 k0 kr) (avs, obs)
theorem V0_enc (ρ : Type) : (fun w1 w2 w3 k0 kr => V0 ρ [vs w1, vi w2, vi w3] [] k0 kr) = F0 fuelN := by
  funext w1 w2 w3 k0 kr
  exact ofC_enc enc0I _ (w1, w2, w3)
theorem main (Q0) (W0) {ρ : Type} (K : AV → List Ob → Option ρ) (a1) : exC Try.prog (G Q0) (L W0) [] 0 (bodyOf Try.f60) (entry 73 [vs a1] [] []) (finO Try.prog Try.f60.results.toList 0 [] [] K) =
    B (fun y1 y2 y3 => Q0 [vi y1, vi y2, vi y3]) (fun w1 w2 w3 k0 kr => W0 ρ [vs w1, vi w2, vi w3] [] k0 kr) a1 (fun x1 => K (vb x1) []) := by kernel_rfl
theorem Gok : (G spec_l01In.Q).ok Try.prog := ⟨(by
    intro ρ f args K r h
    rcases sel_cases h with ⟨hb, h⟩ | ⟨-, h⟩
    · obtain rfl := beq_nat hb
      exact qEntry_ok spec_l01In.ac h
    cases h),
  (by
    intro ρ f args K
    simp only [G]
    cases Nat.beq f 26 with
    | true => exact qEntry_nat args K
    | false =>
    simp only [sel]
    rfl),
  (fun ρ f st caps args dst K r h => (by cases h))⟩
theorem hm : Try.prog.follows .mixedOrders = true := by kernel_rfl
theorem e0 : atomsL [] 1 c0 = [] := by kernel_rfl
theorem ok0 (ρ : Type) (st : St) (K : Exit → St → Option ρ) (r : ρ) (h : (L V0) ρ 0 st K = some r) : AW Try.prog (.loop c0) st fun e st' => K e st' = some r := by
  refine loop_ok (ct := ct0) (lv := lv0) (n := 73) (m := 0) (ks := []) (j := 0) (jn := []) (L := (L V0)) Gok hm (by rw [e0]; exact Lor.ok_nil _ _) enc0I (fun k t => F0 k t.1 t.2.1 t.2.2 (fun _ => K (.exit 0) (mkS 73 [] [] [] [])) (fun z1 => K .ret (mkS 73 [2] [vb z1] [] []))) (fun t => rfl) (fun k t => ?_) (fun _ => fuelN) h
  refine (step0 spec_l01In.Q V0 K _ t.1 t.2.1 t.2.2).trans ?_
  refine congrArg (fun W => B0 t.1 t.2.1 t.2.2 W (fun _ => K (.exit 0) (mkS 73 [] [] [] [])) (fun z1 => K .ret (mkS 73 [2] [vb z1] [] []))) ?_
  funext u1 u2 u3
  exact ofC_enc enc0I _ (u1, u2, u3)
theorem e : atomsL [] 0 (bodyOf Try.f60) = [(0, 0, .loop c0)] := by kernel_rfl
theorem acc (t : ByteArray) (x : Bool) (h : F t = some x) : ACc Try.prog 60 (encA t) [] true [] fun rv obs => (rv, obs) = encR x := by
  refine fun_okc (L := (L V0)) (jn := []) (cmds := []) (ks := []) (hin := []) (fn := Try.f60) (body := (bodyOf Try.f60)) Gok hm Try.func60 (by kernel_rfl) (by kernel_rfl) (by rw [e]; exact Lor.ok_cons ok0 (Lor.ok_nil _ _)) ?_ h
  refine (main spec_l01In.Q V0 _ t).trans ?_
  rw [spec_l01In.wrap, V0_enc]
  refine congrArg (fun K => B spec_l01In.F (F0 fuelN) t K) ?_
  funext x1
  exact ofC_enc encRI some (x1)
theorem ac0 (t : ByteArray) (x : Bool) (h : F t = some x) : AC Try.prog 60 (encA t) [] true [] fun rv obs => (rv, obs) = encR x := ACc.ac (body := bodyOf Try.f60) Try.func60 (by kernel_rfl) (by kernel_rfl) (acc t x h)
theorem ac (args : List AV) (x : Bool) (h : Q args = some x) : AC Try.prog 60 args [] false [] fun rv obs => (rv, obs) = encR x := by
  obtain ⟨t, rfl, h2⟩ := ofC_some h
  refine (ac0 t x h2).flat fun rv obs e => ?_
  obtain rfl : rv = (encR x).1 := congrArg Prod.fst e
  obtain rfl : obs = (encR x).2 := congrArg Prod.snd e
  refine ⟨by simp [encR, AV.Flat, K.Flat, C.Flat], ?_⟩
  simp [encR]
end spec_PathOk
/-! loop.example/g00073/spec.NamesOk -/
namespace spec_NamesOk
noncomputable def B1 {ρ : Type} (v1 : Vec (ByteArray × Int × Int)) (v2 : Int) (v3 : Int) (v4 : ByteArray) (v5 : Int) (v6 : Int) (W : (Vec (ByteArray × Int × Int)) → Int → Int → ByteArray → Int → Int → Option ρ) (K2 : (Vec (ByteArray × Int × Int)) → Int → Option ρ) (Kr : Bool → Option ρ) : Option ρ :=
  sel (decide (v3 < v2)) (chk (decide (0 ≤ v3 ∧ v3 < (v1.n : Int))) (sel (decide ((v1.g v3.toNat).2.1 = v5)) (Kr false) (W v1 v2 (wr (v3 + (1 : Int))) v4 v5 v6))) (K2 v1 v2)
noncomputable def F1 {ρ : Type} : Nat → (Vec (ByteArray × Int × Int)) → Int → Int → ByteArray → Int → Int → ((Vec (ByteArray × Int × Int)) → Int → Option ρ) → (Bool → Option ρ) → Option ρ
  | 0, _, _, _, _, _, _, _, _ => none
  | k + 1, v1, v2, v3, v4, v5, v6, K2, Kr => B1 v1 v2 v3 v4 v5 v6 (fun v1' v2' v3' v4' v5' v6' => F1 k v1' v2' v3' v4' v5' v6' K2 Kr) K2 Kr
noncomputable def B0 {ρ : Type} (C0 : ByteArray → Option Bool) (C1 : Int → Int → Int → Option Bool) (L1 : (Vec (ByteArray × Int × Int)) → Int → Int → ByteArray → Int → Int → ((Vec (ByteArray × Int × Int)) → Int → Option ρ) → (Bool → Option ρ) → Option ρ) (v1 : Vec (ByteArray × Int × Int)) (v2 : Int) (W : (Vec (ByteArray × Int × Int)) → Int → Option ρ) (K0 : Unit → Option ρ) (Kr : Bool → Option ρ) : Option ρ :=
  sel (decide (v2 < (v1.n : Int))) (chk (decide (0 ≤ v2 ∧ v2 < (v1.n : Int))) ((C0 ((v1.g v2.toNat).1)).bind fun r1 => sel ((!r1)) (Kr false) (sel (decide ((0 : Int) < v2)) (chk (decide (0 ≤ (wr (v2 - (1 : Int))) ∧ (wr (v2 - (1 : Int))) < (v1.n : Int))) (sel ((!decide (((v1.g (wr (v2 - (1 : Int))).toNat).1).toList < ((v1.g v2.toNat).1).toList))) (Kr false) ((C1 ((v1.g v2.toNat).2.1) (0 : Int) (11 : Int)).bind fun r2 => sel ((!r2)) (Kr false) ((C1 ((v1.g v2.toNat).2.2) (0 : Int) (39 : Int)).bind fun r3 => sel ((!r3)) (Kr false) (L1 v1 v2 (0 : Int) ((v1.g v2.toNat).1) ((v1.g v2.toNat).2.1) ((v1.g v2.toNat).2.2) (fun e11 e12 => W e11 (wr (e12 + (1 : Int)))) (fun x11 => Kr x11)))))) ((C1 ((v1.g v2.toNat).2.1) (0 : Int) (11 : Int)).bind fun r4 => sel ((!r4)) (Kr false) ((C1 ((v1.g v2.toNat).2.2) (0 : Int) (39 : Int)).bind fun r5 => sel ((!r5)) (Kr false) (L1 v1 v2 (0 : Int) ((v1.g v2.toNat).1) ((v1.g v2.toNat).2.1) ((v1.g v2.toNat).2.2) (fun e11 e12 => W e11 (wr (e12 + (1 : Int)))) (fun x11 => Kr x11))))))) (K0 ())
noncomputable def F0 {ρ : Type} : Nat → (Vec (ByteArray × Int × Int)) → Int → (Unit → Option ρ) → (Bool → Option ρ) → Option ρ
  | 0, _, _, _, _ => none
  | k + 1, v1, v2, K0, Kr => B0 spec_PathOk.F spec_l01In.F (F1 fuelN) v1 v2 (fun v1' v2' => F0 k v1' v2' K0 Kr) K0 Kr
noncomputable def B {ρ : Type} (L0 : (Vec (ByteArray × Int × Int)) → Int → (Unit → Option ρ) → (Bool → Option ρ) → Option ρ) (a1 : Vec (ByteArray × Int × Int)) (K : Bool → Option ρ) : Option ρ :=
  sel (decide ((12 : Int) < (a1.n : Int))) (K false) (L0 a1 (0 : Int) (fun _ => K true) (fun x01 => K x01))
noncomputable def F (a1 : Vec (ByteArray × Int × Int)) : Option Bool := B (F0 fuelN) a1 (fun x1 => some (x1))
def encA (t : Vec (ByteArray × Int × Int)) : List AV := [vl t]
def encR (x : Bool) : AV × List Ob := (vb x, [])
theorem encAI : ∀ a b, encA a = encA b → a = b := by
  intro a b h
  simp [encA, encRw_iff] at h
  simp_all
theorem encRI : ∀ a b, encR a = encR b → a = b := by
  intro a b h
  simp [encR, encRw_iff] at h
  simp_all
noncomputable def Q (args : List AV) : Option Bool := ofC encA (fun t => F t) args
theorem wrap : (fun (y1 : Vec (ByteArray × Int × Int)) => Q [vl y1]) = F := by
  funext y1
  exact ofC_enc encAI _ (y1)
noncomputable def G (Q0 : List AV → Option Bool) (Q1 : List AV → Option Bool) : Orc := ⟨fun f => sel (Nat.beq f 60) 0 (sel (Nat.beq f 26) 0 (9)), fun ρ f args K => sel (Nat.beq f 60) (qEntry spec_PathOk.encR Q0 args K) (sel (Nat.beq f 26) (qEntry spec_l01In.encR Q1 args K) (Option.none)), noE, false⟩
noncomputable def L (W1 : (ρ : Type) → List AV → List Ob → ((Vec (ByteArray × Int × Int)) → Int → Option ρ) → (Bool → Option ρ) → Option ρ) (W0 : (ρ : Type) → List AV → List Ob → (Unit → Option ρ) → (Bool → Option ρ) → Option ρ) : Lor := fun ρ j st K => sel (Nat.beq j 0) (cutO Try.prog 63 [0, 3] 0 [] [] st fun avs obs => W0 ρ avs obs (fun _ => K (.exit 0) (mkS 63 [] [] [] [])) (fun z1 => K .ret (mkS 63 [2] [vb z1] [] []))) (sel (Nat.beq j 1) (cutO Try.prog 63 [0, 3, 4, 5] 0 [] [] st fun avs obs => W1 ρ avs obs (fun z1 z2 => K (.exit 2) (mkS 63 [0, 3] [vl z1, vi z2] [] [])) (fun z1 => K .ret (mkS 63 [2] [vb z1] [] []))) (Option.none))
noncomputable def c0 : Code := loopC (atomN [] 0 (bodyOf Try.f28) 0)
noncomputable def c1 : Code := loopC (atomN [] 1 c0 0)
def ct0 : Cut := ⟨[0, 3], []⟩
def lv0 : Exit → Cut
  | .exit 0 => ⟨[], []⟩
  | .ret => ⟨[2], []⟩
  | _ => ⟨[], []⟩
theorem step0 (Q0 Q1) (W1 W0) {ρ : Type} (K : Exit → St → Option ρ) (W : List AV → List Ob → Option ρ) (v1 v2) : exC Try.prog (G Q0 Q1) (L W1 W0) [] 1 c0 (mkS 63 [0, 3] [vl v1, vi v2] [] []) (bodyK Try.prog 63 0 [] ct0 W lv0 K) =
    B0 (fun y1 => Q0 [vs y1]) (fun y1 y2 y3 => Q1 [vi y1, vi y2, vi y3]) (fun w1 w2 w3 w4 w5 w6 k2 kr => W1 ρ [vl w1, vi w2, .c (.p 0 0), vi w3] [.box [cs w4, ci w5, ci w6]] k2 kr) v1 v2 (fun u1 u2 => W [vl u1, vi u2] []) (fun _ => K (.exit 0) (mkS 63 [] [] [] [])) (fun z1 => K .ret (mkS 63 [2] [vb z1] [] [])) := by kernel_rfl
def enc0 (t : (Vec (ByteArray × Int × Int)) × Int) : List AV × List Ob := ([vl t.1, vi t.2], [])
theorem enc0I : ∀ a b, enc0 a = enc0 b → a = b := by
  intro a b h
  obtain ⟨a0, a1⟩ := a
  obtain ⟨b0, b1⟩ := b
  simp [enc0, encRw_iff] at h
  simp_all
noncomputable def V0 : (ρ : Type) → List AV → List Ob → (Unit → Option ρ) → (Bool → Option ρ) → Option ρ := fun ρ avs obs k0 kr => ofC enc0 (fun t => F0 fuelN t.1 t.2 k0 kr) (avs, obs)
theorem V0_enc (ρ : Type) : (fun w1 w2 k0 kr => V0 ρ [vl w1, vi w2] [] k0 kr) = F0 fuelN := by
  funext w1 w2 k0 kr
  exact ofC_enc enc0I _ (w1, w2)
def ct1 : Cut := ⟨[0, 3, 4, 5], []⟩
def lv1 : Exit → Cut
  | .exit 2 => ⟨[0, 3], []⟩
  | .ret => ⟨[2], []⟩
  | _ => ⟨[], []⟩
theorem step1 (Q0 Q1) (W1 W0) {ρ : Type} (K : Exit → St → Option ρ) (W : List AV → List Ob → Option ρ) (v1 v2 v3 v4 v5 v6) : exC Try.prog (G Q0 Q1) (L W1 W0) [] 2 c1 (mkS 63 [0, 3, 4, 5] [vl v1, vi v2, .c (.p 0 0), vi v3] [.box [cs v4, ci v5, ci v6]] []) (bodyK Try.prog 63 0 [] ct1 W lv1 K) =
    B1 v1 v2 v3 v4 v5 v6 (fun u1 u2 u3 u4 u5 u6 => W [vl u1, vi u2, .c (.p 0 0), vi u3] [.box [cs u4, ci u5, ci u6]]) (fun z1 z2 => K (.exit 2) (mkS 63 [0, 3] [vl z1, vi z2] [] [])) (fun z1 => K .ret (mkS 63 [2] [vb z1] [] [])) := by kernel_rfl
def enc1 (t : (Vec (ByteArray × Int × Int)) × Int × Int × ByteArray × Int × Int) : List AV × List Ob := ([vl t.1, vi t.2.1, .c (.p 0 0), vi t.2.2.1], [.box [cs t.2.2.2.1, ci t.2.2.2.2.1, ci t.2.2.2.2.2]])
theorem enc1I : ∀ a b, enc1 a = enc1 b → a = b := by
  intro a b h
  obtain ⟨a0, a1, a2, a3, a4, a5⟩ := a
  obtain ⟨b0, b1, b2, b3, b4, b5⟩ := b
  simp [enc1, encRw_iff] at h
  simp_all
noncomputable def V1 : (ρ : Type) → List AV → List Ob → ((Vec (ByteArray × Int × Int)) → Int → Option ρ) → (Bool → Option ρ) → Option ρ := fun ρ avs obs k2 kr => ofC enc1 (fun t => F1 fuelN t.1 t.2.1 t.2.2.1 t.2.2.2.1 t.2.2.2.2.1 t.2.2.2.2.2 k2 kr) (avs, obs)
theorem V1_enc (ρ : Type) : (fun w1 w2 w3 w4 w5 w6 k2 kr => V1 ρ [vl w1, vi w2, .c (.p 0 0), vi w3] [.box [cs w4, ci w5, ci w6]] k2 kr) = F1 fuelN := by
  funext w1 w2 w3 w4 w5 w6 k2 kr
  exact ofC_enc enc1I _ (w1, w2, w3, w4, w5, w6)
theorem main (Q0 Q1) (W1 W0) {ρ : Type} (K : AV → List Ob → Option ρ) (a1) : exC Try.prog (G Q0 Q1) (L W1 W0) [] 0 (bodyOf Try.f28) (entry 63 [vl a1] [] []) (finO Try.prog Try.f28.results.toList 0 [] [] K) =
    B (fun w1 w2 k0 kr => W0 ρ [vl w1, vi w2] [] k0 kr) a1 (fun x1 => K (vb x1) []) := by kernel_rfl
theorem Gok : (G spec_PathOk.Q spec_l01In.Q).ok Try.prog := ⟨(by
    intro ρ f args K r h
    rcases sel_cases h with ⟨hb, h⟩ | ⟨-, h⟩
    · obtain rfl := beq_nat hb
      exact qEntry_ok spec_PathOk.ac h
    rcases sel_cases h with ⟨hb, h⟩ | ⟨-, h⟩
    · obtain rfl := beq_nat hb
      exact qEntry_ok spec_l01In.ac h
    cases h),
  (by
    intro ρ f args K
    simp only [G]
    cases Nat.beq f 60 with
    | true => exact qEntry_nat args K
    | false =>
    simp only [sel]
    cases Nat.beq f 26 with
    | true => exact qEntry_nat args K
    | false =>
    simp only [sel]
    rfl),
  (fun ρ f st caps args dst K r h => (by cases h))⟩
theorem hm : Try.prog.follows .mixedOrders = true := by kernel_rfl
theorem e1 : atomsL [] 2 c1 = [] := by kernel_rfl
theorem ok1 (ρ : Type) (st : St) (K : Exit → St → Option ρ) (r : ρ) (h : (L V1 V0) ρ 1 st K = some r) : AW Try.prog (.loop c1) st fun e st' => K e st' = some r := by
  refine loop_ok (ct := ct1) (lv := lv1) (n := 63) (m := 0) (ks := []) (j := 1) (jn := []) (L := (L V1 V0)) Gok hm (by rw [e1]; exact Lor.ok_nil _ _) enc1I (fun k t => F1 k t.1 t.2.1 t.2.2.1 t.2.2.2.1 t.2.2.2.2.1 t.2.2.2.2.2 (fun z1 z2 => K (.exit 2) (mkS 63 [0, 3] [vl z1, vi z2] [] [])) (fun z1 => K .ret (mkS 63 [2] [vb z1] [] []))) (fun t => rfl) (fun k t => ?_) (fun _ => fuelN) h
  refine (step1 spec_PathOk.Q spec_l01In.Q V1 V0 K _ t.1 t.2.1 t.2.2.1 t.2.2.2.1 t.2.2.2.2.1 t.2.2.2.2.2).trans ?_
  refine congrArg (fun W => B1 t.1 t.2.1 t.2.2.1 t.2.2.2.1 t.2.2.2.2.1 t.2.2.2.2.2 W (fun z1 z2 => K (.exit 2) (mkS 63 [0, 3] [vl z1, vi z2] [] [])) (fun z1 => K .ret (mkS 63 [2] [vb z1] [] []))) ?_
  funext u1 u2 u3 u4 u5 u6
  exact ofC_enc enc1I _ (u1, u2, u3, u4, u5, u6)
theorem e0 : atomsL [] 1 c0 = [(1, 1, .loop c1)] := by kernel_rfl
theorem ok0 (ρ : Type) (st : St) (K : Exit → St → Option ρ) (r : ρ) (h : (L V1 V0) ρ 0 st K = some r) : AW Try.prog (.loop c0) st fun e st' => K e st' = some r := by
  refine loop_ok (ct := ct0) (lv := lv0) (n := 63) (m := 0) (ks := []) (j := 0) (jn := []) (L := (L V1 V0)) Gok hm (by rw [e0]; exact Lor.ok_cons ok1 (Lor.ok_nil _ _)) enc0I (fun k t => F0 k t.1 t.2 (fun _ => K (.exit 0) (mkS 63 [] [] [] [])) (fun z1 => K .ret (mkS 63 [2] [vb z1] [] []))) (fun t => rfl) (fun k t => ?_) (fun _ => fuelN) h
  refine (step0 spec_PathOk.Q spec_l01In.Q V1 V0 K _ t.1 t.2).trans ?_
  rw [spec_PathOk.wrap, spec_l01In.wrap, V1_enc]
  refine congrArg (fun W => B0 spec_PathOk.F spec_l01In.F (F1 fuelN) t.1 t.2 W (fun _ => K (.exit 0) (mkS 63 [] [] [] [])) (fun z1 => K .ret (mkS 63 [2] [vb z1] [] []))) ?_
  funext u1 u2
  exact ofC_enc enc0I _ (u1, u2)
theorem e : atomsL [] 0 (bodyOf Try.f28) = [(0, 0, .loop c0)] := by kernel_rfl
theorem acc (t : Vec (ByteArray × Int × Int)) (x : Bool) (h : F t = some x) : ACc Try.prog 28 (encA t) [] true [] fun rv obs => (rv, obs) = encR x := by
  refine fun_okc (L := (L V1 V0)) (jn := []) (cmds := []) (ks := []) (hin := []) (fn := Try.f28) (body := (bodyOf Try.f28)) Gok hm Try.func28 (by kernel_rfl) (by kernel_rfl) (by rw [e]; exact Lor.ok_cons ok0 (Lor.ok_nil _ _)) ?_ h
  refine (main spec_PathOk.Q spec_l01In.Q V1 V0 _ t).trans ?_
  rw [V0_enc]
  refine congrArg (fun K => B (F0 fuelN) t K) ?_
  funext x1
  exact ofC_enc encRI some (x1)
theorem ac0 (t : Vec (ByteArray × Int × Int)) (x : Bool) (h : F t = some x) : AC Try.prog 28 (encA t) [] true [] fun rv obs => (rv, obs) = encR x := ACc.ac (body := bodyOf Try.f28) Try.func28 (by kernel_rfl) (by kernel_rfl) (acc t x h)
theorem ac (args : List AV) (x : Bool) (h : Q args = some x) : AC Try.prog 28 args [] false [] fun rv obs => (rv, obs) = encR x := by
  obtain ⟨t, rfl, h2⟩ := ofC_some h
  refine (ac0 t x h2).flat fun rv obs e => ?_
  obtain rfl : rv = (encR x).1 := congrArg Prod.fst e
  obtain rfl : obs = (encR x).2 := congrArg Prod.snd e
  refine ⟨by simp [encR, AV.Flat, K.Flat, C.Flat], ?_⟩
  simp [encR]
end spec_NamesOk
/-! internal/stringslite.HasPrefix -/
namespace stringslite_HasPrefix
noncomputable def B {ρ : Type} (a1 : ByteArray) (a2 : ByteArray) (K : Bool → Option ρ) : Option ρ :=
  sel (decide ((a2.size : Int) ≤ (a1.size : Int))) (chk (decide (0 ≤ (0 : Int) ∧ (0 : Int) ≤ (a2.size : Int) ∧ (a2.size : Int) ≤ (a1.size : Int))) (K (decide ((a1.extract (0 : Int).toNat (a2.size : Int).toNat) = a2)))) (K false)
noncomputable def F (a1 : ByteArray) (a2 : ByteArray) : Option Bool := B a1 a2 (fun x1 => some (x1))
def encA (t : ByteArray × ByteArray) : List AV := [vs t.1, vs t.2]
def encR (x : Bool) : AV × List Ob := (vb x, [])
theorem encAI : ∀ a b, encA a = encA b → a = b := by
  intro a b h
  obtain ⟨a0, a1⟩ := a
  obtain ⟨b0, b1⟩ := b
  simp [encA, encRw_iff] at h
  simp_all
theorem encRI : ∀ a b, encR a = encR b → a = b := by
  intro a b h
  simp [encR, encRw_iff] at h
  simp_all
noncomputable def Q (args : List AV) : Option Bool := ofC encA (fun t => F t.1 t.2) args
theorem wrap : (fun (y1 : ByteArray) (y2 : ByteArray) => Q [vs y1, vs y2]) = F := by
  funext y1 y2
  exact ofC_enc encAI _ (y1, y2)
noncomputable def G : Orc := ⟨fun f => 9, fun ρ f args K => Option.none, noE, false⟩
noncomputable def L : Lor := fun ρ j st K => Option.none
theorem main {ρ : Type} (K : AV → List Ob → Option ρ) (a1 a2) : exC Try.prog (G) (L) [] 0 (bodyOf Try.f127) (entry 18 [vs a1, vs a2] [] []) (finO Try.prog Try.f127.results.toList 0 [] [] K) =
    B a1 a2 (fun x1 => K (vb x1) []) := by kernel_rfl
theorem Gok : (G).ok Try.prog := ⟨(fun ρ f args K r h => (by cases h)),
  (fun ρ f args K => rfl),
  (fun ρ f st caps args dst K r h => (by cases h))⟩
theorem hm : Try.prog.follows .mixedOrders = true := by kernel_rfl
theorem e : atomsL [] 0 (bodyOf Try.f127) = [] := by kernel_rfl
theorem acc (t : ByteArray × ByteArray) (x : Bool) (h : F t.1 t.2 = some x) : ACc Try.prog 127 (encA t) [] true [] fun rv obs => (rv, obs) = encR x := by
  refine fun_okc (L := (L)) (jn := []) (cmds := []) (ks := []) (hin := []) (fn := Try.f127) (body := (bodyOf Try.f127)) Gok hm Try.func127 (by kernel_rfl) (by kernel_rfl) (by rw [e]; exact Lor.ok_nil _ _) ?_ h
  refine (main _ t.1 t.2).trans ?_
  refine congrArg (fun K => B t.1 t.2 K) ?_
  funext x1
  exact ofC_enc encRI some (x1)
theorem ac0 (t : ByteArray × ByteArray) (x : Bool) (h : F t.1 t.2 = some x) : AC Try.prog 127 (encA t) [] true [] fun rv obs => (rv, obs) = encR x := ACc.ac (body := bodyOf Try.f127) Try.func127 (by kernel_rfl) (by kernel_rfl) (acc t x h)
theorem ac (args : List AV) (x : Bool) (h : Q args = some x) : AC Try.prog 127 args [] false [] fun rv obs => (rv, obs) = encR x := by
  obtain ⟨t, rfl, h2⟩ := ofC_some h
  refine (ac0 t x h2).flat fun rv obs e => ?_
  obtain rfl : rv = (encR x).1 := congrArg Prod.fst e
  obtain rfl : obs = (encR x).2 := congrArg Prod.snd e
  refine ⟨by simp [encR, AV.Flat, K.Flat, C.Flat], ?_⟩
  simp [encR]
end stringslite_HasPrefix
/-! strings.HasPrefix -/
namespace strings_HasPrefix
noncomputable def B {ρ : Type} (C0 : ByteArray → ByteArray → Option Bool) (a1 : ByteArray) (a2 : ByteArray) (K : Bool → Option ρ) : Option ρ :=
  (C0 a1 a2).bind fun r1 => K r1
noncomputable def F (a1 : ByteArray) (a2 : ByteArray) : Option Bool := B stringslite_HasPrefix.F a1 a2 (fun x1 => some (x1))
def encA (t : ByteArray × ByteArray) : List AV := [vs t.1, vs t.2]
def encR (x : Bool) : AV × List Ob := (vb x, [])
theorem encAI : ∀ a b, encA a = encA b → a = b := by
  intro a b h
  obtain ⟨a0, a1⟩ := a
  obtain ⟨b0, b1⟩ := b
  simp [encA, encRw_iff] at h
  simp_all
theorem encRI : ∀ a b, encR a = encR b → a = b := by
  intro a b h
  simp [encR, encRw_iff] at h
  simp_all
noncomputable def Q (args : List AV) : Option Bool := ofC encA (fun t => F t.1 t.2) args
theorem wrap : (fun (y1 : ByteArray) (y2 : ByteArray) => Q [vs y1, vs y2]) = F := by
  funext y1 y2
  exact ofC_enc encAI _ (y1, y2)
noncomputable def G (Q0 : List AV → Option Bool) : Orc := ⟨fun f => sel (Nat.beq f 127) 0 (9), fun ρ f args K => sel (Nat.beq f 127) (qEntry stringslite_HasPrefix.encR Q0 args K) (Option.none), noE, false⟩
noncomputable def L : Lor := fun ρ j st K => Option.none
theorem main (Q0) {ρ : Type} (K : AV → List Ob → Option ρ) (a1 a2) : exC Try.prog (G Q0) (L) [] 0 (bodyOf Try.f97) (entry 8 [vs a1, vs a2] [] []) (finO Try.prog Try.f97.results.toList 0 [] [] K) =
    B (fun y1 y2 => Q0 [vs y1, vs y2]) a1 a2 (fun x1 => K (vb x1) []) := by kernel_rfl
theorem Gok : (G stringslite_HasPrefix.Q).ok Try.prog := ⟨(by
    intro ρ f args K r h
    rcases sel_cases h with ⟨hb, h⟩ | ⟨-, h⟩
    · obtain rfl := beq_nat hb
      exact qEntry_ok stringslite_HasPrefix.ac h
    cases h),
  (by
    intro ρ f args K
    simp only [G]
    cases Nat.beq f 127 with
    | true => exact qEntry_nat args K
    | false =>
    simp only [sel]
    rfl),
  (fun ρ f st caps args dst K r h => (by cases h))⟩
theorem hm : Try.prog.follows .mixedOrders = true := by kernel_rfl
theorem e : atomsL [] 0 (bodyOf Try.f97) = [] := by kernel_rfl
theorem acc (t : ByteArray × ByteArray) (x : Bool) (h : F t.1 t.2 = some x) : ACc Try.prog 97 (encA t) [] true [] fun rv obs => (rv, obs) = encR x := by
  refine fun_okc (L := (L)) (jn := []) (cmds := []) (ks := []) (hin := []) (fn := Try.f97) (body := (bodyOf Try.f97)) Gok hm Try.func97 (by kernel_rfl) (by kernel_rfl) (by rw [e]; exact Lor.ok_nil _ _) ?_ h
  refine (main stringslite_HasPrefix.Q _ t.1 t.2).trans ?_
  rw [stringslite_HasPrefix.wrap]
  refine congrArg (fun K => B stringslite_HasPrefix.F t.1 t.2 K) ?_
  funext x1
  exact ofC_enc encRI some (x1)
theorem ac0 (t : ByteArray × ByteArray) (x : Bool) (h : F t.1 t.2 = some x) : AC Try.prog 97 (encA t) [] true [] fun rv obs => (rv, obs) = encR x := ACc.ac (body := bodyOf Try.f97) Try.func97 (by kernel_rfl) (by kernel_rfl) (acc t x h)
theorem ac (args : List AV) (x : Bool) (h : Q args = some x) : AC Try.prog 97 args [] false [] fun rv obs => (rv, obs) = encR x := by
  obtain ⟨t, rfl, h2⟩ := ofC_some h
  refine (ac0 t x h2).flat fun rv obs e => ?_
  obtain rfl : rv = (encR x).1 := congrArg Prod.fst e
  obtain rfl : obs = (encR x).2 := congrArg Prod.snd e
  refine ⟨by simp [encR, AV.Flat, K.Flat, C.Flat], ?_⟩
  simp [encR]
end strings_HasPrefix
/-! internal/stringslite.HasSuffix -/
namespace stringslite_HasSuffix
noncomputable def B {ρ : Type} (a1 : ByteArray) (a2 : ByteArray) (K : Bool → Option ρ) : Option ρ :=
  sel (decide ((a2.size : Int) ≤ (a1.size : Int))) (chk (decide (0 ≤ (wr ((a1.size : Int) - (a2.size : Int))) ∧ (wr ((a1.size : Int) - (a2.size : Int))) ≤ (a1.size : Int) ∧ (a1.size : Int) ≤ (a1.size : Int))) (K (decide ((a1.extract (wr ((a1.size : Int) - (a2.size : Int))).toNat (a1.size : Int).toNat) = a2)))) (K false)
noncomputable def F (a1 : ByteArray) (a2 : ByteArray) : Option Bool := B a1 a2 (fun x1 => some (x1))
def encA (t : ByteArray × ByteArray) : List AV := [vs t.1, vs t.2]
def encR (x : Bool) : AV × List Ob := (vb x, [])
theorem encAI : ∀ a b, encA a = encA b → a = b := by
  intro a b h
  obtain ⟨a0, a1⟩ := a
  obtain ⟨b0, b1⟩ := b
  simp [encA, encRw_iff] at h
  simp_all
theorem encRI : ∀ a b, encR a = encR b → a = b := by
  intro a b h
  simp [encR, encRw_iff] at h
  simp_all
noncomputable def Q (args : List AV) : Option Bool := ofC encA (fun t => F t.1 t.2) args
theorem wrap : (fun (y1 : ByteArray) (y2 : ByteArray) => Q [vs y1, vs y2]) = F := by
  funext y1 y2
  exact ofC_enc encAI _ (y1, y2)
noncomputable def G : Orc := ⟨fun f => 9, fun ρ f args K => Option.none, noE, false⟩
noncomputable def L : Lor := fun ρ j st K => Option.none
theorem main {ρ : Type} (K : AV → List Ob → Option ρ) (a1 a2) : exC Try.prog (G) (L) [] 0 (bodyOf Try.f128) (entry 21 [vs a1, vs a2] [] []) (finO Try.prog Try.f128.results.toList 0 [] [] K) =
    B a1 a2 (fun x1 => K (vb x1) []) := by kernel_rfl
theorem Gok : (G).ok Try.prog := ⟨(fun ρ f args K r h => (by cases h)),
  (fun ρ f args K => rfl),
  (fun ρ f st caps args dst K r h => (by cases h))⟩
theorem hm : Try.prog.follows .mixedOrders = true := by kernel_rfl
theorem e : atomsL [] 0 (bodyOf Try.f128) = [] := by kernel_rfl
theorem acc (t : ByteArray × ByteArray) (x : Bool) (h : F t.1 t.2 = some x) : ACc Try.prog 128 (encA t) [] true [] fun rv obs => (rv, obs) = encR x := by
  refine fun_okc (L := (L)) (jn := []) (cmds := []) (ks := []) (hin := []) (fn := Try.f128) (body := (bodyOf Try.f128)) Gok hm Try.func128 (by kernel_rfl) (by kernel_rfl) (by rw [e]; exact Lor.ok_nil _ _) ?_ h
  refine (main _ t.1 t.2).trans ?_
  refine congrArg (fun K => B t.1 t.2 K) ?_
  funext x1
  exact ofC_enc encRI some (x1)
theorem ac0 (t : ByteArray × ByteArray) (x : Bool) (h : F t.1 t.2 = some x) : AC Try.prog 128 (encA t) [] true [] fun rv obs => (rv, obs) = encR x := ACc.ac (body := bodyOf Try.f128) Try.func128 (by kernel_rfl) (by kernel_rfl) (acc t x h)
theorem ac (args : List AV) (x : Bool) (h : Q args = some x) : AC Try.prog 128 args [] false [] fun rv obs => (rv, obs) = encR x := by
  obtain ⟨t, rfl, h2⟩ := ofC_some h
  refine (ac0 t x h2).flat fun rv obs e => ?_
  obtain rfl : rv = (encR x).1 := congrArg Prod.fst e
  obtain rfl : obs = (encR x).2 := congrArg Prod.snd e
  refine ⟨by simp [encR, AV.Flat, K.Flat, C.Flat], ?_⟩
  simp [encR]
end stringslite_HasSuffix
/-! strings.HasSuffix -/
namespace strings_HasSuffix
noncomputable def B {ρ : Type} (C0 : ByteArray → ByteArray → Option Bool) (a1 : ByteArray) (a2 : ByteArray) (K : Bool → Option ρ) : Option ρ :=
  (C0 a1 a2).bind fun r1 => K r1
noncomputable def F (a1 : ByteArray) (a2 : ByteArray) : Option Bool := B stringslite_HasSuffix.F a1 a2 (fun x1 => some (x1))
def encA (t : ByteArray × ByteArray) : List AV := [vs t.1, vs t.2]
def encR (x : Bool) : AV × List Ob := (vb x, [])
theorem encAI : ∀ a b, encA a = encA b → a = b := by
  intro a b h
  obtain ⟨a0, a1⟩ := a
  obtain ⟨b0, b1⟩ := b
  simp [encA, encRw_iff] at h
  simp_all
theorem encRI : ∀ a b, encR a = encR b → a = b := by
  intro a b h
  simp [encR, encRw_iff] at h
  simp_all
noncomputable def Q (args : List AV) : Option Bool := ofC encA (fun t => F t.1 t.2) args
theorem wrap : (fun (y1 : ByteArray) (y2 : ByteArray) => Q [vs y1, vs y2]) = F := by
  funext y1 y2
  exact ofC_enc encAI _ (y1, y2)
noncomputable def G (Q0 : List AV → Option Bool) : Orc := ⟨fun f => sel (Nat.beq f 128) 0 (9), fun ρ f args K => sel (Nat.beq f 128) (qEntry stringslite_HasSuffix.encR Q0 args K) (Option.none), noE, false⟩
noncomputable def L : Lor := fun ρ j st K => Option.none
theorem main (Q0) {ρ : Type} (K : AV → List Ob → Option ρ) (a1 a2) : exC Try.prog (G Q0) (L) [] 0 (bodyOf Try.f98) (entry 8 [vs a1, vs a2] [] []) (finO Try.prog Try.f98.results.toList 0 [] [] K) =
    B (fun y1 y2 => Q0 [vs y1, vs y2]) a1 a2 (fun x1 => K (vb x1) []) := by kernel_rfl
theorem Gok : (G stringslite_HasSuffix.Q).ok Try.prog := ⟨(by
    intro ρ f args K r h
    rcases sel_cases h with ⟨hb, h⟩ | ⟨-, h⟩
    · obtain rfl := beq_nat hb
      exact qEntry_ok stringslite_HasSuffix.ac h
    cases h),
  (by
    intro ρ f args K
    simp only [G]
    cases Nat.beq f 128 with
    | true => exact qEntry_nat args K
    | false =>
    simp only [sel]
    rfl),
  (fun ρ f st caps args dst K r h => (by cases h))⟩
theorem hm : Try.prog.follows .mixedOrders = true := by kernel_rfl
theorem e : atomsL [] 0 (bodyOf Try.f98) = [] := by kernel_rfl
theorem acc (t : ByteArray × ByteArray) (x : Bool) (h : F t.1 t.2 = some x) : ACc Try.prog 98 (encA t) [] true [] fun rv obs => (rv, obs) = encR x := by
  refine fun_okc (L := (L)) (jn := []) (cmds := []) (ks := []) (hin := []) (fn := Try.f98) (body := (bodyOf Try.f98)) Gok hm Try.func98 (by kernel_rfl) (by kernel_rfl) (by rw [e]; exact Lor.ok_nil _ _) ?_ h
  refine (main stringslite_HasSuffix.Q _ t.1 t.2).trans ?_
  rw [stringslite_HasSuffix.wrap]
  refine congrArg (fun K => B stringslite_HasSuffix.F t.1 t.2 K) ?_
  funext x1
  exact ofC_enc encRI some (x1)
theorem ac0 (t : ByteArray × ByteArray) (x : Bool) (h : F t.1 t.2 = some x) : AC Try.prog 98 (encA t) [] true [] fun rv obs => (rv, obs) = encR x := ACc.ac (body := bodyOf Try.f98) Try.func98 (by kernel_rfl) (by kernel_rfl) (acc t x h)
theorem ac (args : List AV) (x : Bool) (h : Q args = some x) : AC Try.prog 98 args [] false [] fun rv obs => (rv, obs) = encR x := by
  obtain ⟨t, rfl, h2⟩ := ofC_some h
  refine (ac0 t x h2).flat fun rv obs e => ?_
  obtain rfl : rv = (encR x).1 := congrArg Prod.fst e
  obtain rfl : obs = (encR x).2 := congrArg Prod.snd e
  refine ⟨by simp [encR, AV.Flat, K.Flat, C.Flat], ?_⟩
  simp [encR]
end strings_HasSuffix
/-! loop.example/g00073/impl.PathOk -/
namespace impl_PathOk
noncomputable def B0 {ρ : Type} (v1 : ByteArray) (v2 : Int) (W : ByteArray → Int → Option ρ) (K0 : ByteArray → Option ρ) (Kr : Bool → Option ρ) : Option ρ :=
  sel (decide (v2 < (v1.size : Int))) (chk (decide (0 ≤ v2 ∧ v2 < (v1.size : Int))) (sel (decide ((97 : Int) ≤ (byteAt v1 v2.toNat))) (sel (decide ((byteAt v1 v2.toNat) ≤ (122 : Int))) (W v1 (wr (v2 + (1 : Int)))) (sel (decide ((48 : Int) ≤ (byteAt v1 v2.toNat))) (sel (decide ((byteAt v1 v2.toNat) ≤ (57 : Int))) (W v1 (wr (v2 + (1 : Int)))) (sel (decide ((byteAt v1 v2.toNat) = (46 : Int))) (W v1 (wr (v2 + (1 : Int)))) (sel (decide ((byteAt v1 v2.toNat) = (45 : Int))) (W v1 (wr (v2 + (1 : Int)))) (sel ((!decide ((byteAt v1 v2.toNat) = (47 : Int)))) (Kr false) (W v1 (wr (v2 + (1 : Int)))))))) (sel (decide ((byteAt v1 v2.toNat) = (46 : Int))) (W v1 (wr (v2 + (1 : Int)))) (sel (decide ((byteAt v1 v2.toNat) = (45 : Int))) (W v1 (wr (v2 + (1 : Int)))) (sel ((!decide ((byteAt v1 v2.toNat) = (47 : Int)))) (Kr false) (W v1 (wr (v2 + (1 : Int))))))))) (sel (decide ((48 : Int) ≤ (byteAt v1 v2.toNat))) (sel (decide ((byteAt v1 v2.toNat) ≤ (57 : Int))) (W v1 (wr (v2 + (1 : Int)))) (sel (decide ((byteAt v1 v2.toNat) = (46 : Int))) (W v1 (wr (v2 + (1 : Int)))) (sel (decide ((byteAt v1 v2.toNat) = (45 : Int))) (W v1 (wr (v2 + (1 : Int)))) (sel ((!decide ((byteAt v1 v2.toNat) = (47 : Int)))) (Kr false) (W v1 (wr (v2 + (1 : Int)))))))) (sel (decide ((byteAt v1 v2.toNat) = (46 : Int))) (W v1 (wr (v2 + (1 : Int)))) (sel (decide ((byteAt v1 v2.toNat) = (45 : Int))) (W v1 (wr (v2 + (1 : Int)))) (sel ((!decide ((byteAt v1 v2.toNat) = (47 : Int)))) (Kr false) (W v1 (wr (v2 + (1 : Int)))))))))) (K0 v1)
noncomputable def F0 {ρ : Type} : Nat → ByteArray → Int → (ByteArray → Option ρ) → (Bool → Option ρ) → Option ρ
  | 0, _, _, _, _ => none
  | k + 1, v1, v2, K0, Kr => B0 v1 v2 (fun v1' v2' => F0 k v1' v2' K0 Kr) K0 Kr
noncomputable def B {ρ : Type} (C0 : Int → Int → Int → Option Bool) (C1 : ByteArray → ByteArray → Option Bool) (C2 : ByteArray → ByteArray → Option Bool) (C3 : ByteArray → ByteArray → Option Bool) (L0 : ByteArray → Int → (ByteArray → Option ρ) → (Bool → Option ρ) → Option ρ) (a1 : ByteArray) (K : Bool → Option ρ) : Option ρ :=
  L0 a1 (0 : Int) (fun e01 => (C0 (e01.size : Int) (1 : Int) (24 : Int)).bind fun r1 => sel ((!r1)) (K false) ((C1 e01 (ByteArray.mk #[47])).bind fun r2 => sel ((!r2)) ((C2 e01 (ByteArray.mk #[47])).bind fun r3 => sel ((!r3)) ((C3 e01 (ByteArray.mk #[47, 47])).bind fun r4 => K (!r4)) (K false)) (K false))) (fun x01 => K x01)
noncomputable def F (a1 : ByteArray) : Option Bool := B impl_inRange.F strings_HasPrefix.F strings_HasSuffix.F strings_Contains.F (F0 fuelN) a1 (fun x1 => some (x1))
def encA (t : ByteArray) : List AV := [vs t]
def encR (x : Bool) : AV × List Ob := (vb x, [])
theorem encAI : ∀ a b, encA a = encA b → a = b := by
  intro a b h
  simp [encA, encRw_iff] at h
  simp_all
theorem encRI : ∀ a b, encR a = encR b → a = b := by
  intro a b h
  simp [encR, encRw_iff] at h
  simp_all
noncomputable def Q (args : List AV) : Option Bool := ofC encA (fun t => F t) args
theorem wrap : (fun (y1 : ByteArray) => Q [vs y1]) = F := by
  funext y1
  exact ofC_enc encAI _ (y1)
noncomputable def G (Q0 : List AV → Option Bool) (Q1 : List AV → Option Bool) (Q2 : List AV → Option Bool) (Q3 : List AV → Option Bool) : Orc := ⟨fun f => sel (Nat.beq f 32) 0 (sel (Nat.beq f 97) 0 (sel (Nat.beq f 98) 0 (sel (Nat.beq f 99) 0 (9)))), fun ρ f args K => sel (Nat.beq f 32) (qEntry impl_inRange.encR Q0 args K) (sel (Nat.beq f 97) (qEntry strings_HasPrefix.encR Q1 args K) (sel (Nat.beq f 98) (qEntry strings_HasSuffix.encR Q2 args K) (sel (Nat.beq f 99) (qEntry strings_Contains.encR Q3 args K) (Option.none)))), noE, false⟩
noncomputable def L (W0 : (ρ : Type) → List AV → List Ob → (ByteArray → Option ρ) → (Bool → Option ρ) → Option ρ) : Lor := fun ρ j st K => sel (Nat.beq j 0) (cutO Try.prog 58 [0, 3] 0 [] [] st fun avs obs => W0 ρ avs obs (fun z1 => K (.exit 0) (mkS 58 [0] [vs z1] [] [])) (fun z1 => K .ret (mkS 58 [2] [vb z1] [] []))) (Option.none)
noncomputable def c0 : Code := loopC (atomN [] 0 (bodyOf Try.f63) 0)
def ct0 : Cut := ⟨[0, 3], []⟩
def lv0 : Exit → Cut
  | .exit 0 => ⟨[0], []⟩
  | .ret => ⟨[2], []⟩
  | _ => ⟨[], []⟩
theorem step0 (Q0 Q1 Q2 Q3) (W0) {ρ : Type} (K : Exit → St → Option ρ) (W : List AV → List Ob → Option ρ) (v1 v2) : exC Try.prog (G Q0 Q1 Q2 Q3) (L W0) [] 1 c0 (mkS 58 [0, 3] [vs v1, vi v2] [] []) (bodyK Try.prog 58 0 [] ct0 W lv0 K) =
    B0 v1 v2 (fun u1 u2 => W [vs u1, vi u2] []) (fun z1 => K (.exit 0) (mkS 58 [0] [vs z1] [] [])) (fun z1 => K .ret (mkS 58 [2] [vb z1] [] [])) := by kernel_rfl
def enc0 (t : ByteArray × Int) : List AV × List Ob := ([vs t.1, vi t.2], [])
theorem enc0I : ∀ a b, enc0 a = enc0 b → a = b := by
  intro a b h
  obtain ⟨a0, a1⟩ := a
  obtain ⟨b0, b1⟩ := b
  simp [enc0, encRw_iff] at h
  simp_all
noncomputable def V0 : (ρ : Type) → List AV → List Ob → (ByteArray → Option ρ) → (Bool → Option ρ) → Option ρ := fun ρ avs obs k0 kr => ofC enc0 (fun t => F0 fuelN t.1 t.2 k0 kr) (avs, obs)
theorem V0_enc (ρ : Type) : (fun w1 w2 k0 kr => V0 ρ [vs w1, vi w2] [] k0 kr) = F0 fuelN := by
  funext w1 w2 k0 kr
  exact ofC_enc enc0I _ (w1, w2)
theorem main (Q0 Q1 Q2 Q3) (W0) {ρ : Type} (K : AV → List Ob → Option ρ) (a1) : exC Try.prog (G Q0 Q1 Q2 Q3) (L W0) [] 0 (bodyOf Try.f63) (entry 58 [vs a1] [] []) (finO Try.prog Try.f63.results.toList 0 [] [] K) =
    B (fun y1 y2 y3 => Q0 [vi y1, vi y2, vi y3]) (fun y1 y2 => Q1 [vs y1, vs y2]) (fun y1 y2 => Q2 [vs y1, vs y2]) (fun y1 y2 => Q3 [vs y1, vs y2]) (fun w1 w2 k0 kr => W0 ρ [vs w1, vi w2] [] k0 kr) a1 (fun x1 => K (vb x1) []) := by kernel_rfl
theorem Gok : (G impl_inRange.Q strings_HasPrefix.Q strings_HasSuffix.Q strings_Contains.Q).ok Try.prog := ⟨(by
    intro ρ f args K r h
    rcases sel_cases h with ⟨hb, h⟩ | ⟨-, h⟩
    · obtain rfl := beq_nat hb
      exact qEntry_ok impl_inRange.ac h
    rcases sel_cases h with ⟨hb, h⟩ | ⟨-, h⟩
    · obtain rfl := beq_nat hb
      exact qEntry_ok strings_HasPrefix.ac h
    rcases sel_cases h with ⟨hb, h⟩ | ⟨-, h⟩
    · obtain rfl := beq_nat hb
      exact qEntry_ok strings_HasSuffix.ac h
    rcases sel_cases h with ⟨hb, h⟩ | ⟨-, h⟩
    · obtain rfl := beq_nat hb
      exact qEntry_ok strings_Contains.ac h
    cases h),
  (by
    intro ρ f args K
    simp only [G]
    cases Nat.beq f 32 with
    | true => exact qEntry_nat args K
    | false =>
    simp only [sel]
    cases Nat.beq f 97 with
    | true => exact qEntry_nat args K
    | false =>
    simp only [sel]
    cases Nat.beq f 98 with
    | true => exact qEntry_nat args K
    | false =>
    simp only [sel]
    cases Nat.beq f 99 with
    | true => exact qEntry_nat args K
    | false =>
    simp only [sel]
    rfl),
  (fun ρ f st caps args dst K r h => (by cases h))⟩
theorem hm : Try.prog.follows .mixedOrders = true := by kernel_rfl
theorem e0 : atomsL [] 1 c0 = [] := by kernel_rfl
theorem ok0 (ρ : Type) (st : St) (K : Exit → St → Option ρ) (r : ρ) (h : (L V0) ρ 0 st K = some r) : AW Try.prog (.loop c0) st fun e st' => K e st' = some r := by
  refine loop_ok (ct := ct0) (lv := lv0) (n := 58) (m := 0) (ks := []) (j := 0) (jn := []) (L := (L V0)) Gok hm (by rw [e0]; exact Lor.ok_nil _ _) enc0I (fun k t => F0 k t.1 t.2 (fun z1 => K (.exit 0) (mkS 58 [0] [vs z1] [] [])) (fun z1 => K .ret (mkS 58 [2] [vb z1] [] []))) (fun t => rfl) (fun k t => ?_) (fun _ => fuelN) h
  refine (step0 impl_inRange.Q strings_HasPrefix.Q strings_HasSuffix.Q strings_Contains.Q V0 K _ t.1 t.2).trans ?_
  refine congrArg (fun W => B0 t.1 t.2 W (fun z1 => K (.exit 0) (mkS 58 [0] [vs z1] [] [])) (fun z1 => K .ret (mkS 58 [2] [vb z1] [] []))) ?_
  funext u1 u2
  exact ofC_enc enc0I _ (u1, u2)
theorem e : atomsL [] 0 (bodyOf Try.f63) = [(0, 0, .loop c0)] := by kernel_rfl
theorem acc (t : ByteArray) (x : Bool) (h : F t = some x) : ACc Try.prog 63 (encA t) [] true [] fun rv obs => (rv, obs) = encR x := by
  refine fun_okc (L := (L V0)) (jn := []) (cmds := []) (ks := []) (hin := []) (fn := Try.f63) (body := (bodyOf Try.f63)) Gok hm Try.func63 (by kernel_rfl) (by kernel_rfl) (by rw [e]; exact Lor.ok_cons ok0 (Lor.ok_nil _ _)) ?_ h
  refine (main impl_inRange.Q strings_HasPrefix.Q strings_HasSuffix.Q strings_Contains.Q V0 _ t).trans ?_
  rw [impl_inRange.wrap, strings_HasPrefix.wrap, strings_HasSuffix.wrap, strings_Contains.wrap, V0_enc]
  refine congrArg (fun K => B impl_inRange.F strings_HasPrefix.F strings_HasSuffix.F strings_Contains.F (F0 fuelN) t K) ?_
  funext x1
  exact ofC_enc encRI some (x1)
theorem ac0 (t : ByteArray) (x : Bool) (h : F t = some x) : AC Try.prog 63 (encA t) [] true [] fun rv obs => (rv, obs) = encR x := ACc.ac (body := bodyOf Try.f63) Try.func63 (by kernel_rfl) (by kernel_rfl) (acc t x h)
theorem ac (args : List AV) (x : Bool) (h : Q args = some x) : AC Try.prog 63 args [] false [] fun rv obs => (rv, obs) = encR x := by
  obtain ⟨t, rfl, h2⟩ := ofC_some h
  refine (ac0 t x h2).flat fun rv obs e => ?_
  obtain rfl : rv = (encR x).1 := congrArg Prod.fst e
  obtain rfl : obs = (encR x).2 := congrArg Prod.snd e
  refine ⟨by simp [encR, AV.Flat, K.Flat, C.Flat], ?_⟩
  simp [encR]
end impl_PathOk
/-! loop.example/g00073/impl.idAt$1 -/
namespace impl_idAt_1_s0fda
noncomputable def B {ρ : Type} (a1 : ByteArray) (a2 : Int) (a3 : Int) (a4 : Int) (K : Bool → Option ρ) : Option ρ :=
  K (decide (a2 = a4))
noncomputable def F (a1 : ByteArray) (a2 : Int) (a3 : Int) (a4 : Int) : Option Bool := B a1 a2 a3 a4 (fun x1 => some (x1))
def encA (t : ByteArray × Int × Int × Int) : List AV := [.a [cs t.1, ci t.2.1, ci t.2.2.1], .ra [.v (.int .i64 t.2.2.2)]]
def encR (x : Bool) : AV × List Ob := (vb x, [])
theorem encAI : ∀ a b, encA a = encA b → a = b := by
  intro a b h
  obtain ⟨a0, a1, a2, a3⟩ := a
  obtain ⟨b0, b1, b2, b3⟩ := b
  simp [encA, encRw_iff] at h
  simp_all
theorem encRI : ∀ a b, encR a = encR b → a = b := by
  intro a b h
  simp [encR, encRw_iff] at h
  simp_all
noncomputable def Q (args : List AV) : Option Bool := ofC encA (fun t => F t.1 t.2.1 t.2.2.1 t.2.2.2) args
theorem wrap : (fun (y1 : ByteArray) (y2 : Int) (y3 : Int) (y4 : Int) => Q [.a [cs y1, ci y2, ci y3], .ra [.v (.int .i64 y4)]]) = F := by
  funext y1 y2 y3 y4
  exact ofC_enc encAI _ (y1, y2, y3, y4)
noncomputable def G : Orc := ⟨fun f => 9, fun ρ f args K => Option.none, noE, false⟩
noncomputable def L : Lor := fun ρ j st K => Option.none
theorem main {ρ : Type} (K : AV → List Ob → Option ρ) (a1 a2 a3 a4) : exC Try.prog (G) (L) [] 0 (bodyOf Try.f101) (entry 8 [.a [cs a1, ci a2, ci a3], .ra [.v (.int .i64 a4)]] [] []) (finO Try.prog Try.f101.results.toList 0 [] [] K) =
    B a1 a2 a3 a4 (fun x1 => K (vb x1) []) := by kernel_rfl
theorem Gok : (G).ok Try.prog := ⟨(fun ρ f args K r h => (by cases h)),
  (fun ρ f args K => rfl),
  (fun ρ f st caps args dst K r h => (by cases h))⟩
theorem hm : Try.prog.follows .mixedOrders = true := by kernel_rfl
theorem e : atomsL [] 0 (bodyOf Try.f101) = [] := by kernel_rfl
theorem acc (t : ByteArray × Int × Int × Int) (x : Bool) (h : F t.1 t.2.1 t.2.2.1 t.2.2.2 = some x) : ACc Try.prog 101 (encA t) [] true [] fun rv obs => (rv, obs) = encR x := by
  refine fun_okc (L := (L)) (jn := []) (cmds := []) (ks := []) (hin := []) (fn := Try.f101) (body := (bodyOf Try.f101)) Gok hm Try.func101 (by kernel_rfl) (by kernel_rfl) (by rw [e]; exact Lor.ok_nil _ _) ?_ h
  refine (main _ t.1 t.2.1 t.2.2.1 t.2.2.2).trans ?_
  refine congrArg (fun K => B t.1 t.2.1 t.2.2.1 t.2.2.2 K) ?_
  funext x1
  exact ofC_enc encRI some (x1)
theorem ac0 (t : ByteArray × Int × Int × Int) (x : Bool) (h : F t.1 t.2.1 t.2.2.1 t.2.2.2 = some x) : AC Try.prog 101 (encA t) [] true [] fun rv obs => (rv, obs) = encR x := ACc.ac (body := bodyOf Try.f101) Try.func101 (by kernel_rfl) (by kernel_rfl) (acc t x h)
theorem ac (args : List AV) (x : Bool) (h : Q args = some x) : AC Try.prog 101 args [] false [] fun rv obs => (rv, obs) = encR x := by
  obtain ⟨t, rfl, h2⟩ := ofC_some h
  refine (ac0 t x h2).flat fun rv obs e => ?_
  obtain rfl : rv = (encR x).1 := congrArg Prod.fst e
  obtain rfl : obs = (encR x).2 := congrArg Prod.snd e
  refine ⟨by simp [encR, AV.Flat, K.Flat, C.Flat], ?_⟩
  simp [encR]
end impl_idAt_1_s0fda
/-! slices.IndexFunc(()loop.example/g00073/impl.Name,loop.example/g00073/impl.Name) -/
namespace slices_IndexFunc_impl_Name_sf709
noncomputable def B0 {ρ : Type} (C0 : ByteArray → Int → Int → Int → Option Bool) (v1 : Vec (ByteArray × Int × Int)) (v2 : Int) (v3 : Int) (v4 : Int) (W : (Vec (ByteArray × Int × Int)) → Int → Int → Int → Option ρ) (K0 : Int → Option ρ) (Kr : Int → Int → Option ρ) : Option ρ :=
  sel (decide (v3 < v2)) (chk (decide (0 ≤ v3 ∧ v3 < (v1.n : Int))) ((C0 ((v1.g v3.toNat).1) ((v1.g v3.toNat).2.1) ((v1.g v3.toNat).2.2) v4).bind fun r1 => sel (r1) (Kr v3 v4) (W v1 v2 (wr (v3 + (1 : Int))) v4))) (K0 v4)
noncomputable def F0 {ρ : Type} : Nat → (Vec (ByteArray × Int × Int)) → Int → Int → Int → (Int → Option ρ) → (Int → Int → Option ρ) → Option ρ
  | 0, _, _, _, _, _, _ => none
  | k + 1, v1, v2, v3, v4, K0, Kr => B0 impl_idAt_1_s0fda.F v1 v2 v3 v4 (fun v1' v2' v3' v4' => F0 k v1' v2' v3' v4' K0 Kr) K0 Kr
noncomputable def B {ρ : Type} (L0 : (Vec (ByteArray × Int × Int)) → Int → Int → Int → (Int → Option ρ) → (Int → Int → Option ρ) → Option ρ) (a1 : Vec (ByteArray × Int × Int)) (a2 : Int) (K : Int → Int → Option ρ) : Option ρ :=
  L0 a1 (a1.n : Int) (0 : Int) a2 (fun e01 => K (-1 : Int) e01) (fun x01 x02 => K x01 x02)
noncomputable def F (a1 : Vec (ByteArray × Int × Int)) (a2 : Int) : Option (Int × Int) := B (F0 fuelN) a1 a2 (fun x1 x2 => some (x1, x2))
def encA (t : (Vec (ByteArray × Int × Int)) × Int) : List AV × List Ob := ([vl t.1, .fn 101 [.p 0 0]], [.box [ci t.2]])
def encR (x : Int × Int) : AV × List Ob := (vi x.1, [.box [ci x.2]])
theorem encAI : ∀ a b, encA a = encA b → a = b := by
  intro a b h
  obtain ⟨a0, a1⟩ := a
  obtain ⟨b0, b1⟩ := b
  simp [encA, encRw_iff] at h
  simp_all
theorem encRI : ∀ a b, encR a = encR b → a = b := by
  intro a b h
  obtain ⟨a0, a1⟩ := a
  obtain ⟨b0, b1⟩ := b
  simp [encR, encRw_iff] at h
  simp_all
noncomputable def Q (args : List AV) (hin : List Ob) : Option (Int × Int) := ofC encA (fun t => F t.1 t.2) (args, hin)
theorem wrap : (fun (y1 : Vec (ByteArray × Int × Int)) (y2 : Int) => Q [vl y1, .fn 101 [.p 0 0]] [.box [ci y2]]) = F := by
  funext y1 y2
  exact ofC_enc encAI _ (y1, y2)
noncomputable def G (Q0 : List AV → Option Bool) : Orc := ⟨fun f => sel (Nat.beq f 101) 0 (9), fun ρ f args K => sel (Nat.beq f 101) (qEntry impl_idAt_1_s0fda.encR Q0 args K) (Option.none), noE, false⟩
noncomputable def L (W0 : (ρ : Type) → List AV → List Ob → (Int → Option ρ) → (Int → Int → Option ρ) → Option ρ) : Lor := fun ρ j st K => sel (Nat.beq j 0) (cutO Try.prog 19 [0, 1, 7, 8] 1 [true] [] st fun avs obs => W0 ρ avs obs (fun z1 => K (.exit 0) (mkS 19 [] [] [.box [ci z1]] [true])) (fun z1 z2 => K .ret (mkS 19 [4] [vi z1] [.box [ci z2]] [true]))) (Option.none)
noncomputable def c0 : Code := loopC (atomN [] 0 (bodyOf Try.f100) 0)
def ct0 : Cut := ⟨[0, 1, 7, 8], []⟩
def lv0 : Exit → Cut
  | .exit 0 => ⟨[], []⟩
  | .ret => ⟨[4], []⟩
  | _ => ⟨[], []⟩
theorem step0 (Q0) (W0) {ρ : Type} (K : Exit → St → Option ρ) (W : List AV → List Ob → Option ρ) (v1 v2 v3 v4) : exC Try.prog (G Q0) (L W0) [] 1 c0 (mkS 19 [0, 1, 7, 8] [vl v1, .fn 101 [.p 0 0], vi v2, vi v3] [.box [ci v4]] [true]) (bodyK Try.prog 19 1 [true] ct0 W lv0 K) =
    B0 (fun y1 y2 y3 y4 => Q0 [.a [cs y1, ci y2, ci y3], .ra [.v (.int .i64 y4)]]) v1 v2 v3 v4 (fun u1 u2 u3 u4 => W [vl u1, .fn 101 [.p 0 0], vi u2, vi u3] [.box [ci u4]]) (fun z1 => K (.exit 0) (mkS 19 [] [] [.box [ci z1]] [true])) (fun z1 z2 => K .ret (mkS 19 [4] [vi z1] [.box [ci z2]] [true])) := by kernel_rfl
def enc0 (t : (Vec (ByteArray × Int × Int)) × Int × Int × Int) : List AV × List Ob := ([vl t.1, .fn 101 [.p 0 0], vi t.2.1, vi t.2.2.1], [.box [ci t.2.2.2]])
theorem enc0I : ∀ a b, enc0 a = enc0 b → a = b := by
  intro a b h
  obtain ⟨a0, a1, a2, a3⟩ := a
  obtain ⟨b0, b1, b2, b3⟩ := b
  simp [enc0, encRw_iff] at h
  simp_all
noncomputable def V0 : (ρ : Type) → List AV → List Ob → (Int → Option ρ) → (Int → Int → Option ρ) → Option ρ := fun ρ avs obs k0 kr => ofC enc0 (fun t => F0 fuelN t.1 t.2.1 t.2.2.1 t.2.2.2 k0 kr) (avs, obs)
theorem V0_enc (ρ : Type) : (fun w1 w2 w3 w4 k0 kr => V0 ρ [vl w1, .fn 101 [.p 0 0], vi w2, vi w3] [.box [ci w4]] k0 kr) = F0 fuelN := by
  funext w1 w2 w3 w4 k0 kr
  exact ofC_enc enc0I _ (w1, w2, w3, w4)
theorem main (Q0) (W0) {ρ : Type} (K : AV → List Ob → Option ρ) (a1 a2) : exC Try.prog (G Q0) (L W0) [] 0 (bodyOf Try.f100) (entry 19 [vl a1, .fn 101 [.p 0 0]] [.box [ci a2]] [true]) (finO Try.prog Try.f100.results.toList 1 [true] [] K) =
    B (fun w1 w2 w3 w4 k0 kr => W0 ρ [vl w1, .fn 101 [.p 0 0], vi w2, vi w3] [.box [ci w4]] k0 kr) a1 a2 (fun x1 x2 => K (vi x1) [.box [ci x2]]) := by kernel_rfl
theorem Gok : (G impl_idAt_1_s0fda.Q).ok Try.prog := ⟨(by
    intro ρ f args K r h
    rcases sel_cases h with ⟨hb, h⟩ | ⟨-, h⟩
    · obtain rfl := beq_nat hb
      exact qEntry_ok impl_idAt_1_s0fda.ac h
    cases h),
  (by
    intro ρ f args K
    simp only [G]
    cases Nat.beq f 101 with
    | true => exact qEntry_nat args K
    | false =>
    simp only [sel]
    rfl),
  (fun ρ f st caps args dst K r h => (by cases h))⟩
theorem hm : Try.prog.follows .mixedOrders = true := by kernel_rfl
theorem e0 : atomsL [] 1 c0 = [] := by kernel_rfl
theorem ok0 (ρ : Type) (st : St) (K : Exit → St → Option ρ) (r : ρ) (h : (L V0) ρ 0 st K = some r) : AW Try.prog (.loop c0) st fun e st' => K e st' = some r := by
  refine loop_ok (ct := ct0) (lv := lv0) (n := 19) (m := 1) (ks := [true]) (j := 0) (jn := []) (L := (L V0)) Gok hm (by rw [e0]; exact Lor.ok_nil _ _) enc0I (fun k t => F0 k t.1 t.2.1 t.2.2.1 t.2.2.2 (fun z1 => K (.exit 0) (mkS 19 [] [] [.box [ci z1]] [true])) (fun z1 z2 => K .ret (mkS 19 [4] [vi z1] [.box [ci z2]] [true]))) (fun t => rfl) (fun k t => ?_) (fun _ => fuelN) h
  refine (step0 impl_idAt_1_s0fda.Q V0 K _ t.1 t.2.1 t.2.2.1 t.2.2.2).trans ?_
  rw [impl_idAt_1_s0fda.wrap]
  refine congrArg (fun W => B0 impl_idAt_1_s0fda.F t.1 t.2.1 t.2.2.1 t.2.2.2 W (fun z1 => K (.exit 0) (mkS 19 [] [] [.box [ci z1]] [true])) (fun z1 z2 => K .ret (mkS 19 [4] [vi z1] [.box [ci z2]] [true]))) ?_
  funext u1 u2 u3 u4
  exact ofC_enc enc0I _ (u1, u2, u3, u4)
theorem e : atomsL [] 0 (bodyOf Try.f100) = [(0, 0, .loop c0)] := by kernel_rfl
theorem acc (t : (Vec (ByteArray × Int × Int)) × Int) (x : Int × Int) (h : F t.1 t.2 = some x) : ACc Try.prog 100 (encA t).1 (encA t).2 true [true] fun rv obs => (rv, obs) = encR x := by
  refine fun_okc (L := (L V0)) (jn := []) (cmds := []) (ks := [true]) (hin := (encA t).2) (fn := Try.f100) (body := (bodyOf Try.f100)) Gok hm Try.func100 (by kernel_rfl) (by kernel_rfl) (by rw [e]; exact Lor.ok_cons ok0 (Lor.ok_nil _ _)) ?_ h
  refine (main impl_idAt_1_s0fda.Q V0 _ t.1 t.2).trans ?_
  rw [V0_enc]
  refine congrArg (fun K => B (F0 fuelN) t.1 t.2 K) ?_
  funext x1 x2
  exact ofC_enc encRI some (x1, x2)
theorem ac0 (t : (Vec (ByteArray × Int × Int)) × Int) (x : Int × Int) (h : F t.1 t.2 = some x) : AC Try.prog 100 (encA t).1 (encA t).2 true [true] fun rv obs => (rv, obs) = encR x := ACc.ac (body := bodyOf Try.f100) Try.func100 (by kernel_rfl) (by kernel_rfl) (acc t x h)
theorem ac (args : List AV) (hin : List Ob) (x : Int × Int) (h : Q args hin = some x) : AC Try.prog 100 args hin false [true] fun rv obs => (rv, obs) = encR x := by
  obtain ⟨t, he, h2⟩ := ofC_some h
  obtain rfl : args = (encA t).1 := (congrArg Prod.fst he).symm
  obtain rfl : hin = (encA t).2 := (congrArg Prod.snd he).symm
  refine (ac0 t x h2).flat fun rv obs e => ?_
  obtain rfl : rv = (encR x).1 := congrArg Prod.fst e
  obtain rfl : obs = (encR x).2 := congrArg Prod.snd e
  refine ⟨by simp [encR, AV.Flat, K.Flat, C.Flat], ?_⟩
  intro o ho
  simp only [encR, List.mem_cons, List.not_mem_nil, or_false] at ho
  subst ho
  simp [Ob.Flat, C.Flat, N.Flat]
end slices_IndexFunc_impl_Name_sf709
/-! loop.example/g00073/impl.idAt -/
namespace impl_idAt
noncomputable def B {ρ : Type} (C0 : (Vec (ByteArray × Int × Int)) → Int → Option (Int × Int)) (a1 : Vec (ByteArray × Int × Int)) (a2 : Int) (K : Int → Option ρ) : Option ρ :=
  (C0 a1 a2).bind fun r1 => K r1.1
noncomputable def F (a1 : Vec (ByteArray × Int × Int)) (a2 : Int) : Option Int := B slices_IndexFunc_impl_Name_sf709.F a1 a2 (fun x1 => some (x1))
def encA (t : (Vec (ByteArray × Int × Int)) × Int) : List AV := [vl t.1, vi t.2]
def encR (x : Int) : AV × List Ob := (vi x, [])
theorem encAI : ∀ a b, encA a = encA b → a = b := by
  intro a b h
  obtain ⟨a0, a1⟩ := a
  obtain ⟨b0, b1⟩ := b
  simp [encA, encRw_iff] at h
  simp_all
theorem encRI : ∀ a b, encR a = encR b → a = b := by
  intro a b h
  simp [encR, encRw_iff] at h
  simp_all
noncomputable def Q (args : List AV) : Option Int := ofC encA (fun t => F t.1 t.2) args
theorem wrap : (fun (y1 : Vec (ByteArray × Int × Int)) (y2 : Int) => Q [vl y1, vi y2]) = F := by
  funext y1 y2
  exact ofC_enc encAI _ (y1, y2)
noncomputable def G (Q0 : List AV → List Ob → Option (Int × Int)) : Orc := ⟨fun f => 9, fun ρ f args K => Option.none, fun ρ f st args dst K => sel (Nat.beq f 100) (callE Try.prog 100 [false, true] false [true] slices_IndexFunc_impl_Name_sf709.encR Q0 st args dst K) (Option.none), false⟩
noncomputable def L : Lor := fun ρ j st K => Option.none
theorem main (Q0) {ρ : Type} (K : AV → List Ob → Option ρ) (a1 a2) : exC Try.prog (G Q0) (L) [] 0 (bodyOf Try.f64) (entry 8 [vl a1, vi a2] [] []) (finO Try.prog Try.f64.results.toList 0 [] [] K) =
    B (fun y1 y2 => Q0 [vl y1, .fn 101 [.p 0 0]] [.box [ci y2]]) a1 a2 (fun x1 => K (vi x1) []) := by kernel_rfl
theorem Gok : (G slices_IndexFunc_impl_Name_sf709.Q).ok Try.prog := ⟨(fun ρ f args K r h => (by cases h)),
  (fun ρ f args K => rfl),
  (by
    intro ρ f st caps args dst K r h
    rcases sel_cases h with ⟨hb, h⟩ | ⟨-, h⟩
    · obtain rfl := beq_nat hb
      exact callE_ok (fun h => by cases h) slices_IndexFunc_impl_Name_sf709.ac h
    cases h)⟩
theorem hm : Try.prog.follows .mixedOrders = true := by kernel_rfl
theorem e : atomsL [] 0 (bodyOf Try.f64) = [] := by kernel_rfl
theorem acc (t : (Vec (ByteArray × Int × Int)) × Int) (x : Int) (h : F t.1 t.2 = some x) : ACc Try.prog 64 (encA t) [] true [] fun rv obs => (rv, obs) = encR x := by
  refine fun_okc (L := (L)) (jn := []) (cmds := []) (ks := []) (hin := []) (fn := Try.f64) (body := (bodyOf Try.f64)) Gok hm Try.func64 (by kernel_rfl) (by kernel_rfl) (by rw [e]; exact Lor.ok_nil _ _) ?_ h
  refine (main slices_IndexFunc_impl_Name_sf709.Q _ t.1 t.2).trans ?_
  rw [slices_IndexFunc_impl_Name_sf709.wrap]
  refine congrArg (fun K => B slices_IndexFunc_impl_Name_sf709.F t.1 t.2 K) ?_
  funext x1
  exact ofC_enc encRI some (x1)
theorem ac0 (t : (Vec (ByteArray × Int × Int)) × Int) (x : Int) (h : F t.1 t.2 = some x) : AC Try.prog 64 (encA t) [] true [] fun rv obs => (rv, obs) = encR x := ACc.ac (body := bodyOf Try.f64) Try.func64 (by kernel_rfl) (by kernel_rfl) (acc t x h)
theorem ac (args : List AV) (x : Int) (h : Q args = some x) : AC Try.prog 64 args [] false [] fun rv obs => (rv, obs) = encR x := by
  obtain ⟨t, rfl, h2⟩ := ofC_some h
  refine (ac0 t x h2).flat fun rv obs e => ?_
  obtain rfl : rv = (encR x).1 := congrArg Prod.fst e
  obtain rfl : obs = (encR x).2 := congrArg Prod.snd e
  refine ⟨by simp [encR, AV.Flat, K.Flat, C.Flat], ?_⟩
  simp [encR]
end impl_idAt
/-! loop.example/g00073/impl.NamesOk -/
namespace impl_NamesOk
noncomputable def B0 {ρ : Type} (C0 : ByteArray → Option Bool) (C1 : Int → Int → Int → Option Bool) (C2 : (Vec (ByteArray × Int × Int)) → Int → Option Int) (v1 : Vec (ByteArray × Int × Int)) (v2 : Vec (ByteArray × Int × Int)) (v3 : Int) (v4 : Int) (W : (Vec (ByteArray × Int × Int)) → (Vec (ByteArray × Int × Int)) → Int → Int → Option ρ) (K0 : Unit → Option ρ) (Kr : Bool → Option ρ) : Option ρ :=
  sel (decide (v4 < v3)) (chk (decide (0 ≤ v4 ∧ v4 < (v2.n : Int))) ((C0 ((v2.g v4.toNat).1)).bind fun r1 => sel ((!r1)) (Kr false) ((C1 ((v2.g v4.toNat).2.1) (0 : Int) (11 : Int)).bind fun r2 => sel ((!r2)) (Kr false) ((C1 ((v2.g v4.toNat).2.2) (0 : Int) (39 : Int)).bind fun r3 => sel ((!r3)) (Kr false) (sel (decide ((0 : Int) < v4)) (chk (decide (0 ≤ (wr (v4 - (1 : Int))) ∧ (wr (v4 - (1 : Int))) < (v1.n : Int))) (sel ((!decide (((v1.g (wr (v4 - (1 : Int))).toNat).1).toList < ((v2.g v4.toNat).1).toList))) (Kr false) ((C2 v1 ((v2.g v4.toNat).2.1)).bind fun r4 => sel ((!decide (r4 = v4))) (Kr false) (W v1 v2 v3 (wr (v4 + (1 : Int))))))) ((C2 v1 ((v2.g v4.toNat).2.1)).bind fun r5 => sel ((!decide (r5 = v4))) (Kr false) (W v1 v2 v3 (wr (v4 + (1 : Int)))))))))) (K0 ())
noncomputable def F0 {ρ : Type} : Nat → (Vec (ByteArray × Int × Int)) → (Vec (ByteArray × Int × Int)) → Int → Int → (Unit → Option ρ) → (Bool → Option ρ) → Option ρ
  | 0, _, _, _, _, _, _ => none
  | k + 1, v1, v2, v3, v4, K0, Kr => B0 impl_PathOk.F impl_inRange.F impl_idAt.F v1 v2 v3 v4 (fun v1' v2' v3' v4' => F0 k v1' v2' v3' v4' K0 Kr) K0 Kr
noncomputable def B {ρ : Type} (L0 : (Vec (ByteArray × Int × Int)) → (Vec (ByteArray × Int × Int)) → Int → Int → (Unit → Option ρ) → (Bool → Option ρ) → Option ρ) (a1 : Vec (ByteArray × Int × Int)) (K : Bool → Option ρ) : Option ρ :=
  sel (decide ((12 : Int) < (a1.n : Int))) (K false) (L0 a1 a1 (a1.n : Int) (0 : Int) (fun _ => K true) (fun x01 => K x01))
noncomputable def F (a1 : Vec (ByteArray × Int × Int)) : Option Bool := B (F0 fuelN) a1 (fun x1 => some (x1))
def encA (t : Vec (ByteArray × Int × Int)) : List AV := [vl t]
def encR (x : Bool) : AV × List Ob := (vb x, [])
theorem encAI : ∀ a b, encA a = encA b → a = b := by
  intro a b h
  simp [encA, encRw_iff] at h
  simp_all
theorem encRI : ∀ a b, encR a = encR b → a = b := by
  intro a b h
  simp [encR, encRw_iff] at h
  simp_all
noncomputable def Q (args : List AV) : Option Bool := ofC encA (fun t => F t) args
theorem wrap : (fun (y1 : Vec (ByteArray × Int × Int)) => Q [vl y1]) = F := by
  funext y1
  exact ofC_enc encAI _ (y1)
noncomputable def G (Q0 : List AV → Option Bool) (Q1 : List AV → Option Bool) (Q2 : List AV → Option Int) : Orc := ⟨fun f => sel (Nat.beq f 63) 0 (sel (Nat.beq f 32) 0 (sel (Nat.beq f 64) 0 (9))), fun ρ f args K => sel (Nat.beq f 63) (qEntry impl_PathOk.encR Q0 args K) (sel (Nat.beq f 32) (qEntry impl_inRange.encR Q1 args K) (sel (Nat.beq f 64) (qEntry impl_idAt.encR Q2 args K) (Option.none))), noE, false⟩
noncomputable def L (W0 : (ρ : Type) → List AV → List Ob → (Unit → Option ρ) → (Bool → Option ρ) → Option ρ) : Lor := fun ρ j st K => sel (Nat.beq j 0) (cutO Try.prog 53 [0, 8, 9, 10] 0 [] [] st fun avs obs => W0 ρ avs obs (fun _ => K (.exit 0) (mkS 53 [] [] [] [])) (fun z1 => K .ret (mkS 53 [2] [vb z1] [] []))) (Option.none)
noncomputable def c0 : Code := loopC (atomN [] 0 (bodyOf Try.f34) 0)
def ct0 : Cut := ⟨[0, 8, 9, 10], []⟩
def lv0 : Exit → Cut
  | .exit 0 => ⟨[], []⟩
  | .ret => ⟨[2], []⟩
  | _ => ⟨[], []⟩
theorem step0 (Q0 Q1 Q2) (W0) {ρ : Type} (K : Exit → St → Option ρ) (W : List AV → List Ob → Option ρ) (v1 v2 v3 v4) : exC Try.prog (G Q0 Q1 Q2) (L W0) [] 1 c0 (mkS 53 [0, 8, 9, 10] [vl v1, vl v2, vi v3, vi v4] [] []) (bodyK Try.prog 53 0 [] ct0 W lv0 K) =
    B0 (fun y1 => Q0 [vs y1]) (fun y1 y2 y3 => Q1 [vi y1, vi y2, vi y3]) (fun y1 y2 => Q2 [vl y1, vi y2]) v1 v2 v3 v4 (fun u1 u2 u3 u4 => W [vl u1, vl u2, vi u3, vi u4] []) (fun _ => K (.exit 0) (mkS 53 [] [] [] [])) (fun z1 => K .ret (mkS 53 [2] [vb z1] [] [])) := by kernel_rfl
def enc0 (t : (Vec (ByteArray × Int × Int)) × (Vec (ByteArray × Int × Int)) × Int × Int) : List AV × List Ob := ([vl t.1, vl t.2.1, vi t.2.2.1, vi t.2.2.2], [])
theorem enc0I : ∀ a b, enc0 a = enc0 b → a = b := by
  intro a b h
  obtain ⟨a0, a1, a2, a3⟩ := a
  obtain ⟨b0, b1, b2, b3⟩ := b
  simp [enc0, encRw_iff] at h
  simp_all
noncomputable def V0 : (ρ : Type) → List AV → List Ob → (Unit → Option ρ) → (Bool → Option ρ) → Option ρ := fun ρ avs obs k0 kr => ofC enc0 (fun t => F0 fuelN t.1 t.2.1 t.2.2.1 t.2.2.2 k0 kr) (avs, obs)
theorem V0_enc (ρ : Type) : (fun w1 w2 w3 w4 k0 kr => V0 ρ [vl w1, vl w2, vi w3, vi w4] [] k0 kr) = F0 fuelN := by
  funext w1 w2 w3 w4 k0 kr
  exact ofC_enc enc0I _ (w1, w2, w3, w4)
theorem main (Q0 Q1 Q2) (W0) {ρ : Type} (K : AV → List Ob → Option ρ) (a1) : exC Try.prog (G Q0 Q1 Q2) (L W0) [] 0 (bodyOf Try.f34) (entry 53 [vl a1] [] []) (finO Try.prog Try.f34.results.toList 0 [] [] K) =
    B (fun w1 w2 w3 w4 k0 kr => W0 ρ [vl w1, vl w2, vi w3, vi w4] [] k0 kr) a1 (fun x1 => K (vb x1) []) := by kernel_rfl
theorem Gok : (G impl_PathOk.Q impl_inRange.Q impl_idAt.Q).ok Try.prog := ⟨(by
    intro ρ f args K r h
    rcases sel_cases h with ⟨hb, h⟩ | ⟨-, h⟩
    · obtain rfl := beq_nat hb
      exact qEntry_ok impl_PathOk.ac h
    rcases sel_cases h with ⟨hb, h⟩ | ⟨-, h⟩
    · obtain rfl := beq_nat hb
      exact qEntry_ok impl_inRange.ac h
    rcases sel_cases h with ⟨hb, h⟩ | ⟨-, h⟩
    · obtain rfl := beq_nat hb
      exact qEntry_ok impl_idAt.ac h
    cases h),
  (by
    intro ρ f args K
    simp only [G]
    cases Nat.beq f 63 with
    | true => exact qEntry_nat args K
    | false =>
    simp only [sel]
    cases Nat.beq f 32 with
    | true => exact qEntry_nat args K
    | false =>
    simp only [sel]
    cases Nat.beq f 64 with
    | true => exact qEntry_nat args K
    | false =>
    simp only [sel]
    rfl),
  (fun ρ f st caps args dst K r h => (by cases h))⟩
theorem hm : Try.prog.follows .mixedOrders = true := by kernel_rfl
theorem e0 : atomsL [] 1 c0 = [] := by kernel_rfl
theorem ok0 (ρ : Type) (st : St) (K : Exit → St → Option ρ) (r : ρ) (h : (L V0) ρ 0 st K = some r) : AW Try.prog (.loop c0) st fun e st' => K e st' = some r := by
  refine loop_ok (ct := ct0) (lv := lv0) (n := 53) (m := 0) (ks := []) (j := 0) (jn := []) (L := (L V0)) Gok hm (by rw [e0]; exact Lor.ok_nil _ _) enc0I (fun k t => F0 k t.1 t.2.1 t.2.2.1 t.2.2.2 (fun _ => K (.exit 0) (mkS 53 [] [] [] [])) (fun z1 => K .ret (mkS 53 [2] [vb z1] [] []))) (fun t => rfl) (fun k t => ?_) (fun _ => fuelN) h
  refine (step0 impl_PathOk.Q impl_inRange.Q impl_idAt.Q V0 K _ t.1 t.2.1 t.2.2.1 t.2.2.2).trans ?_
  rw [impl_PathOk.wrap, impl_inRange.wrap, impl_idAt.wrap]
  refine congrArg (fun W => B0 impl_PathOk.F impl_inRange.F impl_idAt.F t.1 t.2.1 t.2.2.1 t.2.2.2 W (fun _ => K (.exit 0) (mkS 53 [] [] [] [])) (fun z1 => K .ret (mkS 53 [2] [vb z1] [] []))) ?_
  funext u1 u2 u3 u4
  exact ofC_enc enc0I _ (u1, u2, u3, u4)
theorem e : atomsL [] 0 (bodyOf Try.f34) = [(0, 0, .loop c0)] := by kernel_rfl
theorem acc (t : Vec (ByteArray × Int × Int)) (x : Bool) (h : F t = some x) : ACc Try.prog 34 (encA t) [] true [] fun rv obs => (rv, obs) = encR x := by
  refine fun_okc (L := (L V0)) (jn := []) (cmds := []) (ks := []) (hin := []) (fn := Try.f34) (body := (bodyOf Try.f34)) Gok hm Try.func34 (by kernel_rfl) (by kernel_rfl) (by rw [e]; exact Lor.ok_cons ok0 (Lor.ok_nil _ _)) ?_ h
  refine (main impl_PathOk.Q impl_inRange.Q impl_idAt.Q V0 _ t).trans ?_
  rw [V0_enc]
  refine congrArg (fun K => B (F0 fuelN) t K) ?_
  funext x1
  exact ofC_enc encRI some (x1)
theorem ac0 (t : Vec (ByteArray × Int × Int)) (x : Bool) (h : F t = some x) : AC Try.prog 34 (encA t) [] true [] fun rv obs => (rv, obs) = encR x := ACc.ac (body := bodyOf Try.f34) Try.func34 (by kernel_rfl) (by kernel_rfl) (acc t x h)
theorem ac (args : List AV) (x : Bool) (h : Q args = some x) : AC Try.prog 34 args [] false [] fun rv obs => (rv, obs) = encR x := by
  obtain ⟨t, rfl, h2⟩ := ofC_some h
  refine (ac0 t x h2).flat fun rv obs e => ?_
  obtain rfl : rv = (encR x).1 := congrArg Prod.fst e
  obtain rfl : obs = (encR x).2 := congrArg Prod.snd e
  refine ⟨by simp [encR, AV.Flat, K.Flat, C.Flat], ?_⟩
  simp [encR]
end impl_NamesOk
end Go.Al
