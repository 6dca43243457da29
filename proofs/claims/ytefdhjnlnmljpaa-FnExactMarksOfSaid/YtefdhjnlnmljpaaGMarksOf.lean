import Derived.Test.YtefdhjnlnmljpaaAlE
import Derived.Test.YtefdhjnlnmljpaaSC
import Derived.Test.YtefdhjnlnmljpaaGWl
import Derived.Test.YtefdhjnlnmljpaaGMkW
import Derived.Test.YtefdhjnlnmljpaaGMo
set_option linter.unusedVariables false
set_option linter.unusedSimpArgs false
set_option linter.constructorNameAsVariable false
set_option linter.unusedSectionVars false
set_option maxRecDepth 100000
namespace Go.Al
open Go.Proofs

/-! loop.example/g00073/laws.eqNote -/
namespace laws_eqNote
noncomputable def B {ρ : Type} (a1 : Int) (a2 : Int) (a3 : ByteArray) (a4 : Int) (a5 : Int) (a6 : ByteArray) (K : Bool → Option ρ) : Option ρ :=
  sel ((!decide (a1 = a4))) (K false) (sel ((!decide (a2 = a5))) (K false) (sel ((!decide (a3 = a6))) (K false) (K true)))
noncomputable def F (a1 : Int) (a2 : Int) (a3 : ByteArray) (a4 : Int) (a5 : Int) (a6 : ByteArray) : Option Bool := B a1 a2 a3 a4 a5 a6 (fun x1 => some (x1))
def encA (t : Int × Int × ByteArray × Int × Int × ByteArray) : List AV := [.a [ci t.1, ci t.2.1, cs t.2.2.1], .a [ci t.2.2.2.1, ci t.2.2.2.2.1, cs t.2.2.2.2.2]]
def encR (x : Bool) : AV × List Ob := (vb x, [])
theorem encAI : ∀ a b, encA a = encA b → a = b := by
  intro a b h
  obtain ⟨a0, a1, a2, a3, a4, a5⟩ := a
  obtain ⟨b0, b1, b2, b3, b4, b5⟩ := b
  simp [encA, encRw_iff] at h
  simp_all
theorem encRI : ∀ a b, encR a = encR b → a = b := by
  intro a b h
  simp [encR, encRw_iff] at h
  simp_all
noncomputable def Q (args : List AV) : Option Bool := ofC encA (fun t => F t.1 t.2.1 t.2.2.1 t.2.2.2.1 t.2.2.2.2.1 t.2.2.2.2.2) args
theorem wrap : (fun (y1 : Int) (y2 : Int) (y3 : ByteArray) (y4 : Int) (y5 : Int) (y6 : ByteArray) => Q [.a [ci y1, ci y2, cs y3], .a [ci y4, ci y5, cs y6]]) = F := by
  funext y1 y2 y3 y4 y5 y6
  exact ofC_enc encAI _ (y1, y2, y3, y4, y5, y6)
noncomputable def G : Orc := ⟨fun f => 9, fun ρ f args K => Option.none, noE, false⟩
noncomputable def L : Lor := fun ρ j st K => Option.none
theorem main {ρ : Type} (K : AV → List Ob → Option ρ) (a1 a2 a3 a4 a5 a6) : exC Try.prog (G) (L) [] 0 (bodyOf Try.f69) (entry 20 [.a [ci a1, ci a2, cs a3], .a [ci a4, ci a5, cs a6]] [] []) (finO Try.prog Try.f69.results.toList 0 [] [] K) =
    B a1 a2 a3 a4 a5 a6 (fun x1 => K (vb x1) []) := by kernel_rfl
theorem Gok : (G).ok Try.prog := ⟨(fun ρ f args K r h => (by cases h)),
  (fun ρ f args K => rfl),
  (fun ρ f st caps args dst K r h => (by cases h))⟩
theorem hm : Try.prog.follows .mixedOrders = true := by kernel_rfl
theorem e : atomsL [] 0 (bodyOf Try.f69) = [] := by kernel_rfl
theorem acc (t : Int × Int × ByteArray × Int × Int × ByteArray) (x : Bool) (h : F t.1 t.2.1 t.2.2.1 t.2.2.2.1 t.2.2.2.2.1 t.2.2.2.2.2 = some x) : ACc Try.prog 69 (encA t) [] true [] fun rv obs => (rv, obs) = encR x := by
  refine fun_okc (L := (L)) (jn := []) (cmds := []) (ks := []) (hin := []) (fn := Try.f69) (body := (bodyOf Try.f69)) Gok hm Try.func69 (by kernel_rfl) (by kernel_rfl) (by rw [e]; exact Lor.ok_nil _ _) ?_ h
  refine (main _ t.1 t.2.1 t.2.2.1 t.2.2.2.1 t.2.2.2.2.1 t.2.2.2.2.2).trans ?_
  refine congrArg (fun K => B t.1 t.2.1 t.2.2.1 t.2.2.2.1 t.2.2.2.2.1 t.2.2.2.2.2 K) ?_
  funext x1
  exact ofC_enc encRI some (x1)
theorem ac0 (t : Int × Int × ByteArray × Int × Int × ByteArray) (x : Bool) (h : F t.1 t.2.1 t.2.2.1 t.2.2.2.1 t.2.2.2.2.1 t.2.2.2.2.2 = some x) : AC Try.prog 69 (encA t) [] true [] fun rv obs => (rv, obs) = encR x := ACc.ac (body := bodyOf Try.f69) Try.func69 (by kernel_rfl) (by kernel_rfl) (acc t x h)
theorem ac (args : List AV) (x : Bool) (h : Q args = some x) : AC Try.prog 69 args [] false [] fun rv obs => (rv, obs) = encR x := by
  obtain ⟨t, rfl, h2⟩ := ofC_some h
  refine (ac0 t x h2).flat fun rv obs e => ?_
  obtain rfl : rv = (encR x).1 := congrArg Prod.fst e
  obtain rfl : obs = (encR x).2 := congrArg Prod.snd e
  refine ⟨by simp [encR, AV.Flat, K.Flat, C.Flat], ?_⟩
  simp [encR]
end laws_eqNote
/-! loop.example/g00073/laws.eqMark -/
namespace laws_eqMark
noncomputable def B {ρ : Type} (C0 : Int → Int → ByteArray → Int → Int → ByteArray → Option Bool) (a1 : Int) (a2 : Int) (a3 : Int) (a4 : ByteArray) (a5 : Int) (a6 : Int) (a7 : Int) (a8 : ByteArray) (K : Bool → Option ρ) : Option ρ :=
  sel ((!decide (a1 = a5))) (K false) ((C0 a2 a3 a4 a6 a7 a8).bind fun r1 => sel ((!r1)) (K false) (K true))
noncomputable def F (a1 : Int) (a2 : Int) (a3 : Int) (a4 : ByteArray) (a5 : Int) (a6 : Int) (a7 : Int) (a8 : ByteArray) : Option Bool := B laws_eqNote.F a1 a2 a3 a4 a5 a6 a7 a8 (fun x1 => some (x1))
def encA (t : Int × Int × Int × ByteArray × Int × Int × Int × ByteArray) : List AV := [.a [ci t.1, ci t.2.1, ci t.2.2.1, cs t.2.2.2.1], .a [ci t.2.2.2.2.1, ci t.2.2.2.2.2.1, ci t.2.2.2.2.2.2.1, cs t.2.2.2.2.2.2.2]]
def encR (x : Bool) : AV × List Ob := (vb x, [])
theorem encAI : ∀ a b, encA a = encA b → a = b := by
  intro a b h
  obtain ⟨a0, a1, a2, a3, a4, a5, a6, a7⟩ := a
  obtain ⟨b0, b1, b2, b3, b4, b5, b6, b7⟩ := b
  simp [encA, encRw_iff] at h
  simp_all
theorem encRI : ∀ a b, encR a = encR b → a = b := by
  intro a b h
  simp [encR, encRw_iff] at h
  simp_all
noncomputable def Q (args : List AV) : Option Bool := ofC encA (fun t => F t.1 t.2.1 t.2.2.1 t.2.2.2.1 t.2.2.2.2.1 t.2.2.2.2.2.1 t.2.2.2.2.2.2.1 t.2.2.2.2.2.2.2) args
theorem wrap : (fun (y1 : Int) (y2 : Int) (y3 : Int) (y4 : ByteArray) (y5 : Int) (y6 : Int) (y7 : Int) (y8 : ByteArray) => Q [.a [ci y1, ci y2, ci y3, cs y4], .a [ci y5, ci y6, ci y7, cs y8]]) = F := by
  funext y1 y2 y3 y4 y5 y6 y7 y8
  exact ofC_enc encAI _ (y1, y2, y3, y4, y5, y6, y7, y8)
noncomputable def G (Q0 : List AV → Option Bool) : Orc := ⟨fun f => sel (Nat.beq f 69) 0 (9), fun ρ f args K => sel (Nat.beq f 69) (qEntry laws_eqNote.encR Q0 args K) (Option.none), noE, false⟩
noncomputable def L : Lor := fun ρ j st K => Option.none
theorem main (Q0) {ρ : Type} (K : AV → List Ob → Option ρ) (a1 a2 a3 a4 a5 a6 a7 a8) : exC Try.prog (G Q0) (L) [] 0 (bodyOf Try.f75) (entry 16 [.a [ci a1, ci a2, ci a3, cs a4], .a [ci a5, ci a6, ci a7, cs a8]] [] []) (finO Try.prog Try.f75.results.toList 0 [] [] K) =
    B (fun y1 y2 y3 y4 y5 y6 => Q0 [.a [ci y1, ci y2, cs y3], .a [ci y4, ci y5, cs y6]]) a1 a2 a3 a4 a5 a6 a7 a8 (fun x1 => K (vb x1) []) := by kernel_rfl
theorem Gok : (G laws_eqNote.Q).ok Try.prog := ⟨(by
    intro ρ f args K r h
    rcases sel_cases h with ⟨hb, h⟩ | ⟨-, h⟩
    · obtain rfl := beq_nat hb
      exact qEntry_ok laws_eqNote.ac h
    cases h),
  (by
    intro ρ f args K
    simp only [G]
    cases Nat.beq f 69 with
    | true => exact qEntry_nat args K
    | false =>
    simp only [sel]
    rfl),
  (fun ρ f st caps args dst K r h => (by cases h))⟩
theorem hm : Try.prog.follows .mixedOrders = true := by kernel_rfl
theorem e : atomsL [] 0 (bodyOf Try.f75) = [] := by kernel_rfl
theorem acc (t : Int × Int × Int × ByteArray × Int × Int × Int × ByteArray) (x : Bool) (h : F t.1 t.2.1 t.2.2.1 t.2.2.2.1 t.2.2.2.2.1 t.2.2.2.2.2.1 t.2.2.2.2.2.2.1 t.2.2.2.2.2.2.2 = some x) : ACc Try.prog 75 (encA t) [] true [] fun rv obs => (rv, obs) = encR x := by
  refine fun_okc (L := (L)) (jn := []) (cmds := []) (ks := []) (hin := []) (fn := Try.f75) (body := (bodyOf Try.f75)) Gok hm Try.func75 (by kernel_rfl) (by kernel_rfl) (by rw [e]; exact Lor.ok_nil _ _) ?_ h
  refine (main laws_eqNote.Q _ t.1 t.2.1 t.2.2.1 t.2.2.2.1 t.2.2.2.2.1 t.2.2.2.2.2.1 t.2.2.2.2.2.2.1 t.2.2.2.2.2.2.2).trans ?_
  rw [laws_eqNote.wrap]
  refine congrArg (fun K => B laws_eqNote.F t.1 t.2.1 t.2.2.1 t.2.2.2.1 t.2.2.2.2.1 t.2.2.2.2.2.1 t.2.2.2.2.2.2.1 t.2.2.2.2.2.2.2 K) ?_
  funext x1
  exact ofC_enc encRI some (x1)
theorem ac0 (t : Int × Int × Int × ByteArray × Int × Int × Int × ByteArray) (x : Bool) (h : F t.1 t.2.1 t.2.2.1 t.2.2.2.1 t.2.2.2.2.1 t.2.2.2.2.2.1 t.2.2.2.2.2.2.1 t.2.2.2.2.2.2.2 = some x) : AC Try.prog 75 (encA t) [] true [] fun rv obs => (rv, obs) = encR x := ACc.ac (body := bodyOf Try.f75) Try.func75 (by kernel_rfl) (by kernel_rfl) (acc t x h)
theorem ac (args : List AV) (x : Bool) (h : Q args = some x) : AC Try.prog 75 args [] false [] fun rv obs => (rv, obs) = encR x := by
  obtain ⟨t, rfl, h2⟩ := ofC_some h
  refine (ac0 t x h2).flat fun rv obs e => ?_
  obtain rfl : rv = (encR x).1 := congrArg Prod.fst e
  obtain rfl : obs = (encR x).2 := congrArg Prod.snd e
  refine ⟨by simp [encR, AV.Flat, K.Flat, C.Flat], ?_⟩
  simp [encR]
end laws_eqMark
/-! loop.example/g00073/laws.eqMarkS -/
namespace laws_eqMarkS
noncomputable def B0 {ρ : Type} (C0 : Int → Int → Int → ByteArray → Int → Int → Int → ByteArray → Option Bool) (v1 : Vec (Int × Int × Int × ByteArray)) (v2 : Vec (Int × Int × Int × ByteArray)) (v3 : Int) (W : (Vec (Int × Int × Int × ByteArray)) → (Vec (Int × Int × Int × ByteArray)) → Int → Option ρ) (K0 : Unit → Option ρ) (Kr : Bool → Option ρ) : Option ρ :=
  sel (decide (v3 < (v1.n : Int))) (chk (decide (0 ≤ v3 ∧ v3 < (v1.n : Int))) (chk (decide (0 ≤ v3 ∧ v3 < (v2.n : Int))) ((C0 ((v1.g v3.toNat).1) ((v1.g v3.toNat).2.1) ((v1.g v3.toNat).2.2.1) ((v1.g v3.toNat).2.2.2) ((v2.g v3.toNat).1) ((v2.g v3.toNat).2.1) ((v2.g v3.toNat).2.2.1) ((v2.g v3.toNat).2.2.2)).bind fun r1 => sel ((!r1)) (Kr false) (W v1 v2 (wr (v3 + (1 : Int))))))) (K0 ())
noncomputable def F0 {ρ : Type} : Nat → (Vec (Int × Int × Int × ByteArray)) → (Vec (Int × Int × Int × ByteArray)) → Int → (Unit → Option ρ) → (Bool → Option ρ) → Option ρ
  | 0, _, _, _, _, _ => none
  | k + 1, v1, v2, v3, K0, Kr => B0 laws_eqMark.F v1 v2 v3 (fun v1' v2' v3' => F0 k v1' v2' v3' K0 Kr) K0 Kr
noncomputable def B {ρ : Type} (L0 : (Vec (Int × Int × Int × ByteArray)) → (Vec (Int × Int × Int × ByteArray)) → Int → (Unit → Option ρ) → (Bool → Option ρ) → Option ρ) (a1 : Vec (Int × Int × Int × ByteArray)) (a2 : Vec (Int × Int × Int × ByteArray)) (K : Bool → Option ρ) : Option ρ :=
  sel ((!decide ((a1.n : Int) = (a2.n : Int)))) (K false) (L0 a1 a2 (0 : Int) (fun _ => K true) (fun x01 => K x01))
noncomputable def F (a1 : Vec (Int × Int × Int × ByteArray)) (a2 : Vec (Int × Int × Int × ByteArray)) : Option Bool := B (F0 fuelN) a1 a2 (fun x1 => some (x1))
def encA (t : (Vec (Int × Int × Int × ByteArray)) × (Vec (Int × Int × Int × ByteArray))) : List AV := [vl t.1, vl t.2]
def encR (x : Bool) : AV × List Ob := (vb x, [])
theorem encAI : ∀ a b, encA a = encA b → a = b := by
  intro a b h
  obtain ⟨a0, a1⟩ := a
  obtain ⟨b0, b1⟩ := b
  simp [encA, encRw_iff] at h
  simp_all
theorem encRI : ∀ a b, encR a = encR b → a = b := by
  intro a b h
  simp [encR, encRw_iff] at h
  simp_all
noncomputable def Q (args : List AV) : Option Bool := ofC encA (fun t => F t.1 t.2) args
theorem wrap : (fun (y1 : Vec (Int × Int × Int × ByteArray)) (y2 : Vec (Int × Int × Int × ByteArray)) => Q [vl y1, vl y2]) = F := by
  funext y1 y2
  exact ofC_enc encAI _ (y1, y2)
noncomputable def G (Q0 : List AV → Option Bool) : Orc := ⟨fun f => sel (Nat.beq f 75) 0 (9), fun ρ f args K => sel (Nat.beq f 75) (qEntry laws_eqMark.encR Q0 args K) (Option.none), noE, false⟩
noncomputable def L (W0 : (ρ : Type) → List AV → List Ob → (Unit → Option ρ) → (Bool → Option ρ) → Option ρ) : Lor := fun ρ j st K => sel (Nat.beq j 0) (cutO Try.prog 27 [0, 1, 5] 0 [] [] st fun avs obs => W0 ρ avs obs (fun _ => K (.exit 0) (mkS 27 [] [] [] [])) (fun z1 => K .ret (mkS 27 [4] [vb z1] [] []))) (Option.none)
noncomputable def c0 : Code := loopC (atomN [] 0 (bodyOf Try.f41) 0)
def ct0 : Cut := ⟨[0, 1, 5], []⟩
def lv0 : Exit → Cut
  | .exit 0 => ⟨[], []⟩
  | .ret => ⟨[4], []⟩
  | _ => ⟨[], []⟩
theorem step0 (Q0) (W0) {ρ : Type} (K : Exit → St → Option ρ) (W : List AV → List Ob → Option ρ) (v1 v2 v3) : exC Try.prog (G Q0) (L W0) [] 1 c0 (mkS 27 [0, 1, 5] [vl v1, vl v2, vi v3] [] []) (bodyK Try.prog 27 0 [] ct0 W lv0 K) =
    B0 (fun y1 y2 y3 y4 y5 y6 y7 y8 => Q0 [.a [ci y1, ci y2, ci y3, cs y4], .a [ci y5, ci y6, ci y7, cs y8]]) v1 v2 v3 (fun u1 u2 u3 => W [vl u1, vl u2, vi u3] []) (fun _ => K (.exit 0) (mkS 27 [] [] [] [])) (fun z1 => K .ret (mkS 27 [4] [vb z1] [] [])) := by kernel_rfl
def enc0 (t : (Vec (Int × Int × Int × ByteArray)) × (Vec (Int × Int × Int × ByteArray)) × Int) : List AV × List Ob := ([vl t.1, vl t.2.1, vi t.2.2], [])
theorem enc0I : ∀ a b, enc0 a = enc0 b → a = b := by
  intro a b h
  obtain ⟨a0, a1, a2⟩ := a
  obtain ⟨b0, b1, b2⟩ := b
  simp [enc0, encRw_iff] at h
  simp_all
noncomputable def V0 : (ρ : Type) → List AV → List Ob → (Unit → Option ρ) → (Bool → Option ρ) → Option ρ := fun ρ avs obs k0 kr => ofC enc0 (fun t => F0 fuelN t.1 t.2.1 t.2.2 k0 kr) (avs, obs)
theorem V0_enc (ρ : Type) : (fun w1 w2 w3 k0 kr => V0 ρ [vl w1, vl w2, vi w3] [] k0 kr) = F0 fuelN := by
  funext w1 w2 w3 k0 kr
  exact ofC_enc enc0I _ (w1, w2, w3)
theorem main (Q0) (W0) {ρ : Type} (K : AV → List Ob → Option ρ) (a1 a2) : exC Try.prog (G Q0) (L W0) [] 0 (bodyOf Try.f41) (entry 27 [vl a1, vl a2] [] []) (finO Try.prog Try.f41.results.toList 0 [] [] K) =
    B (fun w1 w2 w3 k0 kr => W0 ρ [vl w1, vl w2, vi w3] [] k0 kr) a1 a2 (fun x1 => K (vb x1) []) := by kernel_rfl
theorem Gok : (G laws_eqMark.Q).ok Try.prog := ⟨(by
    intro ρ f args K r h
    rcases sel_cases h with ⟨hb, h⟩ | ⟨-, h⟩
    · obtain rfl := beq_nat hb
      exact qEntry_ok laws_eqMark.ac h
    cases h),
  (by
    intro ρ f args K
    simp only [G]
    cases Nat.beq f 75 with
    | true => exact qEntry_nat args K
    | false =>
    simp only [sel]
    rfl),
  (fun ρ f st caps args dst K r h => (by cases h))⟩
theorem hm : Try.prog.follows .mixedOrders = true := by kernel_rfl
theorem e0 : atomsL [] 1 c0 = [] := by kernel_rfl
theorem ok0 (ρ : Type) (st : St) (K : Exit → St → Option ρ) (r : ρ) (h : (L V0) ρ 0 st K = some r) : AW Try.prog (.loop c0) st fun e st' => K e st' = some r := by
  refine loop_ok (ct := ct0) (lv := lv0) (n := 27) (m := 0) (ks := []) (j := 0) (jn := []) (L := (L V0)) Gok hm (by rw [e0]; exact Lor.ok_nil _ _) enc0I (fun k t => F0 k t.1 t.2.1 t.2.2 (fun _ => K (.exit 0) (mkS 27 [] [] [] [])) (fun z1 => K .ret (mkS 27 [4] [vb z1] [] []))) (fun t => rfl) (fun k t => ?_) (fun _ => fuelN) h
  refine (step0 laws_eqMark.Q V0 K _ t.1 t.2.1 t.2.2).trans ?_
  rw [laws_eqMark.wrap]
  refine congrArg (fun W => B0 laws_eqMark.F t.1 t.2.1 t.2.2 W (fun _ => K (.exit 0) (mkS 27 [] [] [] [])) (fun z1 => K .ret (mkS 27 [4] [vb z1] [] []))) ?_
  funext u1 u2 u3
  exact ofC_enc enc0I _ (u1, u2, u3)
theorem e : atomsL [] 0 (bodyOf Try.f41) = [(0, 0, .loop c0)] := by kernel_rfl
theorem acc (t : (Vec (Int × Int × Int × ByteArray)) × (Vec (Int × Int × Int × ByteArray))) (x : Bool) (h : F t.1 t.2 = some x) : ACc Try.prog 41 (encA t) [] true [] fun rv obs => (rv, obs) = encR x := by
  refine fun_okc (L := (L V0)) (jn := []) (cmds := []) (ks := []) (hin := []) (fn := Try.f41) (body := (bodyOf Try.f41)) Gok hm Try.func41 (by kernel_rfl) (by kernel_rfl) (by rw [e]; exact Lor.ok_cons ok0 (Lor.ok_nil _ _)) ?_ h
  refine (main laws_eqMark.Q V0 _ t.1 t.2).trans ?_
  rw [V0_enc]
  refine congrArg (fun K => B (F0 fuelN) t.1 t.2 K) ?_
  funext x1
  exact ofC_enc encRI some (x1)
theorem ac0 (t : (Vec (Int × Int × Int × ByteArray)) × (Vec (Int × Int × Int × ByteArray))) (x : Bool) (h : F t.1 t.2 = some x) : AC Try.prog 41 (encA t) [] true [] fun rv obs => (rv, obs) = encR x := ACc.ac (body := bodyOf Try.f41) Try.func41 (by kernel_rfl) (by kernel_rfl) (acc t x h)
theorem ac (args : List AV) (x : Bool) (h : Q args = some x) : AC Try.prog 41 args [] false [] fun rv obs => (rv, obs) = encR x := by
  obtain ⟨t, rfl, h2⟩ := ofC_some h
  refine (ac0 t x h2).flat fun rv obs e => ?_
  obtain rfl : rv = (encR x).1 := congrArg Prod.fst e
  obtain rfl : obs = (encR x).2 := congrArg Prod.snd e
  refine ⟨by simp [encR, AV.Flat, K.Flat, C.Flat], ?_⟩
  simp [encR]
end laws_eqMarkS
/-! loop.example/g00073/laws.markMarkS -/
namespace laws_markMarkS_sb069
noncomputable def B0 {ρ : Type} (C0 : Int → Option ByteArray) (v1 : Int) (v2 : Int) (v3 : Vec (Int × Int × Int × ByteArray)) (W : Int → Int → (Vec (Int × Int × Int × ByteArray)) → Option ρ) (K0 : Int → (Vec (Int × Int × Int × ByteArray)) → Option ρ) : Option ρ :=
  let d1 := (Vec.set v3 v2.toNat (v1, (v3.g v2.toNat).2.1, (v3.g v2.toNat).2.2.1, (v3.g v2.toNat).2.2.2))
  let d2 := (Vec.set d1 v2.toNat ((d1.g v2.toNat).1, (wr (v1 + (1 : Int))), (d1.g v2.toNat).2.2.1, (d1.g v2.toNat).2.2.2))
  let d3 := (Vec.set d2 v2.toNat ((d2.g v2.toNat).1, (d2.g v2.toNat).2.1, (wr ((wr (v1 + (1 : Int))) + (1 : Int))), (d2.g v2.toNat).2.2.2))
  sel (decide (v2 < (v3.n : Int))) (chk (decide (0 ≤ v2 ∧ v2 < (v3.n : Int))) (chk (decide (v2.toNat < v3.n)) (chk (decide (0 ≤ v2 ∧ v2 < (d1.n : Int))) (chk (decide (v2.toNat < d1.n)) (chk (decide (0 ≤ v2 ∧ v2 < (d2.n : Int))) (chk (decide (v2.toNat < d2.n)) ((C0 (wr ((wr ((wr (v1 + (1 : Int))) + (1 : Int))) + (1 : Int)))).bind fun r1 => chk (decide (0 ≤ v2 ∧ v2 < (d3.n : Int))) (chk (decide (v2.toNat < d3.n)) (W (wr ((wr ((wr ((wr (v1 + (1 : Int))) + (1 : Int))) + (1 : Int))) + (1 : Int))) (wr (v2 + (1 : Int))) (Vec.set d3 v2.toNat ((d3.g v2.toNat).1, (d3.g v2.toNat).2.1, (d3.g v2.toNat).2.2.1, r1))))))))))) (K0 v1 v3)
noncomputable def F0 {ρ : Type} : Nat → Int → Int → (Vec (Int × Int × Int × ByteArray)) → (Int → (Vec (Int × Int × Int × ByteArray)) → Option ρ) → Option ρ
  | 0, _, _, _, _ => none
  | k + 1, v1, v2, v3, K0 => B0 laws_markText.F v1 v2 v3 (fun v1' v2' v3' => F0 k v1' v2' v3' K0) K0
noncomputable def B {ρ : Type} (L0 : Int → Int → (Vec (Int × Int × Int × ByteArray)) → (Int → (Vec (Int × Int × Int × ByteArray)) → Option ρ) → Option ρ) (a1 : Int) (a2 : Vec (Int × Int × Int × ByteArray)) (K : Int → (Vec (Int × Int × Int × ByteArray)) → Option ρ) : Option ρ :=
  L0 a1 (0 : Int) a2 (fun e01 e02 => K e01 e02)
noncomputable def F (a1 : Int) (a2 : Vec (Int × Int × Int × ByteArray)) : Option (Int × (Vec (Int × Int × Int × ByteArray))) := B (F0 fuelN) a1 a2 (fun x1 x2 => some (x1, x2))
def encA (t : Int × (Vec (Int × Int × Int × ByteArray))) : List AV × List Ob := ([.c (.h 0), vi t.1], [ro t.2])
def encR (x : Int × (Vec (Int × Int × Int × ByteArray))) : AV × List Ob := (vi x.1, [ro x.2])
theorem encAI : ∀ a b, encA a = encA b → a = b := by
  intro a b h
  obtain ⟨a0, a1⟩ := a
  obtain ⟨b0, b1⟩ := b
  simp [encA, encRw_iff] at h
  simp_all
theorem encRI : ∀ a b, encR a = encR b → a = b := by
  intro a b h
  obtain ⟨a0, a1⟩ := a
  obtain ⟨b0, b1⟩ := b
  simp [encR, encRw_iff] at h
  simp_all
noncomputable def Q (args : List AV) (hin : List Ob) : Option (Int × (Vec (Int × Int × Int × ByteArray))) := ofC encA (fun t => F t.1 t.2) (args, hin)
theorem wrap : (fun (y1 : Int) (y2 : Vec (Int × Int × Int × ByteArray)) => Q [.c (.h 0), vi y1] [ro y2]) = F := by
  funext y1 y2
  exact ofC_enc encAI _ (y1, y2)
noncomputable def G (Q0 : List AV → Option ByteArray) : Orc := ⟨fun f => sel (Nat.beq f 70) 0 (9), fun ρ f args K => sel (Nat.beq f 70) (qEntry laws_markText.encR Q0 args K) (Option.none), noE, false⟩
noncomputable def L (W0 : (ρ : Type) → List AV → List Ob → (Int → (Vec (Int × Int × Int × ByteArray)) → Option ρ) → Option ρ) : Lor := fun ρ j st K => sel (Nat.beq j 0) (cutO Try.prog 45 [0, 1, 5] 1 [true] [] st fun avs obs => W0 ρ avs obs (fun z1 z2 => K (.exit 0) (mkS 45 [1] [vi z1] [ro z2] [true]))) (Option.none)
noncomputable def c0 : Code := loopC (atomN [] 0 (bodyOf Try.f42) 0)
def ct0 : Cut := ⟨[0, 1, 5], []⟩
def lv0 : Exit → Cut
  | .exit 0 => ⟨[1], []⟩
  | _ => ⟨[], []⟩
theorem step0 (Q0) (W0) {ρ : Type} (K : Exit → St → Option ρ) (W : List AV → List Ob → Option ρ) (v1 v2 v3) : exC Try.prog (G Q0) (L W0) [] 1 c0 (mkS 45 [0, 1, 5] [.c (.h 0), vi v1, vi v2] [ro v3] [true]) (bodyK Try.prog 45 1 [true] ct0 W lv0 K) =
    B0 (fun y1 => Q0 [vi y1]) v1 v2 v3 (fun u1 u2 u3 => W [.c (.h 0), vi u1, vi u2] [ro u3]) (fun z1 z2 => K (.exit 0) (mkS 45 [1] [vi z1] [ro z2] [true])) := by kernel_rfl
def enc0 (t : Int × Int × (Vec (Int × Int × Int × ByteArray))) : List AV × List Ob := ([.c (.h 0), vi t.1, vi t.2.1], [ro t.2.2])
theorem enc0I : ∀ a b, enc0 a = enc0 b → a = b := by
  intro a b h
  obtain ⟨a0, a1, a2⟩ := a
  obtain ⟨b0, b1, b2⟩ := b
  simp [enc0, encRw_iff] at h
  simp_all
noncomputable def V0 : (ρ : Type) → List AV → List Ob → (Int → (Vec (Int × Int × Int × ByteArray)) → Option ρ) → Option ρ := fun ρ avs obs k0 => ofC enc0 (fun t => F0 fuelN t.1 t.2.1 t.2.2 k0) (avs, obs)
theorem V0_enc (ρ : Type) : (fun w1 w2 w3 k0 => V0 ρ [.c (.h 0), vi w1, vi w2] [ro w3] k0) = F0 fuelN := by
  funext w1 w2 w3 k0
  exact ofC_enc enc0I _ (w1, w2, w3)
theorem main (Q0) (W0) {ρ : Type} (K : AV → List Ob → Option ρ) (a1 a2) : exC Try.prog (G Q0) (L W0) [] 0 (bodyOf Try.f42) (entry 45 [.c (.h 0), vi a1] [ro a2] [true]) (finO Try.prog Try.f42.results.toList 1 [true] [] K) =
    B (fun w1 w2 w3 k0 => W0 ρ [.c (.h 0), vi w1, vi w2] [ro w3] k0) a1 a2 (fun x1 x2 => K (vi x1) [ro x2]) := by kernel_rfl
theorem Gok : (G laws_markText.Q).ok Try.prog := ⟨(by
    intro ρ f args K r h
    rcases sel_cases h with ⟨hb, h⟩ | ⟨-, h⟩
    · obtain rfl := beq_nat hb
      exact qEntry_ok laws_markText.ac h
    cases h),
  (by
    intro ρ f args K
    simp only [G]
    cases Nat.beq f 70 with
    | true => exact qEntry_nat args K
    | false =>
    simp only [sel]
    rfl),
  (fun ρ f st caps args dst K r h => (by cases h))⟩
theorem hm : Try.prog.follows .mixedOrders = true := by kernel_rfl
theorem e0 : atomsL [] 1 c0 = [] := by kernel_rfl
theorem ok0 (ρ : Type) (st : St) (K : Exit → St → Option ρ) (r : ρ) (h : (L V0) ρ 0 st K = some r) : AW Try.prog (.loop c0) st fun e st' => K e st' = some r := by
  refine loop_ok (ct := ct0) (lv := lv0) (n := 45) (m := 1) (ks := [true]) (j := 0) (jn := []) (L := (L V0)) Gok hm (by rw [e0]; exact Lor.ok_nil _ _) enc0I (fun k t => F0 k t.1 t.2.1 t.2.2 (fun z1 z2 => K (.exit 0) (mkS 45 [1] [vi z1] [ro z2] [true]))) (fun t => rfl) (fun k t => ?_) (fun _ => fuelN) h
  refine (step0 laws_markText.Q V0 K _ t.1 t.2.1 t.2.2).trans ?_
  rw [laws_markText.wrap]
  refine congrArg (fun W => B0 laws_markText.F t.1 t.2.1 t.2.2 W (fun z1 z2 => K (.exit 0) (mkS 45 [1] [vi z1] [ro z2] [true]))) ?_
  funext u1 u2 u3
  exact ofC_enc enc0I _ (u1, u2, u3)
theorem e : atomsL [] 0 (bodyOf Try.f42) = [(0, 0, .loop c0)] := by kernel_rfl
theorem acc (t : Int × (Vec (Int × Int × Int × ByteArray))) (x : Int × (Vec (Int × Int × Int × ByteArray))) (h : F t.1 t.2 = some x) : ACc Try.prog 42 (encA t).1 (encA t).2 true [true] fun rv obs => (rv, obs) = encR x := by
  refine fun_okc (L := (L V0)) (jn := []) (cmds := []) (ks := [true]) (hin := (encA t).2) (fn := Try.f42) (body := (bodyOf Try.f42)) Gok hm Try.func42 (by kernel_rfl) (by kernel_rfl) (by rw [e]; exact Lor.ok_cons ok0 (Lor.ok_nil _ _)) ?_ h
  refine (main laws_markText.Q V0 _ t.1 t.2).trans ?_
  rw [V0_enc]
  refine congrArg (fun K => B (F0 fuelN) t.1 t.2 K) ?_
  funext x1 x2
  exact ofC_enc encRI some (x1, x2)
theorem ac0 (t : Int × (Vec (Int × Int × Int × ByteArray))) (x : Int × (Vec (Int × Int × Int × ByteArray))) (h : F t.1 t.2 = some x) : AC Try.prog 42 (encA t).1 (encA t).2 true [true] fun rv obs => (rv, obs) = encR x := ACc.ac (body := bodyOf Try.f42) Try.func42 (by kernel_rfl) (by kernel_rfl) (acc t x h)
theorem ac (args : List AV) (hin : List Ob) (x : Int × (Vec (Int × Int × Int × ByteArray))) (h : Q args hin = some x) : AC Try.prog 42 args hin false [true] fun rv obs => (rv, obs) = encR x := by
  obtain ⟨t, he, h2⟩ := ofC_some h
  obtain rfl : args = (encA t).1 := (congrArg Prod.fst he).symm
  obtain rfl : hin = (encA t).2 := (congrArg Prod.snd he).symm
  refine (ac0 t x h2).flat fun rv obs e => ?_
  obtain rfl : rv = (encR x).1 := congrArg Prod.fst e
  obtain rfl : obs = (encR x).2 := congrArg Prod.snd e
  refine ⟨by simp [encR, AV.Flat, K.Flat, C.Flat], ?_⟩
  intro o ho
  simp only [encR, List.mem_cons, List.not_mem_nil, or_false] at ho
  subst ho
  exact flat_rw rfl _
end laws_markMarkS_sb069
/-! loop.example/g00073/laws.heldMarkS -/
namespace laws_heldMarkS
noncomputable def B0 {ρ : Type} (C0 : Int → Option ByteArray) (v1 : Vec (Int × Int × Int × ByteArray)) (v2 : Int) (v3 : Int) (W : (Vec (Int × Int × Int × ByteArray)) → Int → Int → Option ρ) (K0 : Int → Option ρ) (Kr : Int → Option ρ) : Option ρ :=
  sel (decide (v3 < (v1.n : Int))) (chk (decide (0 ≤ v3 ∧ v3 < (v1.n : Int))) (sel ((!decide ((v1.g v3.toNat).1 = v2))) (Kr (-1 : Int)) (chk (decide (0 ≤ v3 ∧ v3 < (v1.n : Int))) (sel ((!decide ((v1.g v3.toNat).2.1 = (wr (v2 + (1 : Int)))))) (Kr (-1 : Int)) (chk (decide (0 ≤ v3 ∧ v3 < (v1.n : Int))) (sel ((!decide ((v1.g v3.toNat).2.2.1 = (wr ((wr (v2 + (1 : Int))) + (1 : Int)))))) (Kr (-1 : Int)) (chk (decide (0 ≤ v3 ∧ v3 < (v1.n : Int))) ((C0 (wr ((wr ((wr (v2 + (1 : Int))) + (1 : Int))) + (1 : Int)))).bind fun r1 => sel ((!decide ((v1.g v3.toNat).2.2.2 = r1))) (Kr (-1 : Int)) (W v1 (wr ((wr ((wr ((wr (v2 + (1 : Int))) + (1 : Int))) + (1 : Int))) + (1 : Int))) (wr (v3 + (1 : Int)))))))))))) (K0 v2)
noncomputable def F0 {ρ : Type} : Nat → (Vec (Int × Int × Int × ByteArray)) → Int → Int → (Int → Option ρ) → (Int → Option ρ) → Option ρ
  | 0, _, _, _, _, _ => none
  | k + 1, v1, v2, v3, K0, Kr => B0 laws_markText.F v1 v2 v3 (fun v1' v2' v3' => F0 k v1' v2' v3' K0 Kr) K0 Kr
noncomputable def B {ρ : Type} (L0 : (Vec (Int × Int × Int × ByteArray)) → Int → Int → (Int → Option ρ) → (Int → Option ρ) → Option ρ) (a1 : Vec (Int × Int × Int × ByteArray)) (a2 : Int) (K : Int → Option ρ) : Option ρ :=
  L0 a1 a2 (0 : Int) (fun e01 => K e01) (fun x01 => K x01)
noncomputable def F (a1 : Vec (Int × Int × Int × ByteArray)) (a2 : Int) : Option Int := B (F0 fuelN) a1 a2 (fun x1 => some (x1))
def encA (t : (Vec (Int × Int × Int × ByteArray)) × Int) : List AV := [vl t.1, vi t.2]
def encR (x : Int) : AV × List Ob := (vi x, [])
theorem encAI : ∀ a b, encA a = encA b → a = b := by
  intro a b h
  obtain ⟨a0, a1⟩ := a
  obtain ⟨b0, b1⟩ := b
  simp [encA, encRw_iff] at h
  simp_all
theorem encRI : ∀ a b, encR a = encR b → a = b := by
  intro a b h
  simp [encR, encRw_iff] at h
  simp_all
noncomputable def Q (args : List AV) : Option Int := ofC encA (fun t => F t.1 t.2) args
theorem wrap : (fun (y1 : Vec (Int × Int × Int × ByteArray)) (y2 : Int) => Q [vl y1, vi y2]) = F := by
  funext y1 y2
  exact ofC_enc encAI _ (y1, y2)
noncomputable def G (Q0 : List AV → Option ByteArray) : Orc := ⟨fun f => sel (Nat.beq f 70) 0 (9), fun ρ f args K => sel (Nat.beq f 70) (qEntry laws_markText.encR Q0 args K) (Option.none), noE, false⟩
noncomputable def L (W0 : (ρ : Type) → List AV → List Ob → (Int → Option ρ) → (Int → Option ρ) → Option ρ) : Lor := fun ρ j st K => sel (Nat.beq j 0) (cutO Try.prog 53 [0, 1, 5] 0 [] [] st fun avs obs => W0 ρ avs obs (fun z1 => K (.exit 0) (mkS 53 [1] [vi z1] [] [])) (fun z1 => K .ret (mkS 53 [4] [vi z1] [] []))) (Option.none)
noncomputable def c0 : Code := loopC (atomN [] 0 (bodyOf Try.f43) 0)
def ct0 : Cut := ⟨[0, 1, 5], []⟩
def lv0 : Exit → Cut
  | .exit 0 => ⟨[1], []⟩
  | .ret => ⟨[4], []⟩
  | _ => ⟨[], []⟩
theorem step0 (Q0) (W0) {ρ : Type} (K : Exit → St → Option ρ) (W : List AV → List Ob → Option ρ) (v1 v2 v3) : exC Try.prog (G Q0) (L W0) [] 1 c0 (mkS 53 [0, 1, 5] [vl v1, vi v2, vi v3] [] []) (bodyK Try.prog 53 0 [] ct0 W lv0 K) =
    B0 (fun y1 => Q0 [vi y1]) v1 v2 v3 (fun u1 u2 u3 => W [vl u1, vi u2, vi u3] []) (fun z1 => K (.exit 0) (mkS 53 [1] [vi z1] [] [])) (fun z1 => K .ret (mkS 53 [4] [vi z1] [] [])) := by kernel_rfl
def enc0 (t : (Vec (Int × Int × Int × ByteArray)) × Int × Int) : List AV × List Ob := ([vl t.1, vi t.2.1, vi t.2.2], [])
theorem enc0I : ∀ a b, enc0 a = enc0 b → a = b := by
  intro a b h
  obtain ⟨a0, a1, a2⟩ := a
  obtain ⟨b0, b1, b2⟩ := b
  simp [enc0, encRw_iff] at h
  simp_all
noncomputable def V0 : (ρ : Type) → List AV → List Ob → (Int → Option ρ) → (Int → Option ρ) → Option ρ := fun ρ avs obs k0 kr => ofC enc0 (fun t => F0 fuelN t.1 t.2.1 t.2.2 k0 kr) (avs, obs)
theorem V0_enc (ρ : Type) : (fun w1 w2 w3 k0 kr => V0 ρ [vl w1, vi w2, vi w3] [] k0 kr) = F0 fuelN := by
  funext w1 w2 w3 k0 kr
  exact ofC_enc enc0I _ (w1, w2, w3)
theorem main (Q0) (W0) {ρ : Type} (K : AV → List Ob → Option ρ) (a1 a2) : exC Try.prog (G Q0) (L W0) [] 0 (bodyOf Try.f43) (entry 53 [vl a1, vi a2] [] []) (finO Try.prog Try.f43.results.toList 0 [] [] K) =
    B (fun w1 w2 w3 k0 kr => W0 ρ [vl w1, vi w2, vi w3] [] k0 kr) a1 a2 (fun x1 => K (vi x1) []) := by kernel_rfl
theorem Gok : (G laws_markText.Q).ok Try.prog := ⟨(by
    intro ρ f args K r h
    rcases sel_cases h with ⟨hb, h⟩ | ⟨-, h⟩
    · obtain rfl := beq_nat hb
      exact qEntry_ok laws_markText.ac h
    cases h),
  (by
    intro ρ f args K
    simp only [G]
    cases Nat.beq f 70 with
    | true => exact qEntry_nat args K
    | false =>
    simp only [sel]
    rfl),
  (fun ρ f st caps args dst K r h => (by cases h))⟩
theorem hm : Try.prog.follows .mixedOrders = true := by kernel_rfl
theorem e0 : atomsL [] 1 c0 = [] := by kernel_rfl
theorem ok0 (ρ : Type) (st : St) (K : Exit → St → Option ρ) (r : ρ) (h : (L V0) ρ 0 st K = some r) : AW Try.prog (.loop c0) st fun e st' => K e st' = some r := by
  refine loop_ok (ct := ct0) (lv := lv0) (n := 53) (m := 0) (ks := []) (j := 0) (jn := []) (L := (L V0)) Gok hm (by rw [e0]; exact Lor.ok_nil _ _) enc0I (fun k t => F0 k t.1 t.2.1 t.2.2 (fun z1 => K (.exit 0) (mkS 53 [1] [vi z1] [] [])) (fun z1 => K .ret (mkS 53 [4] [vi z1] [] []))) (fun t => rfl) (fun k t => ?_) (fun _ => fuelN) h
  refine (step0 laws_markText.Q V0 K _ t.1 t.2.1 t.2.2).trans ?_
  rw [laws_markText.wrap]
  refine congrArg (fun W => B0 laws_markText.F t.1 t.2.1 t.2.2 W (fun z1 => K (.exit 0) (mkS 53 [1] [vi z1] [] [])) (fun z1 => K .ret (mkS 53 [4] [vi z1] [] []))) ?_
  funext u1 u2 u3
  exact ofC_enc enc0I _ (u1, u2, u3)
theorem e : atomsL [] 0 (bodyOf Try.f43) = [(0, 0, .loop c0)] := by kernel_rfl
theorem acc (t : (Vec (Int × Int × Int × ByteArray)) × Int) (x : Int) (h : F t.1 t.2 = some x) : ACc Try.prog 43 (encA t) [] true [] fun rv obs => (rv, obs) = encR x := by
  refine fun_okc (L := (L V0)) (jn := []) (cmds := []) (ks := []) (hin := []) (fn := Try.f43) (body := (bodyOf Try.f43)) Gok hm Try.func43 (by kernel_rfl) (by kernel_rfl) (by rw [e]; exact Lor.ok_cons ok0 (Lor.ok_nil _ _)) ?_ h
  refine (main laws_markText.Q V0 _ t.1 t.2).trans ?_
  rw [V0_enc]
  refine congrArg (fun K => B (F0 fuelN) t.1 t.2 K) ?_
  funext x1
  exact ofC_enc encRI some (x1)
theorem ac0 (t : (Vec (Int × Int × Int × ByteArray)) × Int) (x : Int) (h : F t.1 t.2 = some x) : AC Try.prog 43 (encA t) [] true [] fun rv obs => (rv, obs) = encR x := ACc.ac (body := bodyOf Try.f43) Try.func43 (by kernel_rfl) (by kernel_rfl) (acc t x h)
theorem ac (args : List AV) (x : Int) (h : Q args = some x) : AC Try.prog 43 args [] false [] fun rv obs => (rv, obs) = encR x := by
  obtain ⟨t, rfl, h2⟩ := ofC_some h
  refine (ac0 t x h2).flat fun rv obs e => ?_
  obtain rfl : rv = (encR x).1 := congrArg Prod.fst e
  obtain rfl : obs = (encR x).2 := congrArg Prod.snd e
  refine ⟨by simp [encR, AV.Flat, K.Flat, C.Flat], ?_⟩
  simp [encR]
end laws_heldMarkS
/-! loop.example/g00073/laws.FnExactMarksOf -/
namespace laws_FnExactMarksOf
noncomputable def B {ρ : Type} (C0 : (Vec (Vec Int)) → (Vec (ByteArray × Int × Int × (Vec Int))) → Int → Option Int) (C1 : (Vec (Vec Int)) → (Vec (ByteArray × Int × Int × (Vec Int))) → Option (Vec (Vec Int) × (Vec (ByteArray × Int × Int × (Vec Int))))) (C2 : (Vec (Vec Int)) → (Vec (ByteArray × Int × Int × (Vec Int))) → Int → Int → Option (Int × (Vec (Int × Int × Int × ByteArray)))) (C3 : (Vec (Vec Int)) → (Vec (ByteArray × Int × Int × (Vec Int))) → Int → Int → Option (Int × (Vec (Int × Int × Int × ByteArray)))) (C4 : (Vec (Int × Int × Int × ByteArray)) → (Vec (Int × Int × Int × ByteArray)) → Option Bool) (C5 : (Vec (Vec Int)) → (Vec (ByteArray × Int × Int × (Vec Int))) → (Vec (Vec Int)) → (Vec (ByteArray × Int × Int × (Vec Int))) → Option Bool) (C6 : Int → (Vec (Vec Int)) → (Vec (ByteArray × Int × Int × (Vec Int))) → Option (Int × Vec (Vec Int) × (Vec (ByteArray × Int × Int × (Vec Int))))) (C7 : Int → (Vec (Int × Int × Int × ByteArray)) → Option (Int × (Vec (Int × Int × Int × ByteArray)))) (C8 : (Vec (Int × Int × Int × ByteArray)) → Int → Option Int) (a1 : Vec (Vec Int)) (a2 : Vec (ByteArray × Int × Int × (Vec Int))) (a3 : Int) (a4 : Int) (K : Bool → Option ρ) : Option ρ :=
  (C0 a1 a2 (1048576 : Int)).bind fun r1 => sel (decide (r1 < (0 : Int))) (K true) ((C1 a1 a2).bind fun r2 => (C2 r2.1 r2.2 a3 a4).bind fun r3 => (C1 a1 a2).bind fun r4 => (C3 r4.1 r4.2 a3 a4).bind fun r5 => (C4 r5.2 r3.2).bind fun r6 => sel ((!r6)) (K false) (sel ((!decide (r5.1 = r3.1))) (K false) ((C1 a1 a2).bind fun r7 => (C5 r4.1 r4.2 r7.1 r7.2).bind fun r8 => sel ((!r8)) (K false) ((C6 (1 : Int) r4.1 r4.2).bind fun r9 => sel (decide (r9.1 < (0 : Int))) (K false) ((C4 r5.2 r3.2).bind fun r10 => sel ((!r10)) (K false) (sel ((!decide (r5.1 = r3.1))) (K false) ((C7 (1 : Int) r5.2).bind fun r11 => (C8 r11.2 (1 : Int)).bind fun r12 => sel (decide (r12 < (0 : Int))) (K false) (sel ((!decide (r12 = r11.1))) (K false) ((C1 a1 a2).bind fun r13 => (C3 r13.1 r13.2 a3 a4).bind fun r14 => (C4 r14.2 r3.2).bind fun r15 => sel ((!r15)) (K false) (sel ((!decide (r14.1 = r3.1))) (K false) ((C8 r11.2 (1 : Int)).bind fun r16 => sel (decide (r16 < (0 : Int))) (K false) (sel ((!decide (r16 = r11.1))) (K false) (K true)))))))))))))
noncomputable def F (a1 : Vec (Vec Int)) (a2 : Vec (ByteArray × Int × Int × (Vec Int))) (a3 : Int) (a4 : Int) : Option Bool := B laws_szWeave.F laws_toWeave.F spec_MarksOf.F impl_MarksOf.F laws_eqMarkS.F laws_eqWeave.F laws_markWeave_saeda.F laws_markMarkS_sb069.F laws_heldMarkS.F a1 a2 a3 a4 (fun x1 => some (x1))
def encA (t : Vec (Vec Int) × (Vec (ByteArray × Int × Int × (Vec Int))) × Int × Int) : List AV := [.a [cl t.1, cl t.2.1], vi t.2.2.1, vi t.2.2.2]
def encR (x : Bool) : AV × List Ob := (vb x, [])
theorem encAI : ∀ a b, encA a = encA b → a = b := by
  intro a b h
  obtain ⟨a0, a1, a2, a3⟩ := a
  obtain ⟨b0, b1, b2, b3⟩ := b
  simp [encA, encRw_iff] at h
  simp_all
theorem encRI : ∀ a b, encR a = encR b → a = b := by
  intro a b h
  simp [encR, encRw_iff] at h
  simp_all
noncomputable def Q (args : List AV) : Option Bool := ofC encA (fun t => F t.1 t.2.1 t.2.2.1 t.2.2.2) args
theorem wrap : (fun (y1 : Vec (Vec Int)) (y2 : Vec (ByteArray × Int × Int × (Vec Int))) (y3 : Int) (y4 : Int) => Q [.a [cl y1, cl y2], vi y3, vi y4]) = F := by
  funext y1 y2 y3 y4
  exact ofC_enc encAI _ (y1, y2, y3, y4)
noncomputable def G (Q0 : List AV → Option Int) (Q1 : List AV → Option (Vec (Vec Int) × (Vec (ByteArray × Int × Int × (Vec Int))))) (Q2 : List AV → Option (Int × (Vec (Int × Int × Int × ByteArray)))) (Q3 : List AV → Option (Int × (Vec (Int × Int × Int × ByteArray)))) (Q4 : List AV → Option Bool) (Q5 : List AV → Option Bool) (Q6 : List AV → List Ob → Option (Int × Vec (Vec Int) × (Vec (ByteArray × Int × Int × (Vec Int))))) (Q7 : List AV → List Ob → Option (Int × (Vec (Int × Int × Int × ByteArray)))) (Q8 : List AV → Option Int) : Orc := ⟨fun f => sel (Nat.beq f 11) 0 (sel (Nat.beq f 13) 0 (sel (Nat.beq f 39) 0 (sel (Nat.beq f 40) 0 (sel (Nat.beq f 41) 0 (sel (Nat.beq f 15) 0 (sel (Nat.beq f 43) 0 (9))))))), fun ρ f args K => sel (Nat.beq f 11) (qEntry laws_szWeave.encR Q0 args K) (sel (Nat.beq f 13) (qEntry laws_toWeave.encR Q1 args K) (sel (Nat.beq f 39) (qEntry spec_MarksOf.encR Q2 args K) (sel (Nat.beq f 40) (qEntry impl_MarksOf.encR Q3 args K) (sel (Nat.beq f 41) (qEntry laws_eqMarkS.encR Q4 args K) (sel (Nat.beq f 15) (qEntry laws_eqWeave.encR Q5 args K) (sel (Nat.beq f 43) (qEntry laws_heldMarkS.encR Q8 args K) (Option.none))))))), fun ρ f st args dst K => sel (Nat.beq f 21) (callE Try.prog 21 [true, false] false [true, true] laws_markWeave_saeda.encR Q6 st args dst K) (sel (Nat.beq f 42) (callE Try.prog 42 [true, false] false [true] laws_markMarkS_sb069.encR Q7 st args dst K) (Option.none)), false⟩
noncomputable def L : Lor := fun ρ j st K => Option.none
theorem main (Q0 Q1 Q2 Q3 Q4 Q5 Q6 Q7 Q8) {ρ : Type} (K : AV → List Ob → Option ρ) (a1 a2 a3 a4) : exC Try.prog (G Q0 Q1 Q2 Q3 Q4 Q5 Q6 Q7 Q8) (L) [] 0 (bodyOf Try.f9) (entry 106 [.a [cl a1, cl a2], vi a3, vi a4] [] []) (finO Try.prog Try.f9.results.toList 0 [] [] K) =
    B (fun y1 y2 y3 => Q0 [.a [cl y1, cl y2], vi y3]) (fun y1 y2 => Q1 [.a [cl y1, cl y2]]) (fun y1 y2 y3 y4 => Q2 [.a [cl y1, cl y2], vi y3, vi y4]) (fun y1 y2 y3 y4 => Q3 [.a [cl y1, cl y2], vi y3, vi y4]) (fun y1 y2 => Q4 [vl y1, vl y2]) (fun y1 y2 y3 y4 => Q5 [.a [cl y1, cl y2], .a [cl y3, cl y4]]) (fun y1 y2 y3 => Q6 [.a [.h 0, .h 1], vi y1] [ro y2, ro y3]) (fun y1 y2 => Q7 [.c (.h 0), vi y1] [ro y2]) (fun y1 y2 => Q8 [vl y1, vi y2]) a1 a2 a3 a4 (fun x1 => K (vb x1) []) := by kernel_rfl
theorem Gok : (G laws_szWeave.Q laws_toWeave.Q spec_MarksOf.Q impl_MarksOf.Q laws_eqMarkS.Q laws_eqWeave.Q laws_markWeave_saeda.Q laws_markMarkS_sb069.Q laws_heldMarkS.Q).ok Try.prog := ⟨(by
    intro ρ f args K r h
    rcases sel_cases h with ⟨hb, h⟩ | ⟨-, h⟩
    · obtain rfl := beq_nat hb
      exact qEntry_ok laws_szWeave.ac h
    rcases sel_cases h with ⟨hb, h⟩ | ⟨-, h⟩
    · obtain rfl := beq_nat hb
      exact qEntry_ok laws_toWeave.ac h
    rcases sel_cases h with ⟨hb, h⟩ | ⟨-, h⟩
    · obtain rfl := beq_nat hb
      exact qEntry_ok spec_MarksOf.ac h
    rcases sel_cases h with ⟨hb, h⟩ | ⟨-, h⟩
    · obtain rfl := beq_nat hb
      exact qEntry_ok impl_MarksOf.ac h
    rcases sel_cases h with ⟨hb, h⟩ | ⟨-, h⟩
    · obtain rfl := beq_nat hb
      exact qEntry_ok laws_eqMarkS.ac h
    rcases sel_cases h with ⟨hb, h⟩ | ⟨-, h⟩
    · obtain rfl := beq_nat hb
      exact qEntry_ok laws_eqWeave.ac h
    rcases sel_cases h with ⟨hb, h⟩ | ⟨-, h⟩
    · obtain rfl := beq_nat hb
      exact qEntry_ok laws_heldMarkS.ac h
    cases h),
  (by
    intro ρ f args K
    simp only [G]
    cases Nat.beq f 11 with
    | true => exact qEntry_nat args K
    | false =>
    simp only [sel]
    cases Nat.beq f 13 with
    | true => exact qEntry_nat args K
    | false =>
    simp only [sel]
    cases Nat.beq f 39 with
    | true => exact qEntry_nat args K
    | false =>
    simp only [sel]
    cases Nat.beq f 40 with
    | true => exact qEntry_nat args K
    | false =>
    simp only [sel]
    cases Nat.beq f 41 with
    | true => exact qEntry_nat args K
    | false =>
    simp only [sel]
    cases Nat.beq f 15 with
    | true => exact qEntry_nat args K
    | false =>
    simp only [sel]
    cases Nat.beq f 43 with
    | true => exact qEntry_nat args K
    | false =>
    simp only [sel]
    rfl),
  (by
    intro ρ f st caps args dst K r h
    rcases sel_cases h with ⟨hb, h⟩ | ⟨-, h⟩
    · obtain rfl := beq_nat hb
      exact callE_ok (fun h => by cases h) laws_markWeave_saeda.ac h
    rcases sel_cases h with ⟨hb, h⟩ | ⟨-, h⟩
    · obtain rfl := beq_nat hb
      exact callE_ok (fun h => by cases h) laws_markMarkS_sb069.ac h
    cases h)⟩
theorem hm : Try.prog.follows .mixedOrders = true := by kernel_rfl
theorem e : atomsL [] 0 (bodyOf Try.f9) = [] := by kernel_rfl
theorem acc (t : Vec (Vec Int) × (Vec (ByteArray × Int × Int × (Vec Int))) × Int × Int) (x : Bool) (h : F t.1 t.2.1 t.2.2.1 t.2.2.2 = some x) : ACc Try.prog 9 (encA t) [] true [] fun rv obs => (rv, obs) = encR x := by
  refine fun_okc (L := (L)) (jn := []) (cmds := []) (ks := []) (hin := []) (fn := Try.f9) (body := (bodyOf Try.f9)) Gok hm Try.func9 (by kernel_rfl) (by kernel_rfl) (by rw [e]; exact Lor.ok_nil _ _) ?_ h
  refine (main laws_szWeave.Q laws_toWeave.Q spec_MarksOf.Q impl_MarksOf.Q laws_eqMarkS.Q laws_eqWeave.Q laws_markWeave_saeda.Q laws_markMarkS_sb069.Q laws_heldMarkS.Q _ t.1 t.2.1 t.2.2.1 t.2.2.2).trans ?_
  rw [laws_szWeave.wrap, laws_toWeave.wrap, spec_MarksOf.wrap, impl_MarksOf.wrap, laws_eqMarkS.wrap, laws_eqWeave.wrap, laws_markWeave_saeda.wrap, laws_markMarkS_sb069.wrap, laws_heldMarkS.wrap]
  refine congrArg (fun K => B laws_szWeave.F laws_toWeave.F spec_MarksOf.F impl_MarksOf.F laws_eqMarkS.F laws_eqWeave.F laws_markWeave_saeda.F laws_markMarkS_sb069.F laws_heldMarkS.F t.1 t.2.1 t.2.2.1 t.2.2.2 K) ?_
  funext x1
  exact ofC_enc encRI some (x1)
theorem ac0 (t : Vec (Vec Int) × (Vec (ByteArray × Int × Int × (Vec Int))) × Int × Int) (x : Bool) (h : F t.1 t.2.1 t.2.2.1 t.2.2.2 = some x) : AC Try.prog 9 (encA t) [] true [] fun rv obs => (rv, obs) = encR x := ACc.ac (body := bodyOf Try.f9) Try.func9 (by kernel_rfl) (by kernel_rfl) (acc t x h)
theorem ac (args : List AV) (x : Bool) (h : Q args = some x) : AC Try.prog 9 args [] false [] fun rv obs => (rv, obs) = encR x := by
  obtain ⟨t, rfl, h2⟩ := ofC_some h
  refine (ac0 t x h2).flat fun rv obs e => ?_
  obtain rfl : rv = (encR x).1 := congrArg Prod.fst e
  obtain rfl : obs = (encR x).2 := congrArg Prod.snd e
  refine ⟨by simp [encR, AV.Flat, K.Flat, C.Flat], ?_⟩
  simp [encR]
end laws_FnExactMarksOf
end Go.Al
