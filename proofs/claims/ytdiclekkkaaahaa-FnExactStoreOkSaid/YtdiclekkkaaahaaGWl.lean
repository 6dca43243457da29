import Derived.Test.YtdiclekkkaaahaaAlE
import Derived.Test.YtdiclekkkaaahaaSC
import Derived.Test.YtdiclekkkaaahaaGCommitsOk
set_option linter.unusedVariables false
set_option linter.unusedSimpArgs false
set_option linter.constructorNameAsVariable false
set_option linter.unusedSectionVars false
set_option maxRecDepth 100000
namespace Go.Al
open Go.Proofs

/-! loop.example/g00073/laws.szIntSS -/
namespace laws_szIntSS
noncomputable def B0 {ρ : Type} (C0 : (Vec Int) → Int → Option Int) (v1 : Vec (Vec Int)) (v2 : Int) (v3 : Int) (W : (Vec (Vec Int)) → Int → Int → Option ρ) (K0 : Int → Option ρ) (Kr : Int → Option ρ) : Option ρ :=
  sel (decide (v3 < (v1.n : Int))) (chk (decide (0 ≤ v3 ∧ v3 < (v1.n : Int))) ((C0 (v1.g v3.toNat) v2).bind fun r1 => sel (decide (r1 < (0 : Int))) (Kr (-1 : Int)) (W v1 r1 (wr (v3 + (1 : Int)))))) (K0 v2)
noncomputable def F0 {ρ : Type} : Nat → (Vec (Vec Int)) → Int → Int → (Int → Option ρ) → (Int → Option ρ) → Option ρ
  | 0, _, _, _, _, _ => none
  | k + 1, v1, v2, v3, K0, Kr => B0 laws_szIntS.F v1 v2 v3 (fun v1' v2' v3' => F0 k v1' v2' v3' K0 Kr) K0 Kr
noncomputable def B {ρ : Type} (L0 : (Vec (Vec Int)) → Int → Int → (Int → Option ρ) → (Int → Option ρ) → Option ρ) (a1 : Vec (Vec Int)) (a2 : Int) (K : Int → Option ρ) : Option ρ :=
  sel (decide ((wr (a2 - (a1.n : Int))) < (0 : Int))) (K (-1 : Int)) (L0 a1 (wr (a2 - (a1.n : Int))) (0 : Int) (fun e01 => K e01) (fun x01 => K x01))
noncomputable def F (a1 : Vec (Vec Int)) (a2 : Int) : Option Int := B (F0 fuelN) a1 a2 (fun x1 => some (x1))
def encA (t : Vec (Vec Int) × Int) : List AV := [vl t.1, vi t.2]
def encR (x : Int) : AV × List Ob := (vi x, [])
theorem encAI : ∀ a b, encA a = encA b → a = b := by
  intro a b h
  obtain ⟨a0, a1⟩ := a
  obtain ⟨b0, b1⟩ := b
  simp [encA, encRw_iff] at h
  simp_all
theorem encRI : ∀ a b, encR a = encR b → a = b := by
  intro a b h
  simp [encR, encRw_iff] at h
  simp_all
noncomputable def Q (args : List AV) : Option Int := ofC encA (fun t => F t.1 t.2) args
theorem wrap : (fun (y1 : Vec (Vec Int)) (y2 : Int) => Q [vl y1, vi y2]) = F := by
  funext y1 y2
  exact ofC_enc encAI _ (y1, y2)
noncomputable def G (Q0 : List AV → Option Int) : Orc := ⟨fun f => sel (Nat.beq f 57) 0 (9), fun ρ f args K => sel (Nat.beq f 57) (qEntry laws_szIntS.encR Q0 args K) (Option.none), noE, false⟩
noncomputable def L (W0 : (ρ : Type) → List AV → List Ob → (Int → Option ρ) → (Int → Option ρ) → Option ρ) : Lor := fun ρ j st K => sel (Nat.beq j 0) (cutO Try.prog 27 [0, 1, 5] 0 [] [] st fun avs obs => W0 ρ avs obs (fun z1 => K (.exit 0) (mkS 27 [1] [vi z1] [] [])) (fun z1 => K .ret (mkS 27 [4] [vi z1] [] []))) (Option.none)
noncomputable def c0 : Code := loopC (atomN [] 0 (bodyOf Try.f44) 0)
def ct0 : Cut := ⟨[0, 1, 5], []⟩
def lv0 : Exit → Cut
  | .exit 0 => ⟨[1], []⟩
  | .ret => ⟨[4], []⟩
  | _ => ⟨[], []⟩
theorem step0 (Q0) (W0) {ρ : Type} (K : Exit → St → Option ρ) (W : List AV → List Ob → Option ρ) (v1 v2 v3) : exC Try.prog (G Q0) (L W0) [] 1 c0 (mkS 27 [0, 1, 5] [vl v1, vi v2, vi v3] [] []) (bodyK Try.prog 27 0 [] ct0 W lv0 K) =
    B0 (fun y1 y2 => Q0 [vl y1, vi y2]) v1 v2 v3 (fun u1 u2 u3 => W [vl u1, vi u2, vi u3] []) (fun z1 => K (.exit 0) (mkS 27 [1] [vi z1] [] [])) (fun z1 => K .ret (mkS 27 [4] [vi z1] [] [])) := by kernel_rfl
def enc0 (t : Vec (Vec Int) × Int × Int) : List AV × List Ob := ([vl t.1, vi t.2.1, vi t.2.2], [])
theorem enc0I : ∀ a b, enc0 a = enc0 b → a = b := by
  intro a b h
  obtain ⟨a0, a1, a2⟩ := a
  obtain ⟨b0, b1, b2⟩ := b
  simp [enc0, encRw_iff] at h
  simp_all
noncomputable def V0 : (ρ : Type) → List AV → List Ob → (Int → Option ρ) → (Int → Option ρ) → Option ρ := fun ρ avs obs k0 kr => ofC enc0 (fun t => F0 fuelN t.1 t.2.1 t.2.2 k0 kr) (avs, obs)
theorem V0_enc (ρ : Type) : (fun w1 w2 w3 k0 kr => V0 ρ [vl w1, vi w2, vi w3] [] k0 kr) = F0 fuelN := by
  funext w1 w2 w3 k0 kr
  exact ofC_enc enc0I _ (w1, w2, w3)
theorem main (Q0) (W0) {ρ : Type} (K : AV → List Ob → Option ρ) (a1 a2) : exC Try.prog (G Q0) (L W0) [] 0 (bodyOf Try.f44) (entry 27 [vl a1, vi a2] [] []) (finO Try.prog Try.f44.results.toList 0 [] [] K) =
    B (fun w1 w2 w3 k0 kr => W0 ρ [vl w1, vi w2, vi w3] [] k0 kr) a1 a2 (fun x1 => K (vi x1) []) := by kernel_rfl
theorem Gok : (G laws_szIntS.Q).ok Try.prog := ⟨(by
    intro ρ f args K r h
    rcases sel_cases h with ⟨hb, h⟩ | ⟨-, h⟩
    · obtain rfl := beq_nat hb
      exact qEntry_ok laws_szIntS.ac h
    cases h),
  (by
    intro ρ f args K
    simp only [G]
    cases Nat.beq f 57 with
    | true => exact qEntry_nat args K
    | false =>
    simp only [sel]
    rfl),
  (fun ρ f st caps args dst K r h => (by cases h))⟩
theorem hm : Try.prog.follows .mixedOrders = true := by kernel_rfl
theorem e0 : atomsL [] 1 c0 = [] := by kernel_rfl
theorem ok0 (ρ : Type) (st : St) (K : Exit → St → Option ρ) (r : ρ) (h : (L V0) ρ 0 st K = some r) : AW Try.prog (.loop c0) st fun e st' => K e st' = some r := by
  refine loop_ok (ct := ct0) (lv := lv0) (n := 27) (m := 0) (ks := []) (j := 0) (jn := []) (L := (L V0)) Gok hm (by rw [e0]; exact Lor.ok_nil _ _) enc0I (fun k t => F0 k t.1 t.2.1 t.2.2 (fun z1 => K (.exit 0) (mkS 27 [1] [vi z1] [] [])) (fun z1 => K .ret (mkS 27 [4] [vi z1] [] []))) (fun t => rfl) (fun k t => ?_) (fun _ => fuelN) h
  refine (step0 laws_szIntS.Q V0 K _ t.1 t.2.1 t.2.2).trans ?_
  rw [laws_szIntS.wrap]
  refine congrArg (fun W => B0 laws_szIntS.F t.1 t.2.1 t.2.2 W (fun z1 => K (.exit 0) (mkS 27 [1] [vi z1] [] [])) (fun z1 => K .ret (mkS 27 [4] [vi z1] [] []))) ?_
  funext u1 u2 u3
  exact ofC_enc enc0I _ (u1, u2, u3)
theorem e : atomsL [] 0 (bodyOf Try.f44) = [(0, 0, .loop c0)] := by kernel_rfl
theorem acc (t : Vec (Vec Int) × Int) (x : Int) (h : F t.1 t.2 = some x) : ACc Try.prog 44 (encA t) [] true [] fun rv obs => (rv, obs) = encR x := by
  refine fun_okc (L := (L V0)) (jn := []) (cmds := []) (ks := []) (hin := []) (fn := Try.f44) (body := (bodyOf Try.f44)) Gok hm Try.func44 (by kernel_rfl) (by kernel_rfl) (by rw [e]; exact Lor.ok_cons ok0 (Lor.ok_nil _ _)) ?_ h
  refine (main laws_szIntS.Q V0 _ t.1 t.2).trans ?_
  rw [V0_enc]
  refine congrArg (fun K => B (F0 fuelN) t.1 t.2 K) ?_
  funext x1
  exact ofC_enc encRI some (x1)
theorem ac0 (t : Vec (Vec Int) × Int) (x : Int) (h : F t.1 t.2 = some x) : AC Try.prog 44 (encA t) [] true [] fun rv obs => (rv, obs) = encR x := ACc.ac (body := bodyOf Try.f44) Try.func44 (by kernel_rfl) (by kernel_rfl) (acc t x h)
theorem ac (args : List AV) (x : Int) (h : Q args = some x) : AC Try.prog 44 args [] false [] fun rv obs => (rv, obs) = encR x := by
  obtain ⟨t, rfl, h2⟩ := ofC_some h
  refine (ac0 t x h2).flat fun rv obs e => ?_
  obtain rfl : rv = (encR x).1 := congrArg Prod.fst e
  obtain rfl : obs = (encR x).2 := congrArg Prod.snd e
  refine ⟨by simp [encR, AV.Flat, K.Flat, C.Flat], ?_⟩
  simp [encR]
end laws_szIntSS
/-! loop.example/g00073/laws.szBody -/
namespace laws_szBody
noncomputable def B {ρ : Type} (C0 : (Vec Int) → Int → Option Int) (a1 : ByteArray) (a2 : Int) (a3 : Int) (a4 : Vec Int) (a5 : Int) (K : Int → Option ρ) : Option ρ :=
  sel (decide ((wr (a5 - (a1.size : Int))) < (0 : Int))) (K (-1 : Int)) ((C0 a4 (wr (a5 - (a1.size : Int)))).bind fun r1 => sel (decide (r1 < (0 : Int))) (K (-1 : Int)) (K r1))
noncomputable def F (a1 : ByteArray) (a2 : Int) (a3 : Int) (a4 : Vec Int) (a5 : Int) : Option Int := B laws_szIntS.F a1 a2 a3 a4 a5 (fun x1 => some (x1))
def encA (t : ByteArray × Int × Int × Vec Int × Int) : List AV := [.a [cs t.1, ci t.2.1, ci t.2.2.1, cl t.2.2.2.1], vi t.2.2.2.2]
def encR (x : Int) : AV × List Ob := (vi x, [])
theorem encAI : ∀ a b, encA a = encA b → a = b := by
  intro a b h
  obtain ⟨a0, a1, a2, a3, a4⟩ := a
  obtain ⟨b0, b1, b2, b3, b4⟩ := b
  simp [encA, encRw_iff] at h
  simp_all
theorem encRI : ∀ a b, encR a = encR b → a = b := by
  intro a b h
  simp [encR, encRw_iff] at h
  simp_all
noncomputable def Q (args : List AV) : Option Int := ofC encA (fun t => F t.1 t.2.1 t.2.2.1 t.2.2.2.1 t.2.2.2.2) args
theorem wrap : (fun (y1 : ByteArray) (y2 : Int) (y3 : Int) (y4 : Vec Int) (y5 : Int) => Q [.a [cs y1, ci y2, ci y3, cl y4], vi y5]) = F := by
  funext y1 y2 y3 y4 y5
  exact ofC_enc encAI _ (y1, y2, y3, y4, y5)
noncomputable def G (Q0 : List AV → Option Int) : Orc := ⟨fun f => sel (Nat.beq f 57) 0 (9), fun ρ f args K => sel (Nat.beq f 57) (qEntry laws_szIntS.encR Q0 args K) (Option.none), noE, false⟩
noncomputable def L : Lor := fun ρ j st K => Option.none
theorem main (Q0) {ρ : Type} (K : AV → List Ob → Option ρ) (a1 a2 a3 a4 a5) : exC Try.prog (G Q0) (L) [] 0 (bodyOf Try.f130) (entry 19 [.a [cs a1, ci a2, ci a3, cl a4], vi a5] [] []) (finO Try.prog Try.f130.results.toList 0 [] [] K) =
    B (fun y1 y2 => Q0 [vl y1, vi y2]) a1 a2 a3 a4 a5 (fun x1 => K (vi x1) []) := by kernel_rfl
theorem Gok : (G laws_szIntS.Q).ok Try.prog := ⟨(by
    intro ρ f args K r h
    rcases sel_cases h with ⟨hb, h⟩ | ⟨-, h⟩
    · obtain rfl := beq_nat hb
      exact qEntry_ok laws_szIntS.ac h
    cases h),
  (by
    intro ρ f args K
    simp only [G]
    cases Nat.beq f 57 with
    | true => exact qEntry_nat args K
    | false =>
    simp only [sel]
    rfl),
  (fun ρ f st caps args dst K r h => (by cases h))⟩
theorem hm : Try.prog.follows .mixedOrders = true := by kernel_rfl
theorem e : atomsL [] 0 (bodyOf Try.f130) = [] := by kernel_rfl
theorem acc (t : ByteArray × Int × Int × Vec Int × Int) (x : Int) (h : F t.1 t.2.1 t.2.2.1 t.2.2.2.1 t.2.2.2.2 = some x) : ACc Try.prog 130 (encA t) [] true [] fun rv obs => (rv, obs) = encR x := by
  refine fun_okc (L := (L)) (jn := []) (cmds := []) (ks := []) (hin := []) (fn := Try.f130) (body := (bodyOf Try.f130)) Gok hm Try.func130 (by kernel_rfl) (by kernel_rfl) (by rw [e]; exact Lor.ok_nil _ _) ?_ h
  refine (main laws_szIntS.Q _ t.1 t.2.1 t.2.2.1 t.2.2.2.1 t.2.2.2.2).trans ?_
  rw [laws_szIntS.wrap]
  refine congrArg (fun K => B laws_szIntS.F t.1 t.2.1 t.2.2.1 t.2.2.2.1 t.2.2.2.2 K) ?_
  funext x1
  exact ofC_enc encRI some (x1)
theorem ac0 (t : ByteArray × Int × Int × Vec Int × Int) (x : Int) (h : F t.1 t.2.1 t.2.2.1 t.2.2.2.1 t.2.2.2.2 = some x) : AC Try.prog 130 (encA t) [] true [] fun rv obs => (rv, obs) = encR x := ACc.ac (body := bodyOf Try.f130) Try.func130 (by kernel_rfl) (by kernel_rfl) (acc t x h)
theorem ac (args : List AV) (x : Int) (h : Q args = some x) : AC Try.prog 130 args [] false [] fun rv obs => (rv, obs) = encR x := by
  obtain ⟨t, rfl, h2⟩ := ofC_some h
  refine (ac0 t x h2).flat fun rv obs e => ?_
  obtain rfl : rv = (encR x).1 := congrArg Prod.fst e
  obtain rfl : obs = (encR x).2 := congrArg Prod.snd e
  refine ⟨by simp [encR, AV.Flat, K.Flat, C.Flat], ?_⟩
  simp [encR]
end laws_szBody
/-! loop.example/g00073/laws.szBodyS -/
namespace laws_szBodyS
noncomputable def B0 {ρ : Type} (C0 : ByteArray → Int → Int → (Vec Int) → Int → Option Int) (v1 : Vec (ByteArray × Int × Int × (Vec Int))) (v2 : Int) (v3 : Int) (W : (Vec (ByteArray × Int × Int × (Vec Int))) → Int → Int → Option ρ) (K0 : Int → Option ρ) (Kr : Int → Option ρ) : Option ρ :=
  sel (decide (v3 < (v1.n : Int))) (chk (decide (0 ≤ v3 ∧ v3 < (v1.n : Int))) ((C0 ((v1.g v3.toNat).1) ((v1.g v3.toNat).2.1) ((v1.g v3.toNat).2.2.1) ((v1.g v3.toNat).2.2.2) v2).bind fun r1 => sel (decide (r1 < (0 : Int))) (Kr (-1 : Int)) (W v1 r1 (wr (v3 + (1 : Int)))))) (K0 v2)
noncomputable def F0 {ρ : Type} : Nat → (Vec (ByteArray × Int × Int × (Vec Int))) → Int → Int → (Int → Option ρ) → (Int → Option ρ) → Option ρ
  | 0, _, _, _, _, _ => none
  | k + 1, v1, v2, v3, K0, Kr => B0 laws_szBody.F v1 v2 v3 (fun v1' v2' v3' => F0 k v1' v2' v3' K0 Kr) K0 Kr
noncomputable def B {ρ : Type} (L0 : (Vec (ByteArray × Int × Int × (Vec Int))) → Int → Int → (Int → Option ρ) → (Int → Option ρ) → Option ρ) (a1 : Vec (ByteArray × Int × Int × (Vec Int))) (a2 : Int) (K : Int → Option ρ) : Option ρ :=
  sel (decide ((wr (a2 - (a1.n : Int))) < (0 : Int))) (K (-1 : Int)) (L0 a1 (wr (a2 - (a1.n : Int))) (0 : Int) (fun e01 => K e01) (fun x01 => K x01))
noncomputable def F (a1 : Vec (ByteArray × Int × Int × (Vec Int))) (a2 : Int) : Option Int := B (F0 fuelN) a1 a2 (fun x1 => some (x1))
def encA (t : (Vec (ByteArray × Int × Int × (Vec Int))) × Int) : List AV := [vl t.1, vi t.2]
def encR (x : Int) : AV × List Ob := (vi x, [])
theorem encAI : ∀ a b, encA a = encA b → a = b := by
  intro a b h
  obtain ⟨a0, a1⟩ := a
  obtain ⟨b0, b1⟩ := b
  simp [encA, encRw_iff] at h
  simp_all
theorem encRI : ∀ a b, encR a = encR b → a = b := by
  intro a b h
  simp [encR, encRw_iff] at h
  simp_all
noncomputable def Q (args : List AV) : Option Int := ofC encA (fun t => F t.1 t.2) args
theorem wrap : (fun (y1 : Vec (ByteArray × Int × Int × (Vec Int))) (y2 : Int) => Q [vl y1, vi y2]) = F := by
  funext y1 y2
  exact ofC_enc encAI _ (y1, y2)
noncomputable def G (Q0 : List AV → Option Int) : Orc := ⟨fun f => sel (Nat.beq f 130) 0 (9), fun ρ f args K => sel (Nat.beq f 130) (qEntry laws_szBody.encR Q0 args K) (Option.none), noE, false⟩
noncomputable def L (W0 : (ρ : Type) → List AV → List Ob → (Int → Option ρ) → (Int → Option ρ) → Option ρ) : Lor := fun ρ j st K => sel (Nat.beq j 0) (cutO Try.prog 27 [0, 1, 5] 0 [] [] st fun avs obs => W0 ρ avs obs (fun z1 => K (.exit 0) (mkS 27 [1] [vi z1] [] [])) (fun z1 => K .ret (mkS 27 [4] [vi z1] [] []))) (Option.none)
noncomputable def c0 : Code := loopC (atomN [] 0 (bodyOf Try.f103) 0)
def ct0 : Cut := ⟨[0, 1, 5], []⟩
def lv0 : Exit → Cut
  | .exit 0 => ⟨[1], []⟩
  | .ret => ⟨[4], []⟩
  | _ => ⟨[], []⟩
theorem step0 (Q0) (W0) {ρ : Type} (K : Exit → St → Option ρ) (W : List AV → List Ob → Option ρ) (v1 v2 v3) : exC Try.prog (G Q0) (L W0) [] 1 c0 (mkS 27 [0, 1, 5] [vl v1, vi v2, vi v3] [] []) (bodyK Try.prog 27 0 [] ct0 W lv0 K) =
    B0 (fun y1 y2 y3 y4 y5 => Q0 [.a [cs y1, ci y2, ci y3, cl y4], vi y5]) v1 v2 v3 (fun u1 u2 u3 => W [vl u1, vi u2, vi u3] []) (fun z1 => K (.exit 0) (mkS 27 [1] [vi z1] [] [])) (fun z1 => K .ret (mkS 27 [4] [vi z1] [] [])) := by kernel_rfl
def enc0 (t : (Vec (ByteArray × Int × Int × (Vec Int))) × Int × Int) : List AV × List Ob := ([vl t.1, vi t.2.1, vi t.2.2], [])
theorem enc0I : ∀ a b, enc0 a = enc0 b → a = b := by
  intro a b h
  obtain ⟨a0, a1, a2⟩ := a
  obtain ⟨b0, b1, b2⟩ := b
  simp [enc0, encRw_iff] at h
  simp_all
noncomputable def V0 : (ρ : Type) → List AV → List Ob → (Int → Option ρ) → (Int → Option ρ) → Option ρ := fun ρ avs obs k0 kr => ofC enc0 (fun t => F0 fuelN t.1 t.2.1 t.2.2 k0 kr) (avs, obs)
theorem V0_enc (ρ : Type) : (fun w1 w2 w3 k0 kr => V0 ρ [vl w1, vi w2, vi w3] [] k0 kr) = F0 fuelN := by
  funext w1 w2 w3 k0 kr
  exact ofC_enc enc0I _ (w1, w2, w3)
theorem main (Q0) (W0) {ρ : Type} (K : AV → List Ob → Option ρ) (a1 a2) : exC Try.prog (G Q0) (L W0) [] 0 (bodyOf Try.f103) (entry 27 [vl a1, vi a2] [] []) (finO Try.prog Try.f103.results.toList 0 [] [] K) =
    B (fun w1 w2 w3 k0 kr => W0 ρ [vl w1, vi w2, vi w3] [] k0 kr) a1 a2 (fun x1 => K (vi x1) []) := by kernel_rfl
theorem Gok : (G laws_szBody.Q).ok Try.prog := ⟨(by
    intro ρ f args K r h
    rcases sel_cases h with ⟨hb, h⟩ | ⟨-, h⟩
    · obtain rfl := beq_nat hb
      exact qEntry_ok laws_szBody.ac h
    cases h),
  (by
    intro ρ f args K
    simp only [G]
    cases Nat.beq f 130 with
    | true => exact qEntry_nat args K
    | false =>
    simp only [sel]
    rfl),
  (fun ρ f st caps args dst K r h => (by cases h))⟩
theorem hm : Try.prog.follows .mixedOrders = true := by kernel_rfl
theorem e0 : atomsL [] 1 c0 = [] := by kernel_rfl
theorem ok0 (ρ : Type) (st : St) (K : Exit → St → Option ρ) (r : ρ) (h : (L V0) ρ 0 st K = some r) : AW Try.prog (.loop c0) st fun e st' => K e st' = some r := by
  refine loop_ok (ct := ct0) (lv := lv0) (n := 27) (m := 0) (ks := []) (j := 0) (jn := []) (L := (L V0)) Gok hm (by rw [e0]; exact Lor.ok_nil _ _) enc0I (fun k t => F0 k t.1 t.2.1 t.2.2 (fun z1 => K (.exit 0) (mkS 27 [1] [vi z1] [] [])) (fun z1 => K .ret (mkS 27 [4] [vi z1] [] []))) (fun t => rfl) (fun k t => ?_) (fun _ => fuelN) h
  refine (step0 laws_szBody.Q V0 K _ t.1 t.2.1 t.2.2).trans ?_
  rw [laws_szBody.wrap]
  refine congrArg (fun W => B0 laws_szBody.F t.1 t.2.1 t.2.2 W (fun z1 => K (.exit 0) (mkS 27 [1] [vi z1] [] [])) (fun z1 => K .ret (mkS 27 [4] [vi z1] [] []))) ?_
  funext u1 u2 u3
  exact ofC_enc enc0I _ (u1, u2, u3)
theorem e : atomsL [] 0 (bodyOf Try.f103) = [(0, 0, .loop c0)] := by kernel_rfl
theorem acc (t : (Vec (ByteArray × Int × Int × (Vec Int))) × Int) (x : Int) (h : F t.1 t.2 = some x) : ACc Try.prog 103 (encA t) [] true [] fun rv obs => (rv, obs) = encR x := by
  refine fun_okc (L := (L V0)) (jn := []) (cmds := []) (ks := []) (hin := []) (fn := Try.f103) (body := (bodyOf Try.f103)) Gok hm Try.func103 (by kernel_rfl) (by kernel_rfl) (by rw [e]; exact Lor.ok_cons ok0 (Lor.ok_nil _ _)) ?_ h
  refine (main laws_szBody.Q V0 _ t.1 t.2).trans ?_
  rw [V0_enc]
  refine congrArg (fun K => B (F0 fuelN) t.1 t.2 K) ?_
  funext x1
  exact ofC_enc encRI some (x1)
theorem ac0 (t : (Vec (ByteArray × Int × Int × (Vec Int))) × Int) (x : Int) (h : F t.1 t.2 = some x) : AC Try.prog 103 (encA t) [] true [] fun rv obs => (rv, obs) = encR x := ACc.ac (body := bodyOf Try.f103) Try.func103 (by kernel_rfl) (by kernel_rfl) (acc t x h)
theorem ac (args : List AV) (x : Int) (h : Q args = some x) : AC Try.prog 103 args [] false [] fun rv obs => (rv, obs) = encR x := by
  obtain ⟨t, rfl, h2⟩ := ofC_some h
  refine (ac0 t x h2).flat fun rv obs e => ?_
  obtain rfl : rv = (encR x).1 := congrArg Prod.fst e
  obtain rfl : obs = (encR x).2 := congrArg Prod.snd e
  refine ⟨by simp [encR, AV.Flat, K.Flat, C.Flat], ?_⟩
  simp [encR]
end laws_szBodyS
/-! loop.example/g00073/laws.szWeave -/
namespace laws_szWeave
noncomputable def B {ρ : Type} (C0 : (Vec (Vec Int)) → Int → Option Int) (C1 : (Vec (ByteArray × Int × Int × (Vec Int))) → Int → Option Int) (a1 : Vec (Vec Int)) (a2 : Vec (ByteArray × Int × Int × (Vec Int))) (a3 : Int) (K : Int → Option ρ) : Option ρ :=
  (C0 a1 a3).bind fun r1 => sel (decide (r1 < (0 : Int))) (K (-1 : Int)) ((C1 a2 r1).bind fun r2 => sel (decide (r2 < (0 : Int))) (K (-1 : Int)) (K r2))
noncomputable def F (a1 : Vec (Vec Int)) (a2 : Vec (ByteArray × Int × Int × (Vec Int))) (a3 : Int) : Option Int := B laws_szIntSS.F laws_szBodyS.F a1 a2 a3 (fun x1 => some (x1))
def encA (t : Vec (Vec Int) × (Vec (ByteArray × Int × Int × (Vec Int))) × Int) : List AV := [.a [cl t.1, cl t.2.1], vi t.2.2]
def encR (x : Int) : AV × List Ob := (vi x, [])
theorem encAI : ∀ a b, encA a = encA b → a = b := by
  intro a b h
  obtain ⟨a0, a1, a2⟩ := a
  obtain ⟨b0, b1, b2⟩ := b
  simp [encA, encRw_iff] at h
  simp_all
theorem encRI : ∀ a b, encR a = encR b → a = b := by
  intro a b h
  simp [encR, encRw_iff] at h
  simp_all
noncomputable def Q (args : List AV) : Option Int := ofC encA (fun t => F t.1 t.2.1 t.2.2) args
theorem wrap : (fun (y1 : Vec (Vec Int)) (y2 : Vec (ByteArray × Int × Int × (Vec Int))) (y3 : Int) => Q [.a [cl y1, cl y2], vi y3]) = F := by
  funext y1 y2 y3
  exact ofC_enc encAI _ (y1, y2, y3)
noncomputable def G (Q0 : List AV → Option Int) (Q1 : List AV → Option Int) : Orc := ⟨fun f => sel (Nat.beq f 44) 0 (sel (Nat.beq f 103) 0 (9)), fun ρ f args K => sel (Nat.beq f 44) (qEntry laws_szIntSS.encR Q0 args K) (sel (Nat.beq f 103) (qEntry laws_szBodyS.encR Q1 args K) (Option.none)), noE, false⟩
noncomputable def L : Lor := fun ρ j st K => Option.none
theorem main (Q0 Q1) {ρ : Type} (K : AV → List Ob → Option ρ) (a1 a2 a3) : exC Try.prog (G Q0 Q1) (L) [] 0 (bodyOf Try.f66) (entry 18 [.a [cl a1, cl a2], vi a3] [] []) (finO Try.prog Try.f66.results.toList 0 [] [] K) =
    B (fun y1 y2 => Q0 [vl y1, vi y2]) (fun y1 y2 => Q1 [vl y1, vi y2]) a1 a2 a3 (fun x1 => K (vi x1) []) := by kernel_rfl
theorem Gok : (G laws_szIntSS.Q laws_szBodyS.Q).ok Try.prog := ⟨(by
    intro ρ f args K r h
    rcases sel_cases h with ⟨hb, h⟩ | ⟨-, h⟩
    · obtain rfl := beq_nat hb
      exact qEntry_ok laws_szIntSS.ac h
    rcases sel_cases h with ⟨hb, h⟩ | ⟨-, h⟩
    · obtain rfl := beq_nat hb
      exact qEntry_ok laws_szBodyS.ac h
    cases h),
  (by
    intro ρ f args K
    simp only [G]
    cases Nat.beq f 44 with
    | true => exact qEntry_nat args K
    | false =>
    simp only [sel]
    cases Nat.beq f 103 with
    | true => exact qEntry_nat args K
    | false =>
    simp only [sel]
    rfl),
  (fun ρ f st caps args dst K r h => (by cases h))⟩
theorem hm : Try.prog.follows .mixedOrders = true := by kernel_rfl
theorem e : atomsL [] 0 (bodyOf Try.f66) = [] := by kernel_rfl
theorem acc (t : Vec (Vec Int) × (Vec (ByteArray × Int × Int × (Vec Int))) × Int) (x : Int) (h : F t.1 t.2.1 t.2.2 = some x) : ACc Try.prog 66 (encA t) [] true [] fun rv obs => (rv, obs) = encR x := by
  refine fun_okc (L := (L)) (jn := []) (cmds := []) (ks := []) (hin := []) (fn := Try.f66) (body := (bodyOf Try.f66)) Gok hm Try.func66 (by kernel_rfl) (by kernel_rfl) (by rw [e]; exact Lor.ok_nil _ _) ?_ h
  refine (main laws_szIntSS.Q laws_szBodyS.Q _ t.1 t.2.1 t.2.2).trans ?_
  rw [laws_szIntSS.wrap, laws_szBodyS.wrap]
  refine congrArg (fun K => B laws_szIntSS.F laws_szBodyS.F t.1 t.2.1 t.2.2 K) ?_
  funext x1
  exact ofC_enc encRI some (x1)
theorem ac0 (t : Vec (Vec Int) × (Vec (ByteArray × Int × Int × (Vec Int))) × Int) (x : Int) (h : F t.1 t.2.1 t.2.2 = some x) : AC Try.prog 66 (encA t) [] true [] fun rv obs => (rv, obs) = encR x := ACc.ac (body := bodyOf Try.f66) Try.func66 (by kernel_rfl) (by kernel_rfl) (acc t x h)
theorem ac (args : List AV) (x : Int) (h : Q args = some x) : AC Try.prog 66 args [] false [] fun rv obs => (rv, obs) = encR x := by
  obtain ⟨t, rfl, h2⟩ := ofC_some h
  refine (ac0 t x h2).flat fun rv obs e => ?_
  obtain rfl : rv = (encR x).1 := congrArg Prod.fst e
  obtain rfl : obs = (encR x).2 := congrArg Prod.snd e
  refine ⟨by simp [encR, AV.Flat, K.Flat, C.Flat], ?_⟩
  simp [encR]
end laws_szWeave
/-! loop.example/g00073/laws.toIntSS -/
namespace laws_toIntSS
noncomputable def B0 {ρ : Type} (C0 : (Vec Int) → Option (Vec Int)) (v1 : Vec (Vec Int)) (v2 : Int) (v3 : Vec (Vec Int)) (W : (Vec (Vec Int)) → Int → (Vec (Vec Int)) → Option ρ) (K0 : (Vec (Vec Int)) → Option ρ) : Option ρ :=
  sel (decide (v2 < (v1.n : Int))) (chk (decide (0 ≤ v2 ∧ v2 < (v1.n : Int))) ((C0 (v1.g v2.toNat)).bind fun r1 => chk (decide (0 ≤ v2 ∧ v2 < (v3.n : Int))) (chk (decide (v2.toNat < v3.n)) (W v1 (wr (v2 + (1 : Int))) (Vec.set v3 v2.toNat r1))))) (K0 v3)
noncomputable def F0 {ρ : Type} : Nat → (Vec (Vec Int)) → Int → (Vec (Vec Int)) → ((Vec (Vec Int)) → Option ρ) → Option ρ
  | 0, _, _, _, _ => none
  | k + 1, v1, v2, v3, K0 => B0 laws_toIntS.F v1 v2 v3 (fun v1' v2' v3' => F0 k v1' v2' v3' K0) K0
noncomputable def B {ρ : Type} (L0 : (Vec (Vec Int)) → Int → (Vec (Vec Int)) → ((Vec (Vec Int)) → Option ρ) → Option ρ) (a1 : Vec (Vec Int)) (K : (Vec (Vec Int)) → Option ρ) : Option ρ :=
  chk (decide ((a1.n : Int) = (a1.n : Int) ∧ 0 ≤ (a1.n : Int))) (chk (mkOk (a1.n : Int) 24) (L0 a1 (0 : Int) (Vec.rep ((a1.n : Int).toNat) Vec.nil : Vec (Vec Int)) (fun e01 => K e01)))
noncomputable def F (a1 : Vec (Vec Int)) : Option (Vec (Vec Int)) := B (F0 fuelN) a1 (fun x1 => some (x1))
def encA (t : Vec (Vec Int)) : List AV := [vl t]
def encR (x : Vec (Vec Int)) : AV × List Ob := (.c (.h 0), [ro x])
theorem encAI : ∀ a b, encA a = encA b → a = b := by
  intro a b h
  simp [encA, encRw_iff] at h
  simp_all
theorem encRI : ∀ a b, encR a = encR b → a = b := by
  intro a b h
  simp [encR, encRw_iff] at h
  simp_all
noncomputable def Q (args : List AV) : Option (Vec (Vec Int)) := ofC encA (fun t => F t) args
theorem wrap : (fun (y1 : Vec (Vec Int)) => Q [vl y1]) = F := by
  funext y1
  exact ofC_enc encAI _ (y1)
noncomputable def G (Q0 : List AV → Option (Vec Int)) : Orc := ⟨fun f => sel (Nat.beq f 9) 0 (9), fun ρ f args K => sel (Nat.beq f 9) (qEntry laws_toIntS.encR Q0 args K) (Option.none), noE, false⟩
noncomputable def L (W0 : (ρ : Type) → List AV → List Ob → ((Vec (Vec Int)) → Option ρ) → Option ρ) : Lor := fun ρ j st K => sel (Nat.beq j 0) (cutO Try.prog 23 [0, 3, 4] 0 [] [] st fun avs obs => W0 ρ avs obs (fun z1 => K (.exit 0) (mkS 23 [3] [.c (.h 0)] [ro z1] []))) (Option.none)
noncomputable def c0 : Code := loopC (atomN [] 0 (bodyOf Try.f48) 0)
def ct0 : Cut := ⟨[0, 3, 4], []⟩
def lv0 : Exit → Cut
  | .exit 0 => ⟨[3], []⟩
  | _ => ⟨[], []⟩
theorem step0 (Q0) (W0) {ρ : Type} (K : Exit → St → Option ρ) (W : List AV → List Ob → Option ρ) (v1 v2 v3) : exC Try.prog (G Q0) (L W0) [] 1 c0 (mkS 23 [0, 3, 4] [vl v1, .c (.h 0), vi v2] [ro v3] []) (bodyK Try.prog 23 0 [] ct0 W lv0 K) =
    B0 (fun y1 => Q0 [vl y1]) v1 v2 v3 (fun u1 u2 u3 => W [vl u1, .c (.h 0), vi u2] [ro u3]) (fun z1 => K (.exit 0) (mkS 23 [3] [.c (.h 0)] [ro z1] [])) := by kernel_rfl
def enc0 (t : Vec (Vec Int) × Int × Vec (Vec Int)) : List AV × List Ob := ([vl t.1, .c (.h 0), vi t.2.1], [ro t.2.2])
theorem enc0I : ∀ a b, enc0 a = enc0 b → a = b := by
  intro a b h
  obtain ⟨a0, a1, a2⟩ := a
  obtain ⟨b0, b1, b2⟩ := b
  simp [enc0, encRw_iff] at h
  simp_all
noncomputable def V0 : (ρ : Type) → List AV → List Ob → ((Vec (Vec Int)) → Option ρ) → Option ρ := fun ρ avs obs k0 => ofC enc0 (fun t => F0 fuelN t.1 t.2.1 t.2.2 k0) (avs, obs)
theorem V0_enc (ρ : Type) : (fun w1 w2 w3 k0 => V0 ρ [vl w1, .c (.h 0), vi w2] [ro w3] k0) = F0 fuelN := by
  funext w1 w2 w3 k0
  exact ofC_enc enc0I _ (w1, w2, w3)
theorem main (Q0) (W0) {ρ : Type} (K : AV → List Ob → Option ρ) (a1) : exC Try.prog (G Q0) (L W0) [] 0 (bodyOf Try.f48) (entry 23 [vl a1] [] []) (finO Try.prog Try.f48.results.toList 0 [] [] K) =
    B (fun w1 w2 w3 k0 => W0 ρ [vl w1, .c (.h 0), vi w2] [ro w3] k0) a1 (fun x1 => K (.c (.h 0)) [ro x1]) := by kernel_rfl
theorem Gok : (G laws_toIntS.Q).ok Try.prog := ⟨(by
    intro ρ f args K r h
    rcases sel_cases h with ⟨hb, h⟩ | ⟨-, h⟩
    · obtain rfl := beq_nat hb
      exact qEntry_ok laws_toIntS.ac h
    cases h),
  (by
    intro ρ f args K
    simp only [G]
    cases Nat.beq f 9 with
    | true => exact qEntry_nat args K
    | false =>
    simp only [sel]
    rfl),
  (fun ρ f st caps args dst K r h => (by cases h))⟩
theorem hm : Try.prog.follows .mixedOrders = true := by kernel_rfl
theorem e0 : atomsL [] 1 c0 = [] := by kernel_rfl
theorem ok0 (ρ : Type) (st : St) (K : Exit → St → Option ρ) (r : ρ) (h : (L V0) ρ 0 st K = some r) : AW Try.prog (.loop c0) st fun e st' => K e st' = some r := by
  refine loop_ok (ct := ct0) (lv := lv0) (n := 23) (m := 0) (ks := []) (j := 0) (jn := []) (L := (L V0)) Gok hm (by rw [e0]; exact Lor.ok_nil _ _) enc0I (fun k t => F0 k t.1 t.2.1 t.2.2 (fun z1 => K (.exit 0) (mkS 23 [3] [.c (.h 0)] [ro z1] []))) (fun t => rfl) (fun k t => ?_) (fun _ => fuelN) h
  refine (step0 laws_toIntS.Q V0 K _ t.1 t.2.1 t.2.2).trans ?_
  rw [laws_toIntS.wrap]
  refine congrArg (fun W => B0 laws_toIntS.F t.1 t.2.1 t.2.2 W (fun z1 => K (.exit 0) (mkS 23 [3] [.c (.h 0)] [ro z1] []))) ?_
  funext u1 u2 u3
  exact ofC_enc enc0I _ (u1, u2, u3)
theorem e : atomsL [] 0 (bodyOf Try.f48) = [(0, 0, .loop c0)] := by kernel_rfl
theorem acc (t : Vec (Vec Int)) (x : Vec (Vec Int)) (h : F t = some x) : ACc Try.prog 48 (encA t) [] true [] fun rv obs => (rv, obs) = encR x := by
  refine fun_okc (L := (L V0)) (jn := []) (cmds := []) (ks := []) (hin := []) (fn := Try.f48) (body := (bodyOf Try.f48)) Gok hm Try.func48 (by kernel_rfl) (by kernel_rfl) (by rw [e]; exact Lor.ok_cons ok0 (Lor.ok_nil _ _)) ?_ h
  refine (main laws_toIntS.Q V0 _ t).trans ?_
  rw [V0_enc]
  refine congrArg (fun K => B (F0 fuelN) t K) ?_
  funext x1
  exact ofC_enc encRI some (x1)
theorem ac0 (t : Vec (Vec Int)) (x : Vec (Vec Int)) (h : F t = some x) : AC Try.prog 48 (encA t) [] true [] fun rv obs => (rv, obs) = encR x := ACc.ac (body := bodyOf Try.f48) Try.func48 (by kernel_rfl) (by kernel_rfl) (acc t x h)
theorem ac (args : List AV) (x : Vec (Vec Int)) (h : Q args = some x) : AC Try.prog 48 args [] false [] fun rv obs => (rv, obs) = encR x := by
  obtain ⟨t, rfl, h2⟩ := ofC_some h
  refine (ac0 t x h2).flat fun rv obs e => ?_
  obtain rfl : rv = (encR x).1 := congrArg Prod.fst e
  obtain rfl : obs = (encR x).2 := congrArg Prod.snd e
  refine ⟨by simp [encR, AV.Flat, K.Flat, C.Flat], ?_⟩
  intro o ho
  simp only [encR, List.mem_cons, List.not_mem_nil, or_false] at ho
  subst ho
  exact flat_rw rfl _
end laws_toIntSS
/-! loop.example/g00073/laws.toBody -/
namespace laws_toBody
noncomputable def B {ρ : Type} (C0 : (Vec Int) → Option (Vec Int)) (a1 : ByteArray) (a2 : Int) (a3 : Int) (a4 : Vec Int) (K : ByteArray → Int → Int → (Vec Int) → Option ρ) : Option ρ :=
  (C0 a4).bind fun r1 => K a1 a2 a3 r1
noncomputable def F (a1 : ByteArray) (a2 : Int) (a3 : Int) (a4 : Vec Int) : Option (ByteArray × Int × Int × Vec Int) := B laws_toIntS.F a1 a2 a3 a4 (fun x1 x2 x3 x4 => some (x1, x2, x3, x4))
def encA (t : ByteArray × Int × Int × Vec Int) : List AV := [.a [cs t.1, ci t.2.1, ci t.2.2.1, cl t.2.2.2]]
def encR (x : ByteArray × Int × Int × Vec Int) : AV × List Ob := (.a [cs x.1, ci x.2.1, ci x.2.2.1, .h 0], [ro x.2.2.2])
theorem encAI : ∀ a b, encA a = encA b → a = b := by
  intro a b h
  obtain ⟨a0, a1, a2, a3⟩ := a
  obtain ⟨b0, b1, b2, b3⟩ := b
  simp [encA, encRw_iff] at h
  simp_all
theorem encRI : ∀ a b, encR a = encR b → a = b := by
  intro a b h
  obtain ⟨a0, a1, a2, a3⟩ := a
  obtain ⟨b0, b1, b2, b3⟩ := b
  simp [encR, encRw_iff] at h
  simp_all
noncomputable def Q (args : List AV) : Option (ByteArray × Int × Int × Vec Int) := ofC encA (fun t => F t.1 t.2.1 t.2.2.1 t.2.2.2) args
theorem wrap : (fun (y1 : ByteArray) (y2 : Int) (y3 : Int) (y4 : Vec Int) => Q [.a [cs y1, ci y2, ci y3, cl y4]]) = F := by
  funext y1 y2 y3 y4
  exact ofC_enc encAI _ (y1, y2, y3, y4)
noncomputable def G (Q0 : List AV → Option (Vec Int)) : Orc := ⟨fun f => sel (Nat.beq f 9) 0 (9), fun ρ f args K => sel (Nat.beq f 9) (qEntry laws_toIntS.encR Q0 args K) (Option.none), noE, false⟩
noncomputable def L : Lor := fun ρ j st K => Option.none
theorem main (Q0) {ρ : Type} (K : AV → List Ob → Option ρ) (a1 a2 a3 a4) : exC Try.prog (G Q0) (L) [] 0 (bodyOf Try.f131) (entry 18 [.a [cs a1, ci a2, ci a3, cl a4]] [] []) (finO Try.prog Try.f131.results.toList 0 [] [] K) =
    B (fun y1 => Q0 [vl y1]) a1 a2 a3 a4 (fun x1 x2 x3 x4 => K (.a [cs x1, ci x2, ci x3, .h 0]) [ro x4]) := by kernel_rfl
theorem Gok : (G laws_toIntS.Q).ok Try.prog := ⟨(by
    intro ρ f args K r h
    rcases sel_cases h with ⟨hb, h⟩ | ⟨-, h⟩
    · obtain rfl := beq_nat hb
      exact qEntry_ok laws_toIntS.ac h
    cases h),
  (by
    intro ρ f args K
    simp only [G]
    cases Nat.beq f 9 with
    | true => exact qEntry_nat args K
    | false =>
    simp only [sel]
    rfl),
  (fun ρ f st caps args dst K r h => (by cases h))⟩
theorem hm : Try.prog.follows .mixedOrders = true := by kernel_rfl
theorem e : atomsL [] 0 (bodyOf Try.f131) = [] := by kernel_rfl
theorem acc (t : ByteArray × Int × Int × Vec Int) (x : ByteArray × Int × Int × Vec Int) (h : F t.1 t.2.1 t.2.2.1 t.2.2.2 = some x) : ACc Try.prog 131 (encA t) [] true [] fun rv obs => (rv, obs) = encR x := by
  refine fun_okc (L := (L)) (jn := []) (cmds := []) (ks := []) (hin := []) (fn := Try.f131) (body := (bodyOf Try.f131)) Gok hm Try.func131 (by kernel_rfl) (by kernel_rfl) (by rw [e]; exact Lor.ok_nil _ _) ?_ h
  refine (main laws_toIntS.Q _ t.1 t.2.1 t.2.2.1 t.2.2.2).trans ?_
  rw [laws_toIntS.wrap]
  refine congrArg (fun K => B laws_toIntS.F t.1 t.2.1 t.2.2.1 t.2.2.2 K) ?_
  funext x1 x2 x3 x4
  exact ofC_enc encRI some (x1, x2, x3, x4)
theorem ac0 (t : ByteArray × Int × Int × Vec Int) (x : ByteArray × Int × Int × Vec Int) (h : F t.1 t.2.1 t.2.2.1 t.2.2.2 = some x) : AC Try.prog 131 (encA t) [] true [] fun rv obs => (rv, obs) = encR x := ACc.ac (body := bodyOf Try.f131) Try.func131 (by kernel_rfl) (by kernel_rfl) (acc t x h)
theorem ac (args : List AV) (x : ByteArray × Int × Int × Vec Int) (h : Q args = some x) : AC Try.prog 131 args [] false [] fun rv obs => (rv, obs) = encR x := by
  obtain ⟨t, rfl, h2⟩ := ofC_some h
  refine (ac0 t x h2).flat fun rv obs e => ?_
  obtain rfl : rv = (encR x).1 := congrArg Prod.fst e
  obtain rfl : obs = (encR x).2 := congrArg Prod.snd e
  refine ⟨by simp [encR, AV.Flat, K.Flat, C.Flat], ?_⟩
  intro o ho
  simp only [encR, List.mem_cons, List.not_mem_nil, or_false] at ho
  subst ho
  exact flat_rw rfl _
end laws_toBody
/-! loop.example/g00073/laws.toBodyS -/
namespace laws_toBodyS
noncomputable def B0 {ρ : Type} (C0 : ByteArray → Int → Int → (Vec Int) → Option (ByteArray × Int × Int × Vec Int)) (v1 : Vec (ByteArray × Int × Int × (Vec Int))) (v2 : Int) (v3 : Vec (ByteArray × Int × Int × (Vec Int))) (W : (Vec (ByteArray × Int × Int × (Vec Int))) → Int → (Vec (ByteArray × Int × Int × (Vec Int))) → Option ρ) (K0 : (Vec (ByteArray × Int × Int × (Vec Int))) → Option ρ) : Option ρ :=
  sel (decide (v2 < (v1.n : Int))) (chk (decide (0 ≤ v2 ∧ v2 < (v1.n : Int))) ((C0 ((v1.g v2.toNat).1) ((v1.g v2.toNat).2.1) ((v1.g v2.toNat).2.2.1) ((v1.g v2.toNat).2.2.2)).bind fun r1 => chk (decide (0 ≤ v2 ∧ v2 < (v3.n : Int))) (chk (decide (v2.toNat < v3.n)) (W v1 (wr (v2 + (1 : Int))) (Vec.set v3 v2.toNat (r1.1, r1.2.1, r1.2.2.1, r1.2.2.2)))))) (K0 v3)
noncomputable def F0 {ρ : Type} : Nat → (Vec (ByteArray × Int × Int × (Vec Int))) → Int → (Vec (ByteArray × Int × Int × (Vec Int))) → ((Vec (ByteArray × Int × Int × (Vec Int))) → Option ρ) → Option ρ
  | 0, _, _, _, _ => none
  | k + 1, v1, v2, v3, K0 => B0 laws_toBody.F v1 v2 v3 (fun v1' v2' v3' => F0 k v1' v2' v3' K0) K0
noncomputable def B {ρ : Type} (L0 : (Vec (ByteArray × Int × Int × (Vec Int))) → Int → (Vec (ByteArray × Int × Int × (Vec Int))) → ((Vec (ByteArray × Int × Int × (Vec Int))) → Option ρ) → Option ρ) (a1 : Vec (ByteArray × Int × Int × (Vec Int))) (K : (Vec (ByteArray × Int × Int × (Vec Int))) → Option ρ) : Option ρ :=
  chk (decide ((a1.n : Int) = (a1.n : Int) ∧ 0 ≤ (a1.n : Int))) (chk (mkOk (a1.n : Int) 56) (L0 a1 (0 : Int) (Vec.rep ((a1.n : Int).toNat) (ByteArray.empty, (0 : Int), (0 : Int), Vec.nil) : Vec (ByteArray × Int × Int × (Vec Int))) (fun e01 => K e01)))
noncomputable def F (a1 : Vec (ByteArray × Int × Int × (Vec Int))) : Option (Vec (ByteArray × Int × Int × (Vec Int))) := B (F0 fuelN) a1 (fun x1 => some (x1))
def encA (t : Vec (ByteArray × Int × Int × (Vec Int))) : List AV := [vl t]
def encR (x : Vec (ByteArray × Int × Int × (Vec Int))) : AV × List Ob := (.c (.h 0), [ro x])
theorem encAI : ∀ a b, encA a = encA b → a = b := by
  intro a b h
  simp [encA, encRw_iff] at h
  simp_all
theorem encRI : ∀ a b, encR a = encR b → a = b := by
  intro a b h
  simp [encR, encRw_iff] at h
  simp_all
noncomputable def Q (args : List AV) : Option (Vec (ByteArray × Int × Int × (Vec Int))) := ofC encA (fun t => F t) args
theorem wrap : (fun (y1 : Vec (ByteArray × Int × Int × (Vec Int))) => Q [vl y1]) = F := by
  funext y1
  exact ofC_enc encAI _ (y1)
noncomputable def G (Q0 : List AV → Option (ByteArray × Int × Int × Vec Int)) : Orc := ⟨fun f => sel (Nat.beq f 131) 0 (9), fun ρ f args K => sel (Nat.beq f 131) (qEntry laws_toBody.encR Q0 args K) (Option.none), noE, false⟩
noncomputable def L (W0 : (ρ : Type) → List AV → List Ob → ((Vec (ByteArray × Int × Int × (Vec Int))) → Option ρ) → Option ρ) : Lor := fun ρ j st K => sel (Nat.beq j 0) (cutO Try.prog 23 [0, 3, 4] 0 [] [] st fun avs obs => W0 ρ avs obs (fun z1 => K (.exit 0) (mkS 23 [3] [.c (.h 0)] [ro z1] []))) (Option.none)
noncomputable def c0 : Code := loopC (atomN [] 0 (bodyOf Try.f104) 0)
def ct0 : Cut := ⟨[0, 3, 4], []⟩
def lv0 : Exit → Cut
  | .exit 0 => ⟨[3], []⟩
  | _ => ⟨[], []⟩
theorem step0 (Q0) (W0) {ρ : Type} (K : Exit → St → Option ρ) (W : List AV → List Ob → Option ρ) (v1 v2 v3) : exC Try.prog (G Q0) (L W0) [] 1 c0 (mkS 23 [0, 3, 4] [vl v1, .c (.h 0), vi v2] [ro v3] []) (bodyK Try.prog 23 0 [] ct0 W lv0 K) =
    B0 (fun y1 y2 y3 y4 => Q0 [.a [cs y1, ci y2, ci y3, cl y4]]) v1 v2 v3 (fun u1 u2 u3 => W [vl u1, .c (.h 0), vi u2] [ro u3]) (fun z1 => K (.exit 0) (mkS 23 [3] [.c (.h 0)] [ro z1] [])) := by kernel_rfl
def enc0 (t : (Vec (ByteArray × Int × Int × (Vec Int))) × Int × (Vec (ByteArray × Int × Int × (Vec Int)))) : List AV × List Ob := ([vl t.1, .c (.h 0), vi t.2.1], [ro t.2.2])
theorem enc0I : ∀ a b, enc0 a = enc0 b → a = b := by
  intro a b h
  obtain ⟨a0, a1, a2⟩ := a
  obtain ⟨b0, b1, b2⟩ := b
  simp [enc0, encRw_iff] at h
  simp_all
noncomputable def V0 : (ρ : Type) → List AV → List Ob → ((Vec (ByteArray × Int × Int × (Vec Int))) → Option ρ) → Option ρ := fun ρ avs obs k0 => ofC enc0 (fun t => F0 fuelN t.1 t.2.1 t.2.2 k0) (avs, obs)
theorem V0_enc (ρ : Type) : (fun w1 w2 w3 k0 => V0 ρ [vl w1, .c (.h 0), vi w2] [ro w3] k0) = F0 fuelN := by
  funext w1 w2 w3 k0
  exact ofC_enc enc0I _ (w1, w2, w3)
theorem main (Q0) (W0) {ρ : Type} (K : AV → List Ob → Option ρ) (a1) : exC Try.prog (G Q0) (L W0) [] 0 (bodyOf Try.f104) (entry 23 [vl a1] [] []) (finO Try.prog Try.f104.results.toList 0 [] [] K) =
    B (fun w1 w2 w3 k0 => W0 ρ [vl w1, .c (.h 0), vi w2] [ro w3] k0) a1 (fun x1 => K (.c (.h 0)) [ro x1]) := by kernel_rfl
theorem Gok : (G laws_toBody.Q).ok Try.prog := ⟨(by
    intro ρ f args K r h
    rcases sel_cases h with ⟨hb, h⟩ | ⟨-, h⟩
    · obtain rfl := beq_nat hb
      exact qEntry_ok laws_toBody.ac h
    cases h),
  (by
    intro ρ f args K
    simp only [G]
    cases Nat.beq f 131 with
    | true => exact qEntry_nat args K
    | false =>
    simp only [sel]
    rfl),
  (fun ρ f st caps args dst K r h => (by cases h))⟩
theorem hm : Try.prog.follows .mixedOrders = true := by kernel_rfl
theorem e0 : atomsL [] 1 c0 = [] := by kernel_rfl
theorem ok0 (ρ : Type) (st : St) (K : Exit → St → Option ρ) (r : ρ) (h : (L V0) ρ 0 st K = some r) : AW Try.prog (.loop c0) st fun e st' => K e st' = some r := by
  refine loop_ok (ct := ct0) (lv := lv0) (n := 23) (m := 0) (ks := []) (j := 0) (jn := []) (L := (L V0)) Gok hm (by rw [e0]; exact Lor.ok_nil _ _) enc0I (fun k t => F0 k t.1 t.2.1 t.2.2 (fun z1 => K (.exit 0) (mkS 23 [3] [.c (.h 0)] [ro z1] []))) (fun t => rfl) (fun k t => ?_) (fun _ => fuelN) h
  refine (step0 laws_toBody.Q V0 K _ t.1 t.2.1 t.2.2).trans ?_
  rw [laws_toBody.wrap]
  refine congrArg (fun W => B0 laws_toBody.F t.1 t.2.1 t.2.2 W (fun z1 => K (.exit 0) (mkS 23 [3] [.c (.h 0)] [ro z1] []))) ?_
  funext u1 u2 u3
  exact ofC_enc enc0I _ (u1, u2, u3)
theorem e : atomsL [] 0 (bodyOf Try.f104) = [(0, 0, .loop c0)] := by kernel_rfl
theorem acc (t : Vec (ByteArray × Int × Int × (Vec Int))) (x : Vec (ByteArray × Int × Int × (Vec Int))) (h : F t = some x) : ACc Try.prog 104 (encA t) [] true [] fun rv obs => (rv, obs) = encR x := by
  refine fun_okc (L := (L V0)) (jn := []) (cmds := []) (ks := []) (hin := []) (fn := Try.f104) (body := (bodyOf Try.f104)) Gok hm Try.func104 (by kernel_rfl) (by kernel_rfl) (by rw [e]; exact Lor.ok_cons ok0 (Lor.ok_nil _ _)) ?_ h
  refine (main laws_toBody.Q V0 _ t).trans ?_
  rw [V0_enc]
  refine congrArg (fun K => B (F0 fuelN) t K) ?_
  funext x1
  exact ofC_enc encRI some (x1)
theorem ac0 (t : Vec (ByteArray × Int × Int × (Vec Int))) (x : Vec (ByteArray × Int × Int × (Vec Int))) (h : F t = some x) : AC Try.prog 104 (encA t) [] true [] fun rv obs => (rv, obs) = encR x := ACc.ac (body := bodyOf Try.f104) Try.func104 (by kernel_rfl) (by kernel_rfl) (acc t x h)
theorem ac (args : List AV) (x : Vec (ByteArray × Int × Int × (Vec Int))) (h : Q args = some x) : AC Try.prog 104 args [] false [] fun rv obs => (rv, obs) = encR x := by
  obtain ⟨t, rfl, h2⟩ := ofC_some h
  refine (ac0 t x h2).flat fun rv obs e => ?_
  obtain rfl : rv = (encR x).1 := congrArg Prod.fst e
  obtain rfl : obs = (encR x).2 := congrArg Prod.snd e
  refine ⟨by simp [encR, AV.Flat, K.Flat, C.Flat], ?_⟩
  intro o ho
  simp only [encR, List.mem_cons, List.not_mem_nil, or_false] at ho
  subst ho
  exact flat_rw rfl _
end laws_toBodyS
/-! loop.example/g00073/laws.toWeave -/
namespace laws_toWeave
noncomputable def B {ρ : Type} (C0 : (Vec (Vec Int)) → Option (Vec (Vec Int))) (C1 : (Vec (ByteArray × Int × Int × (Vec Int))) → Option (Vec (ByteArray × Int × Int × (Vec Int)))) (a1 : Vec (Vec Int)) (a2 : Vec (ByteArray × Int × Int × (Vec Int))) (K : (Vec (Vec Int)) → (Vec (ByteArray × Int × Int × (Vec Int))) → Option ρ) : Option ρ :=
  (C0 a1).bind fun r1 => (C1 a2).bind fun r2 => K r1 r2
noncomputable def F (a1 : Vec (Vec Int)) (a2 : Vec (ByteArray × Int × Int × (Vec Int))) : Option (Vec (Vec Int) × (Vec (ByteArray × Int × Int × (Vec Int)))) := B laws_toIntSS.F laws_toBodyS.F a1 a2 (fun x1 x2 => some (x1, x2))
def encA (t : Vec (Vec Int) × (Vec (ByteArray × Int × Int × (Vec Int)))) : List AV := [.a [cl t.1, cl t.2]]
def encR (x : Vec (Vec Int) × (Vec (ByteArray × Int × Int × (Vec Int)))) : AV × List Ob := (.a [.h 0, .h 1], [ro x.1, ro x.2])
theorem encAI : ∀ a b, encA a = encA b → a = b := by
  intro a b h
  obtain ⟨a0, a1⟩ := a
  obtain ⟨b0, b1⟩ := b
  simp [encA, encRw_iff] at h
  simp_all
theorem encRI : ∀ a b, encR a = encR b → a = b := by
  intro a b h
  obtain ⟨a0, a1⟩ := a
  obtain ⟨b0, b1⟩ := b
  simp [encR, encRw_iff] at h
  simp_all
noncomputable def Q (args : List AV) : Option (Vec (Vec Int) × (Vec (ByteArray × Int × Int × (Vec Int)))) := ofC encA (fun t => F t.1 t.2) args
theorem wrap : (fun (y1 : Vec (Vec Int)) (y2 : Vec (ByteArray × Int × Int × (Vec Int))) => Q [.a [cl y1, cl y2]]) = F := by
  funext y1 y2
  exact ofC_enc encAI _ (y1, y2)
noncomputable def G (Q0 : List AV → Option (Vec (Vec Int))) (Q1 : List AV → Option (Vec (ByteArray × Int × Int × (Vec Int)))) : Orc := ⟨fun f => sel (Nat.beq f 48) 0 (sel (Nat.beq f 104) 0 (9)), fun ρ f args K => sel (Nat.beq f 48) (qEntry laws_toIntSS.encR Q0 args K) (sel (Nat.beq f 104) (qEntry laws_toBodyS.encR Q1 args K) (Option.none)), noE, false⟩
noncomputable def L : Lor := fun ρ j st K => Option.none
theorem main (Q0 Q1) {ρ : Type} (K : AV → List Ob → Option ρ) (a1 a2) : exC Try.prog (G Q0 Q1) (L) [] 0 (bodyOf Try.f72) (entry 13 [.a [cl a1, cl a2]] [] []) (finO Try.prog Try.f72.results.toList 0 [] [] K) =
    B (fun y1 => Q0 [vl y1]) (fun y1 => Q1 [vl y1]) a1 a2 (fun x1 x2 => K (.a [.h 0, .h 1]) [ro x1, ro x2]) := by kernel_rfl
theorem Gok : (G laws_toIntSS.Q laws_toBodyS.Q).ok Try.prog := ⟨(by
    intro ρ f args K r h
    rcases sel_cases h with ⟨hb, h⟩ | ⟨-, h⟩
    · obtain rfl := beq_nat hb
      exact qEntry_ok laws_toIntSS.ac h
    rcases sel_cases h with ⟨hb, h⟩ | ⟨-, h⟩
    · obtain rfl := beq_nat hb
      exact qEntry_ok laws_toBodyS.ac h
    cases h),
  (by
    intro ρ f args K
    simp only [G]
    cases Nat.beq f 48 with
    | true => exact qEntry_nat args K
    | false =>
    simp only [sel]
    cases Nat.beq f 104 with
    | true => exact qEntry_nat args K
    | false =>
    simp only [sel]
    rfl),
  (fun ρ f st caps args dst K r h => (by cases h))⟩
theorem hm : Try.prog.follows .mixedOrders = true := by kernel_rfl
theorem e : atomsL [] 0 (bodyOf Try.f72) = [] := by kernel_rfl
theorem acc (t : Vec (Vec Int) × (Vec (ByteArray × Int × Int × (Vec Int)))) (x : Vec (Vec Int) × (Vec (ByteArray × Int × Int × (Vec Int)))) (h : F t.1 t.2 = some x) : ACc Try.prog 72 (encA t) [] true [] fun rv obs => (rv, obs) = encR x := by
  refine fun_okc (L := (L)) (jn := []) (cmds := []) (ks := []) (hin := []) (fn := Try.f72) (body := (bodyOf Try.f72)) Gok hm Try.func72 (by kernel_rfl) (by kernel_rfl) (by rw [e]; exact Lor.ok_nil _ _) ?_ h
  refine (main laws_toIntSS.Q laws_toBodyS.Q _ t.1 t.2).trans ?_
  rw [laws_toIntSS.wrap, laws_toBodyS.wrap]
  refine congrArg (fun K => B laws_toIntSS.F laws_toBodyS.F t.1 t.2 K) ?_
  funext x1 x2
  exact ofC_enc encRI some (x1, x2)
theorem ac0 (t : Vec (Vec Int) × (Vec (ByteArray × Int × Int × (Vec Int)))) (x : Vec (Vec Int) × (Vec (ByteArray × Int × Int × (Vec Int)))) (h : F t.1 t.2 = some x) : AC Try.prog 72 (encA t) [] true [] fun rv obs => (rv, obs) = encR x := ACc.ac (body := bodyOf Try.f72) Try.func72 (by kernel_rfl) (by kernel_rfl) (acc t x h)
theorem ac (args : List AV) (x : Vec (Vec Int) × (Vec (ByteArray × Int × Int × (Vec Int)))) (h : Q args = some x) : AC Try.prog 72 args [] false [] fun rv obs => (rv, obs) = encR x := by
  obtain ⟨t, rfl, h2⟩ := ofC_some h
  refine (ac0 t x h2).flat fun rv obs e => ?_
  obtain rfl : rv = (encR x).1 := congrArg Prod.fst e
  obtain rfl : obs = (encR x).2 := congrArg Prod.snd e
  refine ⟨by simp [encR, AV.Flat, K.Flat, C.Flat], ?_⟩
  intro o ho
  simp only [encR, List.mem_cons, List.not_mem_nil, or_false] at ho
  rcases ho with rfl | rfl
  · exact flat_rw rfl _
  · exact flat_rw rfl _
end laws_toWeave
/-! loop.example/g00073/laws.eqIntSS -/
namespace laws_eqIntSS
noncomputable def B0 {ρ : Type} (C0 : (Vec Int) → (Vec Int) → Option Bool) (v1 : Vec (Vec Int)) (v2 : Vec (Vec Int)) (v3 : Int) (W : (Vec (Vec Int)) → (Vec (Vec Int)) → Int → Option ρ) (K0 : Unit → Option ρ) (Kr : Bool → Option ρ) : Option ρ :=
  sel (decide (v3 < (v1.n : Int))) (chk (decide (0 ≤ v3 ∧ v3 < (v1.n : Int))) (chk (decide (0 ≤ v3 ∧ v3 < (v2.n : Int))) ((C0 (v1.g v3.toNat) (v2.g v3.toNat)).bind fun r1 => sel ((!r1)) (Kr false) (W v1 v2 (wr (v3 + (1 : Int))))))) (K0 ())
noncomputable def F0 {ρ : Type} : Nat → (Vec (Vec Int)) → (Vec (Vec Int)) → Int → (Unit → Option ρ) → (Bool → Option ρ) → Option ρ
  | 0, _, _, _, _, _ => none
  | k + 1, v1, v2, v3, K0, Kr => B0 laws_eqIntS.F v1 v2 v3 (fun v1' v2' v3' => F0 k v1' v2' v3' K0 Kr) K0 Kr
noncomputable def B {ρ : Type} (L0 : (Vec (Vec Int)) → (Vec (Vec Int)) → Int → (Unit → Option ρ) → (Bool → Option ρ) → Option ρ) (a1 : Vec (Vec Int)) (a2 : Vec (Vec Int)) (K : Bool → Option ρ) : Option ρ :=
  sel ((!decide ((a1.n : Int) = (a2.n : Int)))) (K false) (L0 a1 a2 (0 : Int) (fun _ => K true) (fun x01 => K x01))
noncomputable def F (a1 : Vec (Vec Int)) (a2 : Vec (Vec Int)) : Option Bool := B (F0 fuelN) a1 a2 (fun x1 => some (x1))
def encA (t : Vec (Vec Int) × Vec (Vec Int)) : List AV := [vl t.1, vl t.2]
def encR (x : Bool) : AV × List Ob := (vb x, [])
theorem encAI : ∀ a b, encA a = encA b → a = b := by
  intro a b h
  obtain ⟨a0, a1⟩ := a
  obtain ⟨b0, b1⟩ := b
  simp [encA, encRw_iff] at h
  simp_all
theorem encRI : ∀ a b, encR a = encR b → a = b := by
  intro a b h
  simp [encR, encRw_iff] at h
  simp_all
noncomputable def Q (args : List AV) : Option Bool := ofC encA (fun t => F t.1 t.2) args
theorem wrap : (fun (y1 : Vec (Vec Int)) (y2 : Vec (Vec Int)) => Q [vl y1, vl y2]) = F := by
  funext y1 y2
  exact ofC_enc encAI _ (y1, y2)
noncomputable def G (Q0 : List AV → Option Bool) : Orc := ⟨fun f => sel (Nat.beq f 12) 0 (9), fun ρ f args K => sel (Nat.beq f 12) (qEntry laws_eqIntS.encR Q0 args K) (Option.none), noE, false⟩
noncomputable def L (W0 : (ρ : Type) → List AV → List Ob → (Unit → Option ρ) → (Bool → Option ρ) → Option ρ) : Lor := fun ρ j st K => sel (Nat.beq j 0) (cutO Try.prog 27 [0, 1, 5] 0 [] [] st fun avs obs => W0 ρ avs obs (fun _ => K (.exit 0) (mkS 27 [] [] [] [])) (fun z1 => K .ret (mkS 27 [4] [vb z1] [] []))) (Option.none)
noncomputable def c0 : Code := loopC (atomN [] 0 (bodyOf Try.f54) 0)
def ct0 : Cut := ⟨[0, 1, 5], []⟩
def lv0 : Exit → Cut
  | .exit 0 => ⟨[], []⟩
  | .ret => ⟨[4], []⟩
  | _ => ⟨[], []⟩
theorem step0 (Q0) (W0) {ρ : Type} (K : Exit → St → Option ρ) (W : List AV → List Ob → Option ρ) (v1 v2 v3) : exC Try.prog (G Q0) (L W0) [] 1 c0 (mkS 27 [0, 1, 5] [vl v1, vl v2, vi v3] [] []) (bodyK Try.prog 27 0 [] ct0 W lv0 K) =
    B0 (fun y1 y2 => Q0 [vl y1, vl y2]) v1 v2 v3 (fun u1 u2 u3 => W [vl u1, vl u2, vi u3] []) (fun _ => K (.exit 0) (mkS 27 [] [] [] [])) (fun z1 => K .ret (mkS 27 [4] [vb z1] [] [])) := by kernel_rfl
def enc0 (t : Vec (Vec Int) × Vec (Vec Int) × Int) : List AV × List Ob := ([vl t.1, vl t.2.1, vi t.2.2], [])
theorem enc0I : ∀ a b, enc0 a = enc0 b → a = b := by
  intro a b h
  obtain ⟨a0, a1, a2⟩ := a
  obtain ⟨b0, b1, b2⟩ := b
  simp [enc0, encRw_iff] at h
  simp_all
noncomputable def V0 : (ρ : Type) → List AV → List Ob → (Unit → Option ρ) → (Bool → Option ρ) → Option ρ := fun ρ avs obs k0 kr => ofC enc0 (fun t => F0 fuelN t.1 t.2.1 t.2.2 k0 kr) (avs, obs)
theorem V0_enc (ρ : Type) : (fun w1 w2 w3 k0 kr => V0 ρ [vl w1, vl w2, vi w3] [] k0 kr) = F0 fuelN := by
  funext w1 w2 w3 k0 kr
  exact ofC_enc enc0I _ (w1, w2, w3)
theorem main (Q0) (W0) {ρ : Type} (K : AV → List Ob → Option ρ) (a1 a2) : exC Try.prog (G Q0) (L W0) [] 0 (bodyOf Try.f54) (entry 27 [vl a1, vl a2] [] []) (finO Try.prog Try.f54.results.toList 0 [] [] K) =
    B (fun w1 w2 w3 k0 kr => W0 ρ [vl w1, vl w2, vi w3] [] k0 kr) a1 a2 (fun x1 => K (vb x1) []) := by kernel_rfl
theorem Gok : (G laws_eqIntS.Q).ok Try.prog := ⟨(by
    intro ρ f args K r h
    rcases sel_cases h with ⟨hb, h⟩ | ⟨-, h⟩
    · obtain rfl := beq_nat hb
      exact qEntry_ok laws_eqIntS.ac h
    cases h),
  (by
    intro ρ f args K
    simp only [G]
    cases Nat.beq f 12 with
    | true => exact qEntry_nat args K
    | false =>
    simp only [sel]
    rfl),
  (fun ρ f st caps args dst K r h => (by cases h))⟩
theorem hm : Try.prog.follows .mixedOrders = true := by kernel_rfl
theorem e0 : atomsL [] 1 c0 = [] := by kernel_rfl
theorem ok0 (ρ : Type) (st : St) (K : Exit → St → Option ρ) (r : ρ) (h : (L V0) ρ 0 st K = some r) : AW Try.prog (.loop c0) st fun e st' => K e st' = some r := by
  refine loop_ok (ct := ct0) (lv := lv0) (n := 27) (m := 0) (ks := []) (j := 0) (jn := []) (L := (L V0)) Gok hm (by rw [e0]; exact Lor.ok_nil _ _) enc0I (fun k t => F0 k t.1 t.2.1 t.2.2 (fun _ => K (.exit 0) (mkS 27 [] [] [] [])) (fun z1 => K .ret (mkS 27 [4] [vb z1] [] []))) (fun t => rfl) (fun k t => ?_) (fun _ => fuelN) h
  refine (step0 laws_eqIntS.Q V0 K _ t.1 t.2.1 t.2.2).trans ?_
  rw [laws_eqIntS.wrap]
  refine congrArg (fun W => B0 laws_eqIntS.F t.1 t.2.1 t.2.2 W (fun _ => K (.exit 0) (mkS 27 [] [] [] [])) (fun z1 => K .ret (mkS 27 [4] [vb z1] [] []))) ?_
  funext u1 u2 u3
  exact ofC_enc enc0I _ (u1, u2, u3)
theorem e : atomsL [] 0 (bodyOf Try.f54) = [(0, 0, .loop c0)] := by kernel_rfl
theorem acc (t : Vec (Vec Int) × Vec (Vec Int)) (x : Bool) (h : F t.1 t.2 = some x) : ACc Try.prog 54 (encA t) [] true [] fun rv obs => (rv, obs) = encR x := by
  refine fun_okc (L := (L V0)) (jn := []) (cmds := []) (ks := []) (hin := []) (fn := Try.f54) (body := (bodyOf Try.f54)) Gok hm Try.func54 (by kernel_rfl) (by kernel_rfl) (by rw [e]; exact Lor.ok_cons ok0 (Lor.ok_nil _ _)) ?_ h
  refine (main laws_eqIntS.Q V0 _ t.1 t.2).trans ?_
  rw [V0_enc]
  refine congrArg (fun K => B (F0 fuelN) t.1 t.2 K) ?_
  funext x1
  exact ofC_enc encRI some (x1)
theorem ac0 (t : Vec (Vec Int) × Vec (Vec Int)) (x : Bool) (h : F t.1 t.2 = some x) : AC Try.prog 54 (encA t) [] true [] fun rv obs => (rv, obs) = encR x := ACc.ac (body := bodyOf Try.f54) Try.func54 (by kernel_rfl) (by kernel_rfl) (acc t x h)
theorem ac (args : List AV) (x : Bool) (h : Q args = some x) : AC Try.prog 54 args [] false [] fun rv obs => (rv, obs) = encR x := by
  obtain ⟨t, rfl, h2⟩ := ofC_some h
  refine (ac0 t x h2).flat fun rv obs e => ?_
  obtain rfl : rv = (encR x).1 := congrArg Prod.fst e
  obtain rfl : obs = (encR x).2 := congrArg Prod.snd e
  refine ⟨by simp [encR, AV.Flat, K.Flat, C.Flat], ?_⟩
  simp [encR]
end laws_eqIntSS
/-! loop.example/g00073/laws.eqBody -/
namespace laws_eqBody
noncomputable def B {ρ : Type} (C0 : (Vec Int) → (Vec Int) → Option Bool) (a1 : ByteArray) (a2 : Int) (a3 : Int) (a4 : Vec Int) (a5 : ByteArray) (a6 : Int) (a7 : Int) (a8 : Vec Int) (K : Bool → Option ρ) : Option ρ :=
  sel ((!decide (a1 = a5))) (K false) (sel ((!decide (a2 = a6))) (K false) (sel ((!decide (a3 = a7))) (K false) ((C0 a4 a8).bind fun r1 => sel ((!r1)) (K false) (K true))))
noncomputable def F (a1 : ByteArray) (a2 : Int) (a3 : Int) (a4 : Vec Int) (a5 : ByteArray) (a6 : Int) (a7 : Int) (a8 : Vec Int) : Option Bool := B laws_eqIntS.F a1 a2 a3 a4 a5 a6 a7 a8 (fun x1 => some (x1))
def encA (t : ByteArray × Int × Int × Vec Int × ByteArray × Int × Int × Vec Int) : List AV := [.a [cs t.1, ci t.2.1, ci t.2.2.1, cl t.2.2.2.1], .a [cs t.2.2.2.2.1, ci t.2.2.2.2.2.1, ci t.2.2.2.2.2.2.1, cl t.2.2.2.2.2.2.2]]
def encR (x : Bool) : AV × List Ob := (vb x, [])
theorem encAI : ∀ a b, encA a = encA b → a = b := by
  intro a b h
  obtain ⟨a0, a1, a2, a3, a4, a5, a6, a7⟩ := a
  obtain ⟨b0, b1, b2, b3, b4, b5, b6, b7⟩ := b
  simp [encA, encRw_iff] at h
  simp_all
theorem encRI : ∀ a b, encR a = encR b → a = b := by
  intro a b h
  simp [encR, encRw_iff] at h
  simp_all
noncomputable def Q (args : List AV) : Option Bool := ofC encA (fun t => F t.1 t.2.1 t.2.2.1 t.2.2.2.1 t.2.2.2.2.1 t.2.2.2.2.2.1 t.2.2.2.2.2.2.1 t.2.2.2.2.2.2.2) args
theorem wrap : (fun (y1 : ByteArray) (y2 : Int) (y3 : Int) (y4 : Vec Int) (y5 : ByteArray) (y6 : Int) (y7 : Int) (y8 : Vec Int) => Q [.a [cs y1, ci y2, ci y3, cl y4], .a [cs y5, ci y6, ci y7, cl y8]]) = F := by
  funext y1 y2 y3 y4 y5 y6 y7 y8
  exact ofC_enc encAI _ (y1, y2, y3, y4, y5, y6, y7, y8)
noncomputable def G (Q0 : List AV → Option Bool) : Orc := ⟨fun f => sel (Nat.beq f 12) 0 (9), fun ρ f args K => sel (Nat.beq f 12) (qEntry laws_eqIntS.encR Q0 args K) (Option.none), noE, false⟩
noncomputable def L : Lor := fun ρ j st K => Option.none
theorem main (Q0) {ρ : Type} (K : AV → List Ob → Option ρ) (a1 a2 a3 a4 a5 a6 a7 a8) : exC Try.prog (G Q0) (L) [] 0 (bodyOf Try.f134) (entry 26 [.a [cs a1, ci a2, ci a3, cl a4], .a [cs a5, ci a6, ci a7, cl a8]] [] []) (finO Try.prog Try.f134.results.toList 0 [] [] K) =
    B (fun y1 y2 => Q0 [vl y1, vl y2]) a1 a2 a3 a4 a5 a6 a7 a8 (fun x1 => K (vb x1) []) := by kernel_rfl
theorem Gok : (G laws_eqIntS.Q).ok Try.prog := ⟨(by
    intro ρ f args K r h
    rcases sel_cases h with ⟨hb, h⟩ | ⟨-, h⟩
    · obtain rfl := beq_nat hb
      exact qEntry_ok laws_eqIntS.ac h
    cases h),
  (by
    intro ρ f args K
    simp only [G]
    cases Nat.beq f 12 with
    | true => exact qEntry_nat args K
    | false =>
    simp only [sel]
    rfl),
  (fun ρ f st caps args dst K r h => (by cases h))⟩
theorem hm : Try.prog.follows .mixedOrders = true := by kernel_rfl
theorem e : atomsL [] 0 (bodyOf Try.f134) = [] := by kernel_rfl
theorem acc (t : ByteArray × Int × Int × Vec Int × ByteArray × Int × Int × Vec Int) (x : Bool) (h : F t.1 t.2.1 t.2.2.1 t.2.2.2.1 t.2.2.2.2.1 t.2.2.2.2.2.1 t.2.2.2.2.2.2.1 t.2.2.2.2.2.2.2 = some x) : ACc Try.prog 134 (encA t) [] true [] fun rv obs => (rv, obs) = encR x := by
  refine fun_okc (L := (L)) (jn := []) (cmds := []) (ks := []) (hin := []) (fn := Try.f134) (body := (bodyOf Try.f134)) Gok hm Try.func134 (by kernel_rfl) (by kernel_rfl) (by rw [e]; exact Lor.ok_nil _ _) ?_ h
  refine (main laws_eqIntS.Q _ t.1 t.2.1 t.2.2.1 t.2.2.2.1 t.2.2.2.2.1 t.2.2.2.2.2.1 t.2.2.2.2.2.2.1 t.2.2.2.2.2.2.2).trans ?_
  rw [laws_eqIntS.wrap]
  refine congrArg (fun K => B laws_eqIntS.F t.1 t.2.1 t.2.2.1 t.2.2.2.1 t.2.2.2.2.1 t.2.2.2.2.2.1 t.2.2.2.2.2.2.1 t.2.2.2.2.2.2.2 K) ?_
  funext x1
  exact ofC_enc encRI some (x1)
theorem ac0 (t : ByteArray × Int × Int × Vec Int × ByteArray × Int × Int × Vec Int) (x : Bool) (h : F t.1 t.2.1 t.2.2.1 t.2.2.2.1 t.2.2.2.2.1 t.2.2.2.2.2.1 t.2.2.2.2.2.2.1 t.2.2.2.2.2.2.2 = some x) : AC Try.prog 134 (encA t) [] true [] fun rv obs => (rv, obs) = encR x := ACc.ac (body := bodyOf Try.f134) Try.func134 (by kernel_rfl) (by kernel_rfl) (acc t x h)
theorem ac (args : List AV) (x : Bool) (h : Q args = some x) : AC Try.prog 134 args [] false [] fun rv obs => (rv, obs) = encR x := by
  obtain ⟨t, rfl, h2⟩ := ofC_some h
  refine (ac0 t x h2).flat fun rv obs e => ?_
  obtain rfl : rv = (encR x).1 := congrArg Prod.fst e
  obtain rfl : obs = (encR x).2 := congrArg Prod.snd e
  refine ⟨by simp [encR, AV.Flat, K.Flat, C.Flat], ?_⟩
  simp [encR]
end laws_eqBody
/-! loop.example/g00073/laws.eqBodyS -/
namespace laws_eqBodyS
noncomputable def B0 {ρ : Type} (C0 : ByteArray → Int → Int → (Vec Int) → ByteArray → Int → Int → (Vec Int) → Option Bool) (v1 : Vec (ByteArray × Int × Int × (Vec Int))) (v2 : Vec (ByteArray × Int × Int × (Vec Int))) (v3 : Int) (W : (Vec (ByteArray × Int × Int × (Vec Int))) → (Vec (ByteArray × Int × Int × (Vec Int))) → Int → Option ρ) (K0 : Unit → Option ρ) (Kr : Bool → Option ρ) : Option ρ :=
  sel (decide (v3 < (v1.n : Int))) (chk (decide (0 ≤ v3 ∧ v3 < (v1.n : Int))) (chk (decide (0 ≤ v3 ∧ v3 < (v2.n : Int))) ((C0 ((v1.g v3.toNat).1) ((v1.g v3.toNat).2.1) ((v1.g v3.toNat).2.2.1) ((v1.g v3.toNat).2.2.2) ((v2.g v3.toNat).1) ((v2.g v3.toNat).2.1) ((v2.g v3.toNat).2.2.1) ((v2.g v3.toNat).2.2.2)).bind fun r1 => sel ((!r1)) (Kr false) (W v1 v2 (wr (v3 + (1 : Int))))))) (K0 ())
noncomputable def F0 {ρ : Type} : Nat → (Vec (ByteArray × Int × Int × (Vec Int))) → (Vec (ByteArray × Int × Int × (Vec Int))) → Int → (Unit → Option ρ) → (Bool → Option ρ) → Option ρ
  | 0, _, _, _, _, _ => none
  | k + 1, v1, v2, v3, K0, Kr => B0 laws_eqBody.F v1 v2 v3 (fun v1' v2' v3' => F0 k v1' v2' v3' K0 Kr) K0 Kr
noncomputable def B {ρ : Type} (L0 : (Vec (ByteArray × Int × Int × (Vec Int))) → (Vec (ByteArray × Int × Int × (Vec Int))) → Int → (Unit → Option ρ) → (Bool → Option ρ) → Option ρ) (a1 : Vec (ByteArray × Int × Int × (Vec Int))) (a2 : Vec (ByteArray × Int × Int × (Vec Int))) (K : Bool → Option ρ) : Option ρ :=
  sel ((!decide ((a1.n : Int) = (a2.n : Int)))) (K false) (L0 a1 a2 (0 : Int) (fun _ => K true) (fun x01 => K x01))
noncomputable def F (a1 : Vec (ByteArray × Int × Int × (Vec Int))) (a2 : Vec (ByteArray × Int × Int × (Vec Int))) : Option Bool := B (F0 fuelN) a1 a2 (fun x1 => some (x1))
def encA (t : (Vec (ByteArray × Int × Int × (Vec Int))) × (Vec (ByteArray × Int × Int × (Vec Int)))) : List AV := [vl t.1, vl t.2]
def encR (x : Bool) : AV × List Ob := (vb x, [])
theorem encAI : ∀ a b, encA a = encA b → a = b := by
  intro a b h
  obtain ⟨a0, a1⟩ := a
  obtain ⟨b0, b1⟩ := b
  simp [encA, encRw_iff] at h
  simp_all
theorem encRI : ∀ a b, encR a = encR b → a = b := by
  intro a b h
  simp [encR, encRw_iff] at h
  simp_all
noncomputable def Q (args : List AV) : Option Bool := ofC encA (fun t => F t.1 t.2) args
theorem wrap : (fun (y1 : Vec (ByteArray × Int × Int × (Vec Int))) (y2 : Vec (ByteArray × Int × Int × (Vec Int))) => Q [vl y1, vl y2]) = F := by
  funext y1 y2
  exact ofC_enc encAI _ (y1, y2)
noncomputable def G (Q0 : List AV → Option Bool) : Orc := ⟨fun f => sel (Nat.beq f 134) 0 (9), fun ρ f args K => sel (Nat.beq f 134) (qEntry laws_eqBody.encR Q0 args K) (Option.none), noE, false⟩
noncomputable def L (W0 : (ρ : Type) → List AV → List Ob → (Unit → Option ρ) → (Bool → Option ρ) → Option ρ) : Lor := fun ρ j st K => sel (Nat.beq j 0) (cutO Try.prog 27 [0, 1, 5] 0 [] [] st fun avs obs => W0 ρ avs obs (fun _ => K (.exit 0) (mkS 27 [] [] [] [])) (fun z1 => K .ret (mkS 27 [4] [vb z1] [] []))) (Option.none)
noncomputable def c0 : Code := loopC (atomN [] 0 (bodyOf Try.f110) 0)
def ct0 : Cut := ⟨[0, 1, 5], []⟩
def lv0 : Exit → Cut
  | .exit 0 => ⟨[], []⟩
  | .ret => ⟨[4], []⟩
  | _ => ⟨[], []⟩
theorem step0 (Q0) (W0) {ρ : Type} (K : Exit → St → Option ρ) (W : List AV → List Ob → Option ρ) (v1 v2 v3) : exC Try.prog (G Q0) (L W0) [] 1 c0 (mkS 27 [0, 1, 5] [vl v1, vl v2, vi v3] [] []) (bodyK Try.prog 27 0 [] ct0 W lv0 K) =
    B0 (fun y1 y2 y3 y4 y5 y6 y7 y8 => Q0 [.a [cs y1, ci y2, ci y3, cl y4], .a [cs y5, ci y6, ci y7, cl y8]]) v1 v2 v3 (fun u1 u2 u3 => W [vl u1, vl u2, vi u3] []) (fun _ => K (.exit 0) (mkS 27 [] [] [] [])) (fun z1 => K .ret (mkS 27 [4] [vb z1] [] [])) := by kernel_rfl
def enc0 (t : (Vec (ByteArray × Int × Int × (Vec Int))) × (Vec (ByteArray × Int × Int × (Vec Int))) × Int) : List AV × List Ob := ([vl t.1, vl t.2.1, vi t.2.2], [])
theorem enc0I : ∀ a b, enc0 a = enc0 b → a = b := by
  intro a b h
  obtain ⟨a0, a1, a2⟩ := a
  obtain ⟨b0, b1, b2⟩ := b
  simp [enc0, encRw_iff] at h
  simp_all
noncomputable def V0 : (ρ : Type) → List AV → List Ob → (Unit → Option ρ) → (Bool → Option ρ) → Option ρ := fun ρ avs obs k0 kr => ofC enc0 (fun t => F0 fuelN t.1 t.2.1 t.2.2 k0 kr) (avs, obs)
theorem V0_enc (ρ : Type) : (fun w1 w2 w3 k0 kr => V0 ρ [vl w1, vl w2, vi w3] [] k0 kr) = F0 fuelN := by
  funext w1 w2 w3 k0 kr
  exact ofC_enc enc0I _ (w1, w2, w3)
theorem main (Q0) (W0) {ρ : Type} (K : AV → List Ob → Option ρ) (a1 a2) : exC Try.prog (G Q0) (L W0) [] 0 (bodyOf Try.f110) (entry 27 [vl a1, vl a2] [] []) (finO Try.prog Try.f110.results.toList 0 [] [] K) =
    B (fun w1 w2 w3 k0 kr => W0 ρ [vl w1, vl w2, vi w3] [] k0 kr) a1 a2 (fun x1 => K (vb x1) []) := by kernel_rfl
theorem Gok : (G laws_eqBody.Q).ok Try.prog := ⟨(by
    intro ρ f args K r h
    rcases sel_cases h with ⟨hb, h⟩ | ⟨-, h⟩
    · obtain rfl := beq_nat hb
      exact qEntry_ok laws_eqBody.ac h
    cases h),
  (by
    intro ρ f args K
    simp only [G]
    cases Nat.beq f 134 with
    | true => exact qEntry_nat args K
    | false =>
    simp only [sel]
    rfl),
  (fun ρ f st caps args dst K r h => (by cases h))⟩
theorem hm : Try.prog.follows .mixedOrders = true := by kernel_rfl
theorem e0 : atomsL [] 1 c0 = [] := by kernel_rfl
theorem ok0 (ρ : Type) (st : St) (K : Exit → St → Option ρ) (r : ρ) (h : (L V0) ρ 0 st K = some r) : AW Try.prog (.loop c0) st fun e st' => K e st' = some r := by
  refine loop_ok (ct := ct0) (lv := lv0) (n := 27) (m := 0) (ks := []) (j := 0) (jn := []) (L := (L V0)) Gok hm (by rw [e0]; exact Lor.ok_nil _ _) enc0I (fun k t => F0 k t.1 t.2.1 t.2.2 (fun _ => K (.exit 0) (mkS 27 [] [] [] [])) (fun z1 => K .ret (mkS 27 [4] [vb z1] [] []))) (fun t => rfl) (fun k t => ?_) (fun _ => fuelN) h
  refine (step0 laws_eqBody.Q V0 K _ t.1 t.2.1 t.2.2).trans ?_
  rw [laws_eqBody.wrap]
  refine congrArg (fun W => B0 laws_eqBody.F t.1 t.2.1 t.2.2 W (fun _ => K (.exit 0) (mkS 27 [] [] [] [])) (fun z1 => K .ret (mkS 27 [4] [vb z1] [] []))) ?_
  funext u1 u2 u3
  exact ofC_enc enc0I _ (u1, u2, u3)
theorem e : atomsL [] 0 (bodyOf Try.f110) = [(0, 0, .loop c0)] := by kernel_rfl
theorem acc (t : (Vec (ByteArray × Int × Int × (Vec Int))) × (Vec (ByteArray × Int × Int × (Vec Int)))) (x : Bool) (h : F t.1 t.2 = some x) : ACc Try.prog 110 (encA t) [] true [] fun rv obs => (rv, obs) = encR x := by
  refine fun_okc (L := (L V0)) (jn := []) (cmds := []) (ks := []) (hin := []) (fn := Try.f110) (body := (bodyOf Try.f110)) Gok hm Try.func110 (by kernel_rfl) (by kernel_rfl) (by rw [e]; exact Lor.ok_cons ok0 (Lor.ok_nil _ _)) ?_ h
  refine (main laws_eqBody.Q V0 _ t.1 t.2).trans ?_
  rw [V0_enc]
  refine congrArg (fun K => B (F0 fuelN) t.1 t.2 K) ?_
  funext x1
  exact ofC_enc encRI some (x1)
theorem ac0 (t : (Vec (ByteArray × Int × Int × (Vec Int))) × (Vec (ByteArray × Int × Int × (Vec Int)))) (x : Bool) (h : F t.1 t.2 = some x) : AC Try.prog 110 (encA t) [] true [] fun rv obs => (rv, obs) = encR x := ACc.ac (body := bodyOf Try.f110) Try.func110 (by kernel_rfl) (by kernel_rfl) (acc t x h)
theorem ac (args : List AV) (x : Bool) (h : Q args = some x) : AC Try.prog 110 args [] false [] fun rv obs => (rv, obs) = encR x := by
  obtain ⟨t, rfl, h2⟩ := ofC_some h
  refine (ac0 t x h2).flat fun rv obs e => ?_
  obtain rfl : rv = (encR x).1 := congrArg Prod.fst e
  obtain rfl : obs = (encR x).2 := congrArg Prod.snd e
  refine ⟨by simp [encR, AV.Flat, K.Flat, C.Flat], ?_⟩
  simp [encR]
end laws_eqBodyS
/-! loop.example/g00073/laws.eqWeave -/
namespace laws_eqWeave
noncomputable def B {ρ : Type} (C0 : (Vec (Vec Int)) → (Vec (Vec Int)) → Option Bool) (C1 : (Vec (ByteArray × Int × Int × (Vec Int))) → (Vec (ByteArray × Int × Int × (Vec Int))) → Option Bool) (a1 : Vec (Vec Int)) (a2 : Vec (ByteArray × Int × Int × (Vec Int))) (a3 : Vec (Vec Int)) (a4 : Vec (ByteArray × Int × Int × (Vec Int))) (K : Bool → Option ρ) : Option ρ :=
  (C0 a1 a3).bind fun r1 => sel ((!r1)) (K false) ((C1 a2 a4).bind fun r2 => sel ((!r2)) (K false) (K true))
noncomputable def F (a1 : Vec (Vec Int)) (a2 : Vec (ByteArray × Int × Int × (Vec Int))) (a3 : Vec (Vec Int)) (a4 : Vec (ByteArray × Int × Int × (Vec Int))) : Option Bool := B laws_eqIntSS.F laws_eqBodyS.F a1 a2 a3 a4 (fun x1 => some (x1))
def encA (t : Vec (Vec Int) × (Vec (ByteArray × Int × Int × (Vec Int))) × Vec (Vec Int) × (Vec (ByteArray × Int × Int × (Vec Int)))) : List AV := [.a [cl t.1, cl t.2.1], .a [cl t.2.2.1, cl t.2.2.2]]
def encR (x : Bool) : AV × List Ob := (vb x, [])
theorem encAI : ∀ a b, encA a = encA b → a = b := by
  intro a b h
  obtain ⟨a0, a1, a2, a3⟩ := a
  obtain ⟨b0, b1, b2, b3⟩ := b
  simp [encA, encRw_iff] at h
  simp_all
theorem encRI : ∀ a b, encR a = encR b → a = b := by
  intro a b h
  simp [encR, encRw_iff] at h
  simp_all
noncomputable def Q (args : List AV) : Option Bool := ofC encA (fun t => F t.1 t.2.1 t.2.2.1 t.2.2.2) args
theorem wrap : (fun (y1 : Vec (Vec Int)) (y2 : Vec (ByteArray × Int × Int × (Vec Int))) (y3 : Vec (Vec Int)) (y4 : Vec (ByteArray × Int × Int × (Vec Int))) => Q [.a [cl y1, cl y2], .a [cl y3, cl y4]]) = F := by
  funext y1 y2 y3 y4
  exact ofC_enc encAI _ (y1, y2, y3, y4)
noncomputable def G (Q0 : List AV → Option Bool) (Q1 : List AV → Option Bool) : Orc := ⟨fun f => sel (Nat.beq f 54) 0 (sel (Nat.beq f 110) 0 (9)), fun ρ f args K => sel (Nat.beq f 54) (qEntry laws_eqIntSS.encR Q0 args K) (sel (Nat.beq f 110) (qEntry laws_eqBodyS.encR Q1 args K) (Option.none)), noE, false⟩
noncomputable def L : Lor := fun ρ j st K => Option.none
theorem main (Q0 Q1) {ρ : Type} (K : AV → List Ob → Option ρ) (a1 a2 a3 a4) : exC Try.prog (G Q0 Q1) (L) [] 0 (bodyOf Try.f75) (entry 17 [.a [cl a1, cl a2], .a [cl a3, cl a4]] [] []) (finO Try.prog Try.f75.results.toList 0 [] [] K) =
    B (fun y1 y2 => Q0 [vl y1, vl y2]) (fun y1 y2 => Q1 [vl y1, vl y2]) a1 a2 a3 a4 (fun x1 => K (vb x1) []) := by kernel_rfl
theorem Gok : (G laws_eqIntSS.Q laws_eqBodyS.Q).ok Try.prog := ⟨(by
    intro ρ f args K r h
    rcases sel_cases h with ⟨hb, h⟩ | ⟨-, h⟩
    · obtain rfl := beq_nat hb
      exact qEntry_ok laws_eqIntSS.ac h
    rcases sel_cases h with ⟨hb, h⟩ | ⟨-, h⟩
    · obtain rfl := beq_nat hb
      exact qEntry_ok laws_eqBodyS.ac h
    cases h),
  (by
    intro ρ f args K
    simp only [G]
    cases Nat.beq f 54 with
    | true => exact qEntry_nat args K
    | false =>
    simp only [sel]
    cases Nat.beq f 110 with
    | true => exact qEntry_nat args K
    | false =>
    simp only [sel]
    rfl),
  (fun ρ f st caps args dst K r h => (by cases h))⟩
theorem hm : Try.prog.follows .mixedOrders = true := by kernel_rfl
theorem e : atomsL [] 0 (bodyOf Try.f75) = [] := by kernel_rfl
theorem acc (t : Vec (Vec Int) × (Vec (ByteArray × Int × Int × (Vec Int))) × Vec (Vec Int) × (Vec (ByteArray × Int × Int × (Vec Int)))) (x : Bool) (h : F t.1 t.2.1 t.2.2.1 t.2.2.2 = some x) : ACc Try.prog 75 (encA t) [] true [] fun rv obs => (rv, obs) = encR x := by
  refine fun_okc (L := (L)) (jn := []) (cmds := []) (ks := []) (hin := []) (fn := Try.f75) (body := (bodyOf Try.f75)) Gok hm Try.func75 (by kernel_rfl) (by kernel_rfl) (by rw [e]; exact Lor.ok_nil _ _) ?_ h
  refine (main laws_eqIntSS.Q laws_eqBodyS.Q _ t.1 t.2.1 t.2.2.1 t.2.2.2).trans ?_
  rw [laws_eqIntSS.wrap, laws_eqBodyS.wrap]
  refine congrArg (fun K => B laws_eqIntSS.F laws_eqBodyS.F t.1 t.2.1 t.2.2.1 t.2.2.2 K) ?_
  funext x1
  exact ofC_enc encRI some (x1)
theorem ac0 (t : Vec (Vec Int) × (Vec (ByteArray × Int × Int × (Vec Int))) × Vec (Vec Int) × (Vec (ByteArray × Int × Int × (Vec Int)))) (x : Bool) (h : F t.1 t.2.1 t.2.2.1 t.2.2.2 = some x) : AC Try.prog 75 (encA t) [] true [] fun rv obs => (rv, obs) = encR x := ACc.ac (body := bodyOf Try.f75) Try.func75 (by kernel_rfl) (by kernel_rfl) (acc t x h)
theorem ac (args : List AV) (x : Bool) (h : Q args = some x) : AC Try.prog 75 args [] false [] fun rv obs => (rv, obs) = encR x := by
  obtain ⟨t, rfl, h2⟩ := ofC_some h
  refine (ac0 t x h2).flat fun rv obs e => ?_
  obtain rfl : rv = (encR x).1 := congrArg Prod.fst e
  obtain rfl : obs = (encR x).2 := congrArg Prod.snd e
  refine ⟨by simp [encR, AV.Flat, K.Flat, C.Flat], ?_⟩
  simp [encR]
end laws_eqWeave
end Go.Al
