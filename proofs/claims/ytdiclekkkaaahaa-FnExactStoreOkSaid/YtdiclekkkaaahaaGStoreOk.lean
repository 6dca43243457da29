import Derived.Test.YtdiclekkkaaahaaAlE
import Derived.Test.YtdiclekkkaaahaaSC
import Derived.Test.YtdiclekkkaaahaaGCom
import Derived.Test.YtdiclekkkaaahaaGCommitsOk
import Derived.Test.YtdiclekkkaaahaaGWv
import Derived.Test.YtdiclekkkaaahaaGWl
set_option linter.unusedVariables false
set_option linter.unusedSimpArgs false
set_option linter.constructorNameAsVariable false
set_option linter.unusedSectionVars false
set_option maxRecDepth 100000
namespace Go.Al
open Go.Proofs

/-! loop.example/g00073/laws.szWeaveS -/
namespace laws_szWeaveS
noncomputable def B0 {ρ : Type} (C0 : (Vec (Vec Int)) → (Vec (ByteArray × Int × Int × (Vec Int))) → Int → Option Int) (v1 : Vec ((Vec (Vec Int)) × (Vec (ByteArray × Int × Int × (Vec Int))))) (v2 : Int) (v3 : Int) (W : (Vec ((Vec (Vec Int)) × (Vec (ByteArray × Int × Int × (Vec Int))))) → Int → Int → Option ρ) (K0 : Int → Option ρ) (Kr : Int → Option ρ) : Option ρ :=
  sel (decide (v3 < (v1.n : Int))) (chk (decide (0 ≤ v3 ∧ v3 < (v1.n : Int))) ((C0 ((v1.g v3.toNat).1) ((v1.g v3.toNat).2) v2).bind fun r1 => sel (decide (r1 < (0 : Int))) (Kr (-1 : Int)) (W v1 r1 (wr (v3 + (1 : Int)))))) (K0 v2)
noncomputable def F0 {ρ : Type} : Nat → (Vec ((Vec (Vec Int)) × (Vec (ByteArray × Int × Int × (Vec Int))))) → Int → Int → (Int → Option ρ) → (Int → Option ρ) → Option ρ
  | 0, _, _, _, _, _ => none
  | k + 1, v1, v2, v3, K0, Kr => B0 laws_szWeave.F v1 v2 v3 (fun v1' v2' v3' => F0 k v1' v2' v3' K0 Kr) K0 Kr
noncomputable def B {ρ : Type} (L0 : (Vec ((Vec (Vec Int)) × (Vec (ByteArray × Int × Int × (Vec Int))))) → Int → Int → (Int → Option ρ) → (Int → Option ρ) → Option ρ) (a1 : Vec ((Vec (Vec Int)) × (Vec (ByteArray × Int × Int × (Vec Int))))) (a2 : Int) (K : Int → Option ρ) : Option ρ :=
  sel (decide ((wr (a2 - (a1.n : Int))) < (0 : Int))) (K (-1 : Int)) (L0 a1 (wr (a2 - (a1.n : Int))) (0 : Int) (fun e01 => K e01) (fun x01 => K x01))
noncomputable def F (a1 : Vec ((Vec (Vec Int)) × (Vec (ByteArray × Int × Int × (Vec Int))))) (a2 : Int) : Option Int := B (F0 fuelN) a1 a2 (fun x1 => some (x1))
def encA (t : (Vec ((Vec (Vec Int)) × (Vec (ByteArray × Int × Int × (Vec Int))))) × Int) : List AV := [vl t.1, vi t.2]
def encR (x : Int) : AV × List Ob := (vi x, [])
theorem encAI : ∀ a b, encA a = encA b → a = b := by
  intro a b h
  obtain ⟨a0, a1⟩ := a
  obtain ⟨b0, b1⟩ := b
  simp [encA, encRw_iff] at h
  simp_all
theorem encRI : ∀ a b, encR a = encR b → a = b := by
  intro a b h
  simp [encR, encRw_iff] at h
  simp_all
noncomputable def Q (args : List AV) : Option Int := ofC encA (fun t => F t.1 t.2) args
theorem wrap : (fun (y1 : Vec ((Vec (Vec Int)) × (Vec (ByteArray × Int × Int × (Vec Int))))) (y2 : Int) => Q [vl y1, vi y2]) = F := by
  funext y1 y2
  exact ofC_enc encAI _ (y1, y2)
noncomputable def G (Q0 : List AV → Option Int) : Orc := ⟨fun f => sel (Nat.beq f 66) 0 (9), fun ρ f args K => sel (Nat.beq f 66) (qEntry laws_szWeave.encR Q0 args K) (Option.none), noE, false⟩
noncomputable def L (W0 : (ρ : Type) → List AV → List Ob → (Int → Option ρ) → (Int → Option ρ) → Option ρ) : Lor := fun ρ j st K => sel (Nat.beq j 0) (cutO Try.prog 27 [0, 1, 5] 0 [] [] st fun avs obs => W0 ρ avs obs (fun z1 => K (.exit 0) (mkS 27 [1] [vi z1] [] [])) (fun z1 => K .ret (mkS 27 [4] [vi z1] [] []))) (Option.none)
noncomputable def c0 : Code := loopC (atomN [] 0 (bodyOf Try.f36) 0)
def ct0 : Cut := ⟨[0, 1, 5], []⟩
def lv0 : Exit → Cut
  | .exit 0 => ⟨[1], []⟩
  | .ret => ⟨[4], []⟩
  | _ => ⟨[], []⟩
theorem step0 (Q0) (W0) {ρ : Type} (K : Exit → St → Option ρ) (W : List AV → List Ob → Option ρ) (v1 v2 v3) : exC Try.prog (G Q0) (L W0) [] 1 c0 (mkS 27 [0, 1, 5] [vl v1, vi v2, vi v3] [] []) (bodyK Try.prog 27 0 [] ct0 W lv0 K) =
    B0 (fun y1 y2 y3 => Q0 [.a [cl y1, cl y2], vi y3]) v1 v2 v3 (fun u1 u2 u3 => W [vl u1, vi u2, vi u3] []) (fun z1 => K (.exit 0) (mkS 27 [1] [vi z1] [] [])) (fun z1 => K .ret (mkS 27 [4] [vi z1] [] [])) := by kernel_rfl
def enc0 (t : (Vec ((Vec (Vec Int)) × (Vec (ByteArray × Int × Int × (Vec Int))))) × Int × Int) : List AV × List Ob := ([vl t.1, vi t.2.1, vi t.2.2], [])
theorem enc0I : ∀ a b, enc0 a = enc0 b → a = b := by
  intro a b h
  obtain ⟨a0, a1, a2⟩ := a
  obtain ⟨b0, b1, b2⟩ := b
  simp [enc0, encRw_iff] at h
  simp_all
noncomputable def V0 : (ρ : Type) → List AV → List Ob → (Int → Option ρ) → (Int → Option ρ) → Option ρ := fun ρ avs obs k0 kr => ofC enc0 (fun t => F0 fuelN t.1 t.2.1 t.2.2 k0 kr) (avs, obs)
theorem V0_enc (ρ : Type) : (fun w1 w2 w3 k0 kr => V0 ρ [vl w1, vi w2, vi w3] [] k0 kr) = F0 fuelN := by
  funext w1 w2 w3 k0 kr
  exact ofC_enc enc0I _ (w1, w2, w3)
theorem main (Q0) (W0) {ρ : Type} (K : AV → List Ob → Option ρ) (a1 a2) : exC Try.prog (G Q0) (L W0) [] 0 (bodyOf Try.f36) (entry 27 [vl a1, vi a2] [] []) (finO Try.prog Try.f36.results.toList 0 [] [] K) =
    B (fun w1 w2 w3 k0 kr => W0 ρ [vl w1, vi w2, vi w3] [] k0 kr) a1 a2 (fun x1 => K (vi x1) []) := by kernel_rfl
theorem Gok : (G laws_szWeave.Q).ok Try.prog := ⟨(by
    intro ρ f args K r h
    rcases sel_cases h with ⟨hb, h⟩ | ⟨-, h⟩
    · obtain rfl := beq_nat hb
      exact qEntry_ok laws_szWeave.ac h
    cases h),
  (by
    intro ρ f args K
    simp only [G]
    cases Nat.beq f 66 with
    | true => exact qEntry_nat args K
    | false =>
    simp only [sel]
    rfl),
  (fun ρ f st caps args dst K r h => (by cases h))⟩
theorem hm : Try.prog.follows .mixedOrders = true := by kernel_rfl
theorem e0 : atomsL [] 1 c0 = [] := by kernel_rfl
theorem ok0 (ρ : Type) (st : St) (K : Exit → St → Option ρ) (r : ρ) (h : (L V0) ρ 0 st K = some r) : AW Try.prog (.loop c0) st fun e st' => K e st' = some r := by
  refine loop_ok (ct := ct0) (lv := lv0) (n := 27) (m := 0) (ks := []) (j := 0) (jn := []) (L := (L V0)) Gok hm (by rw [e0]; exact Lor.ok_nil _ _) enc0I (fun k t => F0 k t.1 t.2.1 t.2.2 (fun z1 => K (.exit 0) (mkS 27 [1] [vi z1] [] [])) (fun z1 => K .ret (mkS 27 [4] [vi z1] [] []))) (fun t => rfl) (fun k t => ?_) (fun _ => fuelN) h
  refine (step0 laws_szWeave.Q V0 K _ t.1 t.2.1 t.2.2).trans ?_
  rw [laws_szWeave.wrap]
  refine congrArg (fun W => B0 laws_szWeave.F t.1 t.2.1 t.2.2 W (fun z1 => K (.exit 0) (mkS 27 [1] [vi z1] [] [])) (fun z1 => K .ret (mkS 27 [4] [vi z1] [] []))) ?_
  funext u1 u2 u3
  exact ofC_enc enc0I _ (u1, u2, u3)
theorem e : atomsL [] 0 (bodyOf Try.f36) = [(0, 0, .loop c0)] := by kernel_rfl
theorem acc (t : (Vec ((Vec (Vec Int)) × (Vec (ByteArray × Int × Int × (Vec Int))))) × Int) (x : Int) (h : F t.1 t.2 = some x) : ACc Try.prog 36 (encA t) [] true [] fun rv obs => (rv, obs) = encR x := by
  refine fun_okc (L := (L V0)) (jn := []) (cmds := []) (ks := []) (hin := []) (fn := Try.f36) (body := (bodyOf Try.f36)) Gok hm Try.func36 (by kernel_rfl) (by kernel_rfl) (by rw [e]; exact Lor.ok_cons ok0 (Lor.ok_nil _ _)) ?_ h
  refine (main laws_szWeave.Q V0 _ t.1 t.2).trans ?_
  rw [V0_enc]
  refine congrArg (fun K => B (F0 fuelN) t.1 t.2 K) ?_
  funext x1
  exact ofC_enc encRI some (x1)
theorem ac0 (t : (Vec ((Vec (Vec Int)) × (Vec (ByteArray × Int × Int × (Vec Int))))) × Int) (x : Int) (h : F t.1 t.2 = some x) : AC Try.prog 36 (encA t) [] true [] fun rv obs => (rv, obs) = encR x := ACc.ac (body := bodyOf Try.f36) Try.func36 (by kernel_rfl) (by kernel_rfl) (acc t x h)
theorem ac (args : List AV) (x : Int) (h : Q args = some x) : AC Try.prog 36 args [] false [] fun rv obs => (rv, obs) = encR x := by
  obtain ⟨t, rfl, h2⟩ := ofC_some h
  refine (ac0 t x h2).flat fun rv obs e => ?_
  obtain rfl : rv = (encR x).1 := congrArg Prod.fst e
  obtain rfl : obs = (encR x).2 := congrArg Prod.snd e
  refine ⟨by simp [encR, AV.Flat, K.Flat, C.Flat], ?_⟩
  simp [encR]
end laws_szWeaveS
/-! loop.example/g00073/laws.szStore -/
namespace laws_szStore
noncomputable def B {ρ : Type} (C0 : (Vec ((Vec Int) × ByteArray × (Vec (ByteArray × Int × Int)))) → Int → Option Int) (C1 : (Vec ((Vec (Vec Int)) × (Vec (ByteArray × Int × Int × (Vec Int))))) → Int → Option Int) (a1 : Vec ((Vec Int) × ByteArray × (Vec (ByteArray × Int × Int)))) (a2 : Vec ((Vec (Vec Int)) × (Vec (ByteArray × Int × Int × (Vec Int))))) (a3 : Int) (K : Int → Option ρ) : Option ρ :=
  (C0 a1 a3).bind fun r1 => sel (decide (r1 < (0 : Int))) (K (-1 : Int)) ((C1 a2 r1).bind fun r2 => sel (decide (r2 < (0 : Int))) (K (-1 : Int)) (K r2))
noncomputable def F (a1 : Vec ((Vec Int) × ByteArray × (Vec (ByteArray × Int × Int)))) (a2 : Vec ((Vec (Vec Int)) × (Vec (ByteArray × Int × Int × (Vec Int))))) (a3 : Int) : Option Int := B laws_szCommitS.F laws_szWeaveS.F a1 a2 a3 (fun x1 => some (x1))
def encA (t : (Vec ((Vec Int) × ByteArray × (Vec (ByteArray × Int × Int)))) × (Vec ((Vec (Vec Int)) × (Vec (ByteArray × Int × Int × (Vec Int))))) × Int) : List AV := [.a [cl t.1, cl t.2.1], vi t.2.2]
def encR (x : Int) : AV × List Ob := (vi x, [])
theorem encAI : ∀ a b, encA a = encA b → a = b := by
  intro a b h
  obtain ⟨a0, a1, a2⟩ := a
  obtain ⟨b0, b1, b2⟩ := b
  simp [encA, encRw_iff] at h
  simp_all
theorem encRI : ∀ a b, encR a = encR b → a = b := by
  intro a b h
  simp [encR, encRw_iff] at h
  simp_all
noncomputable def Q (args : List AV) : Option Int := ofC encA (fun t => F t.1 t.2.1 t.2.2) args
theorem wrap : (fun (y1 : Vec ((Vec Int) × ByteArray × (Vec (ByteArray × Int × Int)))) (y2 : Vec ((Vec (Vec Int)) × (Vec (ByteArray × Int × Int × (Vec Int))))) (y3 : Int) => Q [.a [cl y1, cl y2], vi y3]) = F := by
  funext y1 y2 y3
  exact ofC_enc encAI _ (y1, y2, y3)
noncomputable def G (Q0 : List AV → Option Int) (Q1 : List AV → Option Int) : Orc := ⟨fun f => sel (Nat.beq f 6) 0 (sel (Nat.beq f 36) 0 (9)), fun ρ f args K => sel (Nat.beq f 6) (qEntry laws_szCommitS.encR Q0 args K) (sel (Nat.beq f 36) (qEntry laws_szWeaveS.encR Q1 args K) (Option.none)), noE, false⟩
noncomputable def L : Lor := fun ρ j st K => Option.none
theorem main (Q0 Q1) {ρ : Type} (K : AV → List Ob → Option ρ) (a1 a2 a3) : exC Try.prog (G Q0 Q1) (L) [] 0 (bodyOf Try.f13) (entry 18 [.a [cl a1, cl a2], vi a3] [] []) (finO Try.prog Try.f13.results.toList 0 [] [] K) =
    B (fun y1 y2 => Q0 [vl y1, vi y2]) (fun y1 y2 => Q1 [vl y1, vi y2]) a1 a2 a3 (fun x1 => K (vi x1) []) := by kernel_rfl
theorem Gok : (G laws_szCommitS.Q laws_szWeaveS.Q).ok Try.prog := ⟨(by
    intro ρ f args K r h
    rcases sel_cases h with ⟨hb, h⟩ | ⟨-, h⟩
    · obtain rfl := beq_nat hb
      exact qEntry_ok laws_szCommitS.ac h
    rcases sel_cases h with ⟨hb, h⟩ | ⟨-, h⟩
    · obtain rfl := beq_nat hb
      exact qEntry_ok laws_szWeaveS.ac h
    cases h),
  (by
    intro ρ f args K
    simp only [G]
    cases Nat.beq f 6 with
    | true => exact qEntry_nat args K
    | false =>
    simp only [sel]
    cases Nat.beq f 36 with
    | true => exact qEntry_nat args K
    | false =>
    simp only [sel]
    rfl),
  (fun ρ f st caps args dst K r h => (by cases h))⟩
theorem hm : Try.prog.follows .mixedOrders = true := by kernel_rfl
theorem e : atomsL [] 0 (bodyOf Try.f13) = [] := by kernel_rfl
theorem acc (t : (Vec ((Vec Int) × ByteArray × (Vec (ByteArray × Int × Int)))) × (Vec ((Vec (Vec Int)) × (Vec (ByteArray × Int × Int × (Vec Int))))) × Int) (x : Int) (h : F t.1 t.2.1 t.2.2 = some x) : ACc Try.prog 13 (encA t) [] true [] fun rv obs => (rv, obs) = encR x := by
  refine fun_okc (L := (L)) (jn := []) (cmds := []) (ks := []) (hin := []) (fn := Try.f13) (body := (bodyOf Try.f13)) Gok hm Try.func13 (by kernel_rfl) (by kernel_rfl) (by rw [e]; exact Lor.ok_nil _ _) ?_ h
  refine (main laws_szCommitS.Q laws_szWeaveS.Q _ t.1 t.2.1 t.2.2).trans ?_
  rw [laws_szCommitS.wrap, laws_szWeaveS.wrap]
  refine congrArg (fun K => B laws_szCommitS.F laws_szWeaveS.F t.1 t.2.1 t.2.2 K) ?_
  funext x1
  exact ofC_enc encRI some (x1)
theorem ac0 (t : (Vec ((Vec Int) × ByteArray × (Vec (ByteArray × Int × Int)))) × (Vec ((Vec (Vec Int)) × (Vec (ByteArray × Int × Int × (Vec Int))))) × Int) (x : Int) (h : F t.1 t.2.1 t.2.2 = some x) : AC Try.prog 13 (encA t) [] true [] fun rv obs => (rv, obs) = encR x := ACc.ac (body := bodyOf Try.f13) Try.func13 (by kernel_rfl) (by kernel_rfl) (acc t x h)
theorem ac (args : List AV) (x : Int) (h : Q args = some x) : AC Try.prog 13 args [] false [] fun rv obs => (rv, obs) = encR x := by
  obtain ⟨t, rfl, h2⟩ := ofC_some h
  refine (ac0 t x h2).flat fun rv obs e => ?_
  obtain rfl : rv = (encR x).1 := congrArg Prod.fst e
  obtain rfl : obs = (encR x).2 := congrArg Prod.snd e
  refine ⟨by simp [encR, AV.Flat, K.Flat, C.Flat], ?_⟩
  simp [encR]
end laws_szStore
/-! loop.example/g00073/laws.toWeaveS -/
namespace laws_toWeaveS
noncomputable def B0 {ρ : Type} (C0 : (Vec (Vec Int)) → (Vec (ByteArray × Int × Int × (Vec Int))) → Option (Vec (Vec Int) × (Vec (ByteArray × Int × Int × (Vec Int))))) (v1 : Vec ((Vec (Vec Int)) × (Vec (ByteArray × Int × Int × (Vec Int))))) (v2 : Int) (v3 : Vec ((Vec (Vec Int)) × (Vec (ByteArray × Int × Int × (Vec Int))))) (W : (Vec ((Vec (Vec Int)) × (Vec (ByteArray × Int × Int × (Vec Int))))) → Int → (Vec ((Vec (Vec Int)) × (Vec (ByteArray × Int × Int × (Vec Int))))) → Option ρ) (K0 : (Vec ((Vec (Vec Int)) × (Vec (ByteArray × Int × Int × (Vec Int))))) → Option ρ) : Option ρ :=
  sel (decide (v2 < (v1.n : Int))) (chk (decide (0 ≤ v2 ∧ v2 < (v1.n : Int))) ((C0 ((v1.g v2.toNat).1) ((v1.g v2.toNat).2)).bind fun r1 => chk (decide (0 ≤ v2 ∧ v2 < (v3.n : Int))) (chk (decide (v2.toNat < v3.n)) (W v1 (wr (v2 + (1 : Int))) (Vec.set v3 v2.toNat (r1.1, r1.2)))))) (K0 v3)
noncomputable def F0 {ρ : Type} : Nat → (Vec ((Vec (Vec Int)) × (Vec (ByteArray × Int × Int × (Vec Int))))) → Int → (Vec ((Vec (Vec Int)) × (Vec (ByteArray × Int × Int × (Vec Int))))) → ((Vec ((Vec (Vec Int)) × (Vec (ByteArray × Int × Int × (Vec Int))))) → Option ρ) → Option ρ
  | 0, _, _, _, _ => none
  | k + 1, v1, v2, v3, K0 => B0 laws_toWeave.F v1 v2 v3 (fun v1' v2' v3' => F0 k v1' v2' v3' K0) K0
noncomputable def B {ρ : Type} (L0 : (Vec ((Vec (Vec Int)) × (Vec (ByteArray × Int × Int × (Vec Int))))) → Int → (Vec ((Vec (Vec Int)) × (Vec (ByteArray × Int × Int × (Vec Int))))) → ((Vec ((Vec (Vec Int)) × (Vec (ByteArray × Int × Int × (Vec Int))))) → Option ρ) → Option ρ) (a1 : Vec ((Vec (Vec Int)) × (Vec (ByteArray × Int × Int × (Vec Int))))) (K : (Vec ((Vec (Vec Int)) × (Vec (ByteArray × Int × Int × (Vec Int))))) → Option ρ) : Option ρ :=
  chk (decide ((a1.n : Int) = (a1.n : Int) ∧ 0 ≤ (a1.n : Int))) (chk (mkOk (a1.n : Int) 48) (L0 a1 (0 : Int) (Vec.rep ((a1.n : Int).toNat) (Vec.nil, Vec.nil) : Vec ((Vec (Vec Int)) × (Vec (ByteArray × Int × Int × (Vec Int))))) (fun e01 => K e01)))
noncomputable def F (a1 : Vec ((Vec (Vec Int)) × (Vec (ByteArray × Int × Int × (Vec Int))))) : Option (Vec ((Vec (Vec Int)) × (Vec (ByteArray × Int × Int × (Vec Int))))) := B (F0 fuelN) a1 (fun x1 => some (x1))
def encA (t : Vec ((Vec (Vec Int)) × (Vec (ByteArray × Int × Int × (Vec Int))))) : List AV := [vl t]
def encR (x : Vec ((Vec (Vec Int)) × (Vec (ByteArray × Int × Int × (Vec Int))))) : AV × List Ob := (.c (.h 0), [ro x])
theorem encAI : ∀ a b, encA a = encA b → a = b := by
  intro a b h
  simp [encA, encRw_iff] at h
  simp_all
theorem encRI : ∀ a b, encR a = encR b → a = b := by
  intro a b h
  simp [encR, encRw_iff] at h
  simp_all
noncomputable def Q (args : List AV) : Option (Vec ((Vec (Vec Int)) × (Vec (ByteArray × Int × Int × (Vec Int))))) := ofC encA (fun t => F t) args
theorem wrap : (fun (y1 : Vec ((Vec (Vec Int)) × (Vec (ByteArray × Int × Int × (Vec Int))))) => Q [vl y1]) = F := by
  funext y1
  exact ofC_enc encAI _ (y1)
noncomputable def G (Q0 : List AV → Option (Vec (Vec Int) × (Vec (ByteArray × Int × Int × (Vec Int))))) : Orc := ⟨fun f => sel (Nat.beq f 72) 0 (9), fun ρ f args K => sel (Nat.beq f 72) (qEntry laws_toWeave.encR Q0 args K) (Option.none), noE, false⟩
noncomputable def L (W0 : (ρ : Type) → List AV → List Ob → ((Vec ((Vec (Vec Int)) × (Vec (ByteArray × Int × Int × (Vec Int))))) → Option ρ) → Option ρ) : Lor := fun ρ j st K => sel (Nat.beq j 0) (cutO Try.prog 23 [0, 3, 4] 0 [] [] st fun avs obs => W0 ρ avs obs (fun z1 => K (.exit 0) (mkS 23 [3] [.c (.h 0)] [ro z1] []))) (Option.none)
noncomputable def c0 : Code := loopC (atomN [] 0 (bodyOf Try.f39) 0)
def ct0 : Cut := ⟨[0, 3, 4], []⟩
def lv0 : Exit → Cut
  | .exit 0 => ⟨[3], []⟩
  | _ => ⟨[], []⟩
theorem step0 (Q0) (W0) {ρ : Type} (K : Exit → St → Option ρ) (W : List AV → List Ob → Option ρ) (v1 v2 v3) : exC Try.prog (G Q0) (L W0) [] 1 c0 (mkS 23 [0, 3, 4] [vl v1, .c (.h 0), vi v2] [ro v3] []) (bodyK Try.prog 23 0 [] ct0 W lv0 K) =
    B0 (fun y1 y2 => Q0 [.a [cl y1, cl y2]]) v1 v2 v3 (fun u1 u2 u3 => W [vl u1, .c (.h 0), vi u2] [ro u3]) (fun z1 => K (.exit 0) (mkS 23 [3] [.c (.h 0)] [ro z1] [])) := by kernel_rfl
def enc0 (t : (Vec ((Vec (Vec Int)) × (Vec (ByteArray × Int × Int × (Vec Int))))) × Int × (Vec ((Vec (Vec Int)) × (Vec (ByteArray × Int × Int × (Vec Int)))))) : List AV × List Ob := ([vl t.1, .c (.h 0), vi t.2.1], [ro t.2.2])
theorem enc0I : ∀ a b, enc0 a = enc0 b → a = b := by
  intro a b h
  obtain ⟨a0, a1, a2⟩ := a
  obtain ⟨b0, b1, b2⟩ := b
  simp [enc0, encRw_iff] at h
  simp_all
noncomputable def V0 : (ρ : Type) → List AV → List Ob → ((Vec ((Vec (Vec Int)) × (Vec (ByteArray × Int × Int × (Vec Int))))) → Option ρ) → Option ρ := fun ρ avs obs k0 => ofC enc0 (fun t => F0 fuelN t.1 t.2.1 t.2.2 k0) (avs, obs)
theorem V0_enc (ρ : Type) : (fun w1 w2 w3 k0 => V0 ρ [vl w1, .c (.h 0), vi w2] [ro w3] k0) = F0 fuelN := by
  funext w1 w2 w3 k0
  exact ofC_enc enc0I _ (w1, w2, w3)
theorem main (Q0) (W0) {ρ : Type} (K : AV → List Ob → Option ρ) (a1) : exC Try.prog (G Q0) (L W0) [] 0 (bodyOf Try.f39) (entry 23 [vl a1] [] []) (finO Try.prog Try.f39.results.toList 0 [] [] K) =
    B (fun w1 w2 w3 k0 => W0 ρ [vl w1, .c (.h 0), vi w2] [ro w3] k0) a1 (fun x1 => K (.c (.h 0)) [ro x1]) := by kernel_rfl
theorem Gok : (G laws_toWeave.Q).ok Try.prog := ⟨(by
    intro ρ f args K r h
    rcases sel_cases h with ⟨hb, h⟩ | ⟨-, h⟩
    · obtain rfl := beq_nat hb
      exact qEntry_ok laws_toWeave.ac h
    cases h),
  (by
    intro ρ f args K
    simp only [G]
    cases Nat.beq f 72 with
    | true => exact qEntry_nat args K
    | false =>
    simp only [sel]
    rfl),
  (fun ρ f st caps args dst K r h => (by cases h))⟩
theorem hm : Try.prog.follows .mixedOrders = true := by kernel_rfl
theorem e0 : atomsL [] 1 c0 = [] := by kernel_rfl
theorem ok0 (ρ : Type) (st : St) (K : Exit → St → Option ρ) (r : ρ) (h : (L V0) ρ 0 st K = some r) : AW Try.prog (.loop c0) st fun e st' => K e st' = some r := by
  refine loop_ok (ct := ct0) (lv := lv0) (n := 23) (m := 0) (ks := []) (j := 0) (jn := []) (L := (L V0)) Gok hm (by rw [e0]; exact Lor.ok_nil _ _) enc0I (fun k t => F0 k t.1 t.2.1 t.2.2 (fun z1 => K (.exit 0) (mkS 23 [3] [.c (.h 0)] [ro z1] []))) (fun t => rfl) (fun k t => ?_) (fun _ => fuelN) h
  refine (step0 laws_toWeave.Q V0 K _ t.1 t.2.1 t.2.2).trans ?_
  rw [laws_toWeave.wrap]
  refine congrArg (fun W => B0 laws_toWeave.F t.1 t.2.1 t.2.2 W (fun z1 => K (.exit 0) (mkS 23 [3] [.c (.h 0)] [ro z1] []))) ?_
  funext u1 u2 u3
  exact ofC_enc enc0I _ (u1, u2, u3)
theorem e : atomsL [] 0 (bodyOf Try.f39) = [(0, 0, .loop c0)] := by kernel_rfl
theorem acc (t : Vec ((Vec (Vec Int)) × (Vec (ByteArray × Int × Int × (Vec Int))))) (x : Vec ((Vec (Vec Int)) × (Vec (ByteArray × Int × Int × (Vec Int))))) (h : F t = some x) : ACc Try.prog 39 (encA t) [] true [] fun rv obs => (rv, obs) = encR x := by
  refine fun_okc (L := (L V0)) (jn := []) (cmds := []) (ks := []) (hin := []) (fn := Try.f39) (body := (bodyOf Try.f39)) Gok hm Try.func39 (by kernel_rfl) (by kernel_rfl) (by rw [e]; exact Lor.ok_cons ok0 (Lor.ok_nil _ _)) ?_ h
  refine (main laws_toWeave.Q V0 _ t).trans ?_
  rw [V0_enc]
  refine congrArg (fun K => B (F0 fuelN) t K) ?_
  funext x1
  exact ofC_enc encRI some (x1)
theorem ac0 (t : Vec ((Vec (Vec Int)) × (Vec (ByteArray × Int × Int × (Vec Int))))) (x : Vec ((Vec (Vec Int)) × (Vec (ByteArray × Int × Int × (Vec Int))))) (h : F t = some x) : AC Try.prog 39 (encA t) [] true [] fun rv obs => (rv, obs) = encR x := ACc.ac (body := bodyOf Try.f39) Try.func39 (by kernel_rfl) (by kernel_rfl) (acc t x h)
theorem ac (args : List AV) (x : Vec ((Vec (Vec Int)) × (Vec (ByteArray × Int × Int × (Vec Int))))) (h : Q args = some x) : AC Try.prog 39 args [] false [] fun rv obs => (rv, obs) = encR x := by
  obtain ⟨t, rfl, h2⟩ := ofC_some h
  refine (ac0 t x h2).flat fun rv obs e => ?_
  obtain rfl : rv = (encR x).1 := congrArg Prod.fst e
  obtain rfl : obs = (encR x).2 := congrArg Prod.snd e
  refine ⟨by simp [encR, AV.Flat, K.Flat, C.Flat], ?_⟩
  intro o ho
  simp only [encR, List.mem_cons, List.not_mem_nil, or_false] at ho
  subst ho
  exact flat_rw rfl _
end laws_toWeaveS
/-! loop.example/g00073/laws.toStore -/
namespace laws_toStore
noncomputable def B {ρ : Type} (C0 : (Vec ((Vec Int) × ByteArray × (Vec (ByteArray × Int × Int)))) → Option (Vec ((Vec Int) × ByteArray × (Vec (ByteArray × Int × Int))))) (C1 : (Vec ((Vec (Vec Int)) × (Vec (ByteArray × Int × Int × (Vec Int))))) → Option (Vec ((Vec (Vec Int)) × (Vec (ByteArray × Int × Int × (Vec Int)))))) (a1 : Vec ((Vec Int) × ByteArray × (Vec (ByteArray × Int × Int)))) (a2 : Vec ((Vec (Vec Int)) × (Vec (ByteArray × Int × Int × (Vec Int))))) (K : (Vec ((Vec Int) × ByteArray × (Vec (ByteArray × Int × Int)))) → (Vec ((Vec (Vec Int)) × (Vec (ByteArray × Int × Int × (Vec Int))))) → Option ρ) : Option ρ :=
  (C0 a1).bind fun r1 => (C1 a2).bind fun r2 => K r1 r2
noncomputable def F (a1 : Vec ((Vec Int) × ByteArray × (Vec (ByteArray × Int × Int)))) (a2 : Vec ((Vec (Vec Int)) × (Vec (ByteArray × Int × Int × (Vec Int))))) : Option ((Vec ((Vec Int) × ByteArray × (Vec (ByteArray × Int × Int)))) × (Vec ((Vec (Vec Int)) × (Vec (ByteArray × Int × Int × (Vec Int)))))) := B laws_toCommitS.F laws_toWeaveS.F a1 a2 (fun x1 x2 => some (x1, x2))
def encA (t : (Vec ((Vec Int) × ByteArray × (Vec (ByteArray × Int × Int)))) × (Vec ((Vec (Vec Int)) × (Vec (ByteArray × Int × Int × (Vec Int)))))) : List AV := [.a [cl t.1, cl t.2]]
def encR (x : (Vec ((Vec Int) × ByteArray × (Vec (ByteArray × Int × Int)))) × (Vec ((Vec (Vec Int)) × (Vec (ByteArray × Int × Int × (Vec Int)))))) : AV × List Ob := (.a [.h 0, .h 1], [ro x.1, ro x.2])
theorem encAI : ∀ a b, encA a = encA b → a = b := by
  intro a b h
  obtain ⟨a0, a1⟩ := a
  obtain ⟨b0, b1⟩ := b
  simp [encA, encRw_iff] at h
  simp_all
theorem encRI : ∀ a b, encR a = encR b → a = b := by
  intro a b h
  obtain ⟨a0, a1⟩ := a
  obtain ⟨b0, b1⟩ := b
  simp [encR, encRw_iff] at h
  simp_all
noncomputable def Q (args : List AV) : Option ((Vec ((Vec Int) × ByteArray × (Vec (ByteArray × Int × Int)))) × (Vec ((Vec (Vec Int)) × (Vec (ByteArray × Int × Int × (Vec Int)))))) := ofC encA (fun t => F t.1 t.2) args
theorem wrap : (fun (y1 : Vec ((Vec Int) × ByteArray × (Vec (ByteArray × Int × Int)))) (y2 : Vec ((Vec (Vec Int)) × (Vec (ByteArray × Int × Int × (Vec Int))))) => Q [.a [cl y1, cl y2]]) = F := by
  funext y1 y2
  exact ofC_enc encAI _ (y1, y2)
noncomputable def G (Q0 : List AV → Option (Vec ((Vec Int) × ByteArray × (Vec (ByteArray × Int × Int))))) (Q1 : List AV → Option (Vec ((Vec (Vec Int)) × (Vec (ByteArray × Int × Int × (Vec Int)))))) : Orc := ⟨fun f => sel (Nat.beq f 8) 0 (sel (Nat.beq f 39) 0 (9)), fun ρ f args K => sel (Nat.beq f 8) (qEntry laws_toCommitS.encR Q0 args K) (sel (Nat.beq f 39) (qEntry laws_toWeaveS.encR Q1 args K) (Option.none)), noE, false⟩
noncomputable def L : Lor := fun ρ j st K => Option.none
theorem main (Q0 Q1) {ρ : Type} (K : AV → List Ob → Option ρ) (a1 a2) : exC Try.prog (G Q0 Q1) (L) [] 0 (bodyOf Try.f15) (entry 13 [.a [cl a1, cl a2]] [] []) (finO Try.prog Try.f15.results.toList 0 [] [] K) =
    B (fun y1 => Q0 [vl y1]) (fun y1 => Q1 [vl y1]) a1 a2 (fun x1 x2 => K (.a [.h 0, .h 1]) [ro x1, ro x2]) := by kernel_rfl
theorem Gok : (G laws_toCommitS.Q laws_toWeaveS.Q).ok Try.prog := ⟨(by
    intro ρ f args K r h
    rcases sel_cases h with ⟨hb, h⟩ | ⟨-, h⟩
    · obtain rfl := beq_nat hb
      exact qEntry_ok laws_toCommitS.ac h
    rcases sel_cases h with ⟨hb, h⟩ | ⟨-, h⟩
    · obtain rfl := beq_nat hb
      exact qEntry_ok laws_toWeaveS.ac h
    cases h),
  (by
    intro ρ f args K
    simp only [G]
    cases Nat.beq f 8 with
    | true => exact qEntry_nat args K
    | false =>
    simp only [sel]
    cases Nat.beq f 39 with
    | true => exact qEntry_nat args K
    | false =>
    simp only [sel]
    rfl),
  (fun ρ f st caps args dst K r h => (by cases h))⟩
theorem hm : Try.prog.follows .mixedOrders = true := by kernel_rfl
theorem e : atomsL [] 0 (bodyOf Try.f15) = [] := by kernel_rfl
theorem acc (t : (Vec ((Vec Int) × ByteArray × (Vec (ByteArray × Int × Int)))) × (Vec ((Vec (Vec Int)) × (Vec (ByteArray × Int × Int × (Vec Int)))))) (x : (Vec ((Vec Int) × ByteArray × (Vec (ByteArray × Int × Int)))) × (Vec ((Vec (Vec Int)) × (Vec (ByteArray × Int × Int × (Vec Int)))))) (h : F t.1 t.2 = some x) : ACc Try.prog 15 (encA t) [] true [] fun rv obs => (rv, obs) = encR x := by
  refine fun_okc (L := (L)) (jn := []) (cmds := []) (ks := []) (hin := []) (fn := Try.f15) (body := (bodyOf Try.f15)) Gok hm Try.func15 (by kernel_rfl) (by kernel_rfl) (by rw [e]; exact Lor.ok_nil _ _) ?_ h
  refine (main laws_toCommitS.Q laws_toWeaveS.Q _ t.1 t.2).trans ?_
  rw [laws_toCommitS.wrap, laws_toWeaveS.wrap]
  refine congrArg (fun K => B laws_toCommitS.F laws_toWeaveS.F t.1 t.2 K) ?_
  funext x1 x2
  exact ofC_enc encRI some (x1, x2)
theorem ac0 (t : (Vec ((Vec Int) × ByteArray × (Vec (ByteArray × Int × Int)))) × (Vec ((Vec (Vec Int)) × (Vec (ByteArray × Int × Int × (Vec Int)))))) (x : (Vec ((Vec Int) × ByteArray × (Vec (ByteArray × Int × Int)))) × (Vec ((Vec (Vec Int)) × (Vec (ByteArray × Int × Int × (Vec Int)))))) (h : F t.1 t.2 = some x) : AC Try.prog 15 (encA t) [] true [] fun rv obs => (rv, obs) = encR x := ACc.ac (body := bodyOf Try.f15) Try.func15 (by kernel_rfl) (by kernel_rfl) (acc t x h)
theorem ac (args : List AV) (x : (Vec ((Vec Int) × ByteArray × (Vec (ByteArray × Int × Int)))) × (Vec ((Vec (Vec Int)) × (Vec (ByteArray × Int × Int × (Vec Int)))))) (h : Q args = some x) : AC Try.prog 15 args [] false [] fun rv obs => (rv, obs) = encR x := by
  obtain ⟨t, rfl, h2⟩ := ofC_some h
  refine (ac0 t x h2).flat fun rv obs e => ?_
  obtain rfl : rv = (encR x).1 := congrArg Prod.fst e
  obtain rfl : obs = (encR x).2 := congrArg Prod.snd e
  refine ⟨by simp [encR, AV.Flat, K.Flat, C.Flat], ?_⟩
  intro o ho
  simp only [encR, List.mem_cons, List.not_mem_nil, or_false] at ho
  rcases ho with rfl | rfl
  · exact flat_rw rfl _
  · exact flat_rw rfl _
end laws_toStore
/-! loop.example/g00073/spec.l15Versions -/
namespace spec_l15Versions
noncomputable def B0 {ρ : Type} (v1 : Int) (v2 : Vec ((Vec Int) × ByteArray × (Vec (ByteArray × Int × Int)))) (v3 : Vec ((Vec (Vec Int)) × (Vec (ByteArray × Int × Int × (Vec Int))))) (v4 : Vec Int) (W : Int → (Vec ((Vec Int) × ByteArray × (Vec (ByteArray × Int × Int)))) → (Vec ((Vec (Vec Int)) × (Vec (ByteArray × Int × Int × (Vec Int))))) → (Vec Int) → Option ρ) (K0 : (Vec Int) → Option ρ) : Option ρ :=
  sel (decide (v1 < (v3.n : Int))) (chk (decide (0 ≤ v1 ∧ v1 < (v3.n : Int))) (chk (decide ((v4.n + (Vec.lit [(((v3.g v1.toNat).1).n : Int)] : Vec Int).n) * 9 ≤ maxN)) (W (wr (v1 + (1 : Int))) v2 v3 (Vec.app v4 (Vec.lit [(((v3.g v1.toNat).1).n : Int)] : Vec Int))))) (K0 v4)
noncomputable def F0 {ρ : Type} : Nat → Int → (Vec ((Vec Int) × ByteArray × (Vec (ByteArray × Int × Int)))) → (Vec ((Vec (Vec Int)) × (Vec (ByteArray × Int × Int × (Vec Int))))) → (Vec Int) → ((Vec Int) → Option ρ) → Option ρ
  | 0, _, _, _, _, _ => none
  | k + 1, v1, v2, v3, v4, K0 => B0 v1 v2 v3 v4 (fun v1' v2' v3' v4' => F0 k v1' v2' v3' v4' K0) K0
noncomputable def B {ρ : Type} (L0 : Int → (Vec ((Vec Int) × ByteArray × (Vec (ByteArray × Int × Int)))) → (Vec ((Vec (Vec Int)) × (Vec (ByteArray × Int × Int × (Vec Int))))) → (Vec Int) → ((Vec Int) → Option ρ) → Option ρ) (a1 : Vec ((Vec Int) × ByteArray × (Vec (ByteArray × Int × Int)))) (a2 : Vec ((Vec (Vec Int)) × (Vec (ByteArray × Int × Int × (Vec Int))))) (K : (Vec Int) → Option ρ) : Option ρ :=
  L0 (0 : Int) a1 a2 (Vec.nil : Vec Int) (fun e01 => K e01)
noncomputable def F (a1 : Vec ((Vec Int) × ByteArray × (Vec (ByteArray × Int × Int)))) (a2 : Vec ((Vec (Vec Int)) × (Vec (ByteArray × Int × Int × (Vec Int))))) : Option (Vec Int) := B (F0 fuelN) a1 a2 (fun x1 => some (x1))
def encA (t : (Vec ((Vec Int) × ByteArray × (Vec (ByteArray × Int × Int)))) × (Vec ((Vec (Vec Int)) × (Vec (ByteArray × Int × Int × (Vec Int)))))) : List AV := [.a [cl t.1, cl t.2]]
def encR (x : Vec Int) : AV × List Ob := (.c (.h 0), [ro x])
theorem encAI : ∀ a b, encA a = encA b → a = b := by
  intro a b h
  obtain ⟨a0, a1⟩ := a
  obtain ⟨b0, b1⟩ := b
  simp [encA, encRw_iff] at h
  simp_all
theorem encRI : ∀ a b, encR a = encR b → a = b := by
  intro a b h
  simp [encR, encRw_iff] at h
  simp_all
noncomputable def Q (args : List AV) : Option (Vec Int) := ofC encA (fun t => F t.1 t.2) args
theorem wrap : (fun (y1 : Vec ((Vec Int) × ByteArray × (Vec (ByteArray × Int × Int)))) (y2 : Vec ((Vec (Vec Int)) × (Vec (ByteArray × Int × Int × (Vec Int))))) => Q [.a [cl y1, cl y2]]) = F := by
  funext y1 y2
  exact ofC_enc encAI _ (y1, y2)
noncomputable def G : Orc := ⟨fun f => 9, fun ρ f args K => Option.none, noE, false⟩
noncomputable def L (W0 : (ρ : Type) → List AV → List Ob → ((Vec Int) → Option ρ) → Option ρ) : Lor := fun ρ j st K => sel (Nat.beq j 0) (cutO Try.prog 24 [1, 3, 4] 0 [] [.ad (.s 3) 23] st fun avs obs => W0 ρ avs obs (fun z1 => K (.exit 0) (mkS 24 [3] [.c (.h 0)] [ro z1] []))) (Option.none)
noncomputable def c0 : Code := loopC (atomN [] 0 (bodyOf Try.f38) 0)
def ct0 : Cut := ⟨[1, 3, 4], [.ad (.s 3) 23]⟩
def lv0 : Exit → Cut
  | .exit 0 => ⟨[3], []⟩
  | _ => ⟨[], []⟩
theorem step0 (W0) {ρ : Type} (K : Exit → St → Option ρ) (W : List AV → List Ob → Option ρ) (v1 v2 v3 v4) : exC Try.prog (G) (L W0) [] 1 c0 (mkS 24 [1, 3, 4] [.c (.p 0 0), .c (.h 1), vi v1] [.box [cl v2, cl v3], ro v4] []) (bodyK Try.prog 24 0 [] ct0 W lv0 K) =
    B0 v1 v2 v3 v4 (fun u1 u2 u3 u4 => W [.c (.p 0 0), .c (.h 1), vi u1] [.box [cl u2, cl u3], ro u4]) (fun z1 => K (.exit 0) (mkS 24 [3] [.c (.h 0)] [ro z1] [])) := by kernel_rfl
def enc0 (t : Int × (Vec ((Vec Int) × ByteArray × (Vec (ByteArray × Int × Int)))) × (Vec ((Vec (Vec Int)) × (Vec (ByteArray × Int × Int × (Vec Int))))) × Vec Int) : List AV × List Ob := ([.c (.p 0 0), .c (.h 1), vi t.1], [.box [cl t.2.1, cl t.2.2.1], ro t.2.2.2])
theorem enc0I : ∀ a b, enc0 a = enc0 b → a = b := by
  intro a b h
  obtain ⟨a0, a1, a2, a3⟩ := a
  obtain ⟨b0, b1, b2, b3⟩ := b
  simp [enc0, encRw_iff] at h
  simp_all
noncomputable def V0 : (ρ : Type) → List AV → List Ob → ((Vec Int) → Option ρ) → Option ρ := fun ρ avs obs k0 => ofC enc0 (fun t => F0 fuelN t.1 t.2.1 t.2.2.1 t.2.2.2 k0) (avs, obs)
theorem V0_enc (ρ : Type) : (fun w1 w2 w3 w4 k0 => V0 ρ [.c (.p 0 0), .c (.h 1), vi w1] [.box [cl w2, cl w3], ro w4] k0) = F0 fuelN := by
  funext w1 w2 w3 w4 k0
  exact ofC_enc enc0I _ (w1, w2, w3, w4)
theorem main (W0) {ρ : Type} (K : AV → List Ob → Option ρ) (a1 a2) : exC Try.prog (G) (L W0) [] 0 (bodyOf Try.f38) (entry 24 [.a [cl a1, cl a2]] [] []) (finO Try.prog Try.f38.results.toList 0 [] [] K) =
    B (fun w1 w2 w3 w4 k0 => W0 ρ [.c (.p 0 0), .c (.h 1), vi w1] [.box [cl w2, cl w3], ro w4] k0) a1 a2 (fun x1 => K (.c (.h 0)) [ro x1]) := by kernel_rfl
theorem Gok : (G).ok Try.prog := ⟨(fun ρ f args K r h => (by cases h)),
  (fun ρ f args K => rfl),
  (fun ρ f st caps args dst K r h => (by cases h))⟩
theorem hm : Try.prog.follows .mixedOrders = true := by kernel_rfl
theorem e0 : atomsL [] 1 c0 = [] := by kernel_rfl
theorem ok0 (ρ : Type) (st : St) (K : Exit → St → Option ρ) (r : ρ) (h : (L V0) ρ 0 st K = some r) : AW Try.prog (.loop c0) st fun e st' => K e st' = some r := by
  refine loop_ok (ct := ct0) (lv := lv0) (n := 24) (m := 0) (ks := []) (j := 0) (jn := []) (L := (L V0)) Gok hm (by rw [e0]; exact Lor.ok_nil _ _) enc0I (fun k t => F0 k t.1 t.2.1 t.2.2.1 t.2.2.2 (fun z1 => K (.exit 0) (mkS 24 [3] [.c (.h 0)] [ro z1] []))) (fun t => rfl) (fun k t => ?_) (fun _ => fuelN) h
  refine (step0 V0 K _ t.1 t.2.1 t.2.2.1 t.2.2.2).trans ?_
  refine congrArg (fun W => B0 t.1 t.2.1 t.2.2.1 t.2.2.2 W (fun z1 => K (.exit 0) (mkS 24 [3] [.c (.h 0)] [ro z1] []))) ?_
  funext u1 u2 u3 u4
  exact ofC_enc enc0I _ (u1, u2, u3, u4)
theorem e : atomsL [] 0 (bodyOf Try.f38) = [(0, 0, .loop c0)] := by kernel_rfl
theorem acc (t : (Vec ((Vec Int) × ByteArray × (Vec (ByteArray × Int × Int)))) × (Vec ((Vec (Vec Int)) × (Vec (ByteArray × Int × Int × (Vec Int)))))) (x : Vec Int) (h : F t.1 t.2 = some x) : ACc Try.prog 38 (encA t) [] true [] fun rv obs => (rv, obs) = encR x := by
  refine fun_okc (L := (L V0)) (jn := []) (cmds := []) (ks := []) (hin := []) (fn := Try.f38) (body := (bodyOf Try.f38)) Gok hm Try.func38 (by kernel_rfl) (by kernel_rfl) (by rw [e]; exact Lor.ok_cons ok0 (Lor.ok_nil _ _)) ?_ h
  refine (main V0 _ t.1 t.2).trans ?_
  rw [V0_enc]
  refine congrArg (fun K => B (F0 fuelN) t.1 t.2 K) ?_
  funext x1
  exact ofC_enc encRI some (x1)
theorem ac0 (t : (Vec ((Vec Int) × ByteArray × (Vec (ByteArray × Int × Int)))) × (Vec ((Vec (Vec Int)) × (Vec (ByteArray × Int × Int × (Vec Int)))))) (x : Vec Int) (h : F t.1 t.2 = some x) : AC Try.prog 38 (encA t) [] true [] fun rv obs => (rv, obs) = encR x := ACc.ac (body := bodyOf Try.f38) Try.func38 (by kernel_rfl) (by kernel_rfl) (acc t x h)
theorem ac (args : List AV) (x : Vec Int) (h : Q args = some x) : AC Try.prog 38 args [] false [] fun rv obs => (rv, obs) = encR x := by
  obtain ⟨t, rfl, h2⟩ := ofC_some h
  refine (ac0 t x h2).flat fun rv obs e => ?_
  obtain rfl : rv = (encR x).1 := congrArg Prod.fst e
  obtain rfl : obs = (encR x).2 := congrArg Prod.snd e
  refine ⟨by simp [encR, AV.Flat, K.Flat, C.Flat], ?_⟩
  intro o ho
  simp only [encR, List.mem_cons, List.not_mem_nil, or_false] at ho
  subst ho
  exact flat_rw rfl _
end spec_l15Versions
/-! loop.example/g00073/spec.StoreOk -/
namespace spec_StoreOk
noncomputable def B0 {ρ : Type} (C2 : (Vec (Vec Int)) → (Vec (ByteArray × Int × Int × (Vec Int))) → Option Bool) (v1 : Int) (v2 : Vec ((Vec Int) × ByteArray × (Vec (ByteArray × Int × Int)))) (v3 : Vec ((Vec (Vec Int)) × (Vec (ByteArray × Int × Int × (Vec Int))))) (W : Int → (Vec ((Vec Int) × ByteArray × (Vec (ByteArray × Int × Int)))) → (Vec ((Vec (Vec Int)) × (Vec (ByteArray × Int × Int × (Vec Int))))) → Option ρ) (K0 : (Vec ((Vec Int) × ByteArray × (Vec (ByteArray × Int × Int)))) → (Vec ((Vec (Vec Int)) × (Vec (ByteArray × Int × Int × (Vec Int))))) → Option ρ) (Kr : Bool → Option ρ) : Option ρ :=
  sel (decide (v1 < (v3.n : Int))) (chk (decide (0 ≤ v1 ∧ v1 < (v3.n : Int))) ((C2 ((v3.g v1.toNat).1) ((v3.g v1.toNat).2)).bind fun r3 => sel ((!r3)) (Kr false) (chk (decide (0 ≤ v1 ∧ v1 < (v3.n : Int))) (sel (decide ((((v3.g v1.toNat).1).n : Int) = (0 : Int))) (Kr false) (W (wr (v1 + (1 : Int))) v2 v3))))) (K0 v2 v3)
noncomputable def F0 {ρ : Type} : Nat → Int → (Vec ((Vec Int) × ByteArray × (Vec (ByteArray × Int × Int)))) → (Vec ((Vec (Vec Int)) × (Vec (ByteArray × Int × Int × (Vec Int))))) → ((Vec ((Vec Int) × ByteArray × (Vec (ByteArray × Int × Int)))) → (Vec ((Vec (Vec Int)) × (Vec (ByteArray × Int × Int × (Vec Int))))) → Option ρ) → (Bool → Option ρ) → Option ρ
  | 0, _, _, _, _, _ => none
  | k + 1, v1, v2, v3, K0, Kr => B0 spec_WeaveOk.F v1 v2 v3 (fun v1' v2' v3' => F0 k v1' v2' v3' K0 Kr) K0 Kr
noncomputable def B {ρ : Type} (C0 : (Vec ((Vec Int) × ByteArray × (Vec (ByteArray × Int × Int)))) → (Vec ((Vec (Vec Int)) × (Vec (ByteArray × Int × Int × (Vec Int))))) → Option (Vec Int)) (C1 : (Vec ((Vec Int) × ByteArray × (Vec (ByteArray × Int × Int)))) → (Vec Int) → Option Bool) (L0 : Int → (Vec ((Vec Int) × ByteArray × (Vec (ByteArray × Int × Int)))) → (Vec ((Vec (Vec Int)) × (Vec (ByteArray × Int × Int × (Vec Int))))) → ((Vec ((Vec Int) × ByteArray × (Vec (ByteArray × Int × Int)))) → (Vec ((Vec (Vec Int)) × (Vec (ByteArray × Int × Int × (Vec Int))))) → Option ρ) → (Bool → Option ρ) → Option ρ) (a1 : Vec ((Vec Int) × ByteArray × (Vec (ByteArray × Int × Int)))) (a2 : Vec ((Vec (Vec Int)) × (Vec (ByteArray × Int × Int × (Vec Int))))) (K : Bool → Option ρ) : Option ρ :=
  sel (decide ((12 : Int) < (a2.n : Int))) (K false) (L0 (0 : Int) a1 a2 (fun e01 e02 => (C0 e01 e02).bind fun r1 => (C1 e01 r1).bind fun r2 => K r2) (fun x01 => K x01))
noncomputable def F (a1 : Vec ((Vec Int) × ByteArray × (Vec (ByteArray × Int × Int)))) (a2 : Vec ((Vec (Vec Int)) × (Vec (ByteArray × Int × Int × (Vec Int))))) : Option Bool := B spec_l15Versions.F spec_CommitsOk.F (F0 fuelN) a1 a2 (fun x1 => some (x1))
def encA (t : (Vec ((Vec Int) × ByteArray × (Vec (ByteArray × Int × Int)))) × (Vec ((Vec (Vec Int)) × (Vec (ByteArray × Int × Int × (Vec Int)))))) : List AV := [.a [cl t.1, cl t.2]]
def encR (x : Bool) : AV × List Ob := (vb x, [])
theorem encAI : ∀ a b, encA a = encA b → a = b := by
  intro a b h
  obtain ⟨a0, a1⟩ := a
  obtain ⟨b0, b1⟩ := b
  simp [encA, encRw_iff] at h
  simp_all
theorem encRI : ∀ a b, encR a = encR b → a = b := by
  intro a b h
  simp [encR, encRw_iff] at h
  simp_all
noncomputable def Q (args : List AV) : Option Bool := ofC encA (fun t => F t.1 t.2) args
theorem wrap : (fun (y1 : Vec ((Vec Int) × ByteArray × (Vec (ByteArray × Int × Int)))) (y2 : Vec ((Vec (Vec Int)) × (Vec (ByteArray × Int × Int × (Vec Int))))) => Q [.a [cl y1, cl y2]]) = F := by
  funext y1 y2
  exact ofC_enc encAI _ (y1, y2)
noncomputable def G (Q0 : List AV → Option (Vec Int)) (Q1 : List AV → Option Bool) (Q2 : List AV → Option Bool) : Orc := ⟨fun f => sel (Nat.beq f 38) 0 (sel (Nat.beq f 7) 0 (sel (Nat.beq f 37) 0 (9))), fun ρ f args K => sel (Nat.beq f 38) (qEntry spec_l15Versions.encR Q0 args K) (sel (Nat.beq f 7) (qEntry spec_CommitsOk.encR Q1 args K) (sel (Nat.beq f 37) (qEntry spec_WeaveOk.encR Q2 args K) (Option.none))), noE, false⟩
noncomputable def L (W0 : (ρ : Type) → List AV → List Ob → ((Vec ((Vec Int) × ByteArray × (Vec (ByteArray × Int × Int)))) → (Vec ((Vec (Vec Int)) × (Vec (ByteArray × Int × Int × (Vec Int))))) → Option ρ) → (Bool → Option ρ) → Option ρ) : Lor := fun ρ j st K => sel (Nat.beq j 0) (cutO Try.prog 37 [1, 3] 0 [] [] st fun avs obs => W0 ρ avs obs (fun z1 z2 => K (.exit 0) (mkS 37 [1] [.c (.p 0 0)] [.box [cl z1, cl z2]] [])) (fun z1 => K .ret (mkS 37 [2] [vb z1] [] []))) (Option.none)
noncomputable def c0 : Code := loopC (atomN [] 0 (bodyOf Try.f14) 0)
def ct0 : Cut := ⟨[1, 3], []⟩
def lv0 : Exit → Cut
  | .exit 0 => ⟨[1], []⟩
  | .ret => ⟨[2], []⟩
  | _ => ⟨[], []⟩
theorem step0 (Q0 Q1 Q2) (W0) {ρ : Type} (K : Exit → St → Option ρ) (W : List AV → List Ob → Option ρ) (v1 v2 v3) : exC Try.prog (G Q0 Q1 Q2) (L W0) [] 1 c0 (mkS 37 [1, 3] [.c (.p 0 0), vi v1] [.box [cl v2, cl v3]] []) (bodyK Try.prog 37 0 [] ct0 W lv0 K) =
    B0 (fun y1 y2 => Q2 [.a [cl y1, cl y2]]) v1 v2 v3 (fun u1 u2 u3 => W [.c (.p 0 0), vi u1] [.box [cl u2, cl u3]]) (fun z1 z2 => K (.exit 0) (mkS 37 [1] [.c (.p 0 0)] [.box [cl z1, cl z2]] [])) (fun z1 => K .ret (mkS 37 [2] [vb z1] [] [])) := by kernel_rfl
def enc0 (t : Int × (Vec ((Vec Int) × ByteArray × (Vec (ByteArray × Int × Int)))) × (Vec ((Vec (Vec Int)) × (Vec (ByteArray × Int × Int × (Vec Int)))))) : List AV × List Ob := ([.c (.p 0 0), vi t.1], [.box [cl t.2.1, cl t.2.2]])
theorem enc0I : ∀ a b, enc0 a = enc0 b → a = b := by
  intro a b h
  obtain ⟨a0, a1, a2⟩ := a
  obtain ⟨b0, b1, b2⟩ := b
  simp [enc0, encRw_iff] at h
  simp_all
noncomputable def V0 : (ρ : Type) → List AV → List Ob → ((Vec ((Vec Int) × ByteArray × (Vec (ByteArray × Int × Int)))) → (Vec ((Vec (Vec Int)) × (Vec (ByteArray × Int × Int × (Vec Int))))) → Option ρ) → (Bool → Option ρ) → Option ρ := fun ρ avs obs k0 kr => ofC enc0 (fun t => F0 fuelN t.1 t.2.1 t.2.2 k0 kr) (avs, obs)
theorem V0_enc (ρ : Type) : (fun w1 w2 w3 k0 kr => V0 ρ [.c (.p 0 0), vi w1] [.box [cl w2, cl w3]] k0 kr) = F0 fuelN := by
  funext w1 w2 w3 k0 kr
  exact ofC_enc enc0I _ (w1, w2, w3)
theorem main (Q0 Q1 Q2) (W0) {ρ : Type} (K : AV → List Ob → Option ρ) (a1 a2) : exC Try.prog (G Q0 Q1 Q2) (L W0) [] 0 (bodyOf Try.f14) (entry 37 [.a [cl a1, cl a2]] [] []) (finO Try.prog Try.f14.results.toList 0 [] [] K) =
    B (fun y1 y2 => Q0 [.a [cl y1, cl y2]]) (fun y1 y2 => Q1 [vl y1, vl y2]) (fun w1 w2 w3 k0 kr => W0 ρ [.c (.p 0 0), vi w1] [.box [cl w2, cl w3]] k0 kr) a1 a2 (fun x1 => K (vb x1) []) := by kernel_rfl
theorem Gok : (G spec_l15Versions.Q spec_CommitsOk.Q spec_WeaveOk.Q).ok Try.prog := ⟨(by
    intro ρ f args K r h
    rcases sel_cases h with ⟨hb, h⟩ | ⟨-, h⟩
    · obtain rfl := beq_nat hb
      exact qEntry_ok spec_l15Versions.ac h
    rcases sel_cases h with ⟨hb, h⟩ | ⟨-, h⟩
    · obtain rfl := beq_nat hb
      exact qEntry_ok spec_CommitsOk.ac h
    rcases sel_cases h with ⟨hb, h⟩ | ⟨-, h⟩
    · obtain rfl := beq_nat hb
      exact qEntry_ok spec_WeaveOk.ac h
    cases h),
  (by
    intro ρ f args K
    simp only [G]
    cases Nat.beq f 38 with
    | true => exact qEntry_nat args K
    | false =>
    simp only [sel]
    cases Nat.beq f 7 with
    | true => exact qEntry_nat args K
    | false =>
    simp only [sel]
    cases Nat.beq f 37 with
    | true => exact qEntry_nat args K
    | false =>
    simp only [sel]
    rfl),
  (fun ρ f st caps args dst K r h => (by cases h))⟩
theorem hm : Try.prog.follows .mixedOrders = true := by kernel_rfl
theorem e0 : atomsL [] 1 c0 = [] := by kernel_rfl
theorem ok0 (ρ : Type) (st : St) (K : Exit → St → Option ρ) (r : ρ) (h : (L V0) ρ 0 st K = some r) : AW Try.prog (.loop c0) st fun e st' => K e st' = some r := by
  refine loop_ok (ct := ct0) (lv := lv0) (n := 37) (m := 0) (ks := []) (j := 0) (jn := []) (L := (L V0)) Gok hm (by rw [e0]; exact Lor.ok_nil _ _) enc0I (fun k t => F0 k t.1 t.2.1 t.2.2 (fun z1 z2 => K (.exit 0) (mkS 37 [1] [.c (.p 0 0)] [.box [cl z1, cl z2]] [])) (fun z1 => K .ret (mkS 37 [2] [vb z1] [] []))) (fun t => rfl) (fun k t => ?_) (fun _ => fuelN) h
  refine (step0 spec_l15Versions.Q spec_CommitsOk.Q spec_WeaveOk.Q V0 K _ t.1 t.2.1 t.2.2).trans ?_
  rw [spec_WeaveOk.wrap]
  refine congrArg (fun W => B0 spec_WeaveOk.F t.1 t.2.1 t.2.2 W (fun z1 z2 => K (.exit 0) (mkS 37 [1] [.c (.p 0 0)] [.box [cl z1, cl z2]] [])) (fun z1 => K .ret (mkS 37 [2] [vb z1] [] []))) ?_
  funext u1 u2 u3
  exact ofC_enc enc0I _ (u1, u2, u3)
theorem e : atomsL [] 0 (bodyOf Try.f14) = [(0, 0, .loop c0)] := by kernel_rfl
theorem acc (t : (Vec ((Vec Int) × ByteArray × (Vec (ByteArray × Int × Int)))) × (Vec ((Vec (Vec Int)) × (Vec (ByteArray × Int × Int × (Vec Int)))))) (x : Bool) (h : F t.1 t.2 = some x) : ACc Try.prog 14 (encA t) [] true [] fun rv obs => (rv, obs) = encR x := by
  refine fun_okc (L := (L V0)) (jn := []) (cmds := []) (ks := []) (hin := []) (fn := Try.f14) (body := (bodyOf Try.f14)) Gok hm Try.func14 (by kernel_rfl) (by kernel_rfl) (by rw [e]; exact Lor.ok_cons ok0 (Lor.ok_nil _ _)) ?_ h
  refine (main spec_l15Versions.Q spec_CommitsOk.Q spec_WeaveOk.Q V0 _ t.1 t.2).trans ?_
  rw [spec_l15Versions.wrap, spec_CommitsOk.wrap, V0_enc]
  refine congrArg (fun K => B spec_l15Versions.F spec_CommitsOk.F (F0 fuelN) t.1 t.2 K) ?_
  funext x1
  exact ofC_enc encRI some (x1)
theorem ac0 (t : (Vec ((Vec Int) × ByteArray × (Vec (ByteArray × Int × Int)))) × (Vec ((Vec (Vec Int)) × (Vec (ByteArray × Int × Int × (Vec Int)))))) (x : Bool) (h : F t.1 t.2 = some x) : AC Try.prog 14 (encA t) [] true [] fun rv obs => (rv, obs) = encR x := ACc.ac (body := bodyOf Try.f14) Try.func14 (by kernel_rfl) (by kernel_rfl) (acc t x h)
theorem ac (args : List AV) (x : Bool) (h : Q args = some x) : AC Try.prog 14 args [] false [] fun rv obs => (rv, obs) = encR x := by
  obtain ⟨t, rfl, h2⟩ := ofC_some h
  refine (ac0 t x h2).flat fun rv obs e => ?_
  obtain rfl : rv = (encR x).1 := congrArg Prod.fst e
  obtain rfl : obs = (encR x).2 := congrArg Prod.snd e
  refine ⟨by simp [encR, AV.Flat, K.Flat, C.Flat], ?_⟩
  simp [encR]
end spec_StoreOk
/-! (*loop.example/g00073/impl.Store).graphs -/
namespace impl_Store_graphs_saa75
noncomputable def B0 {ρ : Type} (v1 : Vec ((Vec (Vec Int)) × (Vec (ByteArray × Int × Int × (Vec Int))))) (v2 : Int) (v3 : Int) (v4 : Vec ((Vec Int) × ByteArray × (Vec (ByteArray × Int × Int)))) (v5 : Vec ((Vec (Vec Int)) × (Vec (ByteArray × Int × Int × (Vec Int))))) (v6 : Vec (IVec (Vec Int))) (W : (Vec ((Vec (Vec Int)) × (Vec (ByteArray × Int × Int × (Vec Int))))) → Int → Int → (Vec ((Vec Int) × ByteArray × (Vec (ByteArray × Int × Int)))) → (Vec ((Vec (Vec Int)) × (Vec (ByteArray × Int × Int × (Vec Int))))) → (Vec (IVec (Vec Int))) → Option ρ) (K0 : (Vec ((Vec Int) × ByteArray × (Vec (ByteArray × Int × Int)))) → (Vec ((Vec (Vec Int)) × (Vec (ByteArray × Int × Int × (Vec Int))))) → (Vec (IVec (Vec Int))) → Option ρ) : Option ρ :=
  sel (decide (v3 < v2)) (chk (decide (0 ≤ v3 ∧ v3 < (v1.n : Int))) (chk (decide ((v6.n + (Vec.lit [⟨(v1.g v3.toNat).1⟩] : Vec (IVec (Vec Int))).n) * 25 ≤ maxN)) (W v1 v2 (wr (v3 + (1 : Int))) v4 v5 (Vec.app v6 (Vec.lit [⟨(v1.g v3.toNat).1⟩] : Vec (IVec (Vec Int))))))) (K0 v4 v5 v6)
noncomputable def F0 {ρ : Type} : Nat → (Vec ((Vec (Vec Int)) × (Vec (ByteArray × Int × Int × (Vec Int))))) → Int → Int → (Vec ((Vec Int) × ByteArray × (Vec (ByteArray × Int × Int)))) → (Vec ((Vec (Vec Int)) × (Vec (ByteArray × Int × Int × (Vec Int))))) → (Vec (IVec (Vec Int))) → ((Vec ((Vec Int) × ByteArray × (Vec (ByteArray × Int × Int)))) → (Vec ((Vec (Vec Int)) × (Vec (ByteArray × Int × Int × (Vec Int))))) → (Vec (IVec (Vec Int))) → Option ρ) → Option ρ
  | 0, _, _, _, _, _, _, _ => none
  | k + 1, v1, v2, v3, v4, v5, v6, K0 => B0 v1 v2 v3 v4 v5 v6 (fun v1' v2' v3' v4' v5' v6' => F0 k v1' v2' v3' v4' v5' v6' K0) K0
noncomputable def B {ρ : Type} (L0 : (Vec ((Vec (Vec Int)) × (Vec (ByteArray × Int × Int × (Vec Int))))) → Int → Int → (Vec ((Vec Int) × ByteArray × (Vec (ByteArray × Int × Int)))) → (Vec ((Vec (Vec Int)) × (Vec (ByteArray × Int × Int × (Vec Int))))) → (Vec (IVec (Vec Int))) → ((Vec ((Vec Int) × ByteArray × (Vec (ByteArray × Int × Int)))) → (Vec ((Vec (Vec Int)) × (Vec (ByteArray × Int × Int × (Vec Int))))) → (Vec (IVec (Vec Int))) → Option ρ) → Option ρ) (a1 : Vec ((Vec Int) × ByteArray × (Vec (ByteArray × Int × Int)))) (a2 : Vec ((Vec (Vec Int)) × (Vec (ByteArray × Int × Int × (Vec Int))))) (K : (Vec ((Vec Int) × ByteArray × (Vec (ByteArray × Int × Int)))) → (Vec ((Vec (Vec Int)) × (Vec (ByteArray × Int × Int × (Vec Int))))) → (Vec (IVec (Vec Int))) → Option ρ) : Option ρ :=
  L0 a2 (a2.n : Int) (0 : Int) a1 a2 (Vec.nil : Vec (IVec (Vec Int))) (fun e01 e02 e03 => K e01 e02 e03)
noncomputable def F (a1 : Vec ((Vec Int) × ByteArray × (Vec (ByteArray × Int × Int)))) (a2 : Vec ((Vec (Vec Int)) × (Vec (ByteArray × Int × Int × (Vec Int))))) : Option ((Vec ((Vec Int) × ByteArray × (Vec (ByteArray × Int × Int)))) × (Vec ((Vec (Vec Int)) × (Vec (ByteArray × Int × Int × (Vec Int))))) × Vec (IVec (Vec Int))) := B (F0 fuelN) a1 a2 (fun x1 x2 x3 => some (x1, x2, x3))
def encA (t : (Vec ((Vec Int) × ByteArray × (Vec (ByteArray × Int × Int)))) × (Vec ((Vec (Vec Int)) × (Vec (ByteArray × Int × Int × (Vec Int)))))) : List AV × List Ob := ([.c (.p 0 0)], [.box [cl t.1, cl t.2]])
def encR (x : (Vec ((Vec Int) × ByteArray × (Vec (ByteArray × Int × Int)))) × (Vec ((Vec (Vec Int)) × (Vec (ByteArray × Int × Int × (Vec Int))))) × Vec (IVec (Vec Int))) : AV × List Ob := (.c (.h 1), [.box [cl x.1, cl x.2.1], ro x.2.2])
theorem encAI : ∀ a b, encA a = encA b → a = b := by
  intro a b h
  obtain ⟨a0, a1⟩ := a
  obtain ⟨b0, b1⟩ := b
  simp [encA, encRw_iff] at h
  simp_all
theorem encRI : ∀ a b, encR a = encR b → a = b := by
  intro a b h
  obtain ⟨a0, a1, a2⟩ := a
  obtain ⟨b0, b1, b2⟩ := b
  simp [encR, encRw_iff] at h
  simp_all
noncomputable def Q (args : List AV) (hin : List Ob) : Option ((Vec ((Vec Int) × ByteArray × (Vec (ByteArray × Int × Int)))) × (Vec ((Vec (Vec Int)) × (Vec (ByteArray × Int × Int × (Vec Int))))) × Vec (IVec (Vec Int))) := ofC encA (fun t => F t.1 t.2) (args, hin)
theorem wrap : (fun (y1 : Vec ((Vec Int) × ByteArray × (Vec (ByteArray × Int × Int)))) (y2 : Vec ((Vec (Vec Int)) × (Vec (ByteArray × Int × Int × (Vec Int))))) => Q [.c (.p 0 0)] [.box [cl y1, cl y2]]) = F := by
  funext y1 y2
  exact ofC_enc encAI _ (y1, y2)
noncomputable def G : Orc := ⟨fun f => 9, fun ρ f args K => Option.none, noE, false⟩
noncomputable def L (W0 : (ρ : Type) → List AV → List Ob → ((Vec ((Vec Int) × ByteArray × (Vec (ByteArray × Int × Int)))) → (Vec ((Vec (Vec Int)) × (Vec (ByteArray × Int × Int × (Vec Int))))) → (Vec (IVec (Vec Int))) → Option ρ) → Option ρ) : Lor := fun ρ j st K => sel (Nat.beq j 0) (cutO Try.prog 22 [3, 9, 10, 11] 1 [true] [.ai (.s 3) 80 [true]] st fun avs obs => W0 ρ avs obs (fun z1 z2 z3 => K (.exit 0) (mkS 22 [3] [.c (.h 1)] [.box [cl z1, cl z2], ro z3] [true]))) (Option.none)
noncomputable def c0 : Code := loopC (atomN [] 0 (bodyOf Try.f42) 0)
def ct0 : Cut := ⟨[3, 9, 10, 11], [.ai (.s 3) 80 [true]]⟩
def lv0 : Exit → Cut
  | .exit 0 => ⟨[3], []⟩
  | _ => ⟨[], []⟩
theorem step0 (W0) {ρ : Type} (K : Exit → St → Option ρ) (W : List AV → List Ob → Option ρ) (v1 v2 v3 v4 v5 v6) : exC Try.prog (G) (L W0) [] 1 c0 (mkS 22 [3, 9, 10, 11] [.c (.h 1), vl v1, vi v2, vi v3] [.box [cl v4, cl v5], ro v6] [true]) (bodyK Try.prog 22 1 [true] ct0 W lv0 K) =
    B0 v1 v2 v3 v4 v5 v6 (fun u1 u2 u3 u4 u5 u6 => W [.c (.h 1), vl u1, vi u2, vi u3] [.box [cl u4, cl u5], ro u6]) (fun z1 z2 z3 => K (.exit 0) (mkS 22 [3] [.c (.h 1)] [.box [cl z1, cl z2], ro z3] [true])) := by kernel_rfl
def enc0 (t : (Vec ((Vec (Vec Int)) × (Vec (ByteArray × Int × Int × (Vec Int))))) × Int × Int × (Vec ((Vec Int) × ByteArray × (Vec (ByteArray × Int × Int)))) × (Vec ((Vec (Vec Int)) × (Vec (ByteArray × Int × Int × (Vec Int))))) × Vec (IVec (Vec Int))) : List AV × List Ob := ([.c (.h 1), vl t.1, vi t.2.1, vi t.2.2.1], [.box [cl t.2.2.2.1, cl t.2.2.2.2.1], ro t.2.2.2.2.2])
theorem enc0I : ∀ a b, enc0 a = enc0 b → a = b := by
  intro a b h
  obtain ⟨a0, a1, a2, a3, a4, a5⟩ := a
  obtain ⟨b0, b1, b2, b3, b4, b5⟩ := b
  simp [enc0, encRw_iff] at h
  simp_all
noncomputable def V0 : (ρ : Type) → List AV → List Ob → ((Vec ((Vec Int) × ByteArray × (Vec (ByteArray × Int × Int)))) → (Vec ((Vec (Vec Int)) × (Vec (ByteArray × Int × Int × (Vec Int))))) → (Vec (IVec (Vec Int))) → Option ρ) → Option ρ := fun ρ avs obs k0 => ofC enc0 (fun t => F0 fuelN t.1 t.2.1 t.2.2.1 t.2.2.2.1 t.2.2.2.2.1 t.2.2.2.2.2 k0) (avs, obs)
theorem V0_enc (ρ : Type) : (fun w1 w2 w3 w4 w5 w6 k0 => V0 ρ [.c (.h 1), vl w1, vi w2, vi w3] [.box [cl w4, cl w5], ro w6] k0) = F0 fuelN := by
  funext w1 w2 w3 w4 w5 w6 k0
  exact ofC_enc enc0I _ (w1, w2, w3, w4, w5, w6)
theorem main (W0) {ρ : Type} (K : AV → List Ob → Option ρ) (a1 a2) : exC Try.prog (G) (L W0) [] 0 (bodyOf Try.f42) (entry 22 [.c (.p 0 0)] [.box [cl a1, cl a2]] [true]) (finO Try.prog Try.f42.results.toList 1 [true] [] K) =
    B (fun w1 w2 w3 w4 w5 w6 k0 => W0 ρ [.c (.h 1), vl w1, vi w2, vi w3] [.box [cl w4, cl w5], ro w6] k0) a1 a2 (fun x1 x2 x3 => K (.c (.h 1)) [.box [cl x1, cl x2], ro x3]) := by kernel_rfl
theorem Gok : (G).ok Try.prog := ⟨(fun ρ f args K r h => (by cases h)),
  (fun ρ f args K => rfl),
  (fun ρ f st caps args dst K r h => (by cases h))⟩
theorem hm : Try.prog.follows .mixedOrders = true := by kernel_rfl
theorem e0 : atomsL [] 1 c0 = [] := by kernel_rfl
theorem ok0 (ρ : Type) (st : St) (K : Exit → St → Option ρ) (r : ρ) (h : (L V0) ρ 0 st K = some r) : AW Try.prog (.loop c0) st fun e st' => K e st' = some r := by
  refine loop_ok (ct := ct0) (lv := lv0) (n := 22) (m := 1) (ks := [true]) (j := 0) (jn := []) (L := (L V0)) Gok hm (by rw [e0]; exact Lor.ok_nil _ _) enc0I (fun k t => F0 k t.1 t.2.1 t.2.2.1 t.2.2.2.1 t.2.2.2.2.1 t.2.2.2.2.2 (fun z1 z2 z3 => K (.exit 0) (mkS 22 [3] [.c (.h 1)] [.box [cl z1, cl z2], ro z3] [true]))) (fun t => rfl) (fun k t => ?_) (fun _ => fuelN) h
  refine (step0 V0 K _ t.1 t.2.1 t.2.2.1 t.2.2.2.1 t.2.2.2.2.1 t.2.2.2.2.2).trans ?_
  refine congrArg (fun W => B0 t.1 t.2.1 t.2.2.1 t.2.2.2.1 t.2.2.2.2.1 t.2.2.2.2.2 W (fun z1 z2 z3 => K (.exit 0) (mkS 22 [3] [.c (.h 1)] [.box [cl z1, cl z2], ro z3] [true]))) ?_
  funext u1 u2 u3 u4 u5 u6
  exact ofC_enc enc0I _ (u1, u2, u3, u4, u5, u6)
theorem e : atomsL [] 0 (bodyOf Try.f42) = [(0, 0, .loop c0)] := by kernel_rfl
theorem acc (t : (Vec ((Vec Int) × ByteArray × (Vec (ByteArray × Int × Int)))) × (Vec ((Vec (Vec Int)) × (Vec (ByteArray × Int × Int × (Vec Int)))))) (x : (Vec ((Vec Int) × ByteArray × (Vec (ByteArray × Int × Int)))) × (Vec ((Vec (Vec Int)) × (Vec (ByteArray × Int × Int × (Vec Int))))) × Vec (IVec (Vec Int))) (h : F t.1 t.2 = some x) : ACc Try.prog 42 (encA t).1 (encA t).2 true [true] fun rv obs => (rv, obs) = encR x := by
  refine fun_okc (L := (L V0)) (jn := []) (cmds := []) (ks := [true]) (hin := (encA t).2) (fn := Try.f42) (body := (bodyOf Try.f42)) Gok hm Try.func42 (by kernel_rfl) (by kernel_rfl) (by rw [e]; exact Lor.ok_cons ok0 (Lor.ok_nil _ _)) ?_ h
  refine (main V0 _ t.1 t.2).trans ?_
  rw [V0_enc]
  refine congrArg (fun K => B (F0 fuelN) t.1 t.2 K) ?_
  funext x1 x2 x3
  exact ofC_enc encRI some (x1, x2, x3)
theorem ac0 (t : (Vec ((Vec Int) × ByteArray × (Vec (ByteArray × Int × Int)))) × (Vec ((Vec (Vec Int)) × (Vec (ByteArray × Int × Int × (Vec Int)))))) (x : (Vec ((Vec Int) × ByteArray × (Vec (ByteArray × Int × Int)))) × (Vec ((Vec (Vec Int)) × (Vec (ByteArray × Int × Int × (Vec Int))))) × Vec (IVec (Vec Int))) (h : F t.1 t.2 = some x) : AC Try.prog 42 (encA t).1 (encA t).2 true [true] fun rv obs => (rv, obs) = encR x := ACc.ac (body := bodyOf Try.f42) Try.func42 (by kernel_rfl) (by kernel_rfl) (acc t x h)
theorem ac (args : List AV) (hin : List Ob) (x : (Vec ((Vec Int) × ByteArray × (Vec (ByteArray × Int × Int)))) × (Vec ((Vec (Vec Int)) × (Vec (ByteArray × Int × Int × (Vec Int))))) × Vec (IVec (Vec Int))) (h : Q args hin = some x) : AC Try.prog 42 args hin true [true] fun rv obs => (rv, obs) = encR x := by
  obtain ⟨t, he, h2⟩ := ofC_some h
  obtain rfl : args = (encA t).1 := (congrArg Prod.fst he).symm
  obtain rfl : hin = (encA t).2 := (congrArg Prod.snd he).symm
  exact ac0 t x h2
end impl_Store_graphs_saa75
/-! loop.example/g00073/impl.sizesOf -/
namespace impl_sizesOf_s198c
noncomputable def B0 {ρ : Type} (v1 : Vec (IVec (Vec Int))) (v2 : Int) (v3 : Int) (v4 : Vec Int) (W : (Vec (IVec (Vec Int))) → Int → Int → (Vec Int) → Option ρ) (K0 : (Vec Int) → Option ρ) : Option ρ :=
  sel (decide (v3 < v2)) (chk (decide (0 ≤ v3 ∧ v3 < (v1.n : Int))) (chk (decide ((v4.n + (Vec.lit [(((v1.g v3.toNat).v).n : Int)] : Vec Int).n) * 9 ≤ maxN)) (W v1 v2 (wr (v3 + (1 : Int))) (Vec.app v4 (Vec.lit [(((v1.g v3.toNat).v).n : Int)] : Vec Int))))) (K0 v4)
noncomputable def F0 {ρ : Type} : Nat → (Vec (IVec (Vec Int))) → Int → Int → (Vec Int) → ((Vec Int) → Option ρ) → Option ρ
  | 0, _, _, _, _, _ => none
  | k + 1, v1, v2, v3, v4, K0 => B0 v1 v2 v3 v4 (fun v1' v2' v3' v4' => F0 k v1' v2' v3' v4' K0) K0
noncomputable def B {ρ : Type} (L0 : (Vec (IVec (Vec Int))) → Int → Int → (Vec Int) → ((Vec Int) → Option ρ) → Option ρ) (a1 : Vec (IVec (Vec Int))) (K : (Vec Int) → Option ρ) : Option ρ :=
  L0 a1 (a1.n : Int) (0 : Int) (Vec.nil : Vec Int) (fun e01 => K e01)
noncomputable def F (a1 : Vec (IVec (Vec Int))) : Option (Vec Int) := B (F0 fuelN) a1 (fun x1 => some (x1))
def encA (t : Vec (IVec (Vec Int))) : List AV := [vl t]
def encR (x : Vec Int) : AV × List Ob := (.c (.h 0), [ro x])
theorem encAI : ∀ a b, encA a = encA b → a = b := by
  intro a b h
  simp [encA, encRw_iff] at h
  simp_all
theorem encRI : ∀ a b, encR a = encR b → a = b := by
  intro a b h
  simp [encR, encRw_iff] at h
  simp_all
noncomputable def Q (args : List AV) : Option (Vec Int) := ofC encA (fun t => F t) args
theorem wrap : (fun (y1 : Vec (IVec (Vec Int))) => Q [vl y1]) = F := by
  funext y1
  exact ofC_enc encAI _ (y1)
noncomputable def G : Orc := ⟨fun f => 9, fun ρ f args K => Option.none, noE, false⟩
noncomputable def L (W0 : (ρ : Type) → List AV → List Ob → ((Vec Int) → Option ρ) → Option ρ) : Lor := fun ρ j st K => sel (Nat.beq j 0) (cutO Try.prog 19 [3, 6, 7, 8] 0 [] [.ad (.s 3) 23] st fun avs obs => W0 ρ avs obs (fun z1 => K (.exit 0) (mkS 19 [3] [.c (.h 0)] [ro z1] []))) (Option.none)
noncomputable def c0 : Code := loopC (atomN [] 0 (bodyOf Try.f41) 0)
def ct0 : Cut := ⟨[3, 6, 7, 8], [.ad (.s 3) 23]⟩
def lv0 : Exit → Cut
  | .exit 0 => ⟨[3], []⟩
  | _ => ⟨[], []⟩
theorem step0 (W0) {ρ : Type} (K : Exit → St → Option ρ) (W : List AV → List Ob → Option ρ) (v1 v2 v3 v4) : exC Try.prog (G) (L W0) [] 1 c0 (mkS 19 [3, 6, 7, 8] [.c (.h 0), vl v1, vi v2, vi v3] [ro v4] []) (bodyK Try.prog 19 0 [] ct0 W lv0 K) =
    B0 v1 v2 v3 v4 (fun u1 u2 u3 u4 => W [.c (.h 0), vl u1, vi u2, vi u3] [ro u4]) (fun z1 => K (.exit 0) (mkS 19 [3] [.c (.h 0)] [ro z1] [])) := by kernel_rfl
def enc0 (t : Vec (IVec (Vec Int)) × Int × Int × Vec Int) : List AV × List Ob := ([.c (.h 0), vl t.1, vi t.2.1, vi t.2.2.1], [ro t.2.2.2])
theorem enc0I : ∀ a b, enc0 a = enc0 b → a = b := by
  intro a b h
  obtain ⟨a0, a1, a2, a3⟩ := a
  obtain ⟨b0, b1, b2, b3⟩ := b
  simp [enc0, encRw_iff] at h
  simp_all
noncomputable def V0 : (ρ : Type) → List AV → List Ob → ((Vec Int) → Option ρ) → Option ρ := fun ρ avs obs k0 => ofC enc0 (fun t => F0 fuelN t.1 t.2.1 t.2.2.1 t.2.2.2 k0) (avs, obs)
theorem V0_enc (ρ : Type) : (fun w1 w2 w3 w4 k0 => V0 ρ [.c (.h 0), vl w1, vi w2, vi w3] [ro w4] k0) = F0 fuelN := by
  funext w1 w2 w3 w4 k0
  exact ofC_enc enc0I _ (w1, w2, w3, w4)
theorem main (W0) {ρ : Type} (K : AV → List Ob → Option ρ) (a1) : exC Try.prog (G) (L W0) [] 0 (bodyOf Try.f41) (entry 19 [vl a1] [] []) (finO Try.prog Try.f41.results.toList 0 [] [] K) =
    B (fun w1 w2 w3 w4 k0 => W0 ρ [.c (.h 0), vl w1, vi w2, vi w3] [ro w4] k0) a1 (fun x1 => K (.c (.h 0)) [ro x1]) := by kernel_rfl
theorem Gok : (G).ok Try.prog := ⟨(fun ρ f args K r h => (by cases h)),
  (fun ρ f args K => rfl),
  (fun ρ f st caps args dst K r h => (by cases h))⟩
theorem hm : Try.prog.follows .mixedOrders = true := by kernel_rfl
theorem e0 : atomsL [] 1 c0 = [] := by kernel_rfl
theorem ok0 (ρ : Type) (st : St) (K : Exit → St → Option ρ) (r : ρ) (h : (L V0) ρ 0 st K = some r) : AW Try.prog (.loop c0) st fun e st' => K e st' = some r := by
  refine loop_ok (ct := ct0) (lv := lv0) (n := 19) (m := 0) (ks := []) (j := 0) (jn := []) (L := (L V0)) Gok hm (by rw [e0]; exact Lor.ok_nil _ _) enc0I (fun k t => F0 k t.1 t.2.1 t.2.2.1 t.2.2.2 (fun z1 => K (.exit 0) (mkS 19 [3] [.c (.h 0)] [ro z1] []))) (fun t => rfl) (fun k t => ?_) (fun _ => fuelN) h
  refine (step0 V0 K _ t.1 t.2.1 t.2.2.1 t.2.2.2).trans ?_
  refine congrArg (fun W => B0 t.1 t.2.1 t.2.2.1 t.2.2.2 W (fun z1 => K (.exit 0) (mkS 19 [3] [.c (.h 0)] [ro z1] []))) ?_
  funext u1 u2 u3 u4
  exact ofC_enc enc0I _ (u1, u2, u3, u4)
theorem e : atomsL [] 0 (bodyOf Try.f41) = [(0, 0, .loop c0)] := by kernel_rfl
theorem acc (t : Vec (IVec (Vec Int))) (x : Vec Int) (h : F t = some x) : ACc Try.prog 41 (encA t) [] true [] fun rv obs => (rv, obs) = encR x := by
  refine fun_okc (L := (L V0)) (jn := []) (cmds := []) (ks := []) (hin := []) (fn := Try.f41) (body := (bodyOf Try.f41)) Gok hm Try.func41 (by kernel_rfl) (by kernel_rfl) (by rw [e]; exact Lor.ok_cons ok0 (Lor.ok_nil _ _)) ?_ h
  refine (main V0 _ t).trans ?_
  rw [V0_enc]
  refine congrArg (fun K => B (F0 fuelN) t K) ?_
  funext x1
  exact ofC_enc encRI some (x1)
theorem ac0 (t : Vec (IVec (Vec Int))) (x : Vec Int) (h : F t = some x) : AC Try.prog 41 (encA t) [] true [] fun rv obs => (rv, obs) = encR x := ACc.ac (body := bodyOf Try.f41) Try.func41 (by kernel_rfl) (by kernel_rfl) (acc t x h)
theorem ac (args : List AV) (x : Vec Int) (h : Q args = some x) : AC Try.prog 41 args [] false [] fun rv obs => (rv, obs) = encR x := by
  obtain ⟨t, rfl, h2⟩ := ofC_some h
  refine (ac0 t x h2).flat fun rv obs e => ?_
  obtain rfl : rv = (encR x).1 := congrArg Prod.fst e
  obtain rfl : obs = (encR x).2 := congrArg Prod.snd e
  refine ⟨by simp [encR, AV.Flat, K.Flat, C.Flat], ?_⟩
  intro o ho
  simp only [encR, List.mem_cons, List.not_mem_nil, or_false] at ho
  subst ho
  exact flat_rw rfl _
end impl_sizesOf_s198c
/-! loop.example/g00073/impl.StoreOk -/
namespace impl_StoreOk
noncomputable def B0 {ρ : Type} (C3 : (Vec (Vec Int)) → (Vec (ByteArray × Int × Int × (Vec Int))) → Option Bool) (v1 : Vec ((Vec (Vec Int)) × (Vec (ByteArray × Int × Int × (Vec Int))))) (v2 : Int) (v3 : Int) (v4 : Vec ((Vec Int) × ByteArray × (Vec (ByteArray × Int × Int)))) (v5 : Vec ((Vec (Vec Int)) × (Vec (ByteArray × Int × Int × (Vec Int))))) (W : (Vec ((Vec (Vec Int)) × (Vec (ByteArray × Int × Int × (Vec Int))))) → Int → Int → (Vec ((Vec Int) × ByteArray × (Vec (ByteArray × Int × Int)))) → (Vec ((Vec (Vec Int)) × (Vec (ByteArray × Int × Int × (Vec Int))))) → Option ρ) (K0 : (Vec ((Vec Int) × ByteArray × (Vec (ByteArray × Int × Int)))) → (Vec ((Vec (Vec Int)) × (Vec (ByteArray × Int × Int × (Vec Int))))) → Option ρ) (Kr : Bool → Option ρ) : Option ρ :=
  sel (decide (v3 < v2)) (chk (decide (0 ≤ v3 ∧ v3 < (v1.n : Int))) (sel (decide ((((v1.g v3.toNat).1).n : Int) = (0 : Int))) (Kr false) ((C3 ((v1.g v3.toNat).1) ((v1.g v3.toNat).2)).bind fun r9 => sel ((!r9)) (Kr false) (W v1 v2 (wr (v3 + (1 : Int))) v4 v5)))) (K0 v4 v5)
noncomputable def F0 {ρ : Type} : Nat → (Vec ((Vec (Vec Int)) × (Vec (ByteArray × Int × Int × (Vec Int))))) → Int → Int → (Vec ((Vec Int) × ByteArray × (Vec (ByteArray × Int × Int)))) → (Vec ((Vec (Vec Int)) × (Vec (ByteArray × Int × Int × (Vec Int))))) → ((Vec ((Vec Int) × ByteArray × (Vec (ByteArray × Int × Int)))) → (Vec ((Vec (Vec Int)) × (Vec (ByteArray × Int × Int × (Vec Int))))) → Option ρ) → (Bool → Option ρ) → Option ρ
  | 0, _, _, _, _, _, _, _ => none
  | k + 1, v1, v2, v3, v4, v5, K0, Kr => B0 impl_WeaveOk.F v1 v2 v3 v4 v5 (fun v1' v2' v3' v4' v5' => F0 k v1' v2' v3' v4' v5' K0 Kr) K0 Kr
noncomputable def B {ρ : Type} (C0 : (Vec ((Vec Int) × ByteArray × (Vec (ByteArray × Int × Int)))) → (Vec ((Vec (Vec Int)) × (Vec (ByteArray × Int × Int × (Vec Int))))) → Option ((Vec ((Vec Int) × ByteArray × (Vec (ByteArray × Int × Int)))) × (Vec ((Vec (Vec Int)) × (Vec (ByteArray × Int × Int × (Vec Int))))) × Vec (IVec (Vec Int)))) (C1 : (Vec (IVec (Vec Int))) → Option (Vec Int)) (C2 : (Vec ((Vec Int) × ByteArray × (Vec (ByteArray × Int × Int)))) → (Vec Int) → Option Bool) (L0 : (Vec ((Vec (Vec Int)) × (Vec (ByteArray × Int × Int × (Vec Int))))) → Int → Int → (Vec ((Vec Int) × ByteArray × (Vec (ByteArray × Int × Int)))) → (Vec ((Vec (Vec Int)) × (Vec (ByteArray × Int × Int × (Vec Int))))) → ((Vec ((Vec Int) × ByteArray × (Vec (ByteArray × Int × Int)))) → (Vec ((Vec (Vec Int)) × (Vec (ByteArray × Int × Int × (Vec Int))))) → Option ρ) → (Bool → Option ρ) → Option ρ) (a1 : Vec ((Vec Int) × ByteArray × (Vec (ByteArray × Int × Int)))) (a2 : Vec ((Vec (Vec Int)) × (Vec (ByteArray × Int × Int × (Vec Int))))) (K : Bool → Option ρ) : Option ρ :=
  L0 a2 (a2.n : Int) (0 : Int) a1 a2 (fun e01 e02 => sel (decide ((e02.n : Int) ≤ (12 : Int))) (both ((C0 e01 e02).bind fun r1 => (C1 r1.2.2).bind fun r2 => (C2 e01 r2).bind fun r3 => K r3) ((C0 e01 e02).bind fun r4 => both ((C1 r4.2.2).bind fun r5 => (C2 r4.1 r5).bind fun r6 => K r6) ((C1 r4.2.2).bind fun r7 => (C2 r4.1 r7).bind fun r8 => K r8))) (K false)) (fun x01 => K x01)
noncomputable def F (a1 : Vec ((Vec Int) × ByteArray × (Vec (ByteArray × Int × Int)))) (a2 : Vec ((Vec (Vec Int)) × (Vec (ByteArray × Int × Int × (Vec Int))))) : Option Bool := B impl_Store_graphs_saa75.F impl_sizesOf_s198c.F impl_CommitsOk.F (F0 fuelN) a1 a2 (fun x1 => some (x1))
def encA (t : (Vec ((Vec Int) × ByteArray × (Vec (ByteArray × Int × Int)))) × (Vec ((Vec (Vec Int)) × (Vec (ByteArray × Int × Int × (Vec Int)))))) : List AV := [.a [cl t.1, cl t.2]]
def encR (x : Bool) : AV × List Ob := (vb x, [])
theorem encAI : ∀ a b, encA a = encA b → a = b := by
  intro a b h
  obtain ⟨a0, a1⟩ := a
  obtain ⟨b0, b1⟩ := b
  simp [encA, encRw_iff] at h
  simp_all
theorem encRI : ∀ a b, encR a = encR b → a = b := by
  intro a b h
  simp [encR, encRw_iff] at h
  simp_all
noncomputable def Q (args : List AV) : Option Bool := ofC encA (fun t => F t.1 t.2) args
theorem wrap : (fun (y1 : Vec ((Vec Int) × ByteArray × (Vec (ByteArray × Int × Int)))) (y2 : Vec ((Vec (Vec Int)) × (Vec (ByteArray × Int × Int × (Vec Int))))) => Q [.a [cl y1, cl y2]]) = F := by
  funext y1 y2
  exact ofC_enc encAI _ (y1, y2)
noncomputable def G (Q0 : List AV → List Ob → Option ((Vec ((Vec Int) × ByteArray × (Vec (ByteArray × Int × Int)))) × (Vec ((Vec (Vec Int)) × (Vec (ByteArray × Int × Int × (Vec Int))))) × Vec (IVec (Vec Int)))) (Q1 : List AV → Option (Vec Int)) (Q2 : List AV → Option Bool) (Q3 : List AV → Option Bool) : Orc := ⟨fun f => sel (Nat.beq f 41) 0 (sel (Nat.beq f 10) 0 (sel (Nat.beq f 40) 0 (9))), fun ρ f args K => sel (Nat.beq f 41) (qEntry impl_sizesOf_s198c.encR Q1 args K) (sel (Nat.beq f 10) (qEntry impl_CommitsOk.encR Q2 args K) (sel (Nat.beq f 40) (qEntry impl_WeaveOk.encR Q3 args K) (Option.none))), fun ρ f st args dst K => sel (Nat.beq f 42) (callE Try.prog 42 [true] false [true] impl_Store_graphs_saa75.encR Q0 st args dst K) (Option.none), false⟩
noncomputable def L (W0 : (ρ : Type) → List AV → List Ob → ((Vec ((Vec Int) × ByteArray × (Vec (ByteArray × Int × Int)))) → (Vec ((Vec (Vec Int)) × (Vec (ByteArray × Int × Int × (Vec Int))))) → Option ρ) → (Bool → Option ρ) → Option ρ) : Lor := fun ρ j st K => sel (Nat.beq j 0) (cutO Try.prog 33 [1, 6, 7, 8] 0 [] [] st fun avs obs => W0 ρ avs obs (fun z1 z2 => K (.exit 0) (mkS 33 [1] [.c (.p 0 0)] [.box [cl z1, cl z2]] [])) (fun z1 => K .ret (mkS 33 [2] [vb z1] [] []))) (Option.none)
noncomputable def c0 : Code := loopC (atomN [] 0 (bodyOf Try.f16) 0)
def ct0 : Cut := ⟨[1, 6, 7, 8], []⟩
def lv0 : Exit → Cut
  | .exit 0 => ⟨[1], []⟩
  | .ret => ⟨[2], []⟩
  | _ => ⟨[], []⟩
theorem step0 (Q0 Q1 Q2 Q3) (W0) {ρ : Type} (K : Exit → St → Option ρ) (W : List AV → List Ob → Option ρ) (v1 v2 v3 v4 v5) : exC Try.prog (G Q0 Q1 Q2 Q3) (L W0) [] 1 c0 (mkS 33 [1, 6, 7, 8] [.c (.p 0 0), vl v1, vi v2, vi v3] [.box [cl v4, cl v5]] []) (bodyK Try.prog 33 0 [] ct0 W lv0 K) =
    B0 (fun y1 y2 => Q3 [.a [cl y1, cl y2]]) v1 v2 v3 v4 v5 (fun u1 u2 u3 u4 u5 => W [.c (.p 0 0), vl u1, vi u2, vi u3] [.box [cl u4, cl u5]]) (fun z1 z2 => K (.exit 0) (mkS 33 [1] [.c (.p 0 0)] [.box [cl z1, cl z2]] [])) (fun z1 => K .ret (mkS 33 [2] [vb z1] [] [])) := by kernel_rfl
def enc0 (t : (Vec ((Vec (Vec Int)) × (Vec (ByteArray × Int × Int × (Vec Int))))) × Int × Int × (Vec ((Vec Int) × ByteArray × (Vec (ByteArray × Int × Int)))) × (Vec ((Vec (Vec Int)) × (Vec (ByteArray × Int × Int × (Vec Int)))))) : List AV × List Ob := ([.c (.p 0 0), vl t.1, vi t.2.1, vi t.2.2.1], [.box [cl t.2.2.2.1, cl t.2.2.2.2]])
theorem enc0I : ∀ a b, enc0 a = enc0 b → a = b := by
  intro a b h
  obtain ⟨a0, a1, a2, a3, a4⟩ := a
  obtain ⟨b0, b1, b2, b3, b4⟩ := b
  simp [enc0, encRw_iff] at h
  simp_all
noncomputable def V0 : (ρ : Type) → List AV → List Ob → ((Vec ((Vec Int) × ByteArray × (Vec (ByteArray × Int × Int)))) → (Vec ((Vec (Vec Int)) × (Vec (ByteArray × Int × Int × (Vec Int))))) → Option ρ) → (Bool → Option ρ) → Option ρ := fun ρ avs obs k0 kr => ofC enc0 (fun t => F0 fuelN t.1 t.2.1 t.2.2.1 t.2.2.2.1 t.2.2.2.2 k0 kr) (avs, obs)
theorem V0_enc (ρ : Type) : (fun w1 w2 w3 w4 w5 k0 kr => V0 ρ [.c (.p 0 0), vl w1, vi w2, vi w3] [.box [cl w4, cl w5]] k0 kr) = F0 fuelN := by
  funext w1 w2 w3 w4 w5 k0 kr
  exact ofC_enc enc0I _ (w1, w2, w3, w4, w5)
theorem main (Q0 Q1 Q2 Q3) (W0) {ρ : Type} (K : AV → List Ob → Option ρ) (a1 a2) : exC Try.prog (G Q0 Q1 Q2 Q3) (L W0) [] 0 (bodyOf Try.f16) (entry 33 [.a [cl a1, cl a2]] [] []) (finO Try.prog Try.f16.results.toList 0 [] [] K) =
    B (fun y1 y2 => Q0 [.c (.p 0 0)] [.box [cl y1, cl y2]]) (fun y1 => Q1 [vl y1]) (fun y1 y2 => Q2 [vl y1, vl y2]) (fun w1 w2 w3 w4 w5 k0 kr => W0 ρ [.c (.p 0 0), vl w1, vi w2, vi w3] [.box [cl w4, cl w5]] k0 kr) a1 a2 (fun x1 => K (vb x1) []) := by kernel_rfl
theorem Gok : (G impl_Store_graphs_saa75.Q impl_sizesOf_s198c.Q impl_CommitsOk.Q impl_WeaveOk.Q).ok Try.prog := ⟨(by
    intro ρ f args K r h
    rcases sel_cases h with ⟨hb, h⟩ | ⟨-, h⟩
    · obtain rfl := beq_nat hb
      exact qEntry_ok impl_sizesOf_s198c.ac h
    rcases sel_cases h with ⟨hb, h⟩ | ⟨-, h⟩
    · obtain rfl := beq_nat hb
      exact qEntry_ok impl_CommitsOk.ac h
    rcases sel_cases h with ⟨hb, h⟩ | ⟨-, h⟩
    · obtain rfl := beq_nat hb
      exact qEntry_ok impl_WeaveOk.ac h
    cases h),
  (by
    intro ρ f args K
    simp only [G]
    cases Nat.beq f 41 with
    | true => exact qEntry_nat args K
    | false =>
    simp only [sel]
    cases Nat.beq f 10 with
    | true => exact qEntry_nat args K
    | false =>
    simp only [sel]
    cases Nat.beq f 40 with
    | true => exact qEntry_nat args K
    | false =>
    simp only [sel]
    rfl),
  (by
    intro ρ f st caps args dst K r h
    rcases sel_cases h with ⟨hb, h⟩ | ⟨-, h⟩
    · obtain rfl := beq_nat hb
      exact callE_ok (fun h => by cases h) impl_Store_graphs_saa75.ac h
    cases h)⟩
theorem hm : Try.prog.follows .mixedOrders = true := by kernel_rfl
theorem e0 : atomsL [] 1 c0 = [] := by kernel_rfl
theorem ok0 (ρ : Type) (st : St) (K : Exit → St → Option ρ) (r : ρ) (h : (L V0) ρ 0 st K = some r) : AW Try.prog (.loop c0) st fun e st' => K e st' = some r := by
  refine loop_ok (ct := ct0) (lv := lv0) (n := 33) (m := 0) (ks := []) (j := 0) (jn := []) (L := (L V0)) Gok hm (by rw [e0]; exact Lor.ok_nil _ _) enc0I (fun k t => F0 k t.1 t.2.1 t.2.2.1 t.2.2.2.1 t.2.2.2.2 (fun z1 z2 => K (.exit 0) (mkS 33 [1] [.c (.p 0 0)] [.box [cl z1, cl z2]] [])) (fun z1 => K .ret (mkS 33 [2] [vb z1] [] []))) (fun t => rfl) (fun k t => ?_) (fun _ => fuelN) h
  refine (step0 impl_Store_graphs_saa75.Q impl_sizesOf_s198c.Q impl_CommitsOk.Q impl_WeaveOk.Q V0 K _ t.1 t.2.1 t.2.2.1 t.2.2.2.1 t.2.2.2.2).trans ?_
  rw [impl_WeaveOk.wrap]
  refine congrArg (fun W => B0 impl_WeaveOk.F t.1 t.2.1 t.2.2.1 t.2.2.2.1 t.2.2.2.2 W (fun z1 z2 => K (.exit 0) (mkS 33 [1] [.c (.p 0 0)] [.box [cl z1, cl z2]] [])) (fun z1 => K .ret (mkS 33 [2] [vb z1] [] []))) ?_
  funext u1 u2 u3 u4 u5
  exact ofC_enc enc0I _ (u1, u2, u3, u4, u5)
theorem e : atomsL [] 0 (bodyOf Try.f16) = [(0, 0, .loop c0)] := by kernel_rfl
theorem acc (t : (Vec ((Vec Int) × ByteArray × (Vec (ByteArray × Int × Int)))) × (Vec ((Vec (Vec Int)) × (Vec (ByteArray × Int × Int × (Vec Int)))))) (x : Bool) (h : F t.1 t.2 = some x) : ACc Try.prog 16 (encA t) [] true [] fun rv obs => (rv, obs) = encR x := by
  refine fun_okc (L := (L V0)) (jn := []) (cmds := []) (ks := []) (hin := []) (fn := Try.f16) (body := (bodyOf Try.f16)) Gok hm Try.func16 (by kernel_rfl) (by kernel_rfl) (by rw [e]; exact Lor.ok_cons ok0 (Lor.ok_nil _ _)) ?_ h
  refine (main impl_Store_graphs_saa75.Q impl_sizesOf_s198c.Q impl_CommitsOk.Q impl_WeaveOk.Q V0 _ t.1 t.2).trans ?_
  rw [impl_Store_graphs_saa75.wrap, impl_sizesOf_s198c.wrap, impl_CommitsOk.wrap, V0_enc]
  refine congrArg (fun K => B impl_Store_graphs_saa75.F impl_sizesOf_s198c.F impl_CommitsOk.F (F0 fuelN) t.1 t.2 K) ?_
  funext x1
  exact ofC_enc encRI some (x1)
theorem ac0 (t : (Vec ((Vec Int) × ByteArray × (Vec (ByteArray × Int × Int)))) × (Vec ((Vec (Vec Int)) × (Vec (ByteArray × Int × Int × (Vec Int)))))) (x : Bool) (h : F t.1 t.2 = some x) : AC Try.prog 16 (encA t) [] true [] fun rv obs => (rv, obs) = encR x := ACc.ac (body := bodyOf Try.f16) Try.func16 (by kernel_rfl) (by kernel_rfl) (acc t x h)
theorem ac (args : List AV) (x : Bool) (h : Q args = some x) : AC Try.prog 16 args [] false [] fun rv obs => (rv, obs) = encR x := by
  obtain ⟨t, rfl, h2⟩ := ofC_some h
  refine (ac0 t x h2).flat fun rv obs e => ?_
  obtain rfl : rv = (encR x).1 := congrArg Prod.fst e
  obtain rfl : obs = (encR x).2 := congrArg Prod.snd e
  refine ⟨by simp [encR, AV.Flat, K.Flat, C.Flat], ?_⟩
  simp [encR]
end impl_StoreOk
/-! loop.example/g00073/laws.eqWeaveS -/
namespace laws_eqWeaveS
noncomputable def B0 {ρ : Type} (C0 : (Vec (Vec Int)) → (Vec (ByteArray × Int × Int × (Vec Int))) → (Vec (Vec Int)) → (Vec (ByteArray × Int × Int × (Vec Int))) → Option Bool) (v1 : Vec ((Vec (Vec Int)) × (Vec (ByteArray × Int × Int × (Vec Int))))) (v2 : Vec ((Vec (Vec Int)) × (Vec (ByteArray × Int × Int × (Vec Int))))) (v3 : Int) (W : (Vec ((Vec (Vec Int)) × (Vec (ByteArray × Int × Int × (Vec Int))))) → (Vec ((Vec (Vec Int)) × (Vec (ByteArray × Int × Int × (Vec Int))))) → Int → Option ρ) (K0 : Unit → Option ρ) (Kr : Bool → Option ρ) : Option ρ :=
  sel (decide (v3 < (v1.n : Int))) (chk (decide (0 ≤ v3 ∧ v3 < (v1.n : Int))) (chk (decide (0 ≤ v3 ∧ v3 < (v2.n : Int))) ((C0 ((v1.g v3.toNat).1) ((v1.g v3.toNat).2) ((v2.g v3.toNat).1) ((v2.g v3.toNat).2)).bind fun r1 => sel ((!r1)) (Kr false) (W v1 v2 (wr (v3 + (1 : Int))))))) (K0 ())
noncomputable def F0 {ρ : Type} : Nat → (Vec ((Vec (Vec Int)) × (Vec (ByteArray × Int × Int × (Vec Int))))) → (Vec ((Vec (Vec Int)) × (Vec (ByteArray × Int × Int × (Vec Int))))) → Int → (Unit → Option ρ) → (Bool → Option ρ) → Option ρ
  | 0, _, _, _, _, _ => none
  | k + 1, v1, v2, v3, K0, Kr => B0 laws_eqWeave.F v1 v2 v3 (fun v1' v2' v3' => F0 k v1' v2' v3' K0 Kr) K0 Kr
noncomputable def B {ρ : Type} (L0 : (Vec ((Vec (Vec Int)) × (Vec (ByteArray × Int × Int × (Vec Int))))) → (Vec ((Vec (Vec Int)) × (Vec (ByteArray × Int × Int × (Vec Int))))) → Int → (Unit → Option ρ) → (Bool → Option ρ) → Option ρ) (a1 : Vec ((Vec (Vec Int)) × (Vec (ByteArray × Int × Int × (Vec Int))))) (a2 : Vec ((Vec (Vec Int)) × (Vec (ByteArray × Int × Int × (Vec Int))))) (K : Bool → Option ρ) : Option ρ :=
  sel ((!decide ((a1.n : Int) = (a2.n : Int)))) (K false) (L0 a1 a2 (0 : Int) (fun _ => K true) (fun x01 => K x01))
noncomputable def F (a1 : Vec ((Vec (Vec Int)) × (Vec (ByteArray × Int × Int × (Vec Int))))) (a2 : Vec ((Vec (Vec Int)) × (Vec (ByteArray × Int × Int × (Vec Int))))) : Option Bool := B (F0 fuelN) a1 a2 (fun x1 => some (x1))
def encA (t : (Vec ((Vec (Vec Int)) × (Vec (ByteArray × Int × Int × (Vec Int))))) × (Vec ((Vec (Vec Int)) × (Vec (ByteArray × Int × Int × (Vec Int)))))) : List AV := [vl t.1, vl t.2]
def encR (x : Bool) : AV × List Ob := (vb x, [])
theorem encAI : ∀ a b, encA a = encA b → a = b := by
  intro a b h
  obtain ⟨a0, a1⟩ := a
  obtain ⟨b0, b1⟩ := b
  simp [encA, encRw_iff] at h
  simp_all
theorem encRI : ∀ a b, encR a = encR b → a = b := by
  intro a b h
  simp [encR, encRw_iff] at h
  simp_all
noncomputable def Q (args : List AV) : Option Bool := ofC encA (fun t => F t.1 t.2) args
theorem wrap : (fun (y1 : Vec ((Vec (Vec Int)) × (Vec (ByteArray × Int × Int × (Vec Int))))) (y2 : Vec ((Vec (Vec Int)) × (Vec (ByteArray × Int × Int × (Vec Int))))) => Q [vl y1, vl y2]) = F := by
  funext y1 y2
  exact ofC_enc encAI _ (y1, y2)
noncomputable def G (Q0 : List AV → Option Bool) : Orc := ⟨fun f => sel (Nat.beq f 75) 0 (9), fun ρ f args K => sel (Nat.beq f 75) (qEntry laws_eqWeave.encR Q0 args K) (Option.none), noE, false⟩
noncomputable def L (W0 : (ρ : Type) → List AV → List Ob → (Unit → Option ρ) → (Bool → Option ρ) → Option ρ) : Lor := fun ρ j st K => sel (Nat.beq j 0) (cutO Try.prog 27 [0, 1, 5] 0 [] [] st fun avs obs => W0 ρ avs obs (fun _ => K (.exit 0) (mkS 27 [] [] [] [])) (fun z1 => K .ret (mkS 27 [4] [vb z1] [] []))) (Option.none)
noncomputable def c0 : Code := loopC (atomN [] 0 (bodyOf Try.f43) 0)
def ct0 : Cut := ⟨[0, 1, 5], []⟩
def lv0 : Exit → Cut
  | .exit 0 => ⟨[], []⟩
  | .ret => ⟨[4], []⟩
  | _ => ⟨[], []⟩
theorem step0 (Q0) (W0) {ρ : Type} (K : Exit → St → Option ρ) (W : List AV → List Ob → Option ρ) (v1 v2 v3) : exC Try.prog (G Q0) (L W0) [] 1 c0 (mkS 27 [0, 1, 5] [vl v1, vl v2, vi v3] [] []) (bodyK Try.prog 27 0 [] ct0 W lv0 K) =
    B0 (fun y1 y2 y3 y4 => Q0 [.a [cl y1, cl y2], .a [cl y3, cl y4]]) v1 v2 v3 (fun u1 u2 u3 => W [vl u1, vl u2, vi u3] []) (fun _ => K (.exit 0) (mkS 27 [] [] [] [])) (fun z1 => K .ret (mkS 27 [4] [vb z1] [] [])) := by kernel_rfl
def enc0 (t : (Vec ((Vec (Vec Int)) × (Vec (ByteArray × Int × Int × (Vec Int))))) × (Vec ((Vec (Vec Int)) × (Vec (ByteArray × Int × Int × (Vec Int))))) × Int) : List AV × List Ob := ([vl t.1, vl t.2.1, vi t.2.2], [])
theorem enc0I : ∀ a b, enc0 a = enc0 b → a = b := by
  intro a b h
  obtain ⟨a0, a1, a2⟩ := a
  obtain ⟨b0, b1, b2⟩ := b
  simp [enc0, encRw_iff] at h
  simp_all
noncomputable def V0 : (ρ : Type) → List AV → List Ob → (Unit → Option ρ) → (Bool → Option ρ) → Option ρ := fun ρ avs obs k0 kr => ofC enc0 (fun t => F0 fuelN t.1 t.2.1 t.2.2 k0 kr) (avs, obs)
theorem V0_enc (ρ : Type) : (fun w1 w2 w3 k0 kr => V0 ρ [vl w1, vl w2, vi w3] [] k0 kr) = F0 fuelN := by
  funext w1 w2 w3 k0 kr
  exact ofC_enc enc0I _ (w1, w2, w3)
theorem main (Q0) (W0) {ρ : Type} (K : AV → List Ob → Option ρ) (a1 a2) : exC Try.prog (G Q0) (L W0) [] 0 (bodyOf Try.f43) (entry 27 [vl a1, vl a2] [] []) (finO Try.prog Try.f43.results.toList 0 [] [] K) =
    B (fun w1 w2 w3 k0 kr => W0 ρ [vl w1, vl w2, vi w3] [] k0 kr) a1 a2 (fun x1 => K (vb x1) []) := by kernel_rfl
theorem Gok : (G laws_eqWeave.Q).ok Try.prog := ⟨(by
    intro ρ f args K r h
    rcases sel_cases h with ⟨hb, h⟩ | ⟨-, h⟩
    · obtain rfl := beq_nat hb
      exact qEntry_ok laws_eqWeave.ac h
    cases h),
  (by
    intro ρ f args K
    simp only [G]
    cases Nat.beq f 75 with
    | true => exact qEntry_nat args K
    | false =>
    simp only [sel]
    rfl),
  (fun ρ f st caps args dst K r h => (by cases h))⟩
theorem hm : Try.prog.follows .mixedOrders = true := by kernel_rfl
theorem e0 : atomsL [] 1 c0 = [] := by kernel_rfl
theorem ok0 (ρ : Type) (st : St) (K : Exit → St → Option ρ) (r : ρ) (h : (L V0) ρ 0 st K = some r) : AW Try.prog (.loop c0) st fun e st' => K e st' = some r := by
  refine loop_ok (ct := ct0) (lv := lv0) (n := 27) (m := 0) (ks := []) (j := 0) (jn := []) (L := (L V0)) Gok hm (by rw [e0]; exact Lor.ok_nil _ _) enc0I (fun k t => F0 k t.1 t.2.1 t.2.2 (fun _ => K (.exit 0) (mkS 27 [] [] [] [])) (fun z1 => K .ret (mkS 27 [4] [vb z1] [] []))) (fun t => rfl) (fun k t => ?_) (fun _ => fuelN) h
  refine (step0 laws_eqWeave.Q V0 K _ t.1 t.2.1 t.2.2).trans ?_
  rw [laws_eqWeave.wrap]
  refine congrArg (fun W => B0 laws_eqWeave.F t.1 t.2.1 t.2.2 W (fun _ => K (.exit 0) (mkS 27 [] [] [] [])) (fun z1 => K .ret (mkS 27 [4] [vb z1] [] []))) ?_
  funext u1 u2 u3
  exact ofC_enc enc0I _ (u1, u2, u3)
theorem e : atomsL [] 0 (bodyOf Try.f43) = [(0, 0, .loop c0)] := by kernel_rfl
theorem acc (t : (Vec ((Vec (Vec Int)) × (Vec (ByteArray × Int × Int × (Vec Int))))) × (Vec ((Vec (Vec Int)) × (Vec (ByteArray × Int × Int × (Vec Int)))))) (x : Bool) (h : F t.1 t.2 = some x) : ACc Try.prog 43 (encA t) [] true [] fun rv obs => (rv, obs) = encR x := by
  refine fun_okc (L := (L V0)) (jn := []) (cmds := []) (ks := []) (hin := []) (fn := Try.f43) (body := (bodyOf Try.f43)) Gok hm Try.func43 (by kernel_rfl) (by kernel_rfl) (by rw [e]; exact Lor.ok_cons ok0 (Lor.ok_nil _ _)) ?_ h
  refine (main laws_eqWeave.Q V0 _ t.1 t.2).trans ?_
  rw [V0_enc]
  refine congrArg (fun K => B (F0 fuelN) t.1 t.2 K) ?_
  funext x1
  exact ofC_enc encRI some (x1)
theorem ac0 (t : (Vec ((Vec (Vec Int)) × (Vec (ByteArray × Int × Int × (Vec Int))))) × (Vec ((Vec (Vec Int)) × (Vec (ByteArray × Int × Int × (Vec Int)))))) (x : Bool) (h : F t.1 t.2 = some x) : AC Try.prog 43 (encA t) [] true [] fun rv obs => (rv, obs) = encR x := ACc.ac (body := bodyOf Try.f43) Try.func43 (by kernel_rfl) (by kernel_rfl) (acc t x h)
theorem ac (args : List AV) (x : Bool) (h : Q args = some x) : AC Try.prog 43 args [] false [] fun rv obs => (rv, obs) = encR x := by
  obtain ⟨t, rfl, h2⟩ := ofC_some h
  refine (ac0 t x h2).flat fun rv obs e => ?_
  obtain rfl : rv = (encR x).1 := congrArg Prod.fst e
  obtain rfl : obs = (encR x).2 := congrArg Prod.snd e
  refine ⟨by simp [encR, AV.Flat, K.Flat, C.Flat], ?_⟩
  simp [encR]
end laws_eqWeaveS
/-! loop.example/g00073/laws.eqStore -/
namespace laws_eqStore
noncomputable def B {ρ : Type} (C0 : (Vec ((Vec Int) × ByteArray × (Vec (ByteArray × Int × Int)))) → (Vec ((Vec Int) × ByteArray × (Vec (ByteArray × Int × Int)))) → Option Bool) (C1 : (Vec ((Vec (Vec Int)) × (Vec (ByteArray × Int × Int × (Vec Int))))) → (Vec ((Vec (Vec Int)) × (Vec (ByteArray × Int × Int × (Vec Int))))) → Option Bool) (a1 : Vec ((Vec Int) × ByteArray × (Vec (ByteArray × Int × Int)))) (a2 : Vec ((Vec (Vec Int)) × (Vec (ByteArray × Int × Int × (Vec Int))))) (a3 : Vec ((Vec Int) × ByteArray × (Vec (ByteArray × Int × Int)))) (a4 : Vec ((Vec (Vec Int)) × (Vec (ByteArray × Int × Int × (Vec Int))))) (K : Bool → Option ρ) : Option ρ :=
  (C0 a1 a3).bind fun r1 => sel ((!r1)) (K false) ((C1 a2 a4).bind fun r2 => sel ((!r2)) (K false) (K true))
noncomputable def F (a1 : Vec ((Vec Int) × ByteArray × (Vec (ByteArray × Int × Int)))) (a2 : Vec ((Vec (Vec Int)) × (Vec (ByteArray × Int × Int × (Vec Int))))) (a3 : Vec ((Vec Int) × ByteArray × (Vec (ByteArray × Int × Int)))) (a4 : Vec ((Vec (Vec Int)) × (Vec (ByteArray × Int × Int × (Vec Int))))) : Option Bool := B laws_eqCommitS.F laws_eqWeaveS.F a1 a2 a3 a4 (fun x1 => some (x1))
def encA (t : (Vec ((Vec Int) × ByteArray × (Vec (ByteArray × Int × Int)))) × (Vec ((Vec (Vec Int)) × (Vec (ByteArray × Int × Int × (Vec Int))))) × (Vec ((Vec Int) × ByteArray × (Vec (ByteArray × Int × Int)))) × (Vec ((Vec (Vec Int)) × (Vec (ByteArray × Int × Int × (Vec Int)))))) : List AV := [.a [cl t.1, cl t.2.1], .a [cl t.2.2.1, cl t.2.2.2]]
def encR (x : Bool) : AV × List Ob := (vb x, [])
theorem encAI : ∀ a b, encA a = encA b → a = b := by
  intro a b h
  obtain ⟨a0, a1, a2, a3⟩ := a
  obtain ⟨b0, b1, b2, b3⟩ := b
  simp [encA, encRw_iff] at h
  simp_all
theorem encRI : ∀ a b, encR a = encR b → a = b := by
  intro a b h
  simp [encR, encRw_iff] at h
  simp_all
noncomputable def Q (args : List AV) : Option Bool := ofC encA (fun t => F t.1 t.2.1 t.2.2.1 t.2.2.2) args
theorem wrap : (fun (y1 : Vec ((Vec Int) × ByteArray × (Vec (ByteArray × Int × Int)))) (y2 : Vec ((Vec (Vec Int)) × (Vec (ByteArray × Int × Int × (Vec Int))))) (y3 : Vec ((Vec Int) × ByteArray × (Vec (ByteArray × Int × Int)))) (y4 : Vec ((Vec (Vec Int)) × (Vec (ByteArray × Int × Int × (Vec Int))))) => Q [.a [cl y1, cl y2], .a [cl y3, cl y4]]) = F := by
  funext y1 y2 y3 y4
  exact ofC_enc encAI _ (y1, y2, y3, y4)
noncomputable def G (Q0 : List AV → Option Bool) (Q1 : List AV → Option Bool) : Orc := ⟨fun f => sel (Nat.beq f 11) 0 (sel (Nat.beq f 43) 0 (9)), fun ρ f args K => sel (Nat.beq f 11) (qEntry laws_eqCommitS.encR Q0 args K) (sel (Nat.beq f 43) (qEntry laws_eqWeaveS.encR Q1 args K) (Option.none)), noE, false⟩
noncomputable def L : Lor := fun ρ j st K => Option.none
theorem main (Q0 Q1) {ρ : Type} (K : AV → List Ob → Option ρ) (a1 a2 a3 a4) : exC Try.prog (G Q0 Q1) (L) [] 0 (bodyOf Try.f17) (entry 17 [.a [cl a1, cl a2], .a [cl a3, cl a4]] [] []) (finO Try.prog Try.f17.results.toList 0 [] [] K) =
    B (fun y1 y2 => Q0 [vl y1, vl y2]) (fun y1 y2 => Q1 [vl y1, vl y2]) a1 a2 a3 a4 (fun x1 => K (vb x1) []) := by kernel_rfl
theorem Gok : (G laws_eqCommitS.Q laws_eqWeaveS.Q).ok Try.prog := ⟨(by
    intro ρ f args K r h
    rcases sel_cases h with ⟨hb, h⟩ | ⟨-, h⟩
    · obtain rfl := beq_nat hb
      exact qEntry_ok laws_eqCommitS.ac h
    rcases sel_cases h with ⟨hb, h⟩ | ⟨-, h⟩
    · obtain rfl := beq_nat hb
      exact qEntry_ok laws_eqWeaveS.ac h
    cases h),
  (by
    intro ρ f args K
    simp only [G]
    cases Nat.beq f 11 with
    | true => exact qEntry_nat args K
    | false =>
    simp only [sel]
    cases Nat.beq f 43 with
    | true => exact qEntry_nat args K
    | false =>
    simp only [sel]
    rfl),
  (fun ρ f st caps args dst K r h => (by cases h))⟩
theorem hm : Try.prog.follows .mixedOrders = true := by kernel_rfl
theorem e : atomsL [] 0 (bodyOf Try.f17) = [] := by kernel_rfl
theorem acc (t : (Vec ((Vec Int) × ByteArray × (Vec (ByteArray × Int × Int)))) × (Vec ((Vec (Vec Int)) × (Vec (ByteArray × Int × Int × (Vec Int))))) × (Vec ((Vec Int) × ByteArray × (Vec (ByteArray × Int × Int)))) × (Vec ((Vec (Vec Int)) × (Vec (ByteArray × Int × Int × (Vec Int)))))) (x : Bool) (h : F t.1 t.2.1 t.2.2.1 t.2.2.2 = some x) : ACc Try.prog 17 (encA t) [] true [] fun rv obs => (rv, obs) = encR x := by
  refine fun_okc (L := (L)) (jn := []) (cmds := []) (ks := []) (hin := []) (fn := Try.f17) (body := (bodyOf Try.f17)) Gok hm Try.func17 (by kernel_rfl) (by kernel_rfl) (by rw [e]; exact Lor.ok_nil _ _) ?_ h
  refine (main laws_eqCommitS.Q laws_eqWeaveS.Q _ t.1 t.2.1 t.2.2.1 t.2.2.2).trans ?_
  rw [laws_eqCommitS.wrap, laws_eqWeaveS.wrap]
  refine congrArg (fun K => B laws_eqCommitS.F laws_eqWeaveS.F t.1 t.2.1 t.2.2.1 t.2.2.2 K) ?_
  funext x1
  exact ofC_enc encRI some (x1)
theorem ac0 (t : (Vec ((Vec Int) × ByteArray × (Vec (ByteArray × Int × Int)))) × (Vec ((Vec (Vec Int)) × (Vec (ByteArray × Int × Int × (Vec Int))))) × (Vec ((Vec Int) × ByteArray × (Vec (ByteArray × Int × Int)))) × (Vec ((Vec (Vec Int)) × (Vec (ByteArray × Int × Int × (Vec Int)))))) (x : Bool) (h : F t.1 t.2.1 t.2.2.1 t.2.2.2 = some x) : AC Try.prog 17 (encA t) [] true [] fun rv obs => (rv, obs) = encR x := ACc.ac (body := bodyOf Try.f17) Try.func17 (by kernel_rfl) (by kernel_rfl) (acc t x h)
theorem ac (args : List AV) (x : Bool) (h : Q args = some x) : AC Try.prog 17 args [] false [] fun rv obs => (rv, obs) = encR x := by
  obtain ⟨t, rfl, h2⟩ := ofC_some h
  refine (ac0 t x h2).flat fun rv obs e => ?_
  obtain rfl : rv = (encR x).1 := congrArg Prod.fst e
  obtain rfl : obs = (encR x).2 := congrArg Prod.snd e
  refine ⟨by simp [encR, AV.Flat, K.Flat, C.Flat], ?_⟩
  simp [encR]
end laws_eqStore
/-! loop.example/g00073/laws.FnExactStoreOk -/
namespace laws_FnExactStoreOk
noncomputable def B {ρ : Type} (C0 : (Vec ((Vec Int) × ByteArray × (Vec (ByteArray × Int × Int)))) → (Vec ((Vec (Vec Int)) × (Vec (ByteArray × Int × Int × (Vec Int))))) → Int → Option Int) (C1 : (Vec ((Vec Int) × ByteArray × (Vec (ByteArray × Int × Int)))) → (Vec ((Vec (Vec Int)) × (Vec (ByteArray × Int × Int × (Vec Int))))) → Option ((Vec ((Vec Int) × ByteArray × (Vec (ByteArray × Int × Int)))) × (Vec ((Vec (Vec Int)) × (Vec (ByteArray × Int × Int × (Vec Int))))))) (C2 : (Vec ((Vec Int) × ByteArray × (Vec (ByteArray × Int × Int)))) → (Vec ((Vec (Vec Int)) × (Vec (ByteArray × Int × Int × (Vec Int))))) → Option Bool) (C3 : (Vec ((Vec Int) × ByteArray × (Vec (ByteArray × Int × Int)))) → (Vec ((Vec (Vec Int)) × (Vec (ByteArray × Int × Int × (Vec Int))))) → Option Bool) (C4 : (Vec ((Vec Int) × ByteArray × (Vec (ByteArray × Int × Int)))) → (Vec ((Vec (Vec Int)) × (Vec (ByteArray × Int × Int × (Vec Int))))) → (Vec ((Vec Int) × ByteArray × (Vec (ByteArray × Int × Int)))) → (Vec ((Vec (Vec Int)) × (Vec (ByteArray × Int × Int × (Vec Int))))) → Option Bool) (a1 : Vec ((Vec Int) × ByteArray × (Vec (ByteArray × Int × Int)))) (a2 : Vec ((Vec (Vec Int)) × (Vec (ByteArray × Int × Int × (Vec Int))))) (K : Bool → Option ρ) : Option ρ :=
  (C0 a1 a2 (1048576 : Int)).bind fun r1 => sel (decide (r1 < (0 : Int))) (K true) ((C1 a1 a2).bind fun r2 => (C2 r2.1 r2.2).bind fun r3 => (C1 a1 a2).bind fun r4 => (C3 r4.1 r4.2).bind fun r5 => sel ((!(r5 == r3))) (K false) ((C1 a1 a2).bind fun r6 => (C4 r4.1 r4.2 r6.1 r6.2).bind fun r7 => sel ((!r7)) (K false) (K true)))
noncomputable def F (a1 : Vec ((Vec Int) × ByteArray × (Vec (ByteArray × Int × Int)))) (a2 : Vec ((Vec (Vec Int)) × (Vec (ByteArray × Int × Int × (Vec Int))))) : Option Bool := B laws_szStore.F laws_toStore.F spec_StoreOk.F impl_StoreOk.F laws_eqStore.F a1 a2 (fun x1 => some (x1))
def encA (t : (Vec ((Vec Int) × ByteArray × (Vec (ByteArray × Int × Int)))) × (Vec ((Vec (Vec Int)) × (Vec (ByteArray × Int × Int × (Vec Int)))))) : List AV := [.a [cl t.1, cl t.2]]
def encR (x : Bool) : AV × List Ob := (vb x, [])
theorem encAI : ∀ a b, encA a = encA b → a = b := by
  intro a b h
  obtain ⟨a0, a1⟩ := a
  obtain ⟨b0, b1⟩ := b
  simp [encA, encRw_iff] at h
  simp_all
theorem encRI : ∀ a b, encR a = encR b → a = b := by
  intro a b h
  simp [encR, encRw_iff] at h
  simp_all
noncomputable def Q (args : List AV) : Option Bool := ofC encA (fun t => F t.1 t.2) args
theorem wrap : (fun (y1 : Vec ((Vec Int) × ByteArray × (Vec (ByteArray × Int × Int)))) (y2 : Vec ((Vec (Vec Int)) × (Vec (ByteArray × Int × Int × (Vec Int))))) => Q [.a [cl y1, cl y2]]) = F := by
  funext y1 y2
  exact ofC_enc encAI _ (y1, y2)
noncomputable def G (Q0 : List AV → Option Int) (Q1 : List AV → Option ((Vec ((Vec Int) × ByteArray × (Vec (ByteArray × Int × Int)))) × (Vec ((Vec (Vec Int)) × (Vec (ByteArray × Int × Int × (Vec Int))))))) (Q2 : List AV → Option Bool) (Q3 : List AV → Option Bool) (Q4 : List AV → Option Bool) : Orc := ⟨fun f => sel (Nat.beq f 13) 0 (sel (Nat.beq f 15) 0 (sel (Nat.beq f 14) 0 (sel (Nat.beq f 16) 0 (sel (Nat.beq f 17) 0 (9))))), fun ρ f args K => sel (Nat.beq f 13) (qEntry laws_szStore.encR Q0 args K) (sel (Nat.beq f 15) (qEntry laws_toStore.encR Q1 args K) (sel (Nat.beq f 14) (qEntry spec_StoreOk.encR Q2 args K) (sel (Nat.beq f 16) (qEntry impl_StoreOk.encR Q3 args K) (sel (Nat.beq f 17) (qEntry laws_eqStore.encR Q4 args K) (Option.none))))), noE, false⟩
noncomputable def L : Lor := fun ρ j st K => Option.none
theorem main (Q0 Q1 Q2 Q3 Q4) {ρ : Type} (K : AV → List Ob → Option ρ) (a1 a2) : exC Try.prog (G Q0 Q1 Q2 Q3 Q4) (L) [] 0 (bodyOf Try.f4) (entry 27 [.a [cl a1, cl a2]] [] []) (finO Try.prog Try.f4.results.toList 0 [] [] K) =
    B (fun y1 y2 y3 => Q0 [.a [cl y1, cl y2], vi y3]) (fun y1 y2 => Q1 [.a [cl y1, cl y2]]) (fun y1 y2 => Q2 [.a [cl y1, cl y2]]) (fun y1 y2 => Q3 [.a [cl y1, cl y2]]) (fun y1 y2 y3 y4 => Q4 [.a [cl y1, cl y2], .a [cl y3, cl y4]]) a1 a2 (fun x1 => K (vb x1) []) := by kernel_rfl
theorem Gok : (G laws_szStore.Q laws_toStore.Q spec_StoreOk.Q impl_StoreOk.Q laws_eqStore.Q).ok Try.prog := ⟨(by
    intro ρ f args K r h
    rcases sel_cases h with ⟨hb, h⟩ | ⟨-, h⟩
    · obtain rfl := beq_nat hb
      exact qEntry_ok laws_szStore.ac h
    rcases sel_cases h with ⟨hb, h⟩ | ⟨-, h⟩
    · obtain rfl := beq_nat hb
      exact qEntry_ok laws_toStore.ac h
    rcases sel_cases h with ⟨hb, h⟩ | ⟨-, h⟩
    · obtain rfl := beq_nat hb
      exact qEntry_ok spec_StoreOk.ac h
    rcases sel_cases h with ⟨hb, h⟩ | ⟨-, h⟩
    · obtain rfl := beq_nat hb
      exact qEntry_ok impl_StoreOk.ac h
    rcases sel_cases h with ⟨hb, h⟩ | ⟨-, h⟩
    · obtain rfl := beq_nat hb
      exact qEntry_ok laws_eqStore.ac h
    cases h),
  (by
    intro ρ f args K
    simp only [G]
    cases Nat.beq f 13 with
    | true => exact qEntry_nat args K
    | false =>
    simp only [sel]
    cases Nat.beq f 15 with
    | true => exact qEntry_nat args K
    | false =>
    simp only [sel]
    cases Nat.beq f 14 with
    | true => exact qEntry_nat args K
    | false =>
    simp only [sel]
    cases Nat.beq f 16 with
    | true => exact qEntry_nat args K
    | false =>
    simp only [sel]
    cases Nat.beq f 17 with
    | true => exact qEntry_nat args K
    | false =>
    simp only [sel]
    rfl),
  (fun ρ f st caps args dst K r h => (by cases h))⟩
theorem hm : Try.prog.follows .mixedOrders = true := by kernel_rfl
theorem e : atomsL [] 0 (bodyOf Try.f4) = [] := by kernel_rfl
theorem acc (t : (Vec ((Vec Int) × ByteArray × (Vec (ByteArray × Int × Int)))) × (Vec ((Vec (Vec Int)) × (Vec (ByteArray × Int × Int × (Vec Int)))))) (x : Bool) (h : F t.1 t.2 = some x) : ACc Try.prog 4 (encA t) [] true [] fun rv obs => (rv, obs) = encR x := by
  refine fun_okc (L := (L)) (jn := []) (cmds := []) (ks := []) (hin := []) (fn := Try.f4) (body := (bodyOf Try.f4)) Gok hm Try.func4 (by kernel_rfl) (by kernel_rfl) (by rw [e]; exact Lor.ok_nil _ _) ?_ h
  refine (main laws_szStore.Q laws_toStore.Q spec_StoreOk.Q impl_StoreOk.Q laws_eqStore.Q _ t.1 t.2).trans ?_
  rw [laws_szStore.wrap, laws_toStore.wrap, spec_StoreOk.wrap, impl_StoreOk.wrap, laws_eqStore.wrap]
  refine congrArg (fun K => B laws_szStore.F laws_toStore.F spec_StoreOk.F impl_StoreOk.F laws_eqStore.F t.1 t.2 K) ?_
  funext x1
  exact ofC_enc encRI some (x1)
theorem ac0 (t : (Vec ((Vec Int) × ByteArray × (Vec (ByteArray × Int × Int)))) × (Vec ((Vec (Vec Int)) × (Vec (ByteArray × Int × Int × (Vec Int)))))) (x : Bool) (h : F t.1 t.2 = some x) : AC Try.prog 4 (encA t) [] true [] fun rv obs => (rv, obs) = encR x := ACc.ac (body := bodyOf Try.f4) Try.func4 (by kernel_rfl) (by kernel_rfl) (acc t x h)
theorem ac (args : List AV) (x : Bool) (h : Q args = some x) : AC Try.prog 4 args [] false [] fun rv obs => (rv, obs) = encR x := by
  obtain ⟨t, rfl, h2⟩ := ofC_some h
  refine (ac0 t x h2).flat fun rv obs e => ?_
  obtain rfl : rv = (encR x).1 := congrArg Prod.fst e
  obtain rfl : obs = (encR x).2 := congrArg Prod.snd e
  refine ⟨by simp [encR, AV.Flat, K.Flat, C.Flat], ?_⟩
  simp [encR]
end laws_FnExactStoreOk
end Go.Al
