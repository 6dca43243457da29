import Derived.Test.YtbhcecfdgkgjmaaAlF
import Derived.Test.YtbhcecfdgkgjmaaSC
import Derived.Test.YtbhcecfdgkgjmaaGDr
set_option linter.unusedVariables false
set_option linter.unusedSimpArgs false
set_option linter.constructorNameAsVariable false
set_option linter.unusedSectionVars false
set_option maxRecDepth 100000
namespace Go.Al
open Go.Proofs

/-! loop.example/g00073/spec.l16At -/
namespace spec_l16At
noncomputable def B0 {ρ : Type} (v1 : ByteArray) (v2 : Int) (v3 : Vec YF) (W : ByteArray → Int → YVF → Option ρ) (K0 : Unit → Option ρ) (Kr : Int → Option ρ) : Option ρ :=
  sel (decide (v2 < (v3.n : Int))) (chk (decide (0 ≤ v2 ∧ v2 < (v3.n : Int))) (sel (decide ((v3.g v2.toNat).1 = v1)) (Kr v2) (W v1 (wr (v2 + (1 : Int))) v3))) (K0 ())
noncomputable def F0 {ρ : Type} : Nat → ByteArray → Int → YVF → (Unit → Option ρ) → (Int → Option ρ) → Option ρ
  | 0, _, _, _, _, _ => none
  | k + 1, v1, v2, v3, K0, Kr => B0 v1 v2 v3 (fun v1' v2' v3' => F0 k v1' v2' v3' K0 Kr) K0 Kr
noncomputable def B {ρ : Type} (L0 : ByteArray → Int → YVF → (Unit → Option ρ) → (Int → Option ρ) → Option ρ) (a1 : Vec YF) (a2 : ByteArray) (K : Int → Option ρ) : Option ρ :=
  L0 a2 (0 : Int) a1 (fun _ => K (-1 : Int)) (fun x01 => K x01)
noncomputable def F (a1 : Vec YF) (a2 : ByteArray) : Option Int := B (F0 fuelN) a1 a2 (fun x1 => some (x1))
def encA (t : YVF × ByteArray) : List AV := [.a [cl t.1], vs t.2]
def encR (x : Int) : AV × List Ob := (vi x, [])
theorem encAI (a b) (h : encA a = encA b) : a = b := by simp [encA, encRw_iff] at h; simp [Prod.ext_iff, h]
theorem encRI (a b) (h : encR a = encR b) : a = b := by simpa [encR, encRw_iff] using h
noncomputable def Q (args : List AV) : Option Int := ofC encA (fun t => F t.1 t.2) args
theorem wrap : F = fun y1 y2 => Q [.a [cl y1], vs y2] := by funext y1 y2; exact Eq.symm (ofC_enc encAI _ (y1, y2))
noncomputable def c0 : Code := loopC (atomN [] 0 (bodyOf Try.f95) 0)
def ct0 : Cut := ⟨[1, 2, 5], []⟩
def lv0 : Exit → Cut
  | .exit 0 => ⟨[], []⟩
  | .ret => ⟨[4], []⟩
  | _ => ⟨[], []⟩
def k0_0 {ρ : Type} (K : Exit → St → Option ρ) (_ : Unit) : Option ρ := K (.exit 0) (mkS 22 (lv0 (.exit 0)).live [] [] [])
def k0_r {ρ : Type} (K : Exit → St → Option ρ) (z1 : Int) : Option ρ := K .ret (mkS 22 (lv0 .ret).live [vi z1] [] [])
noncomputable def L (W0 : (ρ : Type) → List AV → List Ob → (Unit → Option ρ) → (Int → Option ρ) → Option ρ) : Lor := fun ρ j st K => sel (Nat.beq j 0) (cutO Try.prog 22 ct0.live 0 [] ct0.cmds st fun avs obs => W0 ρ avs obs (k0_0 K) (k0_r K)) (Option.none)
theorem step0 {W0} {ρ : Type} {K : Exit → St → Option ρ} {W : List AV → List Ob → Option ρ} (v1 v2 v3) : exC Try.prog (mkO [] [] []) (L W0) [] 1 c0 (mkS 22 ct0.live [vs v1, .c (.p 0 0), vi v2] [.box [cl v3]] []) (bodyK Try.prog 22 0 [] ct0 W lv0 K) =
    B0 v1 v2 v3 (fun u1 u2 u3 => W [vs u1, .c (.p 0 0), vi u2] [.box [cl u3]]) (k0_0 K) (k0_r K) := by kernel_rfl
def enc0 (t : ByteArray × Int × YVF) : List AV × List Ob := ([vs t.1, .c (.p 0 0), vi t.2.1], [.box [cl t.2.2]])
theorem enc0I (a b) (h : enc0 a = enc0 b) : a = b := by simp [enc0, encRw_iff] at h; simp [Prod.ext_iff, h]
noncomputable def V0 : (ρ : Type) → List AV → List Ob → (Unit → Option ρ) → (Int → Option ρ) → Option ρ := fun ρ avs obs k0 kr => ofC enc0 (fun t => F0 fuelN t.1 t.2.1 t.2.2 k0 kr) (avs, obs)
theorem V0_enc (ρ : Type) : F0 fuelN = fun w1 w2 w3 k0 kr => V0 ρ [vs w1, .c (.p 0 0), vi w2] [.box [cl w3]] k0 kr := by funext w1 w2 w3 k0 kr; exact Eq.symm (ofC_enc enc0I _ (w1, w2, w3))
theorem main {W0} {ρ : Type} {K : AV → List Ob → Option ρ} (a1 a2) : exC Try.prog (mkO [] [] []) (L W0) [] 0 (bodyOf Try.f95) (entry 22 [.a [cl a1], vs a2] [] []) (finO Try.prog Try.f95.results.toList 0 [] [] K) =
    B (fun w1 w2 w3 k0 kr => W0 ρ [vs w1, .c (.p 0 0), vi w2] [.box [cl w3]] k0 kr) a1 a2 (fun x1 => K (vi x1) []) := by kernel_rfl
theorem Gok : (mkO [] [] []).ok Try.prog := mkO_ok (by exact trivial) (by exact trivial)
theorem ok0 (ρ : Type) (st : St) (K : Exit → St → Option ρ) (r : ρ) (h : (L V0) ρ 0 st K = some r) : AW Try.prog (.loop c0) st fun e st' => K e st' = some r :=
  loop_ok (ct := ct0) (lv := lv0) (L := (L V0)) Gok hmT (by rw [show atomsL [] 1 c0 = [] by kernel_rfl]; exact Lor.ok_nil _ _) enc0I (fun k t => F0 k t.1 t.2.1 t.2.2 (k0_0 K) (k0_r K)) (fun t => rfl) (fun k t => by refine (step0 t.1 t.2.1 t.2.2).trans ?_; exact congrFun (congrFun (congrArg (B0 t.1 t.2.1 t.2.2) (funext fun u1 => funext fun u2 => funext fun u3 => ofC_enc enc0I _ (u1, u2, u3))) _) _) (fun _ => fuelN) h
theorem e : atomsL [] 0 (bodyOf Try.f95) = [(0, 0, .loop c0)] := by kernel_rfl
theorem acc : ∀ t x, F t.1 t.2 = some x → ACc Try.prog 95 (encA t) [] true [] fun rv obs => (rv, obs) = encR x :=
  accT (T := YVF × ByteArray) (F := fun t => F t.1 t.2) (L := (L V0)) (cmds := []) (body := (bodyOf Try.f95)) Gok hmT Try.func95 (by kernel_rfl) (by kernel_rfl) (by rw [e]; exact Lor.ok_cons ok0 (Lor.ok_nil _ _)) (fun t => by refine (main t.1 t.2).trans ?_; rw [← V0_enc]; exact congrArg (B _ t.1 t.2) (funext fun x1 => ofC_enc encRI some (x1)))
theorem ac (args : List AV) (x : Int) (h : Q args = some x) : AC Try.prog 95 args [] false [] fun rv obs => (rv, obs) = encR x := acF (T := YVF × ByteArray) (F := fun t => F t.1 t.2) (body := (bodyOf Try.f95)) Try.func95 (by kernel_rfl) (by kernel_rfl) acc (fun x => ⟨by simp [encR, AV.Flat, K.Flat, C.Flat], fl0⟩) args x h
end spec_l16At
/-! loop.example/g00073/spec.l01In -/
namespace spec_l01In
noncomputable def B {ρ : Type} (a1 : Int) (a2 : Int) (a3 : Int) (K : Bool → Option ρ) : Option ρ :=
  sel (decide (a2 ≤ a1)) (K (decide (a1 ≤ a3))) (K false)
noncomputable def F (a1 : Int) (a2 : Int) (a3 : Int) : Option Bool := B a1 a2 a3 (fun x1 => some (x1))
def encA (t : Int × Int × Int) : List AV := [vi t.1, vi t.2.1, vi t.2.2]
def encR (x : Bool) : AV × List Ob := (vb x, [])
theorem encAI (a b) (h : encA a = encA b) : a = b := by simp [encA, encRw_iff] at h; simp [Prod.ext_iff, h]
theorem encRI (a b) (h : encR a = encR b) : a = b := by simpa [encR, encRw_iff] using h
noncomputable def Q (args : List AV) : Option Bool := ofC encA (fun t => F t.1 t.2.1 t.2.2) args
theorem wrap : F = fun y1 y2 y3 => Q [vi y1, vi y2, vi y3] := by funext y1 y2 y3; exact Eq.symm (ofC_enc encAI _ (y1, y2, y3))
noncomputable def L : Lor := fun _ _ _ _ => Option.none
theorem main {ρ : Type} {K : AV → List Ob → Option ρ} (a1 a2 a3) : exC Try.prog (mkO [] [] []) L [] 0 (bodyOf Try.f52) (entry 15 [vi a1, vi a2, vi a3] [] []) (finO Try.prog Try.f52.results.toList 0 [] [] K) =
    B a1 a2 a3 (fun x1 => K (vb x1) []) := by kernel_rfl
theorem Gok : (mkO [] [] []).ok Try.prog := mkO_ok (by exact trivial) (by exact trivial)
theorem acc : ∀ t x, F t.1 t.2.1 t.2.2 = some x → ACc Try.prog 52 (encA t) [] true [] fun rv obs => (rv, obs) = encR x :=
  accT (T := Int × Int × Int) (F := fun t => F t.1 t.2.1 t.2.2) (L := L) (cmds := []) (body := (bodyOf Try.f52)) Gok hmT Try.func52 (by kernel_rfl) (by kernel_rfl) (by rw [show atomsL [] 0 (bodyOf Try.f52) = [] by kernel_rfl]; exact Lor.ok_nil _ _) (fun t => by refine (main t.1 t.2.1 t.2.2).trans ?_; exact congrArg (B t.1 t.2.1 t.2.2) (funext fun x1 => ofC_enc encRI some (x1)))
theorem ac (args : List AV) (x : Bool) (h : Q args = some x) : AC Try.prog 52 args [] false [] fun rv obs => (rv, obs) = encR x := acF (T := Int × Int × Int) (F := fun t => F t.1 t.2.1 t.2.2) (body := (bodyOf Try.f52)) Try.func52 (by kernel_rfl) (by kernel_rfl) acc (fun x => ⟨by simp [encR, AV.Flat, K.Flat, C.Flat], fl0⟩) args x h
end spec_l01In
/-! loop.example/g00073/spec.DiskOk -/
namespace spec_DiskOk
noncomputable def B0 {ρ : Type} (C0 : Int → Int → Int → Option Bool) (v1 : Int) (v2 : Vec YF) (W : Int → YVF → Option ρ) (K0 : Unit → Option ρ) (Kr : Bool → Option ρ) : Option ρ :=
  sel (decide (v1 < (v2.n : Int))) (chk (decide (0 ≤ v1 ∧ v1 < (v2.n : Int))) ((C0 (((v2.g v1.toNat).1).size : Int) (1 : Int) (24 : Int)).bind fun r1 => sel ((!r1)) (Kr false) (chk (decide (0 ≤ v1 ∧ v1 < (v2.n : Int))) (sel (decide ((60004 : Int) < (((v2.g v1.toNat).2).size : Int))) (Kr false) (sel (decide ((0 : Int) < v1)) (chk (decide (0 ≤ (wr (v1 - (1 : Int))) ∧ (wr (v1 - (1 : Int))) < (v2.n : Int))) (chk (decide (0 ≤ v1 ∧ v1 < (v2.n : Int))) (sel ((!decide (((v2.g (wr (v1 - (1 : Int))).toNat).1).toList < ((v2.g v1.toNat).1).toList))) (Kr false) (W (wr (v1 + (1 : Int))) v2)))) (W (wr (v1 + (1 : Int))) v2)))))) (K0 ())
noncomputable def F0 {ρ : Type} : Nat → Int → YVF → (Unit → Option ρ) → (Bool → Option ρ) → Option ρ
  | 0, _, _, _, _ => none
  | k + 1, v1, v2, K0, Kr => B0 spec_l01In.F v1 v2 (fun v1' v2' => F0 k v1' v2' K0 Kr) K0 Kr
noncomputable def B {ρ : Type} (L0 : Int → YVF → (Unit → Option ρ) → (Bool → Option ρ) → Option ρ) (a1 : Vec YF) (K : Bool → Option ρ) : Option ρ :=
  sel (decide ((40 : Int) < (a1.n : Int))) (K false) (L0 (0 : Int) a1 (fun _ => K true) (fun x01 => K x01))
noncomputable def F (a1 : Vec YF) : Option Bool := B (F0 fuelN) a1 (fun x1 => some (x1))
def encA (t : Vec YF) : List AV := [.a [cl t]]
def encR (x : Bool) : AV × List Ob := (vb x, [])
theorem encAI (a b) (h : encA a = encA b) : a = b := by simpa [encA, encRw_iff] using h
theorem encRI (a b) (h : encR a = encR b) : a = b := by simpa [encR, encRw_iff] using h
noncomputable def Q (args : List AV) : Option Bool := ofC encA (fun t => F t) args
theorem wrap : F = fun y1 => Q [.a [cl y1]] := by funext y1; exact Eq.symm (ofC_enc encAI _ (y1))
noncomputable def c0 : Code := loopC (atomN [] 0 (bodyOf Try.f17) 0)
def ct0 : Cut := ⟨[1, 3], []⟩
def lv0 : Exit → Cut
  | .exit 0 => ⟨[], []⟩
  | .ret => ⟨[2], []⟩
  | _ => ⟨[], []⟩
def k0_0 {ρ : Type} (K : Exit → St → Option ρ) (_ : Unit) : Option ρ := K (.exit 0) (mkS 54 (lv0 (.exit 0)).live [] [] [])
def k0_r {ρ : Type} (K : Exit → St → Option ρ) (z1 : Bool) : Option ρ := K .ret (mkS 54 (lv0 .ret).live [vb z1] [] [])
noncomputable def L (W0 : (ρ : Type) → List AV → List Ob → (Unit → Option ρ) → (Bool → Option ρ) → Option ρ) : Lor := fun ρ j st K => sel (Nat.beq j 0) (cutO Try.prog 54 ct0.live 0 [] ct0.cmds st fun avs obs => W0 ρ avs obs (k0_0 K) (k0_r K)) (Option.none)
theorem step0 {Q0 W0} {ρ : Type} {K : Exit → St → Option ρ} {W : List AV → List Ob → Option ρ} (v1 v2) : exC Try.prog (mkO [qE 52 false spec_l01In.encR Q0] [] []) (L W0) [] 1 c0 (mkS 54 ct0.live [.c (.p 0 0), vi v1] [.box [cl v2]] []) (bodyK Try.prog 54 0 [] ct0 W lv0 K) =
    B0 (fun y1 y2 y3 => Q0 [vi y1, vi y2, vi y3]) v1 v2 (fun u1 u2 => W [.c (.p 0 0), vi u1] [.box [cl u2]]) (k0_0 K) (k0_r K) := by kernel_rfl
def enc0 (t : Int × YVF) : List AV × List Ob := ([.c (.p 0 0), vi t.1], [.box [cl t.2]])
theorem enc0I (a b) (h : enc0 a = enc0 b) : a = b := by simp [enc0, encRw_iff] at h; simp [Prod.ext_iff, h]
noncomputable def V0 : (ρ : Type) → List AV → List Ob → (Unit → Option ρ) → (Bool → Option ρ) → Option ρ := fun ρ avs obs k0 kr => ofC enc0 (fun t => F0 fuelN t.1 t.2 k0 kr) (avs, obs)
theorem V0_enc (ρ : Type) : F0 fuelN = fun w1 w2 k0 kr => V0 ρ [.c (.p 0 0), vi w1] [.box [cl w2]] k0 kr := by funext w1 w2 k0 kr; exact Eq.symm (ofC_enc enc0I _ (w1, w2))
theorem main {Q0 W0} {ρ : Type} {K : AV → List Ob → Option ρ} (a1) : exC Try.prog (mkO [qE 52 false spec_l01In.encR Q0] [] []) (L W0) [] 0 (bodyOf Try.f17) (entry 54 [.a [cl a1]] [] []) (finO Try.prog Try.f17.results.toList 0 [] [] K) =
    B (fun w1 w2 k0 kr => W0 ρ [.c (.p 0 0), vi w1] [.box [cl w2]] k0 kr) a1 (fun x1 => K (vb x1) []) := by kernel_rfl
theorem Gok : (mkO [qE 52 false spec_l01In.encR spec_l01In.Q] [] []).ok Try.prog := mkO_ok (by exact ⟨qE_ok spec_l01In.ac, trivial⟩) (by exact trivial)
theorem ok0 (ρ : Type) (st : St) (K : Exit → St → Option ρ) (r : ρ) (h : (L V0) ρ 0 st K = some r) : AW Try.prog (.loop c0) st fun e st' => K e st' = some r :=
  loop_ok (ct := ct0) (lv := lv0) (L := (L V0)) Gok hmT (by rw [show atomsL [] 1 c0 = [] by kernel_rfl]; exact Lor.ok_nil _ _) enc0I (fun k t => F0 k t.1 t.2 (k0_0 K) (k0_r K)) (fun t => rfl) (fun k t => by refine (step0 t.1 t.2).trans ?_; rw [← spec_l01In.wrap]; exact congrFun (congrFun (congrArg (B0 _ t.1 t.2) (funext fun u1 => funext fun u2 => ofC_enc enc0I _ (u1, u2))) _) _) (fun _ => fuelN) h
theorem e : atomsL [] 0 (bodyOf Try.f17) = [(0, 0, .loop c0)] := by kernel_rfl
theorem acc : ∀ t x, F t = some x → ACc Try.prog 17 (encA t) [] true [] fun rv obs => (rv, obs) = encR x :=
  accT (T := Vec YF) (F := fun t => F t) (L := (L V0)) (cmds := []) (body := (bodyOf Try.f17)) Gok hmT Try.func17 (by kernel_rfl) (by kernel_rfl) (by rw [e]; exact Lor.ok_cons ok0 (Lor.ok_nil _ _)) (fun t => by refine (main t).trans ?_; rw [← V0_enc]; exact congrArg (B _ t) (funext fun x1 => ofC_enc encRI some (x1)))
theorem ac (args : List AV) (x : Bool) (h : Q args = some x) : AC Try.prog 17 args [] false [] fun rv obs => (rv, obs) = encR x := acF (T := Vec YF) (F := fun t => F t) (body := (bodyOf Try.f17)) Try.func17 (by kernel_rfl) (by kernel_rfl) acc (fun x => ⟨by simp [encR, AV.Flat, K.Flat, C.Flat], fl0⟩) args x h
end spec_DiskOk
/-! loop.example/g00073/spec.l16Put -/
namespace spec_l16Put
noncomputable def B1 {ρ : Type} (v1 : Int) (v2 : Vec YF) (v3 : ByteArray) (v4 : ByteArray) (v5 : Vec YF) (W : Int → YVF → ByteArray → ByteArray → YVF → Option ρ) (K2 : YVF → Option ρ) : Option ρ :=
  sel (decide (v1 < (v2.n : Int))) (chk (decide (0 ≤ v1 ∧ v1 < (v2.n : Int))) (sel (decide (v3.toList < ((v2.g v1.toNat).1).toList)) (chk (decide (0 ≤ v1 ∧ v1 < (v2.n : Int))) (chk (decide ((v5.n + (Vec.lit [((v2.g v1.toNat).1, (v2.g v1.toNat).2)] : Vec YF).n) * 33 ≤ maxN)) (W (wr (v1 + (1 : Int))) v2 v3 v4 (Vec.app v5 (Vec.lit [((v2.g v1.toNat).1, (v2.g v1.toNat).2)] : Vec YF))))) (W (wr (v1 + (1 : Int))) v2 v3 v4 v5))) (K2 v5)
noncomputable def F1 {ρ : Type} : Nat → Int → YVF → ByteArray → ByteArray → YVF → (YVF → Option ρ) → Option ρ
  | 0, _, _, _, _, _, _ => none
  | k + 1, v1, v2, v3, v4, v5, K2 => B1 v1 v2 v3 v4 v5 (fun v1' v2' v3' v4' v5' => F1 k v1' v2' v3' v4' v5' K2) K2
noncomputable def B0 {ρ : Type} (v1 : Int) (v2 : Vec YF) (v3 : ByteArray) (v4 : ByteArray) (v5 : Vec YF) (W : Int → YVF → ByteArray → ByteArray → YVF → Option ρ) (K0 : YVF → ByteArray → ByteArray → YVF → Option ρ) : Option ρ :=
  sel (decide (v1 < (v2.n : Int))) (chk (decide (0 ≤ v1 ∧ v1 < (v2.n : Int))) (sel (decide (((v2.g v1.toNat).1).toList < v3.toList)) (chk (decide (0 ≤ v1 ∧ v1 < (v2.n : Int))) (chk (decide ((v5.n + (Vec.lit [((v2.g v1.toNat).1, (v2.g v1.toNat).2)] : Vec YF).n) * 33 ≤ maxN)) (W (wr (v1 + (1 : Int))) v2 v3 v4 (Vec.app v5 (Vec.lit [((v2.g v1.toNat).1, (v2.g v1.toNat).2)] : Vec YF))))) (W (wr (v1 + (1 : Int))) v2 v3 v4 v5))) (K0 v2 v3 v4 v5)
noncomputable def F0 {ρ : Type} : Nat → Int → YVF → ByteArray → ByteArray → YVF → (YVF → ByteArray → ByteArray → YVF → Option ρ) → Option ρ
  | 0, _, _, _, _, _, _ => none
  | k + 1, v1, v2, v3, v4, v5, K0 => B0 v1 v2 v3 v4 v5 (fun v1' v2' v3' v4' v5' => F0 k v1' v2' v3' v4' v5' K0) K0
noncomputable def B {ρ : Type} (L0 : Int → YVF → ByteArray → ByteArray → YVF → (YVF → ByteArray → ByteArray → YVF → Option ρ) → Option ρ) (L1 : Int → YVF → ByteArray → ByteArray → YVF → (YVF → Option ρ) → Option ρ) (a1 : Vec YF) (a2 : ByteArray) (a3 : ByteArray) (K : YVF → Option ρ) : Option ρ :=
  L0 (0 : Int) a1 a2 a3 (Vec.nil : Vec YF) (fun e01 e02 e03 e04 => chk (decide ((e04.n + (Vec.lit [(e02, e03)] : Vec YF).n) * 33 ≤ maxN)) (L1 (0 : Int) e01 e02 e03 (Vec.app e04 (Vec.lit [(e02, e03)] : Vec YF)) (fun e11 => K e11)))
noncomputable def F (a1 : Vec YF) (a2 : ByteArray) (a3 : ByteArray) : Option YVF := B (F0 fuelN) (F1 fuelN) a1 a2 a3 (fun x1 => some (x1))
def encA (t : YVF × ByteArray × ByteArray) : List AV := [.a [cl t.1], .a [cs t.2.1, cs t.2.2]]
def encR (x : Vec YF) : AV × List Ob := (.a [.h 0], [ro x])
theorem encAI (a b) (h : encA a = encA b) : a = b := by simp [encA, encRw_iff] at h; simp [Prod.ext_iff, h]
theorem encRI (a b) (h : encR a = encR b) : a = b := by simpa [encR, encRw_iff] using h
noncomputable def Q (args : List AV) : Option YVF := ofC encA (fun t => F t.1 t.2.1 t.2.2) args
theorem wrap : F = fun y1 y2 y3 => Q [.a [cl y1], .a [cs y2, cs y3]] := by funext y1 y2 y3; exact Eq.symm (ofC_enc encAI _ (y1, y2, y3))
noncomputable def c0 : Code := loopC (atomN [] 0 (bodyOf Try.f83) 0)
noncomputable def c1 : Code := loopC (atomN [] 0 (bodyOf Try.f83) 1)
def ct0 : Cut := ⟨[2, 3, 4, 5, 6], [.ad (.p 5 0) 33]⟩
def lv0 : Exit → Cut
  | .exit 0 => ⟨[2, 3, 4, 5], []⟩
  | _ => ⟨[], []⟩
def k0_0 {ρ : Type} (K : Exit → St → Option ρ) (z1 : Vec YF) (z2 : ByteArray) (z3 : ByteArray) (z4 : Vec YF) : Option ρ := K (.exit 0) (mkS 68 (lv0 (.exit 0)).live [.c (.p 0 0), .c (.p 1 0), .c (.p 2 0), .c (.p 3 0)] [.box [cl z1], .box [cs z2, cs z3], .box [.z], .box [.h 4], ro z4] [])
def ct1 : Cut := ⟨[2, 3, 4, 5, 7], []⟩
def lv1 : Exit → Cut
  | .exit 2 => ⟨[4, 5], []⟩
  | _ => ⟨[], []⟩
def k1_2 {ρ : Type} (K : Exit → St → Option ρ) (z1 : Vec YF) : Option ρ := K (.exit 2) (mkS 68 (lv1 (.exit 2)).live [.c (.p 0 0), .c (.p 1 0)] [.box [.z], .box [.h 2], ro z1] [])
noncomputable def L (W1 : (ρ : Type) → List AV → List Ob → (YVF → Option ρ) → Option ρ) (W0 : (ρ : Type) → List AV → List Ob → (YVF → ByteArray → ByteArray → YVF → Option ρ) → Option ρ) : Lor := fun ρ j st K => sel (Nat.beq j 0) (cutO Try.prog 68 ct0.live 0 [] ct0.cmds st fun avs obs => W0 ρ avs obs (k0_0 K)) (sel (Nat.beq j 1) (cutO Try.prog 68 ct1.live 0 [] ct1.cmds st fun avs obs => W1 ρ avs obs (k1_2 K)) (Option.none))
theorem step0 {W1 W0} {ρ : Type} {K : Exit → St → Option ρ} {W : List AV → List Ob → Option ρ} (v1 v2 v3 v4 v5) : exC Try.prog (mkO [] [] []) (L W1 W0) [] 1 c0 (mkS 68 ct0.live [.c (.p 0 0), .c (.p 1 0), .c (.p 2 0), .c (.p 3 0), vi v1] [.box [cl v2], .box [cs v3, cs v4], .box [.z], .box [.h 4], ro v5] []) (bodyK Try.prog 68 0 [] ct0 W lv0 K) =
    B0 v1 v2 v3 v4 v5 (fun u1 u2 u3 u4 u5 => W [.c (.p 0 0), .c (.p 1 0), .c (.p 2 0), .c (.p 3 0), vi u1] [.box [cl u2], .box [cs u3, cs u4], .box [.z], .box [.h 4], ro u5]) (k0_0 K) := by kernel_rfl
def enc0 (t : Int × YVF × ByteArray × ByteArray × YVF) : List AV × List Ob := ([.c (.p 0 0), .c (.p 1 0), .c (.p 2 0), .c (.p 3 0), vi t.1], [.box [cl t.2.1], .box [cs t.2.2.1, cs t.2.2.2.1], .box [.z], .box [.h 4], ro t.2.2.2.2])
theorem enc0I (a b) (h : enc0 a = enc0 b) : a = b := by simp [enc0, encRw_iff] at h; simp [Prod.ext_iff, h]
noncomputable def V0 : (ρ : Type) → List AV → List Ob → (YVF → ByteArray → ByteArray → YVF → Option ρ) → Option ρ := fun ρ avs obs k0 => ofC enc0 (fun t => F0 fuelN t.1 t.2.1 t.2.2.1 t.2.2.2.1 t.2.2.2.2 k0) (avs, obs)
theorem V0_enc (ρ : Type) : F0 fuelN = fun w1 w2 w3 w4 w5 k0 => V0 ρ [.c (.p 0 0), .c (.p 1 0), .c (.p 2 0), .c (.p 3 0), vi w1] [.box [cl w2], .box [cs w3, cs w4], .box [.z], .box [.h 4], ro w5] k0 := by funext w1 w2 w3 w4 w5 k0; exact Eq.symm (ofC_enc enc0I _ (w1, w2, w3, w4, w5))
theorem step1 {W1 W0} {ρ : Type} {K : Exit → St → Option ρ} {W : List AV → List Ob → Option ρ} (v1 v2 v3 v4 v5) : exC Try.prog (mkO [] [] []) (L W1 W0) [] 2 c1 (mkS 68 ct1.live [.c (.p 0 0), .c (.p 1 0), .c (.p 2 0), .c (.p 3 0), vi v1] [.box [cl v2], .box [cs v3, cs v4], .box [.z], .box [.h 4], ro v5] []) (bodyK Try.prog 68 0 [] ct1 W lv1 K) =
    B1 v1 v2 v3 v4 v5 (fun u1 u2 u3 u4 u5 => W [.c (.p 0 0), .c (.p 1 0), .c (.p 2 0), .c (.p 3 0), vi u1] [.box [cl u2], .box [cs u3, cs u4], .box [.z], .box [.h 4], ro u5]) (k1_2 K) := by kernel_rfl
def enc1 (t : Int × YVF × ByteArray × ByteArray × YVF) : List AV × List Ob := ([.c (.p 0 0), .c (.p 1 0), .c (.p 2 0), .c (.p 3 0), vi t.1], [.box [cl t.2.1], .box [cs t.2.2.1, cs t.2.2.2.1], .box [.z], .box [.h 4], ro t.2.2.2.2])
theorem enc1I (a b) (h : enc1 a = enc1 b) : a = b := by simp [enc1, encRw_iff] at h; simp [Prod.ext_iff, h]
noncomputable def V1 : (ρ : Type) → List AV → List Ob → (YVF → Option ρ) → Option ρ := fun ρ avs obs k2 => ofC enc1 (fun t => F1 fuelN t.1 t.2.1 t.2.2.1 t.2.2.2.1 t.2.2.2.2 k2) (avs, obs)
theorem V1_enc (ρ : Type) : F1 fuelN = fun w1 w2 w3 w4 w5 k2 => V1 ρ [.c (.p 0 0), .c (.p 1 0), .c (.p 2 0), .c (.p 3 0), vi w1] [.box [cl w2], .box [cs w3, cs w4], .box [.z], .box [.h 4], ro w5] k2 := by funext w1 w2 w3 w4 w5 k2; exact Eq.symm (ofC_enc enc1I _ (w1, w2, w3, w4, w5))
theorem main {W1 W0} {ρ : Type} {K : AV → List Ob → Option ρ} (a1 a2 a3) : exC Try.prog (mkO [] [] []) (L W1 W0) [] 0 (bodyOf Try.f83) (entry 68 [.a [cl a1], .a [cs a2, cs a3]] [] []) (finO Try.prog Try.f83.results.toList 0 [] [] K) =
    B (fun w1 w2 w3 w4 w5 k0 => W0 ρ [.c (.p 0 0), .c (.p 1 0), .c (.p 2 0), .c (.p 3 0), vi w1] [.box [cl w2], .box [cs w3, cs w4], .box [.z], .box [.h 4], ro w5] k0) (fun w1 w2 w3 w4 w5 k2 => W1 ρ [.c (.p 0 0), .c (.p 1 0), .c (.p 2 0), .c (.p 3 0), vi w1] [.box [cl w2], .box [cs w3, cs w4], .box [.z], .box [.h 4], ro w5] k2) a1 a2 a3 (fun x1 => K (.a [.h 0]) [ro x1]) := by kernel_rfl
theorem Gok : (mkO [] [] []).ok Try.prog := mkO_ok (by exact trivial) (by exact trivial)
theorem ok1 (ρ : Type) (st : St) (K : Exit → St → Option ρ) (r : ρ) (h : (L V1 V0) ρ 1 st K = some r) : AW Try.prog (.loop c1) st fun e st' => K e st' = some r :=
  loop_ok (ct := ct1) (lv := lv1) (L := (L V1 V0)) Gok hmT (by rw [show atomsL [] 2 c1 = [] by kernel_rfl]; exact Lor.ok_nil _ _) enc1I (fun k t => F1 k t.1 t.2.1 t.2.2.1 t.2.2.2.1 t.2.2.2.2 (k1_2 K)) (fun t => rfl) (fun k t => by refine (step1 t.1 t.2.1 t.2.2.1 t.2.2.2.1 t.2.2.2.2).trans ?_; exact congrFun (congrArg (B1 t.1 t.2.1 t.2.2.1 t.2.2.2.1 t.2.2.2.2) (funext fun u1 => funext fun u2 => funext fun u3 => funext fun u4 => funext fun u5 => ofC_enc enc1I _ (u1, u2, u3, u4, u5))) _) (fun _ => fuelN) h
theorem ok0 (ρ : Type) (st : St) (K : Exit → St → Option ρ) (r : ρ) (h : (L V1 V0) ρ 0 st K = some r) : AW Try.prog (.loop c0) st fun e st' => K e st' = some r :=
  loop_ok (ct := ct0) (lv := lv0) (L := (L V1 V0)) Gok hmT (by rw [show atomsL [] 1 c0 = [] by kernel_rfl]; exact Lor.ok_nil _ _) enc0I (fun k t => F0 k t.1 t.2.1 t.2.2.1 t.2.2.2.1 t.2.2.2.2 (k0_0 K)) (fun t => rfl) (fun k t => by refine (step0 t.1 t.2.1 t.2.2.1 t.2.2.2.1 t.2.2.2.2).trans ?_; exact congrFun (congrArg (B0 t.1 t.2.1 t.2.2.1 t.2.2.2.1 t.2.2.2.2) (funext fun u1 => funext fun u2 => funext fun u3 => funext fun u4 => funext fun u5 => ofC_enc enc0I _ (u1, u2, u3, u4, u5))) _) (fun _ => fuelN) h
theorem e : atomsL [] 0 (bodyOf Try.f83) = [(0, 0, .loop c0), (1, 1, .loop c1)] := by kernel_rfl
theorem acc : ∀ t x, F t.1 t.2.1 t.2.2 = some x → ACc Try.prog 83 (encA t) [] true [] fun rv obs => (rv, obs) = encR x :=
  accT (T := YVF × ByteArray × ByteArray) (F := fun t => F t.1 t.2.1 t.2.2) (L := (L V1 V0)) (cmds := []) (body := (bodyOf Try.f83)) Gok hmT Try.func83 (by kernel_rfl) (by kernel_rfl) (by rw [e]; exact Lor.ok_cons ok0 (Lor.ok_cons ok1 (Lor.ok_nil _ _))) (fun t => by refine (main t.1 t.2.1 t.2.2).trans ?_; rw [← V0_enc, ← V1_enc]; exact congrArg (B _ _ t.1 t.2.1 t.2.2) (funext fun x1 => ofC_enc encRI some (x1)))
theorem ac (args : List AV) (x : Vec YF) (h : Q args = some x) : AC Try.prog 83 args [] false [] fun rv obs => (rv, obs) = encR x := acF (T := YVF × ByteArray × ByteArray) (F := fun t => F t.1 t.2.1 t.2.2) (body := (bodyOf Try.f83)) Try.func83 (by kernel_rfl) (by kernel_rfl) acc (fun x => ⟨by simp [encR, AV.Flat, K.Flat, C.Flat], flc (flat_rw rfl _) (fl0)⟩) args x h
end spec_l16Put
/-! loop.example/g00073/spec.l16Drop -/
namespace spec_l16Drop
noncomputable def B0 {ρ : Type} (v1 : ByteArray) (v2 : Int) (v3 : Vec YF) (v4 : Vec YF) (W : ByteArray → Int → YVF → YVF → Option ρ) (K0 : YVF → Option ρ) : Option ρ :=
  sel (decide (v2 < (v3.n : Int))) (chk (decide (0 ≤ v2 ∧ v2 < (v3.n : Int))) (sel ((!decide ((v3.g v2.toNat).1 = v1))) (chk (decide (0 ≤ v2 ∧ v2 < (v3.n : Int))) (chk (decide ((v4.n + (Vec.lit [((v3.g v2.toNat).1, (v3.g v2.toNat).2)] : Vec YF).n) * 33 ≤ maxN)) (W v1 (wr (v2 + (1 : Int))) v3 (Vec.app v4 (Vec.lit [((v3.g v2.toNat).1, (v3.g v2.toNat).2)] : Vec YF))))) (W v1 (wr (v2 + (1 : Int))) v3 v4))) (K0 v4)
noncomputable def F0 {ρ : Type} : Nat → ByteArray → Int → YVF → YVF → (YVF → Option ρ) → Option ρ
  | 0, _, _, _, _, _ => none
  | k + 1, v1, v2, v3, v4, K0 => B0 v1 v2 v3 v4 (fun v1' v2' v3' v4' => F0 k v1' v2' v3' v4' K0) K0
noncomputable def B {ρ : Type} (L0 : ByteArray → Int → YVF → YVF → (YVF → Option ρ) → Option ρ) (a1 : Vec YF) (a2 : ByteArray) (K : YVF → Option ρ) : Option ρ :=
  L0 a2 (0 : Int) a1 (Vec.nil : Vec YF) (fun e01 => K e01)
noncomputable def F (a1 : Vec YF) (a2 : ByteArray) : Option YVF := B (F0 fuelN) a1 a2 (fun x1 => some (x1))
def encA (t : YVF × ByteArray) : List AV := [.a [cl t.1], vs t.2]
def encR (x : Vec YF) : AV × List Ob := (.a [.h 0], [ro x])
theorem encAI (a b) (h : encA a = encA b) : a = b := by simp [encA, encRw_iff] at h; simp [Prod.ext_iff, h]
theorem encRI (a b) (h : encR a = encR b) : a = b := by simpa [encR, encRw_iff] using h
noncomputable def Q (args : List AV) : Option YVF := ofC encA (fun t => F t.1 t.2) args
theorem wrap : F = fun y1 y2 => Q [.a [cl y1], vs y2] := by funext y1 y2; exact Eq.symm (ofC_enc encAI _ (y1, y2))
noncomputable def c0 : Code := loopC (atomN [] 0 (bodyOf Try.f96) 0)
def ct0 : Cut := ⟨[1, 2, 4, 5, 6], [.ad (.p 5 0) 33]⟩
def lv0 : Exit → Cut
  | .exit 0 => ⟨[4, 5], []⟩
  | _ => ⟨[], []⟩
def k0_0 {ρ : Type} (K : Exit → St → Option ρ) (z1 : Vec YF) : Option ρ := K (.exit 0) (mkS 34 (lv0 (.exit 0)).live [.c (.p 0 0), .c (.p 1 0)] [.box [.z], .box [.h 2], ro z1] [])
noncomputable def L (W0 : (ρ : Type) → List AV → List Ob → (YVF → Option ρ) → Option ρ) : Lor := fun ρ j st K => sel (Nat.beq j 0) (cutO Try.prog 34 ct0.live 0 [] ct0.cmds st fun avs obs => W0 ρ avs obs (k0_0 K)) (Option.none)
theorem step0 {W0} {ρ : Type} {K : Exit → St → Option ρ} {W : List AV → List Ob → Option ρ} (v1 v2 v3 v4) : exC Try.prog (mkO [] [] []) (L W0) [] 1 c0 (mkS 34 ct0.live [vs v1, .c (.p 0 0), .c (.p 1 0), .c (.p 2 0), vi v2] [.box [cl v3], .box [.z], .box [.h 3], ro v4] []) (bodyK Try.prog 34 0 [] ct0 W lv0 K) =
    B0 v1 v2 v3 v4 (fun u1 u2 u3 u4 => W [vs u1, .c (.p 0 0), .c (.p 1 0), .c (.p 2 0), vi u2] [.box [cl u3], .box [.z], .box [.h 3], ro u4]) (k0_0 K) := by kernel_rfl
def enc0 (t : ByteArray × Int × YVF × YVF) : List AV × List Ob := ([vs t.1, .c (.p 0 0), .c (.p 1 0), .c (.p 2 0), vi t.2.1], [.box [cl t.2.2.1], .box [.z], .box [.h 3], ro t.2.2.2])
theorem enc0I (a b) (h : enc0 a = enc0 b) : a = b := by simp [enc0, encRw_iff] at h; simp [Prod.ext_iff, h]
noncomputable def V0 : (ρ : Type) → List AV → List Ob → (YVF → Option ρ) → Option ρ := fun ρ avs obs k0 => ofC enc0 (fun t => F0 fuelN t.1 t.2.1 t.2.2.1 t.2.2.2 k0) (avs, obs)
theorem V0_enc (ρ : Type) : F0 fuelN = fun w1 w2 w3 w4 k0 => V0 ρ [vs w1, .c (.p 0 0), .c (.p 1 0), .c (.p 2 0), vi w2] [.box [cl w3], .box [.z], .box [.h 3], ro w4] k0 := by funext w1 w2 w3 w4 k0; exact Eq.symm (ofC_enc enc0I _ (w1, w2, w3, w4))
theorem main {W0} {ρ : Type} {K : AV → List Ob → Option ρ} (a1 a2) : exC Try.prog (mkO [] [] []) (L W0) [] 0 (bodyOf Try.f96) (entry 34 [.a [cl a1], vs a2] [] []) (finO Try.prog Try.f96.results.toList 0 [] [] K) =
    B (fun w1 w2 w3 w4 k0 => W0 ρ [vs w1, .c (.p 0 0), .c (.p 1 0), .c (.p 2 0), vi w2] [.box [cl w3], .box [.z], .box [.h 3], ro w4] k0) a1 a2 (fun x1 => K (.a [.h 0]) [ro x1]) := by kernel_rfl
theorem Gok : (mkO [] [] []).ok Try.prog := mkO_ok (by exact trivial) (by exact trivial)
theorem ok0 (ρ : Type) (st : St) (K : Exit → St → Option ρ) (r : ρ) (h : (L V0) ρ 0 st K = some r) : AW Try.prog (.loop c0) st fun e st' => K e st' = some r :=
  loop_ok (ct := ct0) (lv := lv0) (L := (L V0)) Gok hmT (by rw [show atomsL [] 1 c0 = [] by kernel_rfl]; exact Lor.ok_nil _ _) enc0I (fun k t => F0 k t.1 t.2.1 t.2.2.1 t.2.2.2 (k0_0 K)) (fun t => rfl) (fun k t => by refine (step0 t.1 t.2.1 t.2.2.1 t.2.2.2).trans ?_; exact congrFun (congrArg (B0 t.1 t.2.1 t.2.2.1 t.2.2.2) (funext fun u1 => funext fun u2 => funext fun u3 => funext fun u4 => ofC_enc enc0I _ (u1, u2, u3, u4))) _) (fun _ => fuelN) h
theorem e : atomsL [] 0 (bodyOf Try.f96) = [(0, 0, .loop c0)] := by kernel_rfl
theorem acc : ∀ t x, F t.1 t.2 = some x → ACc Try.prog 96 (encA t) [] true [] fun rv obs => (rv, obs) = encR x :=
  accT (T := YVF × ByteArray) (F := fun t => F t.1 t.2) (L := (L V0)) (cmds := []) (body := (bodyOf Try.f96)) Gok hmT Try.func96 (by kernel_rfl) (by kernel_rfl) (by rw [e]; exact Lor.ok_cons ok0 (Lor.ok_nil _ _)) (fun t => by refine (main t.1 t.2).trans ?_; rw [← V0_enc]; exact congrArg (B _ t.1 t.2) (funext fun x1 => ofC_enc encRI some (x1)))
theorem ac (args : List AV) (x : Vec YF) (h : Q args = some x) : AC Try.prog 96 args [] false [] fun rv obs => (rv, obs) = encR x := acF (T := YVF × ByteArray) (F := fun t => F t.1 t.2) (body := (bodyOf Try.f96)) Try.func96 (by kernel_rfl) (by kernel_rfl) acc (fun x => ⟨by simp [encR, AV.Flat, K.Flat, C.Flat], flc (flat_rw rfl _) (fl0)⟩) args x h
end spec_l16Drop
/-! loop.example/g00073/spec.PutRaw -/
namespace spec_PutRaw
noncomputable def B {ρ : Type} (C0 : YVF → ByteArray → Option Int) (C1 : YVF → Option Bool) (C2 : Int → Int → Int → Option Bool) (C3 : YVF → ByteArray → ByteArray → Option YVF) (C4 : YVF → ByteArray → Option YVF) (a1 : Vec YF) (a2 : Int) (a3 : ByteArray) (a4 : ByteArray) (a5 : ByteArray) (K : Bool → YVF → Option ρ) : Option ρ :=
  (C0 a1 a3).bind fun r1 => (C1 a1).bind fun r2 => sel ((!r2)) (K false (Vec.nil : Vec YF)) ((C2 a2 (1 : Int) (4 : Int)).bind fun r3 => sel ((!r3)) (K false (Vec.nil : Vec YF)) (sel (decide (r1 < (0 : Int))) (sel (decide (a2 = (2 : Int))) (K false (Vec.nil : Vec YF)) (sel (decide (a2 = (3 : Int))) (K false (Vec.nil : Vec YF)) (chk (decide (a1.n * 33 ≤ maxN)) (sel (decide (a2 = (1 : Int))) ((C3 a1 a3 a5).bind fun r4 => (C1 r4).bind fun r5 => sel ((!r5)) (K false (Vec.nil : Vec YF)) (K true r4)) (sel (decide (a2 = (2 : Int))) (sel ((!decide (a4 = a3))) ((C4 a1 a3).bind fun r6 => chk (decide (0 ≤ r1 ∧ r1 < (a1.n : Int))) ((C3 r6 a4 ((a1.g r1.toNat).2)).bind fun r7 => (C1 r7).bind fun r8 => sel ((!r8)) (K false (Vec.nil : Vec YF)) (K true r7))) ((C1 a1).bind fun r9 => sel ((!r9)) (K false (Vec.nil : Vec YF)) (K true a1))) (sel (decide (a2 = (3 : Int))) ((C4 a1 a3).bind fun r10 => (C1 r10).bind fun r11 => sel ((!r11)) (K false (Vec.nil : Vec YF)) (K true r10)) ((C1 a1).bind fun r12 => sel ((!r12)) (K false (Vec.nil : Vec YF)) (K true a1)))))))) (chk (decide (a1.n * 33 ≤ maxN)) (sel (decide (a2 = (1 : Int))) ((C3 a1 a3 a5).bind fun r13 => (C1 r13).bind fun r14 => sel ((!r14)) (K false (Vec.nil : Vec YF)) (K true r13)) (sel (decide (a2 = (2 : Int))) (sel ((!decide (a4 = a3))) ((C4 a1 a3).bind fun r15 => chk (decide (0 ≤ r1 ∧ r1 < (a1.n : Int))) ((C3 r15 a4 ((a1.g r1.toNat).2)).bind fun r16 => (C1 r16).bind fun r17 => sel ((!r17)) (K false (Vec.nil : Vec YF)) (K true r16))) ((C1 a1).bind fun r18 => sel ((!r18)) (K false (Vec.nil : Vec YF)) (K true a1))) (sel (decide (a2 = (3 : Int))) ((C4 a1 a3).bind fun r19 => (C1 r19).bind fun r20 => sel ((!r20)) (K false (Vec.nil : Vec YF)) (K true r19)) ((C1 a1).bind fun r21 => sel ((!r21)) (K false (Vec.nil : Vec YF)) (K true a1))))))))
noncomputable def F (a1 : Vec YF) (a2 : Int) (a3 : ByteArray) (a4 : ByteArray) (a5 : ByteArray) : Option (Bool × YVF) := B spec_l16At.F spec_DiskOk.F spec_l01In.F spec_l16Put.F spec_l16Drop.F a1 a2 a3 a4 a5 (fun x1 x2 => some (x1, x2))
def encA (t : YVF × Int × ByteArray × ByteArray × ByteArray) : List AV := [.a [cl t.1], .a [ci t.2.1, cs t.2.2.1, cs t.2.2.2.1, cs t.2.2.2.2]]
def encR (x : Bool × YVF) : AV × List Ob := (.tup [.a [.h 0], .c (cb x.1)], [ro x.2])
theorem encAI (a b) (h : encA a = encA b) : a = b := by simp [encA, encRw_iff] at h; simp [Prod.ext_iff, h]
theorem encRI (a b) (h : encR a = encR b) : a = b := by simp [encR, encRw_iff] at h; simp [Prod.ext_iff, h]
noncomputable def Q (args : List AV) : Option (Bool × YVF) := ofC encA (fun t => F t.1 t.2.1 t.2.2.1 t.2.2.2.1 t.2.2.2.2) args
theorem wrap : F = fun y1 y2 y3 y4 y5 => Q [.a [cl y1], .a [ci y2, cs y3, cs y4, cs y5]] := by funext y1 y2 y3 y4 y5; exact Eq.symm (ofC_enc encAI _ (y1, y2, y3, y4, y5))
noncomputable def L : Lor := fun _ _ _ _ => Option.none
theorem main {Q0 Q1 Q2 Q3 Q4} {ρ : Type} {K : AV → List Ob → Option ρ} (a1 a2 a3 a4 a5) : exC Try.prog (mkO [qE 95 false spec_l16At.encR Q0, qE 17 false spec_DiskOk.encR Q1, qE 52 false spec_l01In.encR Q2, qE 83 false spec_l16Put.encR Q3, qE 96 false spec_l16Drop.encR Q4] [] []) L [] 0 (bodyOf Try.f57) (entry 84 [.a [cl a1], .a [ci a2, cs a3, cs a4, cs a5]] [] []) (finO Try.prog Try.f57.results.toList 0 [] [.ad (.p 4 0) 33] K) =
    B (fun y1 y2 => Q0 [.a [cl y1], vs y2]) (fun y1 => Q1 [.a [cl y1]]) (fun y1 y2 y3 => Q2 [vi y1, vi y2, vi y3]) (fun y1 y2 y3 => Q3 [.a [cl y1], .a [cs y2, cs y3]]) (fun y1 y2 => Q4 [.a [cl y1], vs y2]) a1 a2 a3 a4 a5 (fun x1 x2 => K (.tup [.a [.h 0], .c (cb x1)]) [ro x2]) := by kernel_rfl
theorem Gok : (mkO [qE 95 false spec_l16At.encR spec_l16At.Q, qE 17 false spec_DiskOk.encR spec_DiskOk.Q, qE 52 false spec_l01In.encR spec_l01In.Q, qE 83 false spec_l16Put.encR spec_l16Put.Q, qE 96 false spec_l16Drop.encR spec_l16Drop.Q] [] []).ok Try.prog := mkO_ok (by exact ⟨qE_ok spec_l16At.ac, qE_ok spec_DiskOk.ac, qE_ok spec_l01In.ac, qE_ok spec_l16Put.ac, qE_ok spec_l16Drop.ac, trivial⟩) (by exact trivial)
theorem acc : ∀ t x, F t.1 t.2.1 t.2.2.1 t.2.2.2.1 t.2.2.2.2 = some x → ACc Try.prog 57 (encA t) [] true [] fun rv obs => (rv, obs) = encR x :=
  accT (T := YVF × Int × ByteArray × ByteArray × ByteArray) (F := fun t => F t.1 t.2.1 t.2.2.1 t.2.2.2.1 t.2.2.2.2) (L := L) (cmds := [.ad (.p 4 0) 33]) (body := (bodyOf Try.f57)) Gok hmT Try.func57 (by kernel_rfl) (by kernel_rfl) (by rw [show atomsL [] 0 (bodyOf Try.f57) = [] by kernel_rfl]; exact Lor.ok_nil _ _) (fun t => by refine (main t.1 t.2.1 t.2.2.1 t.2.2.2.1 t.2.2.2.2).trans ?_; rw [← spec_l16At.wrap, ← spec_DiskOk.wrap, ← spec_l01In.wrap, ← spec_l16Put.wrap, ← spec_l16Drop.wrap]; exact congrArg (B _ _ _ _ _ t.1 t.2.1 t.2.2.1 t.2.2.2.1 t.2.2.2.2) (funext fun x1 => funext fun x2 => ofC_enc encRI some (x1, x2)))
theorem ac (args : List AV) (x : Bool × YVF) (h : Q args = some x) : AC Try.prog 57 args [] false [] fun rv obs => (rv, obs) = encR x := acF (T := YVF × Int × ByteArray × ByteArray × ByteArray) (F := fun t => F t.1 t.2.1 t.2.2.1 t.2.2.2.1 t.2.2.2.2) (body := (bodyOf Try.f57)) Try.func57 (by kernel_rfl) (by kernel_rfl) acc (fun x => ⟨by simp [encR, AV.Flat, K.Flat, C.Flat], flc (flat_rw rfl _) (fl0)⟩) args x h
end spec_PutRaw
/-! slices.Clone -/
namespace slices_Clone_impl_File
noncomputable def F (a1 : Vec (ByteArray × ByteArray)) : Option (Vec (ByteArray × ByteArray)) := sel (decide (a1.n * 33 ≤ maxN)) (some a1) none
def encA (t : Vec (ByteArray × ByteArray)) : List AV := [vl t]
def encR (x : Vec (ByteArray × ByteArray)) : AV × List Ob := (.c (.h 0), [.row 2 (encRw x) []])
theorem encAI : ∀ a b, encA a = encA b → a = b := by
  intro a b h
  simp [encA, encRw_iff] at h
  simp_all
noncomputable def Q (args : List AV) : Option (Vec (ByteArray × ByteArray)) := ofC encA (fun t => F t) args
theorem wrap : (fun (y1 : Vec (ByteArray × ByteArray)) => Q [vl y1]) = F := by
  funext y1
  exact ofC_enc encAI _ y1
theorem ac0 (a : Vec (ByteArray × ByteArray)) (h : a.n * 33 ≤ maxN) : AC Try.prog 89 [vl a] [] true [] fun rv obs => rv = .c (.h 0) ∧ ∃ u : Vec (ByteArray × ByteArray), obs = [Go.Al.rw u] ∧ Vec.Same u a := by
  refine ACc.ac (body := bodyOf Try.f89) Try.func89 (by kernel_rfl) (by kernel_rfl) (ACc_intro (body := bodyOf Try.f89) Try.func89 (by kernel_rfl) (by kernel_rfl) ?_)
  refine AW.post (Φ := fun e st' => e = .ret ∧ ∃ (cmds : List Cmd) (u : Vec (ByteArray × ByteArray)), retO Try.prog Try.f89.results.toList 0 [] cmds st' (fun rv obs => some (rv, obs)) = some (.c (.h 0), [Go.Al.rw u]) ∧ Vec.Same u a) ?_ ?_
  · refine vcC_sound _ _ _ ?_
    refine ⟨by kernel_rfl, fun b hb => ?_⟩
    cases b with
    | true =>
      have h0 := hb rfl
      exact ⟨rfl, [.ad (.s 2) 33], Vec.nil, by kernel_rfl, h0.symm, fun i hi => absurd hi (Nat.not_lt_zero i)⟩
    | false =>
      repeat (refine ⟨by first | kernel_rfl | decide +kernel, ?_⟩)
      refine (show (2 = 2) ∧ (a.n * 33 ≤ maxN) ∧ _ from ⟨rfl, h, ?_⟩)
      exact ⟨rfl, [], a, by kernel_rfl, rfl, fun i hi => rfl⟩
  · rintro e st' ⟨rfl, cmds, u, h1, h2⟩
    obtain ⟨st'', q1, q2⟩ := retO_vc h1
    refine ⟨st'', q1, q2.1, is_mono q2.2 ?_⟩
    rintro rv0 ⟨ids, rv, obs, p1, p2, p3, p4, p5, p6, p7⟩
    simp only [Option.some.injEq, Prod.mk.injEq] at p7
    exact ⟨ids, rv, obs, p1, p2, p3, p4, p5, p6, p7.1, u, p7.2, h2⟩
theorem ac (args : List AV) (x : Vec (ByteArray × ByteArray)) (h : Q args = some x) : AC Try.prog 89 args [] false [] fun rv obs => (rv, obs) = encR x := by
  obtain ⟨t, rfl, h2⟩ := ofC_some h
  rcases sel_cases h2 with ⟨hb, h3⟩ | ⟨-, h3⟩
  · simp only [Option.some.injEq] at h3
    subst h3
    refine (AC.row (ac0 t (by simpa using hb))).flat fun rv obs e => ?_
    obtain rfl : rv = (encR t).1 := congrArg Prod.fst e
    obtain rfl : obs = (encR t).2 := congrArg Prod.snd e
    refine ⟨by simp [encR, AV.Flat, K.Flat, C.Flat], ?_⟩
    intro o ho
    simp only [encR, List.mem_cons, List.not_mem_nil, or_false] at ho
    subst ho
    exact flat_rw rfl _
  · cases h3
end slices_Clone_impl_File
/-! loop.example/g00073/impl.copyDisk -/
namespace impl_copyDisk
noncomputable def B {ρ : Type} (C0 : YVF → Option YVF) (a1 : Vec YF) (K : YVF → Option ρ) : Option ρ :=
  (C0 a1).bind fun r1 => K r1
noncomputable def F (a1 : Vec YF) : Option YVF := B slices_Clone_impl_File.F a1 (fun x1 => some (x1))
def encA (t : Vec YF) : List AV := [.a [cl t]]
def encR (x : Vec YF) : AV × List Ob := (.a [.h 0], [ro x])
theorem encAI (a b) (h : encA a = encA b) : a = b := by simpa [encA, encRw_iff] using h
theorem encRI (a b) (h : encR a = encR b) : a = b := by simpa [encR, encRw_iff] using h
noncomputable def Q (args : List AV) : Option YVF := ofC encA (fun t => F t) args
theorem wrap : F = fun y1 => Q [.a [cl y1]] := by funext y1; exact Eq.symm (ofC_enc encAI _ (y1))
noncomputable def L : Lor := fun _ _ _ _ => Option.none
theorem main {Q0} {ρ : Type} {K : AV → List Ob → Option ρ} (a1) : exC Try.prog (mkO [qE 89 false slices_Clone_impl_File.encR Q0] [] []) L [] 0 (bodyOf Try.f53) (entry 7 [.a [cl a1]] [] []) (finO Try.prog Try.f53.results.toList 0 [] [] K) =
    B (fun y1 => Q0 [vl y1]) a1 (fun x1 => K (.a [.h 0]) [ro x1]) := by kernel_rfl
theorem Gok : (mkO [qE 89 false slices_Clone_impl_File.encR slices_Clone_impl_File.Q] [] []).ok Try.prog := mkO_ok (by exact ⟨qE_ok slices_Clone_impl_File.ac, trivial⟩) (by exact trivial)
theorem acc : ∀ t x, F t = some x → ACc Try.prog 53 (encA t) [] true [] fun rv obs => (rv, obs) = encR x :=
  accT (T := Vec YF) (F := fun t => F t) (L := L) (cmds := []) (body := (bodyOf Try.f53)) Gok hmT Try.func53 (by kernel_rfl) (by kernel_rfl) (by rw [show atomsL [] 0 (bodyOf Try.f53) = [] by kernel_rfl]; exact Lor.ok_nil _ _) (fun t => by refine (main t).trans ?_; rw [slices_Clone_impl_File.wrap]; exact congrArg (B _ t) (funext fun x1 => ofC_enc encRI some (x1)))
theorem ac (args : List AV) (x : Vec YF) (h : Q args = some x) : AC Try.prog 53 args [] false [] fun rv obs => (rv, obs) = encR x := acF (T := Vec YF) (F := fun t => F t) (body := (bodyOf Try.f53)) Try.func53 (by kernel_rfl) (by kernel_rfl) acc (fun x => ⟨by simp [encR, AV.Flat, K.Flat, C.Flat], flc (flat_rw rfl _) (fl0)⟩) args x h
end impl_copyDisk
/-! loop.example/g00073/impl.inRange -/
namespace impl_inRange
noncomputable def B {ρ : Type} (a1 : Int) (a2 : Int) (a3 : Int) (K : Bool → Option ρ) : Option ρ :=
  sel (decide (a2 ≤ a1)) (K (decide (a1 ≤ a3))) (K false)
noncomputable def F (a1 : Int) (a2 : Int) (a3 : Int) : Option Bool := B a1 a2 a3 (fun x1 => some (x1))
def encA (t : Int × Int × Int) : List AV := [vi t.1, vi t.2.1, vi t.2.2]
def encR (x : Bool) : AV × List Ob := (vb x, [])
theorem encAI (a b) (h : encA a = encA b) : a = b := by simp [encA, encRw_iff] at h; simp [Prod.ext_iff, h]
theorem encRI (a b) (h : encR a = encR b) : a = b := by simpa [encR, encRw_iff] using h
noncomputable def Q (args : List AV) : Option Bool := ofC encA (fun t => F t.1 t.2.1 t.2.2) args
theorem wrap : F = fun y1 y2 y3 => Q [vi y1, vi y2, vi y3] := by funext y1 y2 y3; exact Eq.symm (ofC_enc encAI _ (y1, y2, y3))
noncomputable def L : Lor := fun _ _ _ _ => Option.none
theorem main {ρ : Type} {K : AV → List Ob → Option ρ} (a1 a2 a3) : exC Try.prog (mkO [] [] []) L [] 0 (bodyOf Try.f60) (entry 15 [vi a1, vi a2, vi a3] [] []) (finO Try.prog Try.f60.results.toList 0 [] [] K) =
    B a1 a2 a3 (fun x1 => K (vb x1) []) := by kernel_rfl
theorem Gok : (mkO [] [] []).ok Try.prog := mkO_ok (by exact trivial) (by exact trivial)
theorem acc : ∀ t x, F t.1 t.2.1 t.2.2 = some x → ACc Try.prog 60 (encA t) [] true [] fun rv obs => (rv, obs) = encR x :=
  accT (T := Int × Int × Int) (F := fun t => F t.1 t.2.1 t.2.2) (L := L) (cmds := []) (body := (bodyOf Try.f60)) Gok hmT Try.func60 (by kernel_rfl) (by kernel_rfl) (by rw [show atomsL [] 0 (bodyOf Try.f60) = [] by kernel_rfl]; exact Lor.ok_nil _ _) (fun t => by refine (main t.1 t.2.1 t.2.2).trans ?_; exact congrArg (B t.1 t.2.1 t.2.2) (funext fun x1 => ofC_enc encRI some (x1)))
theorem ac (args : List AV) (x : Bool) (h : Q args = some x) : AC Try.prog 60 args [] false [] fun rv obs => (rv, obs) = encR x := acF (T := Int × Int × Int) (F := fun t => F t.1 t.2.1 t.2.2) (body := (bodyOf Try.f60)) Try.func60 (by kernel_rfl) (by kernel_rfl) acc (fun x => ⟨by simp [encR, AV.Flat, K.Flat, C.Flat], fl0⟩) args x h
end impl_inRange
/-! loop.example/g00073/impl.fileOk -/
namespace impl_fileOk
noncomputable def B {ρ : Type} (C0 : Int → Int → Int → Option Bool) (a1 : ByteArray) (a2 : ByteArray) (K : Bool → Option ρ) : Option ρ :=
  (C0 (a1.size : Int) (1 : Int) (24 : Int)).bind fun r1 => sel (r1) (K (decide ((a2.size : Int) ≤ (60004 : Int)))) (K false)
noncomputable def F (a1 : ByteArray) (a2 : ByteArray) : Option Bool := B impl_inRange.F a1 a2 (fun x1 => some (x1))
def encA (t : YF) : List AV := [.a [cs t.1, cs t.2]]
def encR (x : Bool) : AV × List Ob := (vb x, [])
theorem encAI (a b) (h : encA a = encA b) : a = b := by simp [encA, encRw_iff] at h; simp [Prod.ext_iff, h]
theorem encRI (a b) (h : encR a = encR b) : a = b := by simpa [encR, encRw_iff] using h
noncomputable def Q (args : List AV) : Option Bool := ofC encA (fun t => F t.1 t.2) args
theorem wrap : F = fun y1 y2 => Q [.a [cs y1, cs y2]] := by funext y1 y2; exact Eq.symm (ofC_enc encAI _ (y1, y2))
noncomputable def L : Lor := fun _ _ _ _ => Option.none
theorem main {Q0} {ρ : Type} {K : AV → List Ob → Option ρ} (a1 a2) : exC Try.prog (mkO [qE 60 false impl_inRange.encR Q0] [] []) L [] 0 (bodyOf Try.f62) (entry 13 [.a [cs a1, cs a2]] [] []) (finO Try.prog Try.f62.results.toList 0 [] [] K) =
    B (fun y1 y2 y3 => Q0 [vi y1, vi y2, vi y3]) a1 a2 (fun x1 => K (vb x1) []) := by kernel_rfl
theorem Gok : (mkO [qE 60 false impl_inRange.encR impl_inRange.Q] [] []).ok Try.prog := mkO_ok (by exact ⟨qE_ok impl_inRange.ac, trivial⟩) (by exact trivial)
theorem acc : ∀ t x, F t.1 t.2 = some x → ACc Try.prog 62 (encA t) [] true [] fun rv obs => (rv, obs) = encR x :=
  accT (T := ByteArray × ByteArray) (F := fun t => F t.1 t.2) (L := L) (cmds := []) (body := (bodyOf Try.f62)) Gok hmT Try.func62 (by kernel_rfl) (by kernel_rfl) (by rw [show atomsL [] 0 (bodyOf Try.f62) = [] by kernel_rfl]; exact Lor.ok_nil _ _) (fun t => by refine (main t.1 t.2).trans ?_; rw [← impl_inRange.wrap]; exact congrArg (B _ t.1 t.2) (funext fun x1 => ofC_enc encRI some (x1)))
theorem ac (args : List AV) (x : Bool) (h : Q args = some x) : AC Try.prog 62 args [] false [] fun rv obs => (rv, obs) = encR x := acF (T := ByteArray × ByteArray) (F := fun t => F t.1 t.2) (body := (bodyOf Try.f62)) Try.func62 (by kernel_rfl) (by kernel_rfl) acc (fun x => ⟨by simp [encR, AV.Flat, K.Flat, C.Flat], fl0⟩) args x h
end impl_fileOk
/-! loop.example/g00073/impl.DiskOk -/
namespace impl_DiskOk
noncomputable def B0 {ρ : Type} (C0 : ByteArray → ByteArray → Option Bool) (v1 : Vec YF) (v2 : Int) (v3 : Int) (v4 : Vec YF) (W : YVF → Int → Int → YVF → Option ρ) (K0 : YVF → Option ρ) (Kr : Bool → Option ρ) : Option ρ :=
  sel (decide (v3 < v2)) (chk (decide (0 ≤ v3 ∧ v3 < (v1.n : Int))) ((C0 ((v1.g v3.toNat).1) ((v1.g v3.toNat).2)).bind fun r1 => sel ((!r1)) (Kr false) (sel (decide ((0 : Int) < v3)) (chk (decide (0 ≤ (wr (v3 - (1 : Int))) ∧ (wr (v3 - (1 : Int))) < (v4.n : Int))) (sel ((!decide (((v4.g (wr (v3 - (1 : Int))).toNat).1).toList < ((v1.g v3.toNat).1).toList))) (Kr false) (W v1 v2 (wr (v3 + (1 : Int))) v4))) (W v1 v2 (wr (v3 + (1 : Int))) v4)))) (K0 v4)
noncomputable def F0 {ρ : Type} : Nat → YVF → Int → Int → YVF → (YVF → Option ρ) → (Bool → Option ρ) → Option ρ
  | 0, _, _, _, _, _, _ => none
  | k + 1, v1, v2, v3, v4, K0, Kr => B0 impl_fileOk.F v1 v2 v3 v4 (fun v1' v2' v3' v4' => F0 k v1' v2' v3' v4' K0 Kr) K0 Kr
noncomputable def B {ρ : Type} (L0 : YVF → Int → Int → YVF → (YVF → Option ρ) → (Bool → Option ρ) → Option ρ) (a1 : Vec YF) (K : Bool → Option ρ) : Option ρ :=
  L0 a1 (a1.n : Int) (0 : Int) a1 (fun e01 => K (decide ((e01.n : Int) ≤ (40 : Int)))) (fun x01 => K x01)
noncomputable def F (a1 : Vec YF) : Option Bool := B (F0 fuelN) a1 (fun x1 => some (x1))
def encA (t : Vec YF) : List AV := [.a [cl t]]
def encR (x : Bool) : AV × List Ob := (vb x, [])
theorem encAI (a b) (h : encA a = encA b) : a = b := by simpa [encA, encRw_iff] using h
theorem encRI (a b) (h : encR a = encR b) : a = b := by simpa [encR, encRw_iff] using h
noncomputable def Q (args : List AV) : Option Bool := ofC encA (fun t => F t) args
theorem wrap : F = fun y1 => Q [.a [cl y1]] := by funext y1; exact Eq.symm (ofC_enc encAI _ (y1))
noncomputable def c0 : Code := loopC (atomN [] 0 (bodyOf Try.f26) 0)
def ct0 : Cut := ⟨[1, 6, 7, 8], []⟩
def lv0 : Exit → Cut
  | .exit 0 => ⟨[1], []⟩
  | .ret => ⟨[2], []⟩
  | _ => ⟨[], []⟩
def k0_0 {ρ : Type} (K : Exit → St → Option ρ) (z1 : Vec YF) : Option ρ := K (.exit 0) (mkS 37 (lv0 (.exit 0)).live [.c (.p 0 0)] [.box [cl z1]] [])
def k0_r {ρ : Type} (K : Exit → St → Option ρ) (z1 : Bool) : Option ρ := K .ret (mkS 37 (lv0 .ret).live [vb z1] [] [])
noncomputable def L (W0 : (ρ : Type) → List AV → List Ob → (YVF → Option ρ) → (Bool → Option ρ) → Option ρ) : Lor := fun ρ j st K => sel (Nat.beq j 0) (cutO Try.prog 37 ct0.live 0 [] ct0.cmds st fun avs obs => W0 ρ avs obs (k0_0 K) (k0_r K)) (Option.none)
theorem step0 {Q0 W0} {ρ : Type} {K : Exit → St → Option ρ} {W : List AV → List Ob → Option ρ} (v1 v2 v3 v4) : exC Try.prog (mkO [qE 62 false impl_fileOk.encR Q0] [] []) (L W0) [] 1 c0 (mkS 37 ct0.live [.c (.p 0 0), vl v1, vi v2, vi v3] [.box [cl v4]] []) (bodyK Try.prog 37 0 [] ct0 W lv0 K) =
    B0 (fun y1 y2 => Q0 [.a [cs y1, cs y2]]) v1 v2 v3 v4 (fun u1 u2 u3 u4 => W [.c (.p 0 0), vl u1, vi u2, vi u3] [.box [cl u4]]) (k0_0 K) (k0_r K) := by kernel_rfl
def enc0 (t : YVF × Int × Int × YVF) : List AV × List Ob := ([.c (.p 0 0), vl t.1, vi t.2.1, vi t.2.2.1], [.box [cl t.2.2.2]])
theorem enc0I (a b) (h : enc0 a = enc0 b) : a = b := by simp [enc0, encRw_iff] at h; simp [Prod.ext_iff, h]
noncomputable def V0 : (ρ : Type) → List AV → List Ob → (YVF → Option ρ) → (Bool → Option ρ) → Option ρ := fun ρ avs obs k0 kr => ofC enc0 (fun t => F0 fuelN t.1 t.2.1 t.2.2.1 t.2.2.2 k0 kr) (avs, obs)
theorem V0_enc (ρ : Type) : F0 fuelN = fun w1 w2 w3 w4 k0 kr => V0 ρ [.c (.p 0 0), vl w1, vi w2, vi w3] [.box [cl w4]] k0 kr := by funext w1 w2 w3 w4 k0 kr; exact Eq.symm (ofC_enc enc0I _ (w1, w2, w3, w4))
theorem main {Q0 W0} {ρ : Type} {K : AV → List Ob → Option ρ} (a1) : exC Try.prog (mkO [qE 62 false impl_fileOk.encR Q0] [] []) (L W0) [] 0 (bodyOf Try.f26) (entry 37 [.a [cl a1]] [] []) (finO Try.prog Try.f26.results.toList 0 [] [] K) =
    B (fun w1 w2 w3 w4 k0 kr => W0 ρ [.c (.p 0 0), vl w1, vi w2, vi w3] [.box [cl w4]] k0 kr) a1 (fun x1 => K (vb x1) []) := by kernel_rfl
theorem Gok : (mkO [qE 62 false impl_fileOk.encR impl_fileOk.Q] [] []).ok Try.prog := mkO_ok (by exact ⟨qE_ok impl_fileOk.ac, trivial⟩) (by exact trivial)
theorem ok0 (ρ : Type) (st : St) (K : Exit → St → Option ρ) (r : ρ) (h : (L V0) ρ 0 st K = some r) : AW Try.prog (.loop c0) st fun e st' => K e st' = some r :=
  loop_ok (ct := ct0) (lv := lv0) (L := (L V0)) Gok hmT (by rw [show atomsL [] 1 c0 = [] by kernel_rfl]; exact Lor.ok_nil _ _) enc0I (fun k t => F0 k t.1 t.2.1 t.2.2.1 t.2.2.2 (k0_0 K) (k0_r K)) (fun t => rfl) (fun k t => by refine (step0 t.1 t.2.1 t.2.2.1 t.2.2.2).trans ?_; rw [← impl_fileOk.wrap]; exact congrFun (congrFun (congrArg (B0 _ t.1 t.2.1 t.2.2.1 t.2.2.2) (funext fun u1 => funext fun u2 => funext fun u3 => funext fun u4 => ofC_enc enc0I _ (u1, u2, u3, u4))) _) _) (fun _ => fuelN) h
theorem e : atomsL [] 0 (bodyOf Try.f26) = [(0, 0, .loop c0)] := by kernel_rfl
theorem acc : ∀ t x, F t = some x → ACc Try.prog 26 (encA t) [] true [] fun rv obs => (rv, obs) = encR x :=
  accT (T := Vec YF) (F := fun t => F t) (L := (L V0)) (cmds := []) (body := (bodyOf Try.f26)) Gok hmT Try.func26 (by kernel_rfl) (by kernel_rfl) (by rw [e]; exact Lor.ok_cons ok0 (Lor.ok_nil _ _)) (fun t => by refine (main t).trans ?_; rw [← V0_enc]; exact congrArg (B _ t) (funext fun x1 => ofC_enc encRI some (x1)))
theorem ac (args : List AV) (x : Bool) (h : Q args = some x) : AC Try.prog 26 args [] false [] fun rv obs => (rv, obs) = encR x := acF (T := Vec YF) (F := fun t => F t) (body := (bodyOf Try.f26)) Try.func26 (by kernel_rfl) (by kernel_rfl) acc (fun x => ⟨by simp [encR, AV.Flat, K.Flat, C.Flat], fl0⟩) args x h
end impl_DiskOk
/-! (*loop.example/g00073/impl.Disk).place -/
namespace impl_Disk_place
noncomputable def B0 {ρ : Type} (v1 : Vec YF) (v2 : ByteArray) (v3 : Int) (W : YVF → ByteArray → Int → Option ρ) (K0 : YVF → ByteArray → Int → Option ρ) : Option ρ :=
  sel (decide (v3 < (v1.n : Int))) (chk (decide (0 ≤ v3 ∧ v3 < (v1.n : Int))) (sel (decide (((v1.g v3.toNat).1).toList < v2.toList)) (W v1 v2 (wr (v3 + (1 : Int)))) (K0 v1 v2 v3))) (K0 v1 v2 v3)
noncomputable def F0 {ρ : Type} : Nat → YVF → ByteArray → Int → (YVF → ByteArray → Int → Option ρ) → Option ρ
  | 0, _, _, _, _ => none
  | k + 1, v1, v2, v3, K0 => B0 v1 v2 v3 (fun v1' v2' v3' => F0 k v1' v2' v3' K0) K0
noncomputable def B {ρ : Type} (L0 : YVF → ByteArray → Int → (YVF → ByteArray → Int → Option ρ) → Option ρ) (a1 : Vec YF) (a2 : ByteArray) (K : Int → Bool → Option ρ) : Option ρ :=
  L0 a1 a2 (0 : Int) (fun e01 e02 e03 => sel (decide (e03 < (e01.n : Int))) (chk (decide (0 ≤ e03 ∧ e03 < (e01.n : Int))) (K e03 (decide ((e01.g e03.toNat).1 = e02)))) (K e03 false))
noncomputable def F (a1 : Vec YF) (a2 : ByteArray) : Option (Int × Bool) := B (F0 fuelN) a1 a2 (fun x1 x2 => some (x1, x2))
def encA (t : YVF × ByteArray) : List AV := [.ra [nl t.1], vs t.2]
def encR (x : Int × Bool) : AV × List Ob := (.tup [.c (ci x.1), .c (cb x.2)], [])
theorem encAI (a b) (h : encA a = encA b) : a = b := by simp [encA, encRw_iff] at h; simp [Prod.ext_iff, h]
theorem encRI (a b) (h : encR a = encR b) : a = b := by simp [encR, encRw_iff] at h; simp [Prod.ext_iff, h]
noncomputable def Q (args : List AV) : Option (Int × Bool) := ofC encA (fun t => F t.1 t.2) args
theorem wrap : F = fun y1 y2 => Q [.ra [nl y1], vs y2] := by funext y1 y2; exact Eq.symm (ofC_enc encAI _ (y1, y2))
noncomputable def c0 : Code := loopC (atomN [] 0 (bodyOf Try.f91) 0)
def ct0 : Cut := ⟨[0, 1, 6], []⟩
def lv0 : Exit → Cut
  | .exit 0 => ⟨[0, 1, 6], []⟩
  | _ => ⟨[], []⟩
def k0_0 {ρ : Type} (K : Exit → St → Option ρ) (z1 : Vec YF) (z2 : ByteArray) (z3 : Int) : Option ρ := K (.exit 0) (mkS 48 (lv0 (.exit 0)).live [.ra [nl z1], vs z2, vi z3] [] [])
noncomputable def L (W0 : (ρ : Type) → List AV → List Ob → (YVF → ByteArray → Int → Option ρ) → Option ρ) : Lor := fun ρ j st K => sel (Nat.beq j 0) (cutO Try.prog 48 ct0.live 0 [] ct0.cmds st fun avs obs => W0 ρ avs obs (k0_0 K)) (Option.none)
theorem step0 {W0} {ρ : Type} {K : Exit → St → Option ρ} {W : List AV → List Ob → Option ρ} (v1 v2 v3) : exC Try.prog (mkO [] [] []) (L W0) [] 1 c0 (mkS 48 ct0.live [.ra [nl v1], vs v2, vi v3] [] []) (bodyK Try.prog 48 0 [] ct0 W lv0 K) =
    B0 v1 v2 v3 (fun u1 u2 u3 => W [.ra [nl u1], vs u2, vi u3] []) (k0_0 K) := by kernel_rfl
def enc0 (t : YVF × ByteArray × Int) : List AV × List Ob := ([.ra [nl t.1], vs t.2.1, vi t.2.2], [])
theorem enc0I (a b) (h : enc0 a = enc0 b) : a = b := by simp [enc0, encRw_iff] at h; simp [Prod.ext_iff, h]
noncomputable def V0 : (ρ : Type) → List AV → List Ob → (YVF → ByteArray → Int → Option ρ) → Option ρ := fun ρ avs obs k0 => ofC enc0 (fun t => F0 fuelN t.1 t.2.1 t.2.2 k0) (avs, obs)
theorem V0_enc (ρ : Type) : F0 fuelN = fun w1 w2 w3 k0 => V0 ρ [.ra [nl w1], vs w2, vi w3] [] k0 := by funext w1 w2 w3 k0; exact Eq.symm (ofC_enc enc0I _ (w1, w2, w3))
theorem main {W0} {ρ : Type} {K : AV → List Ob → Option ρ} (a1 a2) : exC Try.prog (mkO [] [] []) (L W0) [] 0 (bodyOf Try.f91) (entry 48 [.ra [nl a1], vs a2] [] []) (finO Try.prog Try.f91.results.toList 0 [] [] K) =
    B (fun w1 w2 w3 k0 => W0 ρ [.ra [nl w1], vs w2, vi w3] [] k0) a1 a2 (fun x1 x2 => K (.tup [.c (ci x1), .c (cb x2)]) []) := by kernel_rfl
theorem Gok : (mkO [] [] []).ok Try.prog := mkO_ok (by exact trivial) (by exact trivial)
theorem ok0 (ρ : Type) (st : St) (K : Exit → St → Option ρ) (r : ρ) (h : (L V0) ρ 0 st K = some r) : AW Try.prog (.loop c0) st fun e st' => K e st' = some r :=
  loop_ok (ct := ct0) (lv := lv0) (L := (L V0)) Gok hmT (by rw [show atomsL [] 1 c0 = [] by kernel_rfl]; exact Lor.ok_nil _ _) enc0I (fun k t => F0 k t.1 t.2.1 t.2.2 (k0_0 K)) (fun t => rfl) (fun k t => by refine (step0 t.1 t.2.1 t.2.2).trans ?_; exact congrFun (congrArg (B0 t.1 t.2.1 t.2.2) (funext fun u1 => funext fun u2 => funext fun u3 => ofC_enc enc0I _ (u1, u2, u3))) _) (fun _ => fuelN) h
theorem e : atomsL [] 0 (bodyOf Try.f91) = [(0, 0, .loop c0)] := by kernel_rfl
theorem acc : ∀ t x, F t.1 t.2 = some x → ACc Try.prog 91 (encA t) [] true [] fun rv obs => (rv, obs) = encR x :=
  accT (T := YVF × ByteArray) (F := fun t => F t.1 t.2) (L := (L V0)) (cmds := []) (body := (bodyOf Try.f91)) Gok hmT Try.func91 (by kernel_rfl) (by kernel_rfl) (by rw [e]; exact Lor.ok_cons ok0 (Lor.ok_nil _ _)) (fun t => by refine (main t.1 t.2).trans ?_; rw [← V0_enc]; exact congrArg (B _ t.1 t.2) (funext fun x1 => funext fun x2 => ofC_enc encRI some (x1, x2)))
theorem ac (args : List AV) (x : Int × Bool) (h : Q args = some x) : AC Try.prog 91 args [] false [] fun rv obs => (rv, obs) = encR x := acF (T := YVF × ByteArray) (F := fun t => F t.1 t.2) (body := (bodyOf Try.f91)) Try.func91 (by kernel_rfl) (by kernel_rfl) acc (fun x => ⟨by simp [encR, AV.Flat, K.Flat, C.Flat], fl0⟩) args x h
end impl_Disk_place
/-! slices.Insert(()loop.example/g00073/impl.File,loop.example/g00073/impl.File) -/
end Go.Al
namespace Go.AlW.slices_Insert_impl_File_s0fce
open Go.Proofs Go.Shelf Go.RowKit Go.Lib
theorem insI : (Try.prog.info? 39).map (fun i => (i.size, i.bytes, i.zero.isSome, (i.zero.map (·.cells.size)))) = some (2, 32, true, some 2) := by kernel_rfl
set_option maxHeartbeats 4000000 in
set_option maxRecDepth 100000 in
theorem insT_room (b n c vb vc : Nat) (vs : List Value) (w : World) (hroom : n + 1 ≤ c) (hc63 : c ≤ 9223372036854775807) (hvl : vs.length = 2)
    (hsp : ∀ k, k < c * 2 → (w.cell? ⟨b, k, none⟩).isSome = true) (hfz : ∀ k, k < c * 2 → w.frozen? ⟨b, k, none⟩ = false)
    (hvs : ∀ k v, vs[k]? = some v → w.cell? ⟨vb, k, none⟩ = some v) (h1v : ∀ v ∈ vs, v.oneCell' = true) :
    Calls Try.prog 117 #[.slice (some ⟨b, 0, none⟩) n c, .int .i64 n, .slice (some ⟨vb, 0, none⟩) 1 vc] w fun e w' =>
      e = .returned (.slice (some ⟨b, 0, none⟩) (n + 1) c) ∧ w' = w.setCells b (n * 2) vs := by
  obtain ⟨i0, hi0, hii⟩ := Option.map_eq_some_iff.1 insI
  simp only [Prod.mk.injEq] at hii
  have mixed : Try.prog.follows .mixedOrders = true := by kernel_rfl
  have hsrc : Src Try.prog i0.size 33 (.slice (some ⟨vb, 0, none⟩) 1 vc) 1 vs w := Src.ofSlice w Try.underlying33 ⟨vb, 0, none⟩ 1 vc vs (by rw [hii.1]; omega) (fun k u hj => by rw [Al.add0]; exact hvs k u hj) h1v
  have hsp' : ∀ k, k < vs.length → (w.cell? ⟨b, 0 + n * i0.size + k, none⟩).isSome = true := fun k hk => by rw [hii.1]; exact hsp _ (by omega)
  have hfz' : ∀ k, k < vs.length → w.frozen? ⟨b, 0 + n * i0.size + k, none⟩ = false := fun k hk => by rw [hii.1]; exact hfz _ (by omega)
  have hX : Hid (w.setCells b (0 + n * i0.size) vs = w.setCells b (n * 2) vs) := by rw [hii.1, Nat.zero_add]; rfl
  clear hsp hfz
  go_enter Try.func117, Try.ntmps117
  go_wp2_with (at_builtin; refine wpList_append_room_src _ rfl _ _ 33 33 rfl 39 i0 Try.underlying33 hi0 b 0 n c rfl _ rfl 1 vs hsrc hroom hsp' hfz' ?_)
  go_ret
  exact ⟨rfl, by first | rfl | exact hX.out⟩

set_option maxHeartbeats 4000000 in
set_option maxRecDepth 100000 in
theorem insT_end (base : Option Addr) (n c vb vc : Nat) (cs vs : List Value) (w : World) (hnc : n ≤ c) (hroom : c < n + 1) (hbig : (n + 1) * 32 ≤ 140737488355328)
    (hcl : cs.length = n * 2) (hvl : vs.length = 2) (hnil : n ≠ 0 → ∃ b, base = some ⟨b, 0, none⟩ ∧ ∀ k v, cs[k]? = some v → w.cell? ⟨b, k, none⟩ = some v)
    (hvs : ∀ k v, vs[k]? = some v → w.cell? ⟨vb, k, none⟩ = some v) (h1v : ∀ v ∈ vs, v.oneCell' = true) (zv : Value) (hzv : (Try.prog.info? 39).bind (·.zero) = some zv) :
    Calls Try.prog 117 #[.slice base n c, .int .i64 n, .slice (some ⟨vb, 0, none⟩) 1 vc] w fun e w' =>
      e = .returned (.slice (some ⟨w.heap.size, 0, none⟩) (n + 1) (grownCap w (n + 1) c 39)) ∧
      w' = w.drew.alloc (.cells ((cs ++ vs).toArray ++ Builtin.zeroCells zv.cells (grownCap w (n + 1) c 39 - (n + 1))) 39) := by
  obtain ⟨i0, hi0, hii⟩ := Option.map_eq_some_iff.1 insI
  simp only [Prod.mk.injEq] at hii
  obtain ⟨hzs, hzb, -, -⟩ := hii
  have hz0 : i0.zero = some zv := by rw [hi0] at hzv; exact hzv
  have mixed : Try.prog.follows .mixedOrders = true := by kernel_rfl
  have hsrc : Src Try.prog i0.size 33 (.slice (some ⟨vb, 0, none⟩) 1 vc) 1 vs w := Src.ofSlice w Try.underlying33 ⟨vb, 0, none⟩ 1 vc vs (by rw [hzs]; omega) (fun k u hj => by rw [Al.add0]; exact hvs k u hj) h1v
  have hold : (Builtin.firstCells i0.size n (.slice base n c)).run Try.prog w.drew = .ok cs.toArray w.drew := by
    rw [hzs]
    by_cases h0 : n = 0
    · subst h0
      rw [List.length_eq_zero_iff.1 (by omega : cs.length = 0)]
      cases base with
      | none => exact run_firstCells_none w.drew 2 0 0 c
      | some a => exact run_firstCells_some w.drew 2 0 a 0 c [] (by simp) (by simp)
    · obtain ⟨b, rfl, hcs⟩ := hnil h0
      exact run_firstCells_some w.drew 2 n ⟨b, 0, none⟩ n c cs hcl (fun k v hk => by rw [Al.add0]; exact hcs k v hk)
  have hrun : ∀ ty, (Builtin.append_ #[33, 33] ty #[.slice base n c, .slice (some ⟨vb, 0, none⟩) 1 vc]).run Try.prog w = _ := fun ty =>
    run_append_grow_src w 33 33 ty 39 i0 _ Try.underlying33 hi0 hz0 base n c cs hold _ 1 vs hsrc hroom (by omega) (by rw [hzb]; exact growslice_fits hroom hbig)
  obtain ⟨ROW, hROW⟩ : ∃ ROW, ROW = (cs ++ vs).toArray ++ Builtin.zeroCells zv.cells (grownCap w (n + 1) c 39 - (n + 1)) := ⟨_, rfl⟩
  rw [← hROW] at hrun ⊢
  clear hold hsrc hi0 hzv hz0 hzs hzb hROW
  go_enter Try.func117, Try.ntmps117
  cases base with
  | none =>
    have h0 : n = 0 := by
      apply Classical.byContradiction
      intro h0
      obtain ⟨b, hb, -⟩ := hnil h0
      cases hb
    subst h0
    clear hnil
    go_wp2_with (at_builtin; refine Lib.wpList_append_run _ rfl _ _ _ _ rfl _ _ rfl rfl _ _ (hrun _) ?_)
    go_ret
    exact ⟨rfl, rfl⟩
  | some a =>
    clear hnil
    obtain ⟨ab, ao, asp⟩ := a
    go_wp2_with (at_builtin; refine Lib.wpList_append_run _ rfl _ _ _ _ rfl _ _ rfl rfl _ _ (hrun _) ?_)
    all_goals (go_ret; exact ⟨rfl, rfl⟩)

set_option maxHeartbeats 4000000 in
set_option maxRecDepth 100000 in
theorem insT_shift (b n c i vb vc kA : Nat) (cs vs : List Value) (w : World) (hi : i < n) (hroom : n + 1 ≤ c) (hc63 : c ≤ 9223372036854775807) (hvb : vb ≠ b)
    (hcl : cs.length = n * 2) (hvl : vs.length = 2)
    (hcs : ∀ k v, cs[k]? = some v → w.cell? ⟨b, k, none⟩ = some v) (hsp : ∀ k, k < c * 2 → (w.cell? ⟨b, k, none⟩).isSome = true) (hfz : ∀ k, k < c * 2 → w.frozen? ⟨b, k, none⟩ = false)
    (hvs : ∀ k v, vs[k]? = some v → w.cell? ⟨vb, k, none⟩ = some v) (h1c : ∀ v ∈ cs, v.oneCell' = true) (h1v : ∀ v ∈ vs, v.oneCell' = true)
    (tA tB : TypeId) (hsa : w.shape? vb = some (tA, kA)) (hsb : w.shape? b = some (tB, c * 2)) (hfa : w.frozen? ⟨vb, 0, none⟩ = false) (hfe : w.frozen? ⟨vb, kA, none⟩ = false) :
    Calls Try.prog 117 #[.slice (some ⟨b, 0, none⟩) n c, .int .i64 i, .slice (some ⟨vb, 0, none⟩) 1 vc] w fun e w' =>
      e = .returned (.slice (some ⟨b, 0, none⟩) (n + 1) c) ∧ w' = (w.drew.setCells b ((i + 1) * 2) (cs.drop (i * 2))).setCells b (i * 2) vs := by
  have mixed : Try.prog.follows .mixedOrders = true := by kernel_rfl
  have hz2 : ¬ ((i : Int) = (n : Int)) := by omega
  have hsz : (Try.prog.info? 39).map (·.size) = some 2 := by kernel_rfl
  have hov : ∀ lb cb, (callFunc 124 #[.slice (some ⟨vb, 0, none⟩) 1 vc, .slice (some ⟨b, (i + 1) * 2, none⟩) lb cb]).run Try.prog w = .ok (.value (.bool false)) w := fun lb cb => by
    rw [run_callFunc_extern Try.func124 (by kernel_rfl) (by kernel_rfl) (by kernel_rfl) (e := Extern.SlicesOverlaps.overlaps #[33, 33] #[4]) (by kernel_rfl),
      Lib.run_overlaps_apart w 33 4 39 Try.underlying33 2 Try.sizeOf39 ⟨vb, 0, none⟩ ⟨b, (i + 1) * 2, none⟩ 1 vc lb cb hvb tA tB kA (c * 2) hsa hsb (by omega) hfa hfe]
    rfl
  have hdl : (cs.drop (i * 2)).length = (n - i) * 2 := by rw [List.length_drop, hcl]; omega
  have hw1 : IntKind.i64.wrap ((i : Int) + 1) = (i : Int) + 1 := by rw [IntKind.wrap_i64]; omega
  have hb1 : (0 : Int) ≤ (i : Int) + 1 := by omega
  have hin : i ≤ n := by omega
  have htn : ((i : Int) + 1).toNat = i + 1 := by omega
  have hb2 : ¬ (c = i + 1) := by omega
  have hb3 : (i : Int) ≤ (n : Int) + 1 := by omega
  have hb4 : ¬ (c = i) := by omega
  have hb5 : i + 1 ≤ c := by omega
  have hb6 : i ≤ c := by omega
  have hcp1 : ∀ ty dc sc, (Builtin.copy_ #[33, 33] ty #[.slice (some ⟨b, (i + 1) * 2, none⟩) (n - i) dc, .slice (some ⟨b, i * 2, none⟩) (n + 1 - i) sc]).run Try.prog w.drew = .ok (goInt (Nat.min (n + 1 - i) (n - i))) (w.drew.setCells b ((i + 1) * 2) (cs.drop (i * 2))) := fun ty dc sc =>
    Al.run_copy_z w.drew _ _ ty 39 2 b ((i + 1) * 2) (n - i) dc ⟨b, i * 2, none⟩ (n + 1 - i) sc (cs.drop (i * 2)) Try.underlying33 hsz (by rw [hdl]; simp only [Nat.min_def]; split <;> omega)
      (fun k v hk => by rw [Al.add00]; exact hcs (i * 2 + k) v (by rwa [List.getElem?_drop] at hk))
      (fun k hk => hsp _ (by omega)) (fun k hk => hfz _ (by omega)) (fun v hv => h1c v (List.mem_of_mem_drop hv))
  obtain ⟨W1, hW1⟩ : ∃ W1, W1 = w.drew.setCells b ((i + 1) * 2) (cs.drop (i * 2)) := ⟨_, rfl⟩
  have hsp1 : ∀ k, k < c * 2 → (W1.cell? ⟨b, k, none⟩).isSome = true := fun k hk => by
    rw [hW1]
    exact isSome_setCells b (cs.drop (i * 2)) ((i + 1) * 2) w.drew (fun j hj => hsp _ (by rw [hdl] at hj; omega)) k (hsp k hk)
  have hcp2 : ∀ (W : World), (∀ x, W.cell? x = W1.cell? x) → (∀ x, W.frozen? x = W1.frozen? x) → ∀ ty dc, (Builtin.copy_ #[33, 33] ty #[.slice (some ⟨b, i * 2, none⟩) (n + 1 - i) dc, .slice (some ⟨vb, 0, none⟩) 1 vc]).run Try.prog W = .ok (goInt (Nat.min 1 (n + 1 - i))) (W.setCells b (i * 2) vs) := fun W hWc hWf ty dc =>
    Al.run_copy_z W _ _ ty 39 2 b (i * 2) (n + 1 - i) dc ⟨vb, 0, none⟩ 1 vc vs Try.underlying33 hsz (by rw [hvl]; simp only [Nat.min_def]; split <;> omega)
      (fun k v hk => by
        rw [Al.add0, hWc, hW1, World.cell?_setCells_out b _ _ _ _ (fun h _ => absurd h hvb)]
        exact hvs k v hk)
      (fun k hk => by rw [hWc]; exact hsp1 _ (by omega)) (fun k hk => by rw [hWf, hW1, World.frozen?_setCells]; exact hfz _ (by omega)) h1v
  rw [← hW1] at hcp1
  have hX : Hid (W1 = w.drew.setCells b ((i + 1) * 2) (cs.drop (i * 2))) := hW1
  clear hW1 hsp hfz hcs hvs h1c h1v hsp1 hsa hsb hfa hfe hdl hsz
  go_enter Try.func117, Try.ntmps117
  go_wp2_with (simp only [hov])
  go_region_law_o (refine step_copy_runI rfl _ _ 33 33 rfl _ _ (by simp [Act.eval, Act.put]) (by simp [Act.eval, Act.put]) (hcp1 _ _ _) ?_)
  go_wp2_with (at_builtin; refine wpList_copy_runI _ rfl _ _ 33 33 rfl _ _ rfl rfl (hcp2 _ (fun _ => rfl) (fun _ => rfl) _ _) ?_)
  go_ret
  exact ⟨rfl, by rw [← hX.out]⟩

set_option maxHeartbeats 4000000 in
set_option maxRecDepth 100000 in
theorem insT_grow (b n c i vb vc : Nat) (cs vs : List Value) (w : World) (hi : i < n) (hnc : n ≤ c) (hroom : c < n + 1) (hbig : (n + 1) * 32 ≤ 140737488355328)
    (hcl : cs.length = n * 2) (hvl : vs.length = 2)
    (hcs : ∀ k v, cs[k]? = some v → w.cell? ⟨b, k, none⟩ = some v)
    (hvs : ∀ k v, vs[k]? = some v → w.cell? ⟨vb, k, none⟩ = some v) (h1c : ∀ v ∈ cs, v.oneCell' = true) (h1v : ∀ v ∈ vs, v.oneCell' = true) (hbw : b < w.heap.size) (hvw : vb < w.heap.size)
    (zv : Value) (hzv : (Try.prog.info? 39).bind (·.zero) = some zv) :
    Calls Try.prog 117 #[.slice (some ⟨b, 0, none⟩) n c, .int .i64 i, .slice (some ⟨vb, 0, none⟩) 1 vc] w fun e w' =>
      e = .returned (.slice (some ⟨w.heap.size, 0, none⟩) (n + 1) (grownCap w (n + 1) c 39)) ∧
      w' = (((w.alloc (.cells ((cs.take (i * 2)).toArray ++ Builtin.zeroCells zv.cells (n + 1 - i) ++ Builtin.zeroCells zv.cells (grownCap w (n + 1) c 39 - (n + 1))) 39)).drew.setCells w.heap.size (i * 2) vs).drew).setCells w.heap.size ((i + 1) * 2) (cs.drop (i * 2)) := by
  have mixed : Try.prog.follows .mixedOrders = true := by kernel_rfl
  obtain ⟨i0, hi0, hii⟩ := Option.map_eq_some_iff.1 insI
  simp only [Prod.mk.injEq] at hii
  obtain ⟨hzs, hzb, -, hzc⟩ := hii
  have hz0 : i0.zero = some zv := by rw [hi0] at hzv; exact hzv
  have hzc2 : zv.cells.size = 2 := by rw [hz0] at hzc; simpa using hzc
  have hz2 : ¬ ((i : Int) = (n : Int)) := by omega
  have hz3 : (c : Int) < (n : Int) + 1 := by omega
  have hsz : (Try.prog.info? 39).map (·.size) = some 2 := by kernel_rfl
  have hkk : (n : Int) + 1 - (i : Int) = ((n + 1 - i : Nat) : Int) := by omega
  have hik : i + (n + 1 - i) = n + 1 := by omega
  have hold : (Builtin.firstCells i0.size i (.slice (some ⟨b, 0, none⟩) i c)).run Try.prog w.drew = .ok (cs.take (i * 2)).toArray w.drew := by
    rw [hzs]
    exact run_firstCells_some w.drew 2 i ⟨b, 0, none⟩ i c (cs.take (i * 2)) (by rw [List.length_take]; omega) (fun j v hj => by
      rw [Al.add0]
      rw [List.getElem?_take] at hj
      split at hj
      · exact hcs j v hj
      · cases hj)
  have hrz : ∀ ty, (Builtin.append_ #[33, 3] ty #[.slice (some ⟨b, 0, none⟩) i c, .int .i64 ((n : Int) + 1 - (i : Int))]).run Try.prog w =
      .ok (.slice (some ⟨w.heap.size, 0, none⟩) (n + 1) (grownCap w (n + 1) c 39)) (w.drew.alloc (.cells ((cs.take (i * 2)).toArray ++ Builtin.zeroCells zv.cells (n + 1 - i) ++ Builtin.zeroCells zv.cells (grownCap w (n + 1) c 39 - (n + 1))) 39)) := fun ty => by
    have h := Lib.run_append_grow_zeros w 33 3 ty 39 i0 _ .i64 .i64 Try.underlying33 Try.underlying3 hi0 hz0 (some ⟨b, 0, none⟩) i c (cs.take (i * 2)) hold (n + 1 - i) (by omega) (by omega) (by omega) (by omega) (by rw [hzb]; omega) (by rw [hzb, hik]; exact growslice_fits hroom hbig)
    rw [hik] at h
    rw [hkk]
    exact h
  obtain ⟨G, hG⟩ : ∃ G, G = grownCap w (n + 1) c 39 := ⟨_, rfl⟩
  obtain ⟨ROW, hROW⟩ : ∃ ROW : Array Value, ROW = (cs.take (i * 2)).toArray ++ Builtin.zeroCells zv.cells (n + 1 - i) ++ Builtin.zeroCells zv.cells (G - (n + 1)) := ⟨_, rfl⟩
  rw [← hG] at hrz ⊢
  rw [← hROW] at hrz ⊢
  have hGn : n + 1 ≤ G := by rw [hG]; exact grownCap_ge w _ _ _
  have hG63 : G ≤ 9223372036854775807 := by
    have := grownCap_le_maxLen w (n + 1) c 39 (by unfold maxLen; omega)
    rw [← hG] at this
    unfold maxLen at this
    omega
  have hRl : (n + 1) * 2 ≤ ROW.size := by
    rw [hROW]
    simp only [Array.size_append, List.size_toArray, List.length_take, Builtin.zeroCells, Array.size_map, Array.size_range, hzc2, hcl]
    omega
  obtain ⟨W1, hW1⟩ : ∃ W1, W1 = w.drew.alloc (.cells ROW 39) := ⟨_, rfl⟩
  rw [← hW1] at hrz
  have hN : ∀ j, j < (n + 1) * 2 → (W1.cell? ⟨w.heap.size, j, none⟩).isSome = true := fun j hj => by
    rw [hW1, World.cell?_alloc_at (w := w.drew) ROW _ w.heap.size j rfl, Array.getElem?_eq_getElem (by omega)]; rfl
  have hNf : ∀ j, W1.frozen? ⟨w.heap.size, j, none⟩ = false := fun j => by rw [hW1]; exact World.frozen?_alloc_at (w := w.drew) ROW _ w.heap.size j rfl
  have hOb : ∀ j v, w.cell? ⟨b, j, none⟩ = some v → W1.cell? ⟨b, j, none⟩ = some v := fun j v h => by rw [hW1, World.cell?_alloc_past (w := w.drew) _ b j hbw]; exact h
  have hOv : ∀ j v, w.cell? ⟨vb, j, none⟩ = some v → W1.cell? ⟨vb, j, none⟩ = some v := fun j v h => by rw [hW1, World.cell?_alloc_past (w := w.drew) _ vb j hvw]; exact h
  have hcpA : ∀ (W : World), (∀ x, W.cell? x = W1.cell? x) → (∀ x, W.frozen? x = W1.frozen? x) → ∀ ty dc, (Builtin.copy_ #[33, 33] ty #[.slice (some ⟨w.heap.size, i * 2, none⟩) (n + 1 - i) dc, .slice (some ⟨vb, 0, none⟩) 1 vc]).run Try.prog W = .ok (goInt (Nat.min 1 (n + 1 - i))) (W.setCells w.heap.size (i * 2) vs) := fun W hWc hWf ty dc =>
    Al.run_copy_z W _ _ ty 39 2 w.heap.size (i * 2) (n + 1 - i) dc ⟨vb, 0, none⟩ 1 vc vs Try.underlying33 hsz (by rw [hvl]; simp only [Nat.min_def]; split <;> omega)
      (fun j v hj => by rw [Al.add0, hWc]; exact hOv _ v (hvs j v hj))
      (fun j hj => by rw [hWc]; exact hN _ (by omega)) (fun j hj => by rw [hWf]; exact hNf _) h1v
  have hGi : ¬ (G = i) := by omega
  have hGim : ¬ (G = i + 1) := by omega
  have hci : ¬ (c = i) := by omega
  have hbN : b ≠ w.heap.size := by omega
  have hdl : (cs.drop (i * 2)).length = (n - i) * 2 := by rw [List.length_drop, hcl]; omega
  have hcpB : ∀ (W : World), (∀ x, W.cell? x = (W1.setCells w.heap.size (i * 2) vs).cell? x) → (∀ x, W.frozen? x = (W1.setCells w.heap.size (i * 2) vs).frozen? x) → ∀ ty dc sc, (Builtin.copy_ #[33, 33] ty #[.slice (some ⟨w.heap.size, (i + 1) * 2, none⟩) (n - i) dc, .slice (some ⟨b, i * 2, none⟩) (n - i) sc]).run Try.prog W = .ok (goInt (Nat.min (n - i) (n - i))) (W.setCells w.heap.size ((i + 1) * 2) (cs.drop (i * 2))) := fun W hWc hWf ty dc sc =>
    Al.run_copy_z W _ _ ty 39 2 w.heap.size ((i + 1) * 2) (n - i) dc ⟨b, i * 2, none⟩ (n - i) sc (cs.drop (i * 2)) Try.underlying33 hsz (by rw [hdl]; simp only [Nat.min_def]; split <;> omega)
      (fun j v hj => by
        rw [Al.add00, hWc, World.cell?_setCells_out _ _ _ _ _ (fun h _ => absurd h hbN)]
        exact hOb _ v (hcs (i * 2 + j) v (by rwa [List.getElem?_drop] at hj)))
      (fun j hj => by rw [hWc]; exact isSome_setCells _ _ _ _ (fun t ht => hN _ (by omega)) _ (hN _ (by omega)))
      (fun j hj => by rw [hWf, World.frozen?_setCells]; exact hNf _) (fun v hv => h1c v (List.mem_of_mem_drop hv))
  subst hW1
  have hE1 : ∀ x, ((w.alloc (.cells ROW 39)).drew).cell? x = (w.drew.alloc (.cells ROW 39)).cell? x := fun x => rfl
  have hE2 : ∀ x, ((w.alloc (.cells ROW 39)).drew).frozen? x = (w.drew.alloc (.cells ROW 39)).frozen? x := fun x => rfl
  have hF1 : ∀ x, (((w.alloc (.cells ROW 39)).drew.setCells w.heap.size (i * 2) vs).drew).cell? x = ((w.drew.alloc (.cells ROW 39)).setCells w.heap.size (i * 2) vs).cell? x := fun x => rfl
  have hF2 : ∀ x, (((w.alloc (.cells ROW 39)).drew.setCells w.heap.size (i * 2) vs).drew).frozen? x = ((w.drew.alloc (.cells ROW 39)).setCells w.heap.size (i * 2) vs).frozen? x := fun x => rfl
  have hw1 : IntKind.i64.wrap ((i : Int) + 1) = (i : Int) + 1 := by rw [IntKind.wrap_i64]; omega
  have hb1 : (0 : Int) ≤ (i : Int) + 1 := by omega
  have hin : i ≤ n := by omega
  have htn : ((i : Int) + 1).toNat = i + 1 := by omega
  have hb3 : (i : Int) ≤ (n : Int) := by omega
  have hb4 : i ≤ c := by omega
  have hb5 : i ≤ G := by omega
  have hb6 : i + 1 ≤ G := by omega
  clear hkk hik hold hROW hG hRl hi0 hzv hz0 hzs hzb hzc hzc2 hsz hN hNf hOb hOv hcs hvs h1c h1v
  go_enter Try.func117, Try.ntmps117
  go_wp2_with (first
    | (at_builtin; refine Lib.wpList_append_run _ rfl _ _ _ _ rfl _ _ rfl rfl _ _ (hrz _) ?_)
    | (at_builtin; refine wpList_copy_runI _ rfl _ _ 33 33 rfl _ _ rfl rfl (hcpA _ hE1 hE2 _ _) ?_)
    | (at_builtin; refine wpList_copy_runI _ rfl _ _ 33 33 rfl _ _ rfl rfl (hcpB _ (fun _ => rfl) (fun _ => rfl) _ _ _) ?_))
  go_region_law_o (refine step_copy_runI rfl _ _ 33 33 rfl (.slice (some ⟨w.heap.size, (i + 1) * 2, none⟩) (n - i) (G - (i + 1))) (.slice (some ⟨b, i * 2, none⟩) (n - i) (c - i)) (by simp [Act.eval, Act.put]) (by simp [Act.eval, Act.put]) (hcpB _ hF1 hF2 3 (G - (i + 1)) (c - i)) ?_)
  go_wp2
  go_ret
  exact ⟨rfl, rfl⟩

theorem insS : ∃ zv, Al.InsSpec Try.prog 117 2 32 39 zv := by
  obtain ⟨i0, hi0, hii⟩ := Option.map_eq_some_iff.1 insI
  simp only [Prod.mk.injEq] at hii
  obtain ⟨zv, hz⟩ := Option.isSome_iff_exists.1 hii.2.2.1
  have hzv : (Try.prog.info? 39).bind (·.zero) = some zv := by rw [hi0]; exact hz
  exact ⟨zv, ⟨by have := hii.2.2.2; rw [hz] at this; simpa using this, insT_room, fun base n c vb vc cs vs w h1 h2 h3 h4 h5 h6 h7 h8 => insT_end base n c vb vc cs vs w h1 h2 h3 h4 h5 h6 h7 h8 zv hzv, insT_shift,
    fun b n c i vb vc cs vs w h1 h2 h3 h4 h5 h6 h7 h8 h9 h10 h11 h12 => insT_grow b n c i vb vc cs vs w h1 h2 h3 h4 h5 h6 h7 h8 h9 h10 h11 h12 zv hzv⟩⟩
end Go.AlW.slices_Insert_impl_File_s0fce
namespace Go.Al
open Go.Proofs
namespace slices_Insert_impl_File_s0fce
noncomputable def F (a1 : Int) (a2 a3 : Vec (ByteArray × ByteArray)) : Option (Vec (ByteArray × ByteArray)) := sel (decide (0 ≤ a1 ∧ a1 ≤ (a2.n : Int) ∧ a3.n = 1 ∧ (a2.n + 1) * (32 + 1) ≤ maxN)) (some (Vec.ins a2 a1 a3)) none
def encA (t : Int × (Vec (ByteArray × ByteArray)) × (Vec (ByteArray × ByteArray))) : List AV × List Ob := ([.c (.h 0), vi t.1, .c (.h 1)], [ro t.2.1, ro t.2.2])
def encR (x : Vec (ByteArray × ByteArray)) : AV × List Ob := (.c (.h 0), [.row 2 (encRw x) [], .none])
theorem encAI : ∀ a b, encA a = encA b → a = b := by
  intro a b h
  obtain ⟨a0, a1, a2⟩ := a
  obtain ⟨b0, b1, b2⟩ := b
  simp [encA, encRw_iff] at h
  simp_all
noncomputable def Q (args : List AV) (hin : List Ob) : Option (Vec (ByteArray × ByteArray)) := ofC encA (fun t => F t.1 t.2.1 t.2.2) (args, hin)
theorem wrap : (fun (y1 : Int) (y2 : Vec (ByteArray × ByteArray)) (y3 : Vec (ByteArray × ByteArray)) => Q [.c (.h 0), vi y1, .c (.h 1)] [ro y2, ro y3]) = F := by
  funext y1 y2 y3
  exact ofC_enc encAI _ (y1, y2, y3)
theorem ac (args : List AV) (hin : List Ob) (x : Vec (ByteArray × ByteArray)) (h : Q args hin = some x) : AC Try.prog 117 args hin false [false, false] fun rv obs => (rv, obs) = encR x := by
  obtain ⟨t, he, h2⟩ := ofC_some h
  obtain rfl : args = (encA t).1 := (congrArg Prod.fst he).symm
  obtain rfl : hin = (encA t).2 := (congrArg Prod.snd he).symm
  rcases sel_cases h2 with ⟨hb, h3⟩ | ⟨-, h3⟩
  · simp only [Option.some.injEq] at h3
    subst h3
    have hb := of_decide_eq_true hb
    obtain ⟨zv, hs⟩ := AlW.slices_Insert_impl_File_s0fce.insS
    have hm := AC.ins Try.func117 (by kernel_rfl) (by kernel_rfl) (show InsSpec Try.prog 117 (Enc.sz (ByteArray × ByteArray)) 32 39 zv from hs) (by decide) hb
    refine AC.flat hm fun rv obs e => ?_
    obtain rfl : rv = .c (.h 0) := congrArg Prod.fst e
    obtain rfl : obs = [Go.Al.rw (Vec.ins t.2.1 t.1 t.2.2), .none] := congrArg Prod.snd e
    refine ⟨by simp [AV.Flat, K.Flat, C.Flat], ?_⟩
    intro o ho
    simp only [List.mem_cons, List.not_mem_nil, or_false] at ho
    rcases ho with rfl | rfl
    · exact flat_rw rfl _
    · simp [Ob.Flat, C.Flat, N.Flat]
  · cases h3
end slices_Insert_impl_File_s0fce
/-! (*loop.example/g00073/impl.Disk).put -/
namespace impl_Disk_put_s22c0
noncomputable def B {ρ : Type} (C0 : YVF → ByteArray → Option (Int × Bool)) (C1 : Int → YVF → YVF → Option YVF) (a1 : ByteArray) (a2 : ByteArray) (a3 : Vec YF) (K : YVF → Option ρ) : Option ρ :=
  (C0 a3 a1).bind fun r1 => sel (r1.2) (chk (decide (0 ≤ r1.1 ∧ r1.1 < (a3.n : Int))) (chk (decide ((r1.1).toNat < a3.n)) (K (Vec.set a3 ((r1.1).toNat) (a1, a2))))) ((C1 r1.1 a3 (Vec.lit [(a1, a2)] : Vec YF)).bind fun r2 => K r2)
noncomputable def F (a1 : ByteArray) (a2 : ByteArray) (a3 : Vec YF) : Option YVF := B impl_Disk_place.F slices_Insert_impl_File_s0fce.F a1 a2 a3 (fun x1 => some (x1))
def encA (t : ByteArray × ByteArray × YVF) : List AV × List Ob := ([.c (.p 0 0), .a [cs t.1, cs t.2.1]], [.box [.h 1], ro t.2.2])
def encR (x : Vec YF) : AV × List Ob := (.tup [], [.box [.h 1], ro x])
theorem encAI (a b) (h : encA a = encA b) : a = b := by simp [encA, encRw_iff] at h; simp [Prod.ext_iff, h]
theorem encRI (a b) (h : encR a = encR b) : a = b := by simpa [encR, encRw_iff] using h
noncomputable def Q (args : List AV) (hin : List Ob) : Option YVF := ofC encA (fun t => F t.1 t.2.1 t.2.2) (args, hin)
theorem wrap : F = fun y1 y2 y3 => Q [.c (.p 0 0), .a [cs y1, cs y2]] [.box [.h 1], ro y3] := by funext y1 y2 y3; exact Eq.symm (ofC_enc encAI _ (y1, y2, y3))
noncomputable def L : Lor := fun _ _ _ _ => Option.none
theorem main {Q0 Q1} {ρ : Type} {K : AV → List Ob → Option ρ} (a1 a2 a3) : exC Try.prog (mkO [qE 91 false impl_Disk_place.encR Q0] [eE Try.prog 117 [true, false, true] false [false, false] slices_Insert_impl_File_s0fce.encR Q1] []) L [] 0 (bodyOf Try.f90) (entry 32 [.c (.p 0 0), .a [cs a1, cs a2]] [.box [.h 1], ro a3] [true, false]) (finO Try.prog Try.f90.results.toList 2 [true, false] [] K) =
    B (fun y1 y2 => Q0 [.ra [nl y1], vs y2]) (fun y1 y2 y3 => Q1 [.c (.h 0), vi y1, .c (.h 1)] [ro y2, ro y3]) a1 a2 a3 (fun x1 => K (.tup []) [.box [.h 1], ro x1]) := by kernel_rfl
theorem Gok : (mkO [qE 91 false impl_Disk_place.encR impl_Disk_place.Q] [eE Try.prog 117 [true, false, true] false [false, false] slices_Insert_impl_File_s0fce.encR slices_Insert_impl_File_s0fce.Q] []).ok Try.prog := mkO_ok (by exact ⟨qE_ok impl_Disk_place.ac, trivial⟩) (by exact ⟨eE_ok (fun h => by cases h) slices_Insert_impl_File_s0fce.ac, trivial⟩)
theorem acc : ∀ t x, F t.1 t.2.1 t.2.2 = some x → ACc Try.prog 90 (encA t).1 (encA t).2 true [true, false] fun rv obs => (rv, obs) = encR x :=
  accT2 (T := ByteArray × ByteArray × YVF) (F := fun t => F t.1 t.2.1 t.2.2) (L := L) (cmds := []) (body := (bodyOf Try.f90)) 2 (fun _ => rfl) Gok hmT Try.func90 (by kernel_rfl) (by kernel_rfl) (by rw [show atomsL [] 0 (bodyOf Try.f90) = [] by kernel_rfl]; exact Lor.ok_nil _ _) (fun t => by refine (main t.1 t.2.1 t.2.2).trans ?_; rw [← impl_Disk_place.wrap, slices_Insert_impl_File_s0fce.wrap]; exact congrArg (B _ _ t.1 t.2.1 t.2.2) (funext fun x1 => ofC_enc encRI some (x1)))
theorem ac (args : List AV) (hin : List Ob) (x : Vec YF) (h : Q args hin = some x) : AC Try.prog 90 args hin false [true, false] fun rv obs => (rv, obs) = encR x := acF2 (T := ByteArray × ByteArray × YVF) (F := fun t => F t.1 t.2.1 t.2.2) (body := (bodyOf Try.f90)) Try.func90 (by kernel_rfl) (by kernel_rfl) acc (fun x => ⟨by simp [encR, AV.Flat, K.Flat, C.Flat], flc (by simp [Ob.Flat, C.Flat, N.Flat]) (flc (flat_rw rfl _) (fl0))⟩) args hin x h
end impl_Disk_put_s22c0
/-! slices.Delete(()loop.example/g00073/impl.File,loop.example/g00073/impl.File) -/
end Go.Al
namespace Go.AlW.slices_Delete_impl_File_s5d7b
open Go.Proofs Go.Shelf Go.RowKit Go.Lib
set_option maxHeartbeats 4000000 in
set_option maxRecDepth 1000000 in
theorem delW : Al.DelSpec Try.prog 92 2 := by
  intro w g n cap i j cur e fr hb hfr hs hn hm hij hj h1
  obtain ⟨news, hnews⟩ : ∃ news, news = (cur.toList.drop (j * 2)).take ((n - j) * 2) := ⟨_, rfl⟩
  have hm' : cap ≤ 9223372036854775807 := by unfold maxLen at hm; omega
  have hlen : news.length = (n - j) * 2 := by rw [hnews]; simp; omega
  have hcell : ∀ k, k < cur.size → w.cell? ⟨g, k, none⟩ = some cur[k]! := fun k hk => by rw [Al.cells_at hb, getElem!_pos cur k hk]; simp [hk]
  have hfz : ∀ k, k < cur.size → w.frozen? ⟨g, k, none⟩ = false := fun k hk => Al.not_frozen hb hfr hk
  have hget : ∀ t u, news[t]? = some u → t < (n - j) * 2 ∧ cur[j * 2 + t]? = some u := fun t u hu => by
    have ht : t < news.length := (List.getElem?_eq_some_iff.1 hu).1
    rw [hlen] at ht
    refine ⟨ht, ?_⟩
    rw [hnews, List.getElem?_take, if_pos ht, List.getElem?_drop] at hu
    simpa using hu
  obtain ⟨A, hA, hsrc⟩ : ∃ A : Addr, (if cap = j then (some ⟨g, 0, none⟩ : Option Addr) else some ⟨g, j * 2, none⟩) = some A ∧ Hid (∀ t u, news[t]? = some u → w.drew.cell? (A.add t) = some u) := by
    by_cases h : cap = j
    · refine ⟨⟨g, 0, none⟩, by simp [h], fun t u hu => ?_⟩
      have := (hget t u hu).1
      omega
    · refine ⟨⟨g, j * 2, none⟩, by simp [h], fun t u hu => ?_⟩
      obtain ⟨ht, hu⟩ := hget t u hu
      rw [Al.add00]
      show w.cell? _ = _
      rw [Al.cells_at hb]
      exact hu
  have s1 : Hid (news.length = (n - j) * 2) := hlen
  have s2 : Hid (∀ u ∈ news, u.oneCell' = true) := by
    intro u hu
    obtain ⟨t, ht⟩ := List.mem_iff_getElem?.1 hu
    obtain ⟨h3, h4⟩ := hget t u ht
    exact h1 _ u (by omega) h4
  have s3 : Hid (∀ t, t < news.length → (w.drew.cell? ⟨g, 0 + i * 2 + t, none⟩).isSome = true ∧ w.drew.frozen? ⟨g, 0 + i * 2 + t, none⟩ = false) := by
    intro t ht
    rw [hlen] at ht
    exact ⟨by show (w.cell? _).isSome = true; rw [hcell _ (by omega)]; rfl, hfz _ (by omega)⟩
  obtain ⟨W1, hW1⟩ : ∃ W1, W1 = w.drew.setCells g (i * 2) news := ⟨_, rfl⟩
  have hbW : W1.heap[g]? = some (.cells (Al.putCells cur (i * 2) news) e fr) := by rw [hW1]; exact Al.setCells_heap news (i * 2) w.drew cur hb
  obtain ⟨zv, hzv⟩ : ∃ zv : Value, ∀ w, (zeroValue 39).run Try.prog w = .ok zv w := ⟨_, Try.zeroValue39⟩
  have hz12 : zv.cells.size = 2 ∧ zv.cells.toList.all (·.oneCell') = true := by
    have h := hzv w
    rw [Try.zeroValue39] at h
    cases h
    exact ⟨by kernel_rfl, by kernel_rfl⟩
  have hz2 : zv.cells.size = 2 := hz12.1
  have hz1 : ∀ u ∈ zv.cells.toList, u.oneCell' = true := fun u hu => List.all_eq_true.1 hz12.2 u hu
  have hcl : ∀ ty, (Builtin.clear_ #[33] ty #[.slice (some ⟨g, (i + (n - j)) * 2, none⟩) (n - (i + (n - j))) (cap - (i + (n - j)))]).run Try.prog W1 = .ok (.tuple #[]) (W1.setCells g ((i + (n - j)) * 2) (Builtin.zeroCells zv.cells (n - (i + (n - j)))).toList) :=
    fun ty => Al.run_clear_z W1 33 39 ty zv Try.underlying33 hzv hz1 g _ _ _ (by omega) (fun t ht => by
      rw [hz2] at ht
      rw [Al.cells_at hbW]
      have : (i + (n - j)) * 2 + t < (Al.putCells cur (i * 2) news).size := by rw [Al.putCells_size]; omega
      simp [this]) (fun t ht => by
      rw [hz2] at ht
      exact Al.not_frozen hbW (by rw [Al.putCells_size]; exact hfr) (by rw [Al.putCells_size]; omega))
  have hW : Hid (W1 = w.drew.setCells g (0 + i * 2) news) := by rw [Nat.zero_add]; exact hW1
  have hX : Hid (W1 = w.drew.setCells g (i * 2) ((cur.toList.drop (j * 2)).take ((n - j) * 2))) := by rw [← hnews]; exact hW1
  have hZ : Hid ((Builtin.zeroCells zv.cells (n - (i + (n - j)))).toList.length = (j - i) * 2) := by rw [Al.zeroCells_length, hz2]; congr 1; omega
  obtain ⟨i0, hi0⟩ : ∃ i0, Try.prog.info? 39 = some i0 := ⟨_, rfl⟩
  have his : i0.size = 2 := by
    have : (Try.prog.info? 39).map (·.size) = some 2 := by kernel_rfl
    rw [hi0] at this
    simpa using this
  obtain ⟨zs, hzs⟩ : ∃ zs, zs = (Builtin.zeroCells zv.cells (n - (i + (n - j)))).toList := ⟨_, rfl⟩
  rw [← hzs] at hcl hZ
  have hic : i ≤ cap := by omega
  have hjc : j ≤ cap := by omega
  have hin : i ≤ n := by omega
  have hne : ¬ i = j := by omega
  clear hW1 hget hnews hlen hbW hcell hfz hb hfr hs h1 hzs hz12 hz1 hz2 hzv
  have mixed : Try.prog.follows .mixedOrders = true := by kernel_rfl
  go_enter Try.func92, Try.ntmps92
  go_wp2_with fail
  go_region_law_o (refine step_append_room rfl (.tmp 22) (.tmp 25) 33 rfl 39 i0 2 Try.underlying33 hi0 his g 0 i cap (by simp [Act.eval, Act.put]) A (n - j) (cap - j) news (by simp [Act.eval, Act.put, hA]) s1.out hsrc.out s2.out (by omega) s3.out ?_; rw [← hW.out])
  go_wp2
  go_ret
  refine ⟨by rw [show n - (j - i) = i + (n - j) by omega]; rfl, zs, hZ.out, by rw [← hX.out]⟩
end Go.AlW.slices_Delete_impl_File_s5d7b
namespace Go.Al
open Go.Proofs
namespace slices_Delete_impl_File_s5d7b
noncomputable def F (a1 a2 : Int) (a3 : Vec (ByteArray × ByteArray)) : Option (Vec (ByteArray × ByteArray)) := sel (decide (0 ≤ a1 ∧ a1 < a2 ∧ a2 ≤ (a3.n : Int))) (some (Vec.del a3 a1 a2)) none
def encA (t : Int × Int × (Vec (ByteArray × ByteArray))) : List AV × List Ob := ([.c (.h 0), vi t.1, vi t.2.1], [ro t.2.2])
def encR (x : Vec (ByteArray × ByteArray)) : AV × List Ob := (.c (.h 0), [.row 2 (encRw x) []])
theorem encAI : ∀ a b, encA a = encA b → a = b := by
  intro a b h
  obtain ⟨a0, a1, a2⟩ := a
  obtain ⟨b0, b1, b2⟩ := b
  simp [encA, encRw_iff] at h
  simp_all
noncomputable def Q (args : List AV) (hin : List Ob) : Option (Vec (ByteArray × ByteArray)) := ofC encA (fun t => F t.1 t.2.1 t.2.2) (args, hin)
theorem wrap : (fun (y1 : Int) (y2 : Int) (y3 : Vec (ByteArray × ByteArray)) => Q [.c (.h 0), vi y1, vi y2] [ro y3]) = F := by
  funext y1 y2 y3
  exact ofC_enc encAI _ (y1, y2, y3)
theorem ac (args : List AV) (hin : List Ob) (x : Vec (ByteArray × ByteArray)) (h : Q args hin = some x) : AC Try.prog 92 args hin false [false] fun rv obs => (rv, obs) = encR x := by
  obtain ⟨t, he, h2⟩ := ofC_some h
  obtain rfl : args = (encA t).1 := (congrArg Prod.fst he).symm
  obtain rfl : hin = (encA t).2 := (congrArg Prod.snd he).symm
  rcases sel_cases h2 with ⟨hb, h3⟩ | ⟨-, h3⟩
  · simp only [Option.some.injEq] at h3
    subst h3
    have hb := of_decide_eq_true hb
    have hm := AC.del Try.func92 (by kernel_rfl) (by kernel_rfl) (show DelSpec Try.prog 92 (Enc.sz (ByteArray × ByteArray)) from AlW.slices_Delete_impl_File_s5d7b.delW) hb
    refine AC.flat hm fun rv obs e => ?_
    obtain rfl : rv = .c (.h 0) := congrArg Prod.fst e
    obtain rfl : obs = [Go.Al.rw (Vec.del t.2.2 t.1 t.2.1)] := congrArg Prod.snd e
    refine ⟨by simp [AV.Flat, K.Flat, C.Flat], ?_⟩
    intro o ho
    simp only [List.mem_cons, List.not_mem_nil, or_false] at ho
    subst ho
    exact flat_rw rfl _
  · cases h3
end slices_Delete_impl_File_s5d7b
/-! (*loop.example/g00073/impl.Disk).do -/
namespace impl_Disk_do_s08b6
noncomputable def B {ρ : Type} (C0 : ByteArray → ByteArray → YVF → Option YVF) (C1 : ByteArray → ByteArray → Option Bool) (C2 : YVF → ByteArray → Option (Int × Bool)) (C3 : Int → Int → YVF → Option YVF) (a1 : Int) (a2 : ByteArray) (a3 : ByteArray) (a4 : ByteArray) (a5 : Vec YF) (K : Bool → YVF → Option ρ) : Option ρ :=
  sel (decide (a1 = (4 : Int))) (K true a5) (sel (decide (a1 = (1 : Int))) ((C0 a2 a4 a5).bind fun r1 => (C1 a2 a4).bind fun r2 => sel (r2) (K (decide ((r1.n : Int) ≤ (40 : Int))) r1) (K false r1)) ((C2 a5 a2).bind fun r3 => sel ((!r3.2)) (K false a5) (chk (decide (0 ≤ r3.1 ∧ r3.1 < (a5.n : Int))) (chk (decide ((r3.1).toNat < a5.n)) (sel (decide (a1 = (3 : Int))) ((C3 r3.1 (wr (r3.1 + (1 : Int))) a5).bind fun r4 => K true r4) (sel (decide (a1 = (2 : Int))) ((C3 r3.1 (wr (r3.1 + (1 : Int))) a5).bind fun r5 => (C0 a3 ((a5.g ((r3.1).toNat)).2) r5).bind fun r6 => (C1 a3 ((a5.g ((r3.1).toNat)).2)).bind fun r7 => K r7 r6) (K false a5)))))))
noncomputable def F (a1 : Int) (a2 : ByteArray) (a3 : ByteArray) (a4 : ByteArray) (a5 : Vec YF) : Option (Bool × YVF) := B impl_Disk_put_s22c0.F impl_fileOk.F impl_Disk_place.F slices_Delete_impl_File_s5d7b.F a1 a2 a3 a4 a5 (fun x1 x2 => some (x1, x2))
def encA (t : Int × ByteArray × ByteArray × ByteArray × YVF) : List AV × List Ob := ([.c (.p 0 0), .a [ci t.1, cs t.2.1, cs t.2.2.1, cs t.2.2.2.1]], [.box [.h 1], ro t.2.2.2.2])
def encR (x : Bool × YVF) : AV × List Ob := (vb x.1, [.box [.h 1], ro x.2])
theorem encAI (a b) (h : encA a = encA b) : a = b := by simp [encA, encRw_iff] at h; simp [Prod.ext_iff, h]
theorem encRI (a b) (h : encR a = encR b) : a = b := by simp [encR, encRw_iff] at h; simp [Prod.ext_iff, h]
noncomputable def Q (args : List AV) (hin : List Ob) : Option (Bool × YVF) := ofC encA (fun t => F t.1 t.2.1 t.2.2.1 t.2.2.2.1 t.2.2.2.2) (args, hin)
theorem wrap : F = fun y1 y2 y3 y4 y5 => Q [.c (.p 0 0), .a [ci y1, cs y2, cs y3, cs y4]] [.box [.h 1], ro y5] := by funext y1 y2 y3 y4 y5; exact Eq.symm (ofC_enc encAI _ (y1, y2, y3, y4, y5))
noncomputable def L : Lor := fun _ _ _ _ => Option.none
theorem main {Q0 Q1 Q2 Q3} {ρ : Type} {K : AV → List Ob → Option ρ} (a1 a2 a3 a4 a5) : exC Try.prog (mkO [qE 62 false impl_fileOk.encR Q1, qE 91 false impl_Disk_place.encR Q2] [eE Try.prog 90 [true, false] false [true, false] impl_Disk_put_s22c0.encR Q0, eE Try.prog 92 [true, false, false] false [false] slices_Delete_impl_File_s5d7b.encR Q3] []) L [] 0 (bodyOf Try.f54) (entry 85 [.c (.p 0 0), .a [ci a1, cs a2, cs a3, cs a4]] [.box [.h 1], ro a5] [true, false]) (finO Try.prog Try.f54.results.toList 2 [true, false] [] K) =
    B (fun y1 y2 y3 => Q0 [.c (.p 0 0), .a [cs y1, cs y2]] [.box [.h 1], ro y3]) (fun y1 y2 => Q1 [.a [cs y1, cs y2]]) (fun y1 y2 => Q2 [.ra [nl y1], vs y2]) (fun y1 y2 y3 => Q3 [.c (.h 0), vi y1, vi y2] [ro y3]) a1 a2 a3 a4 a5 (fun x1 x2 => K (vb x1) [.box [.h 1], ro x2]) := by kernel_rfl
theorem Gok : (mkO [qE 62 false impl_fileOk.encR impl_fileOk.Q, qE 91 false impl_Disk_place.encR impl_Disk_place.Q] [eE Try.prog 90 [true, false] false [true, false] impl_Disk_put_s22c0.encR impl_Disk_put_s22c0.Q, eE Try.prog 92 [true, false, false] false [false] slices_Delete_impl_File_s5d7b.encR slices_Delete_impl_File_s5d7b.Q] []).ok Try.prog := mkO_ok (by exact ⟨qE_ok impl_fileOk.ac, qE_ok impl_Disk_place.ac, trivial⟩) (by exact ⟨eE_ok (fun h => by cases h) impl_Disk_put_s22c0.ac, eE_ok (fun h => by cases h) slices_Delete_impl_File_s5d7b.ac, trivial⟩)
theorem acc : ∀ t x, F t.1 t.2.1 t.2.2.1 t.2.2.2.1 t.2.2.2.2 = some x → ACc Try.prog 54 (encA t).1 (encA t).2 true [true, false] fun rv obs => (rv, obs) = encR x :=
  accT2 (T := Int × ByteArray × ByteArray × ByteArray × YVF) (F := fun t => F t.1 t.2.1 t.2.2.1 t.2.2.2.1 t.2.2.2.2) (L := L) (cmds := []) (body := (bodyOf Try.f54)) 2 (fun _ => rfl) Gok hmT Try.func54 (by kernel_rfl) (by kernel_rfl) (by rw [show atomsL [] 0 (bodyOf Try.f54) = [] by kernel_rfl]; exact Lor.ok_nil _ _) (fun t => by refine (main t.1 t.2.1 t.2.2.1 t.2.2.2.1 t.2.2.2.2).trans ?_; rw [← impl_Disk_put_s22c0.wrap, ← impl_fileOk.wrap, ← impl_Disk_place.wrap, slices_Delete_impl_File_s5d7b.wrap]; exact congrArg (B _ _ _ _ t.1 t.2.1 t.2.2.1 t.2.2.2.1 t.2.2.2.2) (funext fun x1 => funext fun x2 => ofC_enc encRI some (x1, x2)))
theorem ac (args : List AV) (hin : List Ob) (x : Bool × YVF) (h : Q args hin = some x) : AC Try.prog 54 args hin false [true, false] fun rv obs => (rv, obs) = encR x := acF2 (T := Int × ByteArray × ByteArray × ByteArray × YVF) (F := fun t => F t.1 t.2.1 t.2.2.1 t.2.2.2.1 t.2.2.2.2) (body := (bodyOf Try.f54)) Try.func54 (by kernel_rfl) (by kernel_rfl) acc (fun x => ⟨by simp [encR, AV.Flat, K.Flat, C.Flat], flc (by simp [Ob.Flat, C.Flat, N.Flat]) (flc (flat_rw rfl _) (fl0))⟩) args hin x h
end impl_Disk_do_s08b6
/-! loop.example/g00073/impl.PutRaw -/
namespace impl_PutRaw
noncomputable def B {ρ : Type} (C0 : YVF → Option YVF) (C1 : YVF → Option Bool) (C2 : Int → ByteArray → ByteArray → ByteArray → YVF → Option (Bool × YVF)) (a1 : Vec YF) (a2 : Int) (a3 : ByteArray) (a4 : ByteArray) (a5 : ByteArray) (K : Bool → YVF → Option ρ) : Option ρ :=
  (C0 a1).bind fun r1 => (C1 a1).bind fun r2 => sel ((!r2)) (K false (Vec.nil : Vec YF)) ((C2 a2 a3 a4 a5 r1).bind fun r3 => sel ((!r3.1)) (K false (Vec.nil : Vec YF)) (K true r3.2))
noncomputable def F (a1 : Vec YF) (a2 : Int) (a3 : ByteArray) (a4 : ByteArray) (a5 : ByteArray) : Option (Bool × YVF) := B impl_copyDisk.F impl_DiskOk.F impl_Disk_do_s08b6.F a1 a2 a3 a4 a5 (fun x1 x2 => some (x1, x2))
def encA (t : YVF × Int × ByteArray × ByteArray × ByteArray) : List AV := [.a [cl t.1], .a [ci t.2.1, cs t.2.2.1, cs t.2.2.2.1, cs t.2.2.2.2]]
def encR (x : Bool × YVF) : AV × List Ob := (.tup [.a [.h 0], .c (cb x.1)], [ro x.2])
theorem encAI (a b) (h : encA a = encA b) : a = b := by simp [encA, encRw_iff] at h; simp [Prod.ext_iff, h]
theorem encRI (a b) (h : encR a = encR b) : a = b := by simp [encR, encRw_iff] at h; simp [Prod.ext_iff, h]
noncomputable def Q (args : List AV) : Option (Bool × YVF) := ofC encA (fun t => F t.1 t.2.1 t.2.2.1 t.2.2.2.1 t.2.2.2.2) args
theorem wrap : F = fun y1 y2 y3 y4 y5 => Q [.a [cl y1], .a [ci y2, cs y3, cs y4, cs y5]] := by funext y1 y2 y3 y4 y5; exact Eq.symm (ofC_enc encAI _ (y1, y2, y3, y4, y5))
noncomputable def L : Lor := fun _ _ _ _ => Option.none
theorem main {Q0 Q1 Q2} {ρ : Type} {K : AV → List Ob → Option ρ} (a1 a2 a3 a4 a5) : exC Try.prog (mkO [qE 53 false impl_copyDisk.encR Q0, qE 26 false impl_DiskOk.encR Q1] [eE Try.prog 54 [true, false] false [true, false] impl_Disk_do_s08b6.encR Q2] []) L [] 0 (bodyOf Try.f18) (entry 19 [.a [cl a1], .a [ci a2, cs a3, cs a4, cs a5]] [] []) (finO Try.prog Try.f18.results.toList 0 [] [.ad (.p 4 0) 33] K) =
    B (fun y1 => Q0 [.a [cl y1]]) (fun y1 => Q1 [.a [cl y1]]) (fun y1 y2 y3 y4 y5 => Q2 [.c (.p 0 0), .a [ci y1, cs y2, cs y3, cs y4]] [.box [.h 1], ro y5]) a1 a2 a3 a4 a5 (fun x1 x2 => K (.tup [.a [.h 0], .c (cb x1)]) [ro x2]) := by kernel_rfl
theorem Gok : (mkO [qE 53 false impl_copyDisk.encR impl_copyDisk.Q, qE 26 false impl_DiskOk.encR impl_DiskOk.Q] [eE Try.prog 54 [true, false] false [true, false] impl_Disk_do_s08b6.encR impl_Disk_do_s08b6.Q] []).ok Try.prog := mkO_ok (by exact ⟨qE_ok impl_copyDisk.ac, qE_ok impl_DiskOk.ac, trivial⟩) (by exact ⟨eE_ok (fun h => by cases h) impl_Disk_do_s08b6.ac, trivial⟩)
theorem acc : ∀ t x, F t.1 t.2.1 t.2.2.1 t.2.2.2.1 t.2.2.2.2 = some x → ACc Try.prog 18 (encA t) [] true [] fun rv obs => (rv, obs) = encR x :=
  accT (T := YVF × Int × ByteArray × ByteArray × ByteArray) (F := fun t => F t.1 t.2.1 t.2.2.1 t.2.2.2.1 t.2.2.2.2) (L := L) (cmds := [.ad (.p 4 0) 33]) (body := (bodyOf Try.f18)) Gok hmT Try.func18 (by kernel_rfl) (by kernel_rfl) (by rw [show atomsL [] 0 (bodyOf Try.f18) = [] by kernel_rfl]; exact Lor.ok_nil _ _) (fun t => by refine (main t.1 t.2.1 t.2.2.1 t.2.2.2.1 t.2.2.2.2).trans ?_; rw [← impl_copyDisk.wrap, ← impl_DiskOk.wrap, ← impl_Disk_do_s08b6.wrap]; exact congrArg (B _ _ _ t.1 t.2.1 t.2.2.1 t.2.2.2.1 t.2.2.2.2) (funext fun x1 => funext fun x2 => ofC_enc encRI some (x1, x2)))
theorem ac (args : List AV) (x : Bool × YVF) (h : Q args = some x) : AC Try.prog 18 args [] false [] fun rv obs => (rv, obs) = encR x := acF (T := YVF × Int × ByteArray × ByteArray × ByteArray) (F := fun t => F t.1 t.2.1 t.2.2.1 t.2.2.2.1 t.2.2.2.2) (body := (bodyOf Try.f18)) Try.func18 (by kernel_rfl) (by kernel_rfl) acc (fun x => ⟨by simp [encR, AV.Flat, K.Flat, C.Flat], flc (flat_rw rfl _) (fl0)⟩) args x h
end impl_PutRaw
/-! (*loop.example/g00073/impl.Disk).text -/
namespace impl_Disk_text
noncomputable def B {ρ : Type} (C0 : YVF → ByteArray → Option (Int × Bool)) (a1 : Vec YF) (a2 : ByteArray) (K : ByteArray → Bool → Option ρ) : Option ρ :=
  (C0 a1 a2).bind fun r1 => sel ((!r1.2)) (K ByteArray.empty false) (chk (decide (0 ≤ r1.1 ∧ r1.1 < (a1.n : Int))) (K ((a1.g (r1.1).toNat).2) true))
noncomputable def F (a1 : Vec YF) (a2 : ByteArray) : Option (ByteArray × Bool) := B impl_Disk_place.F a1 a2 (fun x1 x2 => some (x1, x2))
def encA (t : YVF × ByteArray) : List AV := [.ra [nl t.1], vs t.2]
def encR (x : ByteArray × Bool) : AV × List Ob := (.tup [.c (cs x.1), .c (cb x.2)], [])
theorem encAI (a b) (h : encA a = encA b) : a = b := by simp [encA, encRw_iff] at h; simp [Prod.ext_iff, h]
theorem encRI (a b) (h : encR a = encR b) : a = b := by simp [encR, encRw_iff] at h; simp [Prod.ext_iff, h]
noncomputable def Q (args : List AV) : Option (ByteArray × Bool) := ofC encA (fun t => F t.1 t.2) args
theorem wrap : F = fun y1 y2 => Q [.ra [nl y1], vs y2] := by funext y1 y2; exact Eq.symm (ofC_enc encAI _ (y1, y2))
noncomputable def L : Lor := fun _ _ _ _ => Option.none
theorem main {Q0} {ρ : Type} {K : AV → List Ob → Option ρ} (a1 a2) : exC Try.prog (mkO [qE 91 false impl_Disk_place.encR Q0] [] []) L [] 0 (bodyOf Try.f55) (entry 24 [.ra [nl a1], vs a2] [] []) (finO Try.prog Try.f55.results.toList 0 [] [] K) =
    B (fun y1 y2 => Q0 [.ra [nl y1], vs y2]) a1 a2 (fun x1 x2 => K (.tup [.c (cs x1), .c (cb x2)]) []) := by kernel_rfl
theorem Gok : (mkO [qE 91 false impl_Disk_place.encR impl_Disk_place.Q] [] []).ok Try.prog := mkO_ok (by exact ⟨qE_ok impl_Disk_place.ac, trivial⟩) (by exact trivial)
theorem acc : ∀ t x, F t.1 t.2 = some x → ACc Try.prog 55 (encA t) [] true [] fun rv obs => (rv, obs) = encR x :=
  accT (T := YVF × ByteArray) (F := fun t => F t.1 t.2) (L := L) (cmds := []) (body := (bodyOf Try.f55)) Gok hmT Try.func55 (by kernel_rfl) (by kernel_rfl) (by rw [show atomsL [] 0 (bodyOf Try.f55) = [] by kernel_rfl]; exact Lor.ok_nil _ _) (fun t => by refine (main t.1 t.2).trans ?_; rw [← impl_Disk_place.wrap]; exact congrArg (B _ t.1 t.2) (funext fun x1 => funext fun x2 => ofC_enc encRI some (x1, x2)))
theorem ac (args : List AV) (x : ByteArray × Bool) (h : Q args = some x) : AC Try.prog 55 args [] false [] fun rv obs => (rv, obs) = encR x := acF (T := YVF × ByteArray) (F := fun t => F t.1 t.2) (body := (bodyOf Try.f55)) Try.func55 (by kernel_rfl) (by kernel_rfl) acc (fun x => ⟨by simp [encR, AV.Flat, K.Flat, C.Flat], fl0⟩) args x h
end impl_Disk_text
/-! loop.example/g00073/impl.FileAt -/
namespace impl_FileAt
noncomputable def B {ρ : Type} (C0 : YVF → Option Bool) (C1 : YVF → ByteArray → Option (ByteArray × Bool)) (a1 : Vec YF) (a2 : ByteArray) (K : ByteArray → Bool → Option ρ) : Option ρ :=
  (C0 a1).bind fun r1 => sel ((!r1)) (K ByteArray.empty false) ((C1 a1 a2).bind fun r2 => K r2.1 r2.2)
noncomputable def F (a1 : Vec YF) (a2 : ByteArray) : Option (ByteArray × Bool) := B impl_DiskOk.F impl_Disk_text.F a1 a2 (fun x1 x2 => some (x1, x2))
def encA (t : YVF × ByteArray) : List AV := [.a [cl t.1], vs t.2]
def encR (x : ByteArray × Bool) : AV × List Ob := (.tup [.c (cs x.1), .c (cb x.2)], [])
theorem encAI (a b) (h : encA a = encA b) : a = b := by simp [encA, encRw_iff] at h; simp [Prod.ext_iff, h]
theorem encRI (a b) (h : encR a = encR b) : a = b := by simp [encR, encRw_iff] at h; simp [Prod.ext_iff, h]
noncomputable def Q (args : List AV) : Option (ByteArray × Bool) := ofC encA (fun t => F t.1 t.2) args
theorem wrap : F = fun y1 y2 => Q [.a [cl y1], vs y2] := by funext y1 y2; exact Eq.symm (ofC_enc encAI _ (y1, y2))
noncomputable def L : Lor := fun _ _ _ _ => Option.none
theorem main {Q0 Q1} {ρ : Type} {K : AV → List Ob → Option ρ} (a1 a2) : exC Try.prog (mkO [qE 26 false impl_DiskOk.encR Q0, qE 55 false impl_Disk_text.encR Q1] [] []) L [] 0 (bodyOf Try.f19) (entry 13 [.a [cl a1], vs a2] [] []) (finO Try.prog Try.f19.results.toList 0 [] [] K) =
    B (fun y1 => Q0 [.a [cl y1]]) (fun y1 y2 => Q1 [.ra [nl y1], vs y2]) a1 a2 (fun x1 x2 => K (.tup [.c (cs x1), .c (cb x2)]) []) := by kernel_rfl
theorem Gok : (mkO [qE 26 false impl_DiskOk.encR impl_DiskOk.Q, qE 55 false impl_Disk_text.encR impl_Disk_text.Q] [] []).ok Try.prog := mkO_ok (by exact ⟨qE_ok impl_DiskOk.ac, qE_ok impl_Disk_text.ac, trivial⟩) (by exact trivial)
theorem acc : ∀ t x, F t.1 t.2 = some x → ACc Try.prog 19 (encA t) [] true [] fun rv obs => (rv, obs) = encR x :=
  accT (T := YVF × ByteArray) (F := fun t => F t.1 t.2) (L := L) (cmds := []) (body := (bodyOf Try.f19)) Gok hmT Try.func19 (by kernel_rfl) (by kernel_rfl) (by rw [show atomsL [] 0 (bodyOf Try.f19) = [] by kernel_rfl]; exact Lor.ok_nil _ _) (fun t => by refine (main t.1 t.2).trans ?_; rw [← impl_DiskOk.wrap, ← impl_Disk_text.wrap]; exact congrArg (B _ _ t.1 t.2) (funext fun x1 => funext fun x2 => ofC_enc encRI some (x1, x2)))
theorem ac (args : List AV) (x : ByteArray × Bool) (h : Q args = some x) : AC Try.prog 19 args [] false [] fun rv obs => (rv, obs) = encR x := acF (T := YVF × ByteArray) (F := fun t => F t.1 t.2) (body := (bodyOf Try.f19)) Try.func19 (by kernel_rfl) (by kernel_rfl) acc (fun x => ⟨by simp [encR, AV.Flat, K.Flat, C.Flat], fl0⟩) args x h
end impl_FileAt
end Go.Al
