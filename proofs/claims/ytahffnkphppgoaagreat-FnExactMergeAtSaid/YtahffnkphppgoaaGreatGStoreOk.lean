import Derived.Test.YtahffnkphppgoaaGreatAlE
import Derived.Test.YtahffnkphppgoaaGreatSC
import Derived.Test.YtahffnkphppgoaaGreatGCom
import Derived.Test.YtahffnkphppgoaaGreatGCommitsOk
import Derived.Test.YtahffnkphppgoaaGreatGWv
import Derived.Test.YtahffnkphppgoaaGreatGWl
set_option linter.unusedVariables false
set_option linter.unusedSimpArgs false
set_option linter.constructorNameAsVariable false
set_option linter.unusedSectionVars false
set_option maxRecDepth 100000
namespace Go.Al
open Go.Proofs
namespace laws_szWeaveS
noncomputable def B0 {ρ : Type} (C0 : YG → YVB → Int → Option Int) (v1 : Vec YW) (v2 : Int) (v3 : Int) (W : YVW → Int → Int → Option ρ) (K0 : Int → Option ρ) (Kr : Int → Option ρ) : Option ρ :=
  sel (decide (v3 < (v1.n : Int))) (chk (decide (0 ≤ v3 ∧ v3 < (v1.n : Int))) ((C0 ((v1.g v3.toNat).1) ((v1.g v3.toNat).2) v2).bind fun r1 => sel (decide (r1 < (0 : Int))) (Kr (-1 : Int)) (W v1 r1 (wr (v3 + (1 : Int)))))) (K0 v2)
noncomputable def F0 {ρ : Type} : Nat → YVW → Int → Int → (Int → Option ρ) → (Int → Option ρ) → Option ρ
  | 0, _, _, _, _, _ => none
  | k + 1, v1, v2, v3, K0, Kr => B0 laws_szWeave.F v1 v2 v3 (fun v1' v2' v3' => F0 k v1' v2' v3' K0 Kr) K0 Kr
noncomputable def B {ρ : Type} (L0 : YVW → Int → Int → (Int → Option ρ) → (Int → Option ρ) → Option ρ) (a1 : Vec YW) (a2 : Int) (K : Int → Option ρ) : Option ρ :=
  sel (decide ((wr (a2 - (a1.n : Int))) < (0 : Int))) (K (-1 : Int)) (L0 a1 (wr (a2 - (a1.n : Int))) (0 : Int) (fun e01 => K e01) (fun x01 => K x01))
noncomputable def F (a1 : Vec YW) (a2 : Int) : Option Int := B (F0 fuelN) a1 a2 (fun x1 => some (x1))
def encA (t : YVW × Int) : LA := [vl t.1, vi t.2]
def encR (x : Int) : AV × LO := (vi x, [])
theorem ZA (a b) (h : encA a = encA b) : a = b := by simp [encA, zA] at h; simp [Prod.ext_iff, h]
theorem ZB (a b) (h : encR a = encR b) : a = b := by simpa [encR, zA] using h
noncomputable def Q (args : LA) : Option Int := ofC encA (un2 F) args
theorem wrap : F = fun y1 y2 => Q [vl y1, vi y2] := by funext y1 y2; exact Eq.symm (zD ZA _ (y1, y2))
noncomputable abbrev O (Q0 : LA → Option Int) : Orc := mkO [qE 102 false laws_szWeave.encR Q0] [] []
noncomputable def c0 : Code := loopC (atomN [] 0 (zB Tryz.f49) 0)
def ct0 : Cut := ⟨[0, 1, 5], []⟩
def lv0 : Exit → Cut
  | .exit 0 => ⟨[1], []⟩
  | .ret => ⟨[4], []⟩
  | _ => ⟨[], []⟩
def k0_0 {ρ : Type} (K : Exit → St → Option ρ) (z1 : Int) : Option ρ := K (.exit 0) (mkS 27 (lv0 (.exit 0)).live [vi z1] [] [])
def k0_r {ρ : Type} (K : Exit → St → Option ρ) (z1 : Int) : Option ρ := K .ret (mkS 27 (lv0 .ret).live [vi z1] [] [])
noncomputable def L (W0 : (ρ : Type) → LA → LO → (Int → Option ρ) → (Int → Option ρ) → Option ρ) : Lor := fun ρ j st K => sel (Nat.beq j 0) (cutO Tryz.prog 27 ct0.live 0 [] ct0.cmds st fun avs obs => W0 ρ avs obs (k0_0 K) (k0_r K)) (Option.none)
theorem step0 {Q0 W0} {ρ : Type} {K : Exit → St → Option ρ} {W : LA → LO → Option ρ} {v1 v2 v3} : exC Tryz.prog (O Q0) (L W0) [] 1 c0 (mkS 27 ct0.live [vl v1, vi v2, vi v3] [] []) (bodyK Tryz.prog 27 0 [] ct0 W lv0 K) =
    B0 (fun y1 y2 y3 => Q0 [.a [cl y1, cl y2], vi y3]) v1 v2 v3 (fun u1 u2 u3 => W [vl u1, vi u2, vi u3] []) (k0_0 K) (k0_r K) := by kernel_rfl
def enc0 (t : YVW × Int × Int) : LA × LO := ([vl t.1, vi t.2.1, vi t.2.2], [])
theorem enc0I (a b) (h : enc0 a = enc0 b) : a = b := by simp [enc0, zA] at h; simp [Prod.ext_iff, h]
noncomputable def V0 : (ρ : Type) → LA → LO → (Int → Option ρ) → (Int → Option ρ) → Option ρ := fun ρ avs obs k0 kr => ofC enc0 (fun t => un3 (F0 fuelN) t k0 kr) (avs, obs)
theorem zG (ρ : Type) : F0 fuelN = fun w1 w2 w3 k0 kr => V0 ρ [vl w1, vi w2, vi w3] [] k0 kr := by funext w1 w2 w3 k0 kr; exact Eq.symm (zD enc0I _ (w1, w2, w3))
theorem main {Q0 W0} {ρ : Type} {K : AV → LO → Option ρ} {a1 a2} : exC Tryz.prog (O Q0) (L W0) [] 0 (zB Tryz.f49) (entry 27 [vl a1, vi a2] [] []) (finO Tryz.prog Tryz.f49.results.toList 0 [] [] K) =
    B (fun w1 w2 w3 k0 kr => W0 ρ [vl w1, vi w2, vi w3] [] k0 kr) a1 a2 (fun x1 => K (vi x1) []) := by kernel_rfl
theorem Gok : (O laws_szWeave.Q).ok Tryz.prog := zH (by exact ⟨qE_ok laws_szWeave.ac, trivial⟩) (by exact trivial)
theorem ok0 : OkL Tryz.prog (L V0) 0 (.loop c0) := fun ρ st K r h => zJ (ct := ct0) (lv := lv0) (L := (L V0)) Gok hmT (by rw [show zE [] 1 c0 = [] by kernel_rfl]; exact Lor.zF _ _) enc0I (fun k t => un3 (F0 k) t (k0_0 K) (k0_r K)) (fun t => rfl) (fun k t => by refine step0.trans ?_; rw [← laws_szWeave.wrap]; exact congrFun (congrFun (congrArg (B0 _ _ _ _) (fx3 fun t => zD enc0I _ t)) _) _) (fun _ => fuelN) h
theorem e : zE [] 0 (zB Tryz.f49) = [(0, 0, .loop c0)] := by kernel_rfl
theorem acc : ∀ t x, un2 F t = some x → ACc Tryz.prog 49 (encA t) [] true [] fun rv obs => (rv, obs) = encR x := accT (T := YVW × Int) (F := un2 F) (L := (L V0)) (cmds := []) (body := (zB Tryz.f49)) Gok hmT Tryz.func49 (by kernel_rfl) (by kernel_rfl) (by rw [e]; exact Lor.zI ok0 (Lor.zF _ _)) (fun t => by refine main.trans ?_; rw [← zG]; exact congrArg (B _ _ _) (fx1 fun t => zD ZB some t))
theorem ac : ∀ a x, Q a = some x → AC Tryz.prog 49 a [] false [] fun rv obs => (rv, obs) = encR x := acF (body := (zB Tryz.f49)) Tryz.func49 (by kernel_rfl) (by kernel_rfl) acc fun x => ⟨by simp [encR, AV.Flat, K.Flat, C.Flat], fl0⟩
end laws_szWeaveS
namespace laws_szStore
noncomputable def B {ρ : Type} (C0 : YVC → Int → Option Int) (C1 : YVW → Int → Option Int) (a1 : Vec YC) (a2 : Vec YW) (a3 : Int) (K : Int → Option ρ) : Option ρ :=
  (C0 a1 a3).bind fun r1 => sel (decide (r1 < (0 : Int))) (K (-1 : Int)) ((C1 a2 r1).bind fun r2 => sel (decide (r2 < (0 : Int))) (K (-1 : Int)) (K r2))
noncomputable def F (a1 : Vec YC) (a2 : Vec YW) (a3 : Int) : Option Int := B laws_szCommitS.F laws_szWeaveS.F a1 a2 a3 (fun x1 => some (x1))
def encA (t : YVC × YVW × Int) : LA := [.a [cl t.1, cl t.2.1], vi t.2.2]
def encR (x : Int) : AV × LO := (vi x, [])
theorem ZA (a b) (h : encA a = encA b) : a = b := by simp [encA, zA] at h; simp [Prod.ext_iff, h]
theorem ZB (a b) (h : encR a = encR b) : a = b := by simpa [encR, zA] using h
noncomputable def Q (args : LA) : Option Int := ofC encA (un3 F) args
theorem wrap : F = fun y1 y2 y3 => Q [.a [cl y1, cl y2], vi y3] := by funext y1 y2 y3; exact Eq.symm (zD ZA _ (y1, y2, y3))
noncomputable abbrev O (Q0 : LA → Option Int) (Q1 : LA → Option Int) : Orc := mkO [qE 21 false laws_szCommitS.encR Q0, qE 49 false laws_szWeaveS.encR Q1] [] []
noncomputable def L : Lor := fun _ _ _ _ => Option.none
theorem main {Q0 Q1} {ρ : Type} {K : AV → LO → Option ρ} {a1 a2 a3} : exC Tryz.prog (O Q0 Q1) L [] 0 (zB Tryz.f7) (entry 18 [.a [cl a1, cl a2], vi a3] [] []) (finO Tryz.prog Tryz.f7.results.toList 0 [] [] K) =
    B (fun y1 y2 => Q0 [vl y1, vi y2]) (fun y1 y2 => Q1 [vl y1, vi y2]) a1 a2 a3 (fun x1 => K (vi x1) []) := by kernel_rfl
theorem Gok : (O laws_szCommitS.Q laws_szWeaveS.Q).ok Tryz.prog := zH (by exact ⟨qE_ok laws_szCommitS.ac, qE_ok laws_szWeaveS.ac, trivial⟩) (by exact trivial)
theorem acc : ∀ t x, un3 F t = some x → ACc Tryz.prog 7 (encA t) [] true [] fun rv obs => (rv, obs) = encR x := accT (T := YVC × YVW × Int) (F := un3 F) (L := L) (cmds := []) (body := (zB Tryz.f7)) Gok hmT Tryz.func7 (by kernel_rfl) (by kernel_rfl) (by rw [show zE [] 0 (zB Tryz.f7) = [] by kernel_rfl]; exact Lor.zF _ _) (fun t => by refine main.trans ?_; rw [← laws_szCommitS.wrap, ← laws_szWeaveS.wrap]; exact congrArg (B _ _ _ _ _) (fx1 fun t => zD ZB some t))
theorem ac : ∀ a x, Q a = some x → AC Tryz.prog 7 a [] false [] fun rv obs => (rv, obs) = encR x := acF (body := (zB Tryz.f7)) Tryz.func7 (by kernel_rfl) (by kernel_rfl) acc fun x => ⟨by simp [encR, AV.Flat, K.Flat, C.Flat], fl0⟩
end laws_szStore
namespace laws_toWeaveS
noncomputable def B0 {ρ : Type} (C0 : YG → YVB → Option (Vec YI × YVB)) (v1 : Vec YW) (v2 : Int) (v3 : Vec YW) (W : YVW → Int → YVW → Option ρ) (K0 : YVW → Option ρ) : Option ρ :=
  sel (decide (v2 < (v1.n : Int))) (chk (decide (0 ≤ v2 ∧ v2 < (v1.n : Int))) ((C0 ((v1.g v2.toNat).1) ((v1.g v2.toNat).2)).bind fun r1 => chk (decide (0 ≤ v2 ∧ v2 < (v3.n : Int))) (chk (decide (v2.toNat < v3.n)) (W v1 (wr (v2 + (1 : Int))) (Vec.set v3 v2.toNat (r1.1, r1.2)))))) (K0 v3)
noncomputable def F0 {ρ : Type} : Nat → YVW → Int → YVW → (YVW → Option ρ) → Option ρ
  | 0, _, _, _, _ => none
  | k + 1, v1, v2, v3, K0 => B0 laws_toWeave.F v1 v2 v3 (fun v1' v2' v3' => F0 k v1' v2' v3' K0) K0
noncomputable def B {ρ : Type} (L0 : YVW → Int → YVW → (YVW → Option ρ) → Option ρ) (a1 : Vec YW) (K : YVW → Option ρ) : Option ρ :=
  chk (decide ((a1.n : Int) = (a1.n : Int) ∧ 0 ≤ (a1.n : Int))) (chk (mkOk (a1.n : Int) 48) (L0 a1 (0 : Int) (Vec.rep ((a1.n : Int).toNat) (Vec.nil, Vec.nil) : Vec YW) (fun e01 => K e01)))
noncomputable def F (a1 : Vec YW) : Option YVW := B (F0 fuelN) a1 (fun x1 => some (x1))
def encA (t : Vec YW) : LA := [vl t]
def encR (x : Vec YW) : AV × LO := (.c (.h 0), [ro x])
theorem ZA (a b) (h : encA a = encA b) : a = b := by simpa [encA, zA] using h
theorem ZB (a b) (h : encR a = encR b) : a = b := by simpa [encR, zA] using h
noncomputable def Q (args : LA) : Option YVW := ofC encA (un1 F) args
theorem wrap : F = fun y1 => Q [vl y1] := by funext y1; exact Eq.symm (zD ZA _ (y1))
noncomputable abbrev O (Q0 : LA → Option (Vec YI × YVB)) : Orc := mkO [qE 110 false laws_toWeave.encR Q0] [] []
noncomputable def c0 : Code := loopC (atomN [] 0 (zB Tryz.f52) 0)
def ct0 : Cut := ⟨[0, 3, 4], []⟩
def lv0 : Exit → Cut
  | .exit 0 => ⟨[3], []⟩
  | _ => ⟨[], []⟩
def k0_0 {ρ : Type} (K : Exit → St → Option ρ) (z1 : Vec YW) : Option ρ := K (.exit 0) (mkS 23 (lv0 (.exit 0)).live [.c (.h 0)] [ro z1] [])
noncomputable def L (W0 : (ρ : Type) → LA → LO → (YVW → Option ρ) → Option ρ) : Lor := fun ρ j st K => sel (Nat.beq j 0) (cutO Tryz.prog 23 ct0.live 0 [] ct0.cmds st fun avs obs => W0 ρ avs obs (k0_0 K)) (Option.none)
theorem step0 {Q0 W0} {ρ : Type} {K : Exit → St → Option ρ} {W : LA → LO → Option ρ} {v1 v2 v3} : exC Tryz.prog (O Q0) (L W0) [] 1 c0 (mkS 23 ct0.live [vl v1, .c (.h 0), vi v2] [ro v3] []) (bodyK Tryz.prog 23 0 [] ct0 W lv0 K) =
    B0 (fun y1 y2 => Q0 [.a [cl y1, cl y2]]) v1 v2 v3 (fun u1 u2 u3 => W [vl u1, .c (.h 0), vi u2] [ro u3]) (k0_0 K) := by kernel_rfl
def enc0 (t : YVW × Int × YVW) : LA × LO := ([vl t.1, .c (.h 0), vi t.2.1], [ro t.2.2])
theorem enc0I (a b) (h : enc0 a = enc0 b) : a = b := by simp [enc0, zA] at h; simp [Prod.ext_iff, h]
noncomputable def V0 : (ρ : Type) → LA → LO → (YVW → Option ρ) → Option ρ := fun ρ avs obs k0 => ofC enc0 (fun t => un3 (F0 fuelN) t k0) (avs, obs)
theorem zG (ρ : Type) : F0 fuelN = fun w1 w2 w3 k0 => V0 ρ [vl w1, .c (.h 0), vi w2] [ro w3] k0 := by funext w1 w2 w3 k0; exact Eq.symm (zD enc0I _ (w1, w2, w3))
theorem main {Q0 W0} {ρ : Type} {K : AV → LO → Option ρ} {a1} : exC Tryz.prog (O Q0) (L W0) [] 0 (zB Tryz.f52) (entry 23 [vl a1] [] []) (finO Tryz.prog Tryz.f52.results.toList 0 [] [] K) =
    B (fun w1 w2 w3 k0 => W0 ρ [vl w1, .c (.h 0), vi w2] [ro w3] k0) a1 (fun x1 => K (.c (.h 0)) [ro x1]) := by kernel_rfl
theorem Gok : (O laws_toWeave.Q).ok Tryz.prog := zH (by exact ⟨qE_ok laws_toWeave.ac, trivial⟩) (by exact trivial)
theorem ok0 : OkL Tryz.prog (L V0) 0 (.loop c0) := fun ρ st K r h => zJ (ct := ct0) (lv := lv0) (L := (L V0)) Gok hmT (by rw [show zE [] 1 c0 = [] by kernel_rfl]; exact Lor.zF _ _) enc0I (fun k t => un3 (F0 k) t (k0_0 K)) (fun t => rfl) (fun k t => by refine step0.trans ?_; rw [← laws_toWeave.wrap]; exact congrFun (congrArg (B0 _ _ _ _) (fx3 fun t => zD enc0I _ t)) _) (fun _ => fuelN) h
theorem e : zE [] 0 (zB Tryz.f52) = [(0, 0, .loop c0)] := by kernel_rfl
theorem acc : ∀ t x, un1 F t = some x → ACc Tryz.prog 52 (encA t) [] true [] fun rv obs => (rv, obs) = encR x := accT (T := Vec YW) (F := un1 F) (L := (L V0)) (cmds := []) (body := (zB Tryz.f52)) Gok hmT Tryz.func52 (by kernel_rfl) (by kernel_rfl) (by rw [e]; exact Lor.zI ok0 (Lor.zF _ _)) (fun t => by refine main.trans ?_; rw [← zG]; exact congrArg (B _ _) (fx1 fun t => zD ZB some t))
theorem ac : ∀ a x, Q a = some x → AC Tryz.prog 52 a [] false [] fun rv obs => (rv, obs) = encR x := acF (body := (zB Tryz.f52)) Tryz.func52 (by kernel_rfl) (by kernel_rfl) acc fun x => ⟨by simp [encR, AV.Flat, K.Flat, C.Flat], flc (zN rfl _) (fl0)⟩
end laws_toWeaveS
namespace laws_toStore
noncomputable def B {ρ : Type} (C0 : YVC → Option YVC) (C1 : YVW → Option YVW) (a1 : Vec YC) (a2 : Vec YW) (K : YVC → YVW → Option ρ) : Option ρ :=
  (C0 a1).bind fun r1 => (C1 a2).bind fun r2 => K r1 r2
noncomputable def F (a1 : Vec YC) (a2 : Vec YW) : Option (YVC × YVW) := B laws_toCommitS.F laws_toWeaveS.F a1 a2 (fun x1 x2 => some (x1, x2))
def encA (t : YVC × YVW) : LA := [.a [cl t.1, cl t.2]]
def encR (x : YVC × YVW) : AV × LO := (.a [.h 0, .h 1], [ro x.1, ro x.2])
theorem ZA (a b) (h : encA a = encA b) : a = b := by simp [encA, zA] at h; simp [Prod.ext_iff, h]
theorem ZB (a b) (h : encR a = encR b) : a = b := by simp [encR, zA] at h; simp [Prod.ext_iff, h]
noncomputable def Q (args : LA) : Option (YVC × YVW) := ofC encA (un2 F) args
theorem wrap : F = fun y1 y2 => Q [.a [cl y1, cl y2]] := by funext y1 y2; exact Eq.symm (zD ZA _ (y1, y2))
noncomputable abbrev O (Q0 : LA → Option YVC) (Q1 : LA → Option YVW) : Orc := mkO [qE 24 false laws_toCommitS.encR Q0, qE 52 false laws_toWeaveS.encR Q1] [] []
noncomputable def L : Lor := fun _ _ _ _ => Option.none
theorem main {Q0 Q1} {ρ : Type} {K : AV → LO → Option ρ} {a1 a2} : exC Tryz.prog (O Q0 Q1) L [] 0 (zB Tryz.f9) (entry 13 [.a [cl a1, cl a2]] [] []) (finO Tryz.prog Tryz.f9.results.toList 0 [] [] K) =
    B (fun y1 => Q0 [vl y1]) (fun y1 => Q1 [vl y1]) a1 a2 (fun x1 x2 => K (.a [.h 0, .h 1]) [ro x1, ro x2]) := by kernel_rfl
theorem Gok : (O laws_toCommitS.Q laws_toWeaveS.Q).ok Tryz.prog := zH (by exact ⟨qE_ok laws_toCommitS.ac, qE_ok laws_toWeaveS.ac, trivial⟩) (by exact trivial)
theorem acc : ∀ t x, un2 F t = some x → ACc Tryz.prog 9 (encA t) [] true [] fun rv obs => (rv, obs) = encR x := accT (T := YVC × YVW) (F := un2 F) (L := L) (cmds := []) (body := (zB Tryz.f9)) Gok hmT Tryz.func9 (by kernel_rfl) (by kernel_rfl) (by rw [show zE [] 0 (zB Tryz.f9) = [] by kernel_rfl]; exact Lor.zF _ _) (fun t => by refine main.trans ?_; rw [← laws_toCommitS.wrap, ← laws_toWeaveS.wrap]; exact congrArg (B _ _ _ _) (fx2 fun t => zD ZB some t))
theorem ac : ∀ a x, Q a = some x → AC Tryz.prog 9 a [] false [] fun rv obs => (rv, obs) = encR x := acF (body := (zB Tryz.f9)) Tryz.func9 (by kernel_rfl) (by kernel_rfl) acc fun x => ⟨by simp [encR, AV.Flat, K.Flat, C.Flat], flc (zN rfl _) (flc (zN rfl _) (fl0))⟩
end laws_toStore
namespace spec_l15Versions
noncomputable def B0 {ρ : Type} (v1 : Int) (v2 : Vec YC) (v3 : Vec YW) (v4 : YI) (W : Int → YVC → YVW → YI → Option ρ) (K0 : YI → Option ρ) : Option ρ :=
  sel (decide (v1 < (v3.n : Int))) (chk (decide (0 ≤ v1 ∧ v1 < (v3.n : Int))) (chk (decide ((v4.n + (Vec.lit [(((v3.g v1.toNat).1).n : Int)] : YI).n) * 9 ≤ maxN)) (W (wr (v1 + (1 : Int))) v2 v3 (Vec.app v4 (Vec.lit [(((v3.g v1.toNat).1).n : Int)] : YI))))) (K0 v4)
noncomputable def F0 {ρ : Type} : Nat → Int → YVC → YVW → YI → (YI → Option ρ) → Option ρ
  | 0, _, _, _, _, _ => none
  | k + 1, v1, v2, v3, v4, K0 => B0 v1 v2 v3 v4 (fun v1' v2' v3' v4' => F0 k v1' v2' v3' v4' K0) K0
noncomputable def B {ρ : Type} (L0 : Int → YVC → YVW → YI → (YI → Option ρ) → Option ρ) (a1 : Vec YC) (a2 : Vec YW) (K : YI → Option ρ) : Option ρ :=
  L0 (0 : Int) a1 a2 (Vec.nil : YI) (fun e01 => K e01)
noncomputable def F (a1 : Vec YC) (a2 : Vec YW) : Option YI := B (F0 fuelN) a1 a2 (fun x1 => some (x1))
def encA (t : YVC × YVW) : LA := [.a [cl t.1, cl t.2]]
def encR (x : YI) : AV × LO := (.c (.h 0), [ro x])
theorem ZA (a b) (h : encA a = encA b) : a = b := by simp [encA, zA] at h; simp [Prod.ext_iff, h]
theorem ZB (a b) (h : encR a = encR b) : a = b := by simpa [encR, zA] using h
noncomputable def Q (args : LA) : Option YI := ofC encA (un2 F) args
theorem wrap : F = fun y1 y2 => Q [.a [cl y1, cl y2]] := by funext y1 y2; exact Eq.symm (zD ZA _ (y1, y2))
noncomputable abbrev O : Orc := mkO [] [] []
noncomputable def c0 : Code := loopC (atomN [] 0 (zB Tryz.f118) 0)
def ct0 : Cut := ⟨[1, 3, 4], [.ad (.s 3) 47]⟩
def lv0 : Exit → Cut
  | .exit 0 => ⟨[3], []⟩
  | _ => ⟨[], []⟩
def k0_0 {ρ : Type} (K : Exit → St → Option ρ) (z1 : YI) : Option ρ := K (.exit 0) (mkS 24 (lv0 (.exit 0)).live [.c (.h 0)] [ro z1] [])
noncomputable def L (W0 : (ρ : Type) → LA → LO → (YI → Option ρ) → Option ρ) : Lor := fun ρ j st K => sel (Nat.beq j 0) (cutO Tryz.prog 24 ct0.live 0 [] ct0.cmds st fun avs obs => W0 ρ avs obs (k0_0 K)) (Option.none)
theorem step0 {W0} {ρ : Type} {K : Exit → St → Option ρ} {W : LA → LO → Option ρ} {v1 v2 v3 v4} : exC Tryz.prog O (L W0) [] 1 c0 (mkS 24 ct0.live [.c (.p 0 0), .c (.h 1), vi v1] [.box [cl v2, cl v3], ro v4] []) (bodyK Tryz.prog 24 0 [] ct0 W lv0 K) =
    B0 v1 v2 v3 v4 (fun u1 u2 u3 u4 => W [.c (.p 0 0), .c (.h 1), vi u1] [.box [cl u2, cl u3], ro u4]) (k0_0 K) := by kernel_rfl
def enc0 (t : Int × YVC × YVW × YI) : LA × LO := ([.c (.p 0 0), .c (.h 1), vi t.1], [.box [cl t.2.1, cl t.2.2.1], ro t.2.2.2])
theorem enc0I (a b) (h : enc0 a = enc0 b) : a = b := by simp [enc0, zA] at h; simp [Prod.ext_iff, h]
noncomputable def V0 : (ρ : Type) → LA → LO → (YI → Option ρ) → Option ρ := fun ρ avs obs k0 => ofC enc0 (fun t => un4 (F0 fuelN) t k0) (avs, obs)
theorem zG (ρ : Type) : F0 fuelN = fun w1 w2 w3 w4 k0 => V0 ρ [.c (.p 0 0), .c (.h 1), vi w1] [.box [cl w2, cl w3], ro w4] k0 := by funext w1 w2 w3 w4 k0; exact Eq.symm (zD enc0I _ (w1, w2, w3, w4))
theorem main {W0} {ρ : Type} {K : AV → LO → Option ρ} {a1 a2} : exC Tryz.prog O (L W0) [] 0 (zB Tryz.f118) (entry 24 [.a [cl a1, cl a2]] [] []) (finO Tryz.prog Tryz.f118.results.toList 0 [] [] K) =
    B (fun w1 w2 w3 w4 k0 => W0 ρ [.c (.p 0 0), .c (.h 1), vi w1] [.box [cl w2, cl w3], ro w4] k0) a1 a2 (fun x1 => K (.c (.h 0)) [ro x1]) := by kernel_rfl
theorem Gok : O.ok Tryz.prog := zH (by exact trivial) (by exact trivial)
theorem ok0 : OkL Tryz.prog (L V0) 0 (.loop c0) := fun ρ st K r h => zJ (ct := ct0) (lv := lv0) (L := (L V0)) Gok hmT (by rw [show zE [] 1 c0 = [] by kernel_rfl]; exact Lor.zF _ _) enc0I (fun k t => un4 (F0 k) t (k0_0 K)) (fun t => rfl) (fun k t => by refine step0.trans ?_; exact congrFun (congrArg (B0 _ _ _ _) (fx4 fun t => zD enc0I _ t)) _) (fun _ => fuelN) h
theorem e : zE [] 0 (zB Tryz.f118) = [(0, 0, .loop c0)] := by kernel_rfl
theorem acc : ∀ t x, un2 F t = some x → ACc Tryz.prog 118 (encA t) [] true [] fun rv obs => (rv, obs) = encR x := accT (T := YVC × YVW) (F := un2 F) (L := (L V0)) (cmds := []) (body := (zB Tryz.f118)) Gok hmT Tryz.func118 (by kernel_rfl) (by kernel_rfl) (by rw [e]; exact Lor.zI ok0 (Lor.zF _ _)) (fun t => by refine main.trans ?_; rw [← zG]; exact congrArg (B _ _ _) (fx1 fun t => zD ZB some t))
theorem ac : ∀ a x, Q a = some x → AC Tryz.prog 118 a [] false [] fun rv obs => (rv, obs) = encR x := acF (body := (zB Tryz.f118)) Tryz.func118 (by kernel_rfl) (by kernel_rfl) acc fun x => ⟨by simp [encR, AV.Flat, K.Flat, C.Flat], flc (zN rfl _) (fl0)⟩
end spec_l15Versions
namespace spec_StoreOk
noncomputable def B0 {ρ : Type} (C2 : YG → YVB → Option Bool) (v1 : Int) (v2 : Vec YC) (v3 : Vec YW) (W : Int → YVC → YVW → Option ρ) (K0 : YVC → YVW → Option ρ) (Kr : Bool → Option ρ) : Option ρ :=
  sel (decide (v1 < (v3.n : Int))) (chk (decide (0 ≤ v1 ∧ v1 < (v3.n : Int))) ((C2 ((v3.g v1.toNat).1) ((v3.g v1.toNat).2)).bind fun r3 => sel ((!r3)) (Kr false) (chk (decide (0 ≤ v1 ∧ v1 < (v3.n : Int))) (sel (decide ((((v3.g v1.toNat).1).n : Int) = (0 : Int))) (Kr false) (W (wr (v1 + (1 : Int))) v2 v3))))) (K0 v2 v3)
noncomputable def F0 {ρ : Type} : Nat → Int → YVC → YVW → (YVC → YVW → Option ρ) → (Bool → Option ρ) → Option ρ
  | 0, _, _, _, _, _ => none
  | k + 1, v1, v2, v3, K0, Kr => B0 spec_WeaveOk.F v1 v2 v3 (fun v1' v2' v3' => F0 k v1' v2' v3' K0 Kr) K0 Kr
noncomputable def B {ρ : Type} (C0 : YVC → YVW → Option YI) (C1 : YVC → YI → Option Bool) (L0 : Int → YVC → YVW → (YVC → YVW → Option ρ) → (Bool → Option ρ) → Option ρ) (a1 : Vec YC) (a2 : Vec YW) (K : Bool → Option ρ) : Option ρ :=
  sel (decide ((12 : Int) < (a2.n : Int))) (K false) (L0 (0 : Int) a1 a2 (fun e01 e02 => (C0 e01 e02).bind fun r1 => (C1 e01 r1).bind fun r2 => K r2) (fun x01 => K x01))
noncomputable def F (a1 : Vec YC) (a2 : Vec YW) : Option Bool := B spec_l15Versions.F spec_CommitsOk.F (F0 fuelN) a1 a2 (fun x1 => some (x1))
def encA (t : YVC × YVW) : LA := [.a [cl t.1, cl t.2]]
def encR (x : Bool) : AV × LO := (vb x, [])
theorem ZA (a b) (h : encA a = encA b) : a = b := by simp [encA, zA] at h; simp [Prod.ext_iff, h]
theorem ZB (a b) (h : encR a = encR b) : a = b := by simpa [encR, zA] using h
noncomputable def Q (args : LA) : Option Bool := ofC encA (un2 F) args
theorem wrap : F = fun y1 y2 => Q [.a [cl y1, cl y2]] := by funext y1 y2; exact Eq.symm (zD ZA _ (y1, y2))
noncomputable abbrev O (Q0 : LA → Option YI) (Q1 : LA → Option Bool) (Q2 : LA → Option Bool) : Orc := mkO [qE 118 false spec_l15Versions.encR Q0, qE 72 false spec_CommitsOk.encR Q1, qE 105 false spec_WeaveOk.encR Q2] [] []
noncomputable def c0 : Code := loopC (atomN [] 0 (zB Tryz.f59) 0)
def ct0 : Cut := ⟨[1, 3], []⟩
def lv0 : Exit → Cut
  | .exit 0 => ⟨[1], []⟩
  | .ret => ⟨[2], []⟩
  | _ => ⟨[], []⟩
def k0_0 {ρ : Type} (K : Exit → St → Option ρ) (z1 : Vec YC) (z2 : Vec YW) : Option ρ := K (.exit 0) (mkS 37 (lv0 (.exit 0)).live [.c (.p 0 0)] [.box [cl z1, cl z2]] [])
def k0_r {ρ : Type} (K : Exit → St → Option ρ) (z1 : Bool) : Option ρ := K .ret (mkS 37 (lv0 .ret).live [vb z1] [] [])
noncomputable def L (W0 : (ρ : Type) → LA → LO → (YVC → YVW → Option ρ) → (Bool → Option ρ) → Option ρ) : Lor := fun ρ j st K => sel (Nat.beq j 0) (cutO Tryz.prog 37 ct0.live 0 [] ct0.cmds st fun avs obs => W0 ρ avs obs (k0_0 K) (k0_r K)) (Option.none)
theorem step0 {Q0 Q1 Q2 W0} {ρ : Type} {K : Exit → St → Option ρ} {W : LA → LO → Option ρ} {v1 v2 v3} : exC Tryz.prog (O Q0 Q1 Q2) (L W0) [] 1 c0 (mkS 37 ct0.live [.c (.p 0 0), vi v1] [.box [cl v2, cl v3]] []) (bodyK Tryz.prog 37 0 [] ct0 W lv0 K) =
    B0 (fun y1 y2 => Q2 [.a [cl y1, cl y2]]) v1 v2 v3 (fun u1 u2 u3 => W [.c (.p 0 0), vi u1] [.box [cl u2, cl u3]]) (k0_0 K) (k0_r K) := by kernel_rfl
def enc0 (t : Int × YVC × YVW) : LA × LO := ([.c (.p 0 0), vi t.1], [.box [cl t.2.1, cl t.2.2]])
theorem enc0I (a b) (h : enc0 a = enc0 b) : a = b := by simp [enc0, zA] at h; simp [Prod.ext_iff, h]
noncomputable def V0 : (ρ : Type) → LA → LO → (YVC → YVW → Option ρ) → (Bool → Option ρ) → Option ρ := fun ρ avs obs k0 kr => ofC enc0 (fun t => un3 (F0 fuelN) t k0 kr) (avs, obs)
theorem zG (ρ : Type) : F0 fuelN = fun w1 w2 w3 k0 kr => V0 ρ [.c (.p 0 0), vi w1] [.box [cl w2, cl w3]] k0 kr := by funext w1 w2 w3 k0 kr; exact Eq.symm (zD enc0I _ (w1, w2, w3))
theorem main {Q0 Q1 Q2 W0} {ρ : Type} {K : AV → LO → Option ρ} {a1 a2} : exC Tryz.prog (O Q0 Q1 Q2) (L W0) [] 0 (zB Tryz.f59) (entry 37 [.a [cl a1, cl a2]] [] []) (finO Tryz.prog Tryz.f59.results.toList 0 [] [] K) =
    B (fun y1 y2 => Q0 [.a [cl y1, cl y2]]) (fun y1 y2 => Q1 [vl y1, vl y2]) (fun w1 w2 w3 k0 kr => W0 ρ [.c (.p 0 0), vi w1] [.box [cl w2, cl w3]] k0 kr) a1 a2 (fun x1 => K (vb x1) []) := by kernel_rfl
theorem Gok : (O spec_l15Versions.Q spec_CommitsOk.Q spec_WeaveOk.Q).ok Tryz.prog := zH (by exact ⟨qE_ok spec_l15Versions.ac, qE_ok spec_CommitsOk.ac, qE_ok spec_WeaveOk.ac, trivial⟩) (by exact trivial)
theorem ok0 : OkL Tryz.prog (L V0) 0 (.loop c0) := fun ρ st K r h => zJ (ct := ct0) (lv := lv0) (L := (L V0)) Gok hmT (by rw [show zE [] 1 c0 = [] by kernel_rfl]; exact Lor.zF _ _) enc0I (fun k t => un3 (F0 k) t (k0_0 K) (k0_r K)) (fun t => rfl) (fun k t => by refine step0.trans ?_; rw [← spec_WeaveOk.wrap]; exact congrFun (congrFun (congrArg (B0 _ _ _ _) (fx3 fun t => zD enc0I _ t)) _) _) (fun _ => fuelN) h
theorem e : zE [] 0 (zB Tryz.f59) = [(0, 0, .loop c0)] := by kernel_rfl
theorem acc : ∀ t x, un2 F t = some x → ACc Tryz.prog 59 (encA t) [] true [] fun rv obs => (rv, obs) = encR x := accT (T := YVC × YVW) (F := un2 F) (L := (L V0)) (cmds := []) (body := (zB Tryz.f59)) Gok hmT Tryz.func59 (by kernel_rfl) (by kernel_rfl) (by rw [e]; exact Lor.zI ok0 (Lor.zF _ _)) (fun t => by refine main.trans ?_; rw [← spec_l15Versions.wrap, ← spec_CommitsOk.wrap, ← zG]; exact congrArg (B _ _ _ _ _) (fx1 fun t => zD ZB some t))
theorem ac : ∀ a x, Q a = some x → AC Tryz.prog 59 a [] false [] fun rv obs => (rv, obs) = encR x := acF (body := (zB Tryz.f59)) Tryz.func59 (by kernel_rfl) (by kernel_rfl) acc fun x => ⟨by simp [encR, AV.Flat, K.Flat, C.Flat], fl0⟩
end spec_StoreOk
namespace impl_Store_graphs_saa75
noncomputable def B0 {ρ : Type} (v1 : Vec YW) (v2 : Int) (v3 : Int) (v4 : Vec YC) (v5 : Vec YW) (v6 : Vec (IVec YI)) (W : YVW → Int → Int → YVC → YVW → YVI → Option ρ) (K0 : YVC → YVW → YVI → Option ρ) : Option ρ :=
  sel (decide (v3 < v2)) (chk (decide (0 ≤ v3 ∧ v3 < (v1.n : Int))) (chk (decide ((v6.n + (Vec.lit [⟨(v1.g v3.toNat).1⟩] : Vec (IVec YI)).n) * 25 ≤ maxN)) (W v1 v2 (wr (v3 + (1 : Int))) v4 v5 (Vec.app v6 (Vec.lit [⟨(v1.g v3.toNat).1⟩] : Vec (IVec YI)))))) (K0 v4 v5 v6)
noncomputable def F0 {ρ : Type} : Nat → YVW → Int → Int → YVC → YVW → YVI → (YVC → YVW → YVI → Option ρ) → Option ρ
  | 0, _, _, _, _, _, _, _ => none
  | k + 1, v1, v2, v3, v4, v5, v6, K0 => B0 v1 v2 v3 v4 v5 v6 (fun v1' v2' v3' v4' v5' v6' => F0 k v1' v2' v3' v4' v5' v6' K0) K0
noncomputable def B {ρ : Type} (L0 : YVW → Int → Int → YVC → YVW → YVI → (YVC → YVW → YVI → Option ρ) → Option ρ) (a1 : Vec YC) (a2 : Vec YW) (K : YVC → YVW → YVI → Option ρ) : Option ρ :=
  L0 a2 (a2.n : Int) (0 : Int) a1 a2 (Vec.nil : Vec (IVec YI)) (fun e01 e02 e03 => K e01 e02 e03)
noncomputable def F (a1 : Vec YC) (a2 : Vec YW) : Option (YVC × YVW × Vec (IVec YI)) := B (F0 fuelN) a1 a2 (fun x1 x2 x3 => some (x1, x2, x3))
def encA (t : YVC × YVW) : LA × LO := ([.c (.p 0 0)], [.box [cl t.1, cl t.2]])
def encR (x : YVC × YVW × Vec (IVec YI)) : AV × LO := (.c (.h 1), [.box [cl x.1, cl x.2.1], ro x.2.2])
theorem ZA (a b) (h : encA a = encA b) : a = b := by simp [encA, zA] at h; simp [Prod.ext_iff, h]
theorem ZB (a b) (h : encR a = encR b) : a = b := by simp [encR, zA] at h; simp [Prod.ext_iff, h]
noncomputable def Q (args : LA) (hin : LO) : Option (YVC × YVW × Vec (IVec YI)) := ofC encA (un2 F) (args, hin)
theorem wrap : F = fun y1 y2 => Q [.c (.p 0 0)] [.box [cl y1, cl y2]] := by funext y1 y2; exact Eq.symm (zD ZA _ (y1, y2))
noncomputable abbrev O : Orc := mkO [] [] []
noncomputable def c0 : Code := loopC (atomN [] 0 (zB Tryz.f125) 0)
def ct0 : Cut := ⟨[3, 9, 10, 11], [.ai (.s 3) 46 [true]]⟩
def lv0 : Exit → Cut
  | .exit 0 => ⟨[3], []⟩
  | _ => ⟨[], []⟩
def k0_0 {ρ : Type} (K : Exit → St → Option ρ) (z1 : Vec YC) (z2 : Vec YW) (z3 : Vec (IVec YI)) : Option ρ := K (.exit 0) (mkS 22 (lv0 (.exit 0)).live [.c (.h 1)] [.box [cl z1, cl z2], ro z3] [true])
noncomputable def L (W0 : (ρ : Type) → LA → LO → (YVC → YVW → YVI → Option ρ) → Option ρ) : Lor := fun ρ j st K => sel (Nat.beq j 0) (cutO Tryz.prog 22 ct0.live 1 [true] ct0.cmds st fun avs obs => W0 ρ avs obs (k0_0 K)) (Option.none)
theorem step0 {W0} {ρ : Type} {K : Exit → St → Option ρ} {W : LA → LO → Option ρ} {v1 v2 v3 v4 v5 v6} : exC Tryz.prog O (L W0) [] 1 c0 (mkS 22 ct0.live [.c (.h 1), vl v1, vi v2, vi v3] [.box [cl v4, cl v5], ro v6] [true]) (bodyK Tryz.prog 22 1 [true] ct0 W lv0 K) =
    B0 v1 v2 v3 v4 v5 v6 (fun u1 u2 u3 u4 u5 u6 => W [.c (.h 1), vl u1, vi u2, vi u3] [.box [cl u4, cl u5], ro u6]) (k0_0 K) := by kernel_rfl
def enc0 (t : YVW × Int × Int × YVC × YVW × Vec (IVec YI)) : LA × LO := ([.c (.h 1), vl t.1, vi t.2.1, vi t.2.2.1], [.box [cl t.2.2.2.1, cl t.2.2.2.2.1], ro t.2.2.2.2.2])
theorem enc0I (a b) (h : enc0 a = enc0 b) : a = b := by simp [enc0, zA] at h; simp [Prod.ext_iff, h]
noncomputable def V0 : (ρ : Type) → LA → LO → (YVC → YVW → YVI → Option ρ) → Option ρ := fun ρ avs obs k0 => ofC enc0 (fun t => un6 (F0 fuelN) t k0) (avs, obs)
theorem zG (ρ : Type) : F0 fuelN = fun w1 w2 w3 w4 w5 w6 k0 => V0 ρ [.c (.h 1), vl w1, vi w2, vi w3] [.box [cl w4, cl w5], ro w6] k0 := by funext w1 w2 w3 w4 w5 w6 k0; exact Eq.symm (zD enc0I _ (w1, w2, w3, w4, w5, w6))
theorem main {W0} {ρ : Type} {K : AV → LO → Option ρ} {a1 a2} : exC Tryz.prog O (L W0) [] 0 (zB Tryz.f125) (entry 22 [.c (.p 0 0)] [.box [cl a1, cl a2]] [true]) (finO Tryz.prog Tryz.f125.results.toList 1 [true] [] K) =
    B (fun w1 w2 w3 w4 w5 w6 k0 => W0 ρ [.c (.h 1), vl w1, vi w2, vi w3] [.box [cl w4, cl w5], ro w6] k0) a1 a2 (fun x1 x2 x3 => K (.c (.h 1)) [.box [cl x1, cl x2], ro x3]) := by kernel_rfl
theorem Gok : O.ok Tryz.prog := zH (by exact trivial) (by exact trivial)
theorem ok0 : OkL Tryz.prog (L V0) 0 (.loop c0) := fun ρ st K r h => zJ (ct := ct0) (lv := lv0) (L := (L V0)) Gok hmT (by rw [show zE [] 1 c0 = [] by kernel_rfl]; exact Lor.zF _ _) enc0I (fun k t => un6 (F0 k) t (k0_0 K)) (fun t => rfl) (fun k t => by refine step0.trans ?_; exact congrFun (congrArg (B0 _ _ _ _ _ _) (fx6 fun t => zD enc0I _ t)) _) (fun _ => fuelN) h
theorem e : zE [] 0 (zB Tryz.f125) = [(0, 0, .loop c0)] := by kernel_rfl
theorem acc : ∀ t x, un2 F t = some x → ACc Tryz.prog 125 (encA t).1 (encA t).2 true [true] fun rv obs => (rv, obs) = encR x := accT2 (T := YVC × YVW) (F := un2 F) (L := (L V0)) (cmds := []) (body := (zB Tryz.f125)) 1 (fun _ => rfl) Gok hmT Tryz.func125 (by kernel_rfl) (by kernel_rfl) (by rw [e]; exact Lor.zI ok0 (Lor.zF _ _)) (fun t => by refine main.trans ?_; rw [← zG]; exact congrArg (B _ _ _) (fx3 fun t => zD ZB some t))
theorem ac : ∀ a h x, Q a h = some x → AC Tryz.prog 125 a h true [true] fun rv obs => (rv, obs) = encR x := acT2 (body := (zB Tryz.f125)) Tryz.func125 (by kernel_rfl) (by kernel_rfl) acc
end impl_Store_graphs_saa75
namespace impl_sizesOf_s198c
noncomputable def B0 {ρ : Type} (v1 : Vec (IVec YI)) (v2 : Int) (v3 : Int) (v4 : YI) (W : YVI → Int → Int → YI → Option ρ) (K0 : YI → Option ρ) : Option ρ :=
  sel (decide (v3 < v2)) (chk (decide (0 ≤ v3 ∧ v3 < (v1.n : Int))) (chk (decide ((v4.n + (Vec.lit [(((v1.g v3.toNat).v).n : Int)] : YI).n) * 9 ≤ maxN)) (W v1 v2 (wr (v3 + (1 : Int))) (Vec.app v4 (Vec.lit [(((v1.g v3.toNat).v).n : Int)] : YI))))) (K0 v4)
noncomputable def F0 {ρ : Type} : Nat → YVI → Int → Int → YI → (YI → Option ρ) → Option ρ
  | 0, _, _, _, _, _ => none
  | k + 1, v1, v2, v3, v4, K0 => B0 v1 v2 v3 v4 (fun v1' v2' v3' v4' => F0 k v1' v2' v3' v4' K0) K0
noncomputable def B {ρ : Type} (L0 : YVI → Int → Int → YI → (YI → Option ρ) → Option ρ) (a1 : Vec (IVec YI)) (K : YI → Option ρ) : Option ρ :=
  L0 a1 (a1.n : Int) (0 : Int) (Vec.nil : YI) (fun e01 => K e01)
noncomputable def F (a1 : Vec (IVec YI)) : Option YI := B (F0 fuelN) a1 (fun x1 => some (x1))
def encA (t : Vec (IVec YI)) : LA := [vl t]
def encR (x : YI) : AV × LO := (.c (.h 0), [ro x])
theorem ZA (a b) (h : encA a = encA b) : a = b := by simpa [encA, zA] using h
theorem ZB (a b) (h : encR a = encR b) : a = b := by simpa [encR, zA] using h
noncomputable def Q (args : LA) : Option YI := ofC encA (un1 F) args
theorem wrap : F = fun y1 => Q [vl y1] := by funext y1; exact Eq.symm (zD ZA _ (y1))
noncomputable abbrev O : Orc := mkO [] [] []
noncomputable def c0 : Code := loopC (atomN [] 0 (zB Tryz.f124) 0)
def ct0 : Cut := ⟨[3, 6, 7, 8], [.ad (.s 3) 47]⟩
def lv0 : Exit → Cut
  | .exit 0 => ⟨[3], []⟩
  | _ => ⟨[], []⟩
def k0_0 {ρ : Type} (K : Exit → St → Option ρ) (z1 : YI) : Option ρ := K (.exit 0) (mkS 19 (lv0 (.exit 0)).live [.c (.h 0)] [ro z1] [])
noncomputable def L (W0 : (ρ : Type) → LA → LO → (YI → Option ρ) → Option ρ) : Lor := fun ρ j st K => sel (Nat.beq j 0) (cutO Tryz.prog 19 ct0.live 0 [] ct0.cmds st fun avs obs => W0 ρ avs obs (k0_0 K)) (Option.none)
theorem step0 {W0} {ρ : Type} {K : Exit → St → Option ρ} {W : LA → LO → Option ρ} {v1 v2 v3 v4} : exC Tryz.prog O (L W0) [] 1 c0 (mkS 19 ct0.live [.c (.h 0), vl v1, vi v2, vi v3] [ro v4] []) (bodyK Tryz.prog 19 0 [] ct0 W lv0 K) =
    B0 v1 v2 v3 v4 (fun u1 u2 u3 u4 => W [.c (.h 0), vl u1, vi u2, vi u3] [ro u4]) (k0_0 K) := by kernel_rfl
def enc0 (t : Vec (IVec YI) × Int × Int × YI) : LA × LO := ([.c (.h 0), vl t.1, vi t.2.1, vi t.2.2.1], [ro t.2.2.2])
theorem enc0I (a b) (h : enc0 a = enc0 b) : a = b := by simp [enc0, zA] at h; simp [Prod.ext_iff, h]
noncomputable def V0 : (ρ : Type) → LA → LO → (YI → Option ρ) → Option ρ := fun ρ avs obs k0 => ofC enc0 (fun t => un4 (F0 fuelN) t k0) (avs, obs)
theorem zG (ρ : Type) : F0 fuelN = fun w1 w2 w3 w4 k0 => V0 ρ [.c (.h 0), vl w1, vi w2, vi w3] [ro w4] k0 := by funext w1 w2 w3 w4 k0; exact Eq.symm (zD enc0I _ (w1, w2, w3, w4))
theorem main {W0} {ρ : Type} {K : AV → LO → Option ρ} {a1} : exC Tryz.prog O (L W0) [] 0 (zB Tryz.f124) (entry 19 [vl a1] [] []) (finO Tryz.prog Tryz.f124.results.toList 0 [] [] K) =
    B (fun w1 w2 w3 w4 k0 => W0 ρ [.c (.h 0), vl w1, vi w2, vi w3] [ro w4] k0) a1 (fun x1 => K (.c (.h 0)) [ro x1]) := by kernel_rfl
theorem Gok : O.ok Tryz.prog := zH (by exact trivial) (by exact trivial)
theorem ok0 : OkL Tryz.prog (L V0) 0 (.loop c0) := fun ρ st K r h => zJ (ct := ct0) (lv := lv0) (L := (L V0)) Gok hmT (by rw [show zE [] 1 c0 = [] by kernel_rfl]; exact Lor.zF _ _) enc0I (fun k t => un4 (F0 k) t (k0_0 K)) (fun t => rfl) (fun k t => by refine step0.trans ?_; exact congrFun (congrArg (B0 _ _ _ _) (fx4 fun t => zD enc0I _ t)) _) (fun _ => fuelN) h
theorem e : zE [] 0 (zB Tryz.f124) = [(0, 0, .loop c0)] := by kernel_rfl
theorem acc : ∀ t x, un1 F t = some x → ACc Tryz.prog 124 (encA t) [] true [] fun rv obs => (rv, obs) = encR x := accT (T := Vec (IVec YI)) (F := un1 F) (L := (L V0)) (cmds := []) (body := (zB Tryz.f124)) Gok hmT Tryz.func124 (by kernel_rfl) (by kernel_rfl) (by rw [e]; exact Lor.zI ok0 (Lor.zF _ _)) (fun t => by refine main.trans ?_; rw [← zG]; exact congrArg (B _ _) (fx1 fun t => zD ZB some t))
theorem ac : ∀ a x, Q a = some x → AC Tryz.prog 124 a [] false [] fun rv obs => (rv, obs) = encR x := acF (body := (zB Tryz.f124)) Tryz.func124 (by kernel_rfl) (by kernel_rfl) acc fun x => ⟨by simp [encR, AV.Flat, K.Flat, C.Flat], flc (zN rfl _) (fl0)⟩
end impl_sizesOf_s198c
namespace impl_StoreOk
noncomputable def B0 {ρ : Type} (C3 : YG → YVB → Option Bool) (v1 : Vec YW) (v2 : Int) (v3 : Int) (v4 : Vec YC) (v5 : Vec YW) (W : YVW → Int → Int → YVC → YVW → Option ρ) (K0 : YVC → YVW → Option ρ) (Kr : Bool → Option ρ) : Option ρ :=
  sel (decide (v3 < v2)) (chk (decide (0 ≤ v3 ∧ v3 < (v1.n : Int))) (sel (decide ((((v1.g v3.toNat).1).n : Int) = (0 : Int))) (Kr false) ((C3 ((v1.g v3.toNat).1) ((v1.g v3.toNat).2)).bind fun r9 => sel ((!r9)) (Kr false) (W v1 v2 (wr (v3 + (1 : Int))) v4 v5)))) (K0 v4 v5)
noncomputable def F0 {ρ : Type} : Nat → YVW → Int → Int → YVC → YVW → (YVC → YVW → Option ρ) → (Bool → Option ρ) → Option ρ
  | 0, _, _, _, _, _, _, _ => none
  | k + 1, v1, v2, v3, v4, v5, K0, Kr => B0 impl_WeaveOk.F v1 v2 v3 v4 v5 (fun v1' v2' v3' v4' v5' => F0 k v1' v2' v3' v4' v5' K0 Kr) K0 Kr
noncomputable def B {ρ : Type} (C0 : YVC → YVW → Option (YVC × YVW × Vec (IVec YI))) (C1 : YVI → Option YI) (C2 : YVC → YI → Option Bool) (L0 : YVW → Int → Int → YVC → YVW → (YVC → YVW → Option ρ) → (Bool → Option ρ) → Option ρ) (a1 : Vec YC) (a2 : Vec YW) (K : Bool → Option ρ) : Option ρ :=
  L0 a2 (a2.n : Int) (0 : Int) a1 a2 (fun e01 e02 => sel (decide ((e02.n : Int) ≤ (12 : Int))) (both ((C0 e01 e02).bind fun r1 => (C1 r1.2.2).bind fun r2 => (C2 e01 r2).bind fun r3 => K r3) ((C0 e01 e02).bind fun r4 => both ((C1 r4.2.2).bind fun r5 => (C2 r4.1 r5).bind fun r6 => K r6) ((C1 r4.2.2).bind fun r7 => (C2 r4.1 r7).bind fun r8 => K r8))) (K false)) (fun x01 => K x01)
noncomputable def F (a1 : Vec YC) (a2 : Vec YW) : Option Bool := B impl_Store_graphs_saa75.F impl_sizesOf_s198c.F impl_CommitsOk.F (F0 fuelN) a1 a2 (fun x1 => some (x1))
def encA (t : YVC × YVW) : LA := [.a [cl t.1, cl t.2]]
def encR (x : Bool) : AV × LO := (vb x, [])
theorem ZA (a b) (h : encA a = encA b) : a = b := by simp [encA, zA] at h; simp [Prod.ext_iff, h]
theorem ZB (a b) (h : encR a = encR b) : a = b := by simpa [encR, zA] using h
noncomputable def Q (args : LA) : Option Bool := ofC encA (un2 F) args
theorem wrap : F = fun y1 y2 => Q [.a [cl y1, cl y2]] := by funext y1 y2; exact Eq.symm (zD ZA _ (y1, y2))
noncomputable abbrev O (Q1 : LA → Option YI) (Q2 : LA → Option Bool) (Q3 : LA → Option Bool) (Q0 : LA → LO → Option (YVC × YVW × Vec (IVec YI))) : Orc := mkO [qE 124 false impl_sizesOf_s198c.encR Q1, qE 123 false impl_CommitsOk.encR Q2, qE 122 false impl_WeaveOk.encR Q3] [eE Tryz.prog 125 [true] false [true] impl_Store_graphs_saa75.encR Q0] []
noncomputable def c0 : Code := loopC (atomN [] 0 (zB Tryz.f63) 0)
def ct0 : Cut := ⟨[1, 6, 7, 8], []⟩
def lv0 : Exit → Cut
  | .exit 0 => ⟨[1], []⟩
  | .ret => ⟨[2], []⟩
  | _ => ⟨[], []⟩
def k0_0 {ρ : Type} (K : Exit → St → Option ρ) (z1 : Vec YC) (z2 : Vec YW) : Option ρ := K (.exit 0) (mkS 33 (lv0 (.exit 0)).live [.c (.p 0 0)] [.box [cl z1, cl z2]] [])
def k0_r {ρ : Type} (K : Exit → St → Option ρ) (z1 : Bool) : Option ρ := K .ret (mkS 33 (lv0 .ret).live [vb z1] [] [])
noncomputable def L (W0 : (ρ : Type) → LA → LO → (YVC → YVW → Option ρ) → (Bool → Option ρ) → Option ρ) : Lor := fun ρ j st K => sel (Nat.beq j 0) (cutO Tryz.prog 33 ct0.live 0 [] ct0.cmds st fun avs obs => W0 ρ avs obs (k0_0 K) (k0_r K)) (Option.none)
theorem step0 {Q0 Q1 Q2 Q3 W0} {ρ : Type} {K : Exit → St → Option ρ} {W : LA → LO → Option ρ} {v1 v2 v3 v4 v5} : exC Tryz.prog (O Q1 Q2 Q3 Q0) (L W0) [] 1 c0 (mkS 33 ct0.live [.c (.p 0 0), vl v1, vi v2, vi v3] [.box [cl v4, cl v5]] []) (bodyK Tryz.prog 33 0 [] ct0 W lv0 K) =
    B0 (fun y1 y2 => Q3 [.a [cl y1, cl y2]]) v1 v2 v3 v4 v5 (fun u1 u2 u3 u4 u5 => W [.c (.p 0 0), vl u1, vi u2, vi u3] [.box [cl u4, cl u5]]) (k0_0 K) (k0_r K) := by kernel_rfl
def enc0 (t : YVW × Int × Int × YVC × YVW) : LA × LO := ([.c (.p 0 0), vl t.1, vi t.2.1, vi t.2.2.1], [.box [cl t.2.2.2.1, cl t.2.2.2.2]])
theorem enc0I (a b) (h : enc0 a = enc0 b) : a = b := by simp [enc0, zA] at h; simp [Prod.ext_iff, h]
noncomputable def V0 : (ρ : Type) → LA → LO → (YVC → YVW → Option ρ) → (Bool → Option ρ) → Option ρ := fun ρ avs obs k0 kr => ofC enc0 (fun t => un5 (F0 fuelN) t k0 kr) (avs, obs)
theorem zG (ρ : Type) : F0 fuelN = fun w1 w2 w3 w4 w5 k0 kr => V0 ρ [.c (.p 0 0), vl w1, vi w2, vi w3] [.box [cl w4, cl w5]] k0 kr := by funext w1 w2 w3 w4 w5 k0 kr; exact Eq.symm (zD enc0I _ (w1, w2, w3, w4, w5))
theorem main {Q0 Q1 Q2 Q3 W0} {ρ : Type} {K : AV → LO → Option ρ} {a1 a2} : exC Tryz.prog (O Q1 Q2 Q3 Q0) (L W0) [] 0 (zB Tryz.f63) (entry 33 [.a [cl a1, cl a2]] [] []) (finO Tryz.prog Tryz.f63.results.toList 0 [] [] K) =
    B (fun y1 y2 => Q0 [.c (.p 0 0)] [.box [cl y1, cl y2]]) (fun y1 => Q1 [vl y1]) (fun y1 y2 => Q2 [vl y1, vl y2]) (fun w1 w2 w3 w4 w5 k0 kr => W0 ρ [.c (.p 0 0), vl w1, vi w2, vi w3] [.box [cl w4, cl w5]] k0 kr) a1 a2 (fun x1 => K (vb x1) []) := by kernel_rfl
theorem Gok : (O impl_sizesOf_s198c.Q impl_CommitsOk.Q impl_WeaveOk.Q impl_Store_graphs_saa75.Q).ok Tryz.prog := zH (by exact ⟨qE_ok impl_sizesOf_s198c.ac, qE_ok impl_CommitsOk.ac, qE_ok impl_WeaveOk.ac, trivial⟩) (by exact ⟨eE_ok (fun h => by cases h) impl_Store_graphs_saa75.ac, trivial⟩)
theorem ok0 : OkL Tryz.prog (L V0) 0 (.loop c0) := fun ρ st K r h => zJ (ct := ct0) (lv := lv0) (L := (L V0)) Gok hmT (by rw [show zE [] 1 c0 = [] by kernel_rfl]; exact Lor.zF _ _) enc0I (fun k t => un5 (F0 k) t (k0_0 K) (k0_r K)) (fun t => rfl) (fun k t => by refine step0.trans ?_; rw [← impl_WeaveOk.wrap]; exact congrFun (congrFun (congrArg (B0 _ _ _ _ _ _) (fx5 fun t => zD enc0I _ t)) _) _) (fun _ => fuelN) h
theorem e : zE [] 0 (zB Tryz.f63) = [(0, 0, .loop c0)] := by kernel_rfl
theorem acc : ∀ t x, un2 F t = some x → ACc Tryz.prog 63 (encA t) [] true [] fun rv obs => (rv, obs) = encR x := accT (T := YVC × YVW) (F := un2 F) (L := (L V0)) (cmds := []) (body := (zB Tryz.f63)) Gok hmT Tryz.func63 (by kernel_rfl) (by kernel_rfl) (by rw [e]; exact Lor.zI ok0 (Lor.zF _ _)) (fun t => by refine main.trans ?_; rw [← impl_Store_graphs_saa75.wrap, ← impl_sizesOf_s198c.wrap, ← impl_CommitsOk.wrap, ← zG]; exact congrArg (B _ _ _ _ _ _) (fx1 fun t => zD ZB some t))
theorem ac : ∀ a x, Q a = some x → AC Tryz.prog 63 a [] false [] fun rv obs => (rv, obs) = encR x := acF (body := (zB Tryz.f63)) Tryz.func63 (by kernel_rfl) (by kernel_rfl) acc fun x => ⟨by simp [encR, AV.Flat, K.Flat, C.Flat], fl0⟩
end impl_StoreOk
namespace laws_eqWeaveS
noncomputable def B0 {ρ : Type} (C0 : YG → YVB → YG → YVB → Option Bool) (v1 : Vec YW) (v2 : Vec YW) (v3 : Int) (W : YVW → YVW → Int → Option ρ) (K0 : Unit → Option ρ) (Kr : Bool → Option ρ) : Option ρ :=
  sel (decide (v3 < (v1.n : Int))) (chk (decide (0 ≤ v3 ∧ v3 < (v1.n : Int))) (chk (decide (0 ≤ v3 ∧ v3 < (v2.n : Int))) ((C0 ((v1.g v3.toNat).1) ((v1.g v3.toNat).2) ((v2.g v3.toNat).1) ((v2.g v3.toNat).2)).bind fun r1 => sel ((!r1)) (Kr false) (W v1 v2 (wr (v3 + (1 : Int))))))) (K0 ())
noncomputable def F0 {ρ : Type} : Nat → YVW → YVW → Int → (Unit → Option ρ) → (Bool → Option ρ) → Option ρ
  | 0, _, _, _, _, _ => none
  | k + 1, v1, v2, v3, K0, Kr => B0 laws_eqWeave.F v1 v2 v3 (fun v1' v2' v3' => F0 k v1' v2' v3' K0 Kr) K0 Kr
noncomputable def B {ρ : Type} (L0 : YVW → YVW → Int → (Unit → Option ρ) → (Bool → Option ρ) → Option ρ) (a1 : Vec YW) (a2 : Vec YW) (K : Bool → Option ρ) : Option ρ :=
  sel ((!decide ((a1.n : Int) = (a2.n : Int)))) (K false) (L0 a1 a2 (0 : Int) (fun _ => K true) (fun x01 => K x01))
noncomputable def F (a1 : Vec YW) (a2 : Vec YW) : Option Bool := B (F0 fuelN) a1 a2 (fun x1 => some (x1))
def encA (t : YVW × YVW) : LA := [vl t.1, vl t.2]
def encR (x : Bool) : AV × LO := (vb x, [])
theorem ZA (a b) (h : encA a = encA b) : a = b := by simp [encA, zA] at h; simp [Prod.ext_iff, h]
theorem ZB (a b) (h : encR a = encR b) : a = b := by simpa [encR, zA] using h
noncomputable def Q (args : LA) : Option Bool := ofC encA (un2 F) args
theorem wrap : F = fun y1 y2 => Q [vl y1, vl y2] := by funext y1 y2; exact Eq.symm (zD ZA _ (y1, y2))
noncomputable abbrev O (Q0 : LA → Option Bool) : Orc := mkO [qE 116 false laws_eqWeave.encR Q0] [] []
noncomputable def c0 : Code := loopC (atomN [] 0 (zB Tryz.f56) 0)
def ct0 : Cut := ⟨[0, 1, 5], []⟩
def lv0 : Exit → Cut
  | .exit 0 => ⟨[], []⟩
  | .ret => ⟨[4], []⟩
  | _ => ⟨[], []⟩
def k0_0 {ρ : Type} (K : Exit → St → Option ρ) (_ : Unit) : Option ρ := K (.exit 0) (mkS 27 (lv0 (.exit 0)).live [] [] [])
def k0_r {ρ : Type} (K : Exit → St → Option ρ) (z1 : Bool) : Option ρ := K .ret (mkS 27 (lv0 .ret).live [vb z1] [] [])
noncomputable def L (W0 : (ρ : Type) → LA → LO → (Unit → Option ρ) → (Bool → Option ρ) → Option ρ) : Lor := fun ρ j st K => sel (Nat.beq j 0) (cutO Tryz.prog 27 ct0.live 0 [] ct0.cmds st fun avs obs => W0 ρ avs obs (k0_0 K) (k0_r K)) (Option.none)
theorem step0 {Q0 W0} {ρ : Type} {K : Exit → St → Option ρ} {W : LA → LO → Option ρ} {v1 v2 v3} : exC Tryz.prog (O Q0) (L W0) [] 1 c0 (mkS 27 ct0.live [vl v1, vl v2, vi v3] [] []) (bodyK Tryz.prog 27 0 [] ct0 W lv0 K) =
    B0 (fun y1 y2 y3 y4 => Q0 [.a [cl y1, cl y2], .a [cl y3, cl y4]]) v1 v2 v3 (fun u1 u2 u3 => W [vl u1, vl u2, vi u3] []) (k0_0 K) (k0_r K) := by kernel_rfl
def enc0 (t : YVW × YVW × Int) : LA × LO := ([vl t.1, vl t.2.1, vi t.2.2], [])
theorem enc0I (a b) (h : enc0 a = enc0 b) : a = b := by simp [enc0, zA] at h; simp [Prod.ext_iff, h]
noncomputable def V0 : (ρ : Type) → LA → LO → (Unit → Option ρ) → (Bool → Option ρ) → Option ρ := fun ρ avs obs k0 kr => ofC enc0 (fun t => un3 (F0 fuelN) t k0 kr) (avs, obs)
theorem zG (ρ : Type) : F0 fuelN = fun w1 w2 w3 k0 kr => V0 ρ [vl w1, vl w2, vi w3] [] k0 kr := by funext w1 w2 w3 k0 kr; exact Eq.symm (zD enc0I _ (w1, w2, w3))
theorem main {Q0 W0} {ρ : Type} {K : AV → LO → Option ρ} {a1 a2} : exC Tryz.prog (O Q0) (L W0) [] 0 (zB Tryz.f56) (entry 27 [vl a1, vl a2] [] []) (finO Tryz.prog Tryz.f56.results.toList 0 [] [] K) =
    B (fun w1 w2 w3 k0 kr => W0 ρ [vl w1, vl w2, vi w3] [] k0 kr) a1 a2 (fun x1 => K (vb x1) []) := by kernel_rfl
theorem Gok : (O laws_eqWeave.Q).ok Tryz.prog := zH (by exact ⟨qE_ok laws_eqWeave.ac, trivial⟩) (by exact trivial)
theorem ok0 : OkL Tryz.prog (L V0) 0 (.loop c0) := fun ρ st K r h => zJ (ct := ct0) (lv := lv0) (L := (L V0)) Gok hmT (by rw [show zE [] 1 c0 = [] by kernel_rfl]; exact Lor.zF _ _) enc0I (fun k t => un3 (F0 k) t (k0_0 K) (k0_r K)) (fun t => rfl) (fun k t => by refine step0.trans ?_; rw [← laws_eqWeave.wrap]; exact congrFun (congrFun (congrArg (B0 _ _ _ _) (fx3 fun t => zD enc0I _ t)) _) _) (fun _ => fuelN) h
theorem e : zE [] 0 (zB Tryz.f56) = [(0, 0, .loop c0)] := by kernel_rfl
theorem acc : ∀ t x, un2 F t = some x → ACc Tryz.prog 56 (encA t) [] true [] fun rv obs => (rv, obs) = encR x := accT (T := YVW × YVW) (F := un2 F) (L := (L V0)) (cmds := []) (body := (zB Tryz.f56)) Gok hmT Tryz.func56 (by kernel_rfl) (by kernel_rfl) (by rw [e]; exact Lor.zI ok0 (Lor.zF _ _)) (fun t => by refine main.trans ?_; rw [← zG]; exact congrArg (B _ _ _) (fx1 fun t => zD ZB some t))
theorem ac : ∀ a x, Q a = some x → AC Tryz.prog 56 a [] false [] fun rv obs => (rv, obs) = encR x := acF (body := (zB Tryz.f56)) Tryz.func56 (by kernel_rfl) (by kernel_rfl) acc fun x => ⟨by simp [encR, AV.Flat, K.Flat, C.Flat], fl0⟩
end laws_eqWeaveS
namespace laws_eqStore
noncomputable def B {ρ : Type} (C0 : YVC → YVC → Option Bool) (C1 : YVW → YVW → Option Bool) (a1 : Vec YC) (a2 : Vec YW) (a3 : Vec YC) (a4 : Vec YW) (K : Bool → Option ρ) : Option ρ :=
  (C0 a1 a3).bind fun r1 => sel ((!r1)) (K false) ((C1 a2 a4).bind fun r2 => sel ((!r2)) (K false) (K true))
noncomputable def F (a1 : Vec YC) (a2 : Vec YW) (a3 : Vec YC) (a4 : Vec YW) : Option Bool := B laws_eqCommitS.F laws_eqWeaveS.F a1 a2 a3 a4 (fun x1 => some (x1))
def encA (t : YVC × YVW × YVC × YVW) : LA := [.a [cl t.1, cl t.2.1], .a [cl t.2.2.1, cl t.2.2.2]]
def encR (x : Bool) : AV × LO := (vb x, [])
theorem ZA (a b) (h : encA a = encA b) : a = b := by simp [encA, zA] at h; simp [Prod.ext_iff, h]
theorem ZB (a b) (h : encR a = encR b) : a = b := by simpa [encR, zA] using h
noncomputable def Q (args : LA) : Option Bool := ofC encA (un4 F) args
theorem wrap : F = fun y1 y2 y3 y4 => Q [.a [cl y1, cl y2], .a [cl y3, cl y4]] := by funext y1 y2 y3 y4; exact Eq.symm (zD ZA _ (y1, y2, y3, y4))
noncomputable abbrev O (Q0 : LA → Option Bool) (Q1 : LA → Option Bool) : Orc := mkO [qE 30 false laws_eqCommitS.encR Q0, qE 56 false laws_eqWeaveS.encR Q1] [] []
noncomputable def L : Lor := fun _ _ _ _ => Option.none
theorem main {Q0 Q1} {ρ : Type} {K : AV → LO → Option ρ} {a1 a2 a3 a4} : exC Tryz.prog (O Q0 Q1) L [] 0 (zB Tryz.f12) (entry 17 [.a [cl a1, cl a2], .a [cl a3, cl a4]] [] []) (finO Tryz.prog Tryz.f12.results.toList 0 [] [] K) =
    B (fun y1 y2 => Q0 [vl y1, vl y2]) (fun y1 y2 => Q1 [vl y1, vl y2]) a1 a2 a3 a4 (fun x1 => K (vb x1) []) := by kernel_rfl
theorem Gok : (O laws_eqCommitS.Q laws_eqWeaveS.Q).ok Tryz.prog := zH (by exact ⟨qE_ok laws_eqCommitS.ac, qE_ok laws_eqWeaveS.ac, trivial⟩) (by exact trivial)
theorem acc : ∀ t x, un4 F t = some x → ACc Tryz.prog 12 (encA t) [] true [] fun rv obs => (rv, obs) = encR x := accT (T := YVC × YVW × YVC × YVW) (F := un4 F) (L := L) (cmds := []) (body := (zB Tryz.f12)) Gok hmT Tryz.func12 (by kernel_rfl) (by kernel_rfl) (by rw [show zE [] 0 (zB Tryz.f12) = [] by kernel_rfl]; exact Lor.zF _ _) (fun t => by refine main.trans ?_; rw [← laws_eqCommitS.wrap, ← laws_eqWeaveS.wrap]; exact congrArg (B _ _ _ _ _ _) (fx1 fun t => zD ZB some t))
theorem ac : ∀ a x, Q a = some x → AC Tryz.prog 12 a [] false [] fun rv obs => (rv, obs) = encR x := acF (body := (zB Tryz.f12)) Tryz.func12 (by kernel_rfl) (by kernel_rfl) acc fun x => ⟨by simp [encR, AV.Flat, K.Flat, C.Flat], fl0⟩
end laws_eqStore
end Go.Al
