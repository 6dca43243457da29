import Derived.Test.YtahffnkphppgoaaGreatAlE
import Derived.Test.YtahffnkphppgoaaGreatSC
import Derived.Test.YtahffnkphppgoaaGreatGCommitsOk
set_option linter.unusedVariables false
set_option linter.unusedSimpArgs false
set_option linter.constructorNameAsVariable false
set_option linter.unusedSectionVars false
set_option maxRecDepth 100000
namespace Go.Al
open Go.Proofs
namespace laws_szIntSS
noncomputable def B0 {ρ : Type} (C0 : YI → Int → Option Int) (v1 : Vec YI) (v2 : Int) (v3 : Int) (W : YG → Int → Int → Option ρ) (K0 : Int → Option ρ) (Kr : Int → Option ρ) : Option ρ :=
  sel (decide (v3 < (v1.n : Int))) (chk (decide (0 ≤ v3 ∧ v3 < (v1.n : Int))) ((C0 (v1.g v3.toNat) v2).bind fun r1 => sel (decide (r1 < (0 : Int))) (Kr (-1 : Int)) (W v1 r1 (wr (v3 + (1 : Int)))))) (K0 v2)
noncomputable def F0 {ρ : Type} : Nat → YG → Int → Int → (Int → Option ρ) → (Int → Option ρ) → Option ρ
  | 0, _, _, _, _, _ => none
  | k + 1, v1, v2, v3, K0, Kr => B0 laws_szIntS.F v1 v2 v3 (fun v1' v2' v3' => F0 k v1' v2' v3' K0 Kr) K0 Kr
noncomputable def B {ρ : Type} (L0 : YG → Int → Int → (Int → Option ρ) → (Int → Option ρ) → Option ρ) (a1 : Vec YI) (a2 : Int) (K : Int → Option ρ) : Option ρ :=
  sel (decide ((wr (a2 - (a1.n : Int))) < (0 : Int))) (K (-1 : Int)) (L0 a1 (wr (a2 - (a1.n : Int))) (0 : Int) (fun e01 => K e01) (fun x01 => K x01))
noncomputable def F (a1 : Vec YI) (a2 : Int) : Option Int := B (F0 fuelN) a1 a2 (fun x1 => some (x1))
def encA (t : Vec YI × Int) : LA := [vl t.1, vi t.2]
def encR (x : Int) : AV × LO := (vi x, [])
theorem ZA (a b) (h : encA a = encA b) : a = b := by simp [encA, zA] at h; simp [Prod.ext_iff, h]
theorem ZB (a b) (h : encR a = encR b) : a = b := by simpa [encR, zA] using h
noncomputable def Q (args : LA) : Option Int := ofC encA (un2 F) args
theorem wrap : F = fun y1 y2 => Q [vl y1, vi y2] := by funext y1 y2; exact Eq.symm (zD ZA _ (y1, y2))
noncomputable abbrev O (Q0 : LA → Option Int) : Orc := mkO [qE 132 false laws_szIntS.encR Q0] [] []
noncomputable def c0 : Code := loopC (atomN [] 0 (zB Tryz.f70) 0)
def ct0 : Cut := ⟨[0, 1, 5], []⟩
def lv0 : Exit → Cut
  | .exit 0 => ⟨[1], []⟩
  | .ret => ⟨[4], []⟩
  | _ => ⟨[], []⟩
def k0_0 {ρ : Type} (K : Exit → St → Option ρ) (z1 : Int) : Option ρ := K (.exit 0) (mkS 27 (lv0 (.exit 0)).live [vi z1] [] [])
def k0_r {ρ : Type} (K : Exit → St → Option ρ) (z1 : Int) : Option ρ := K .ret (mkS 27 (lv0 .ret).live [vi z1] [] [])
noncomputable def L (W0 : (ρ : Type) → LA → LO → (Int → Option ρ) → (Int → Option ρ) → Option ρ) : Lor := fun ρ j st K => sel (Nat.beq j 0) (cutO Tryz.prog 27 ct0.live 0 [] ct0.cmds st fun avs obs => W0 ρ avs obs (k0_0 K) (k0_r K)) (Option.none)
theorem step0 {Q0 W0} {ρ : Type} {K : Exit → St → Option ρ} {W : LA → LO → Option ρ} {v1 v2 v3} : exC Tryz.prog (O Q0) (L W0) [] 1 c0 (mkS 27 ct0.live [vl v1, vi v2, vi v3] [] []) (bodyK Tryz.prog 27 0 [] ct0 W lv0 K) =
    B0 (fun y1 y2 => Q0 [vl y1, vi y2]) v1 v2 v3 (fun u1 u2 u3 => W [vl u1, vi u2, vi u3] []) (k0_0 K) (k0_r K) := by kernel_rfl
def enc0 (t : Vec YI × Int × Int) : LA × LO := ([vl t.1, vi t.2.1, vi t.2.2], [])
theorem enc0I (a b) (h : enc0 a = enc0 b) : a = b := by simp [enc0, zA] at h; simp [Prod.ext_iff, h]
noncomputable def V0 : (ρ : Type) → LA → LO → (Int → Option ρ) → (Int → Option ρ) → Option ρ := fun ρ avs obs k0 kr => ofC enc0 (fun t => un3 (F0 fuelN) t k0 kr) (avs, obs)
theorem zG (ρ : Type) : F0 fuelN = fun w1 w2 w3 k0 kr => V0 ρ [vl w1, vi w2, vi w3] [] k0 kr := by funext w1 w2 w3 k0 kr; exact Eq.symm (zD enc0I _ (w1, w2, w3))
theorem main {Q0 W0} {ρ : Type} {K : AV → LO → Option ρ} {a1 a2} : exC Tryz.prog (O Q0) (L W0) [] 0 (zB Tryz.f70) (entry 27 [vl a1, vi a2] [] []) (finO Tryz.prog Tryz.f70.results.toList 0 [] [] K) =
    B (fun w1 w2 w3 k0 kr => W0 ρ [vl w1, vi w2, vi w3] [] k0 kr) a1 a2 (fun x1 => K (vi x1) []) := by kernel_rfl
theorem Gok : (O laws_szIntS.Q).ok Tryz.prog := zH (by exact ⟨qE_ok laws_szIntS.ac, trivial⟩) (by exact trivial)
theorem ok0 : OkL Tryz.prog (L V0) 0 (.loop c0) := fun ρ st K r h => zJ (ct := ct0) (lv := lv0) (L := (L V0)) Gok hmT (by rw [show zE [] 1 c0 = [] by kernel_rfl]; exact Lor.zF _ _) enc0I (fun k t => un3 (F0 k) t (k0_0 K) (k0_r K)) (fun t => rfl) (fun k t => by refine step0.trans ?_; rw [← laws_szIntS.wrap]; exact congrFun (congrFun (congrArg (B0 _ _ _ _) (fx3 fun t => zD enc0I _ t)) _) _) (fun _ => fuelN) h
theorem e : zE [] 0 (zB Tryz.f70) = [(0, 0, .loop c0)] := by kernel_rfl
theorem acc : ∀ t x, un2 F t = some x → ACc Tryz.prog 70 (encA t) [] true [] fun rv obs => (rv, obs) = encR x := accT (T := Vec YI × Int) (F := un2 F) (L := (L V0)) (cmds := []) (body := (zB Tryz.f70)) Gok hmT Tryz.func70 (by kernel_rfl) (by kernel_rfl) (by rw [e]; exact Lor.zI ok0 (Lor.zF _ _)) (fun t => by refine main.trans ?_; rw [← zG]; exact congrArg (B _ _ _) (fx1 fun t => zD ZB some t))
theorem ac : ∀ a x, Q a = some x → AC Tryz.prog 70 a [] false [] fun rv obs => (rv, obs) = encR x := acF (body := (zB Tryz.f70)) Tryz.func70 (by kernel_rfl) (by kernel_rfl) acc fun x => ⟨by simp [encR, AV.Flat, K.Flat, C.Flat], fl0⟩
end laws_szIntSS
namespace laws_szBody
noncomputable def B {ρ : Type} (C0 : YI → Int → Option Int) (a1 : ByteArray) (a2 : Int) (a3 : Int) (a4 : YI) (a5 : Int) (K : Int → Option ρ) : Option ρ :=
  sel (decide ((wr (a5 - (a1.size : Int))) < (0 : Int))) (K (-1 : Int)) ((C0 a4 (wr (a5 - (a1.size : Int)))).bind fun r1 => sel (decide (r1 < (0 : Int))) (K (-1 : Int)) (K r1))
noncomputable def F (a1 : ByteArray) (a2 : Int) (a3 : Int) (a4 : YI) (a5 : Int) : Option Int := B laws_szIntS.F a1 a2 a3 a4 a5 (fun x1 => some (x1))
def encA (t : ByteArray × Int × Int × YI × Int) : LA := [.a [cs t.1, ci t.2.1, ci t.2.2.1, cl t.2.2.2.1], vi t.2.2.2.2]
def encR (x : Int) : AV × LO := (vi x, [])
theorem ZA (a b) (h : encA a = encA b) : a = b := by simp [encA, zA] at h; simp [Prod.ext_iff, h]
theorem ZB (a b) (h : encR a = encR b) : a = b := by simpa [encR, zA] using h
noncomputable def Q (args : LA) : Option Int := ofC encA (un5 F) args
theorem wrap : F = fun y1 y2 y3 y4 y5 => Q [.a [cs y1, ci y2, ci y3, cl y4], vi y5] := by funext y1 y2 y3 y4 y5; exact Eq.symm (zD ZA _ (y1, y2, y3, y4, y5))
noncomputable abbrev O (Q0 : LA → Option Int) : Orc := mkO [qE 132 false laws_szIntS.encR Q0] [] []
noncomputable def L : Lor := fun _ _ _ _ => Option.none
theorem main {Q0} {ρ : Type} {K : AV → LO → Option ρ} {a1 a2 a3 a4 a5} : exC Tryz.prog (O Q0) L [] 0 (zB Tryz.f206) (entry 19 [.a [cs a1, ci a2, ci a3, cl a4], vi a5] [] []) (finO Tryz.prog Tryz.f206.results.toList 0 [] [] K) =
    B (fun y1 y2 => Q0 [vl y1, vi y2]) a1 a2 a3 a4 a5 (fun x1 => K (vi x1) []) := by kernel_rfl
theorem Gok : (O laws_szIntS.Q).ok Tryz.prog := zH (by exact ⟨qE_ok laws_szIntS.ac, trivial⟩) (by exact trivial)
theorem acc : ∀ t x, un5 F t = some x → ACc Tryz.prog 206 (encA t) [] true [] fun rv obs => (rv, obs) = encR x := accT (T := ByteArray × Int × Int × YI × Int) (F := un5 F) (L := L) (cmds := []) (body := (zB Tryz.f206)) Gok hmT Tryz.func206 (by kernel_rfl) (by kernel_rfl) (by rw [show zE [] 0 (zB Tryz.f206) = [] by kernel_rfl]; exact Lor.zF _ _) (fun t => by refine main.trans ?_; rw [← laws_szIntS.wrap]; exact congrArg (B _ _ _ _ _ _) (fx1 fun t => zD ZB some t))
theorem ac : ∀ a x, Q a = some x → AC Tryz.prog 206 a [] false [] fun rv obs => (rv, obs) = encR x := acF (body := (zB Tryz.f206)) Tryz.func206 (by kernel_rfl) (by kernel_rfl) acc fun x => ⟨by simp [encR, AV.Flat, K.Flat, C.Flat], fl0⟩
end laws_szBody
namespace laws_szBodyS
noncomputable def B0 {ρ : Type} (C0 : ByteArray → Int → Int → YI → Int → Option Int) (v1 : Vec YB) (v2 : Int) (v3 : Int) (W : YVB → Int → Int → Option ρ) (K0 : Int → Option ρ) (Kr : Int → Option ρ) : Option ρ :=
  sel (decide (v3 < (v1.n : Int))) (chk (decide (0 ≤ v3 ∧ v3 < (v1.n : Int))) ((C0 ((v1.g v3.toNat).1) ((v1.g v3.toNat).2.1) ((v1.g v3.toNat).2.2.1) ((v1.g v3.toNat).2.2.2) v2).bind fun r1 => sel (decide (r1 < (0 : Int))) (Kr (-1 : Int)) (W v1 r1 (wr (v3 + (1 : Int)))))) (K0 v2)
noncomputable def F0 {ρ : Type} : Nat → YVB → Int → Int → (Int → Option ρ) → (Int → Option ρ) → Option ρ
  | 0, _, _, _, _, _ => none
  | k + 1, v1, v2, v3, K0, Kr => B0 laws_szBody.F v1 v2 v3 (fun v1' v2' v3' => F0 k v1' v2' v3' K0 Kr) K0 Kr
noncomputable def B {ρ : Type} (L0 : YVB → Int → Int → (Int → Option ρ) → (Int → Option ρ) → Option ρ) (a1 : Vec YB) (a2 : Int) (K : Int → Option ρ) : Option ρ :=
  sel (decide ((wr (a2 - (a1.n : Int))) < (0 : Int))) (K (-1 : Int)) (L0 a1 (wr (a2 - (a1.n : Int))) (0 : Int) (fun e01 => K e01) (fun x01 => K x01))
noncomputable def F (a1 : Vec YB) (a2 : Int) : Option Int := B (F0 fuelN) a1 a2 (fun x1 => some (x1))
def encA (t : YVB × Int) : LA := [vl t.1, vi t.2]
def encR (x : Int) : AV × LO := (vi x, [])
theorem ZA (a b) (h : encA a = encA b) : a = b := by simp [encA, zA] at h; simp [Prod.ext_iff, h]
theorem ZB (a b) (h : encR a = encR b) : a = b := by simpa [encR, zA] using h
noncomputable def Q (args : LA) : Option Int := ofC encA (un2 F) args
theorem wrap : F = fun y1 y2 => Q [vl y1, vi y2] := by funext y1 y2; exact Eq.symm (zD ZA _ (y1, y2))
noncomputable abbrev O (Q0 : LA → Option Int) : Orc := mkO [qE 206 false laws_szBody.encR Q0] [] []
noncomputable def c0 : Code := loopC (atomN [] 0 (zB Tryz.f170) 0)
def ct0 : Cut := ⟨[0, 1, 5], []⟩
def lv0 : Exit → Cut
  | .exit 0 => ⟨[1], []⟩
  | .ret => ⟨[4], []⟩
  | _ => ⟨[], []⟩
def k0_0 {ρ : Type} (K : Exit → St → Option ρ) (z1 : Int) : Option ρ := K (.exit 0) (mkS 27 (lv0 (.exit 0)).live [vi z1] [] [])
def k0_r {ρ : Type} (K : Exit → St → Option ρ) (z1 : Int) : Option ρ := K .ret (mkS 27 (lv0 .ret).live [vi z1] [] [])
noncomputable def L (W0 : (ρ : Type) → LA → LO → (Int → Option ρ) → (Int → Option ρ) → Option ρ) : Lor := fun ρ j st K => sel (Nat.beq j 0) (cutO Tryz.prog 27 ct0.live 0 [] ct0.cmds st fun avs obs => W0 ρ avs obs (k0_0 K) (k0_r K)) (Option.none)
theorem step0 {Q0 W0} {ρ : Type} {K : Exit → St → Option ρ} {W : LA → LO → Option ρ} {v1 v2 v3} : exC Tryz.prog (O Q0) (L W0) [] 1 c0 (mkS 27 ct0.live [vl v1, vi v2, vi v3] [] []) (bodyK Tryz.prog 27 0 [] ct0 W lv0 K) =
    B0 (fun y1 y2 y3 y4 y5 => Q0 [.a [cs y1, ci y2, ci y3, cl y4], vi y5]) v1 v2 v3 (fun u1 u2 u3 => W [vl u1, vi u2, vi u3] []) (k0_0 K) (k0_r K) := by kernel_rfl
def enc0 (t : YVB × Int × Int) : LA × LO := ([vl t.1, vi t.2.1, vi t.2.2], [])
theorem enc0I (a b) (h : enc0 a = enc0 b) : a = b := by simp [enc0, zA] at h; simp [Prod.ext_iff, h]
noncomputable def V0 : (ρ : Type) → LA → LO → (Int → Option ρ) → (Int → Option ρ) → Option ρ := fun ρ avs obs k0 kr => ofC enc0 (fun t => un3 (F0 fuelN) t k0 kr) (avs, obs)
theorem zG (ρ : Type) : F0 fuelN = fun w1 w2 w3 k0 kr => V0 ρ [vl w1, vi w2, vi w3] [] k0 kr := by funext w1 w2 w3 k0 kr; exact Eq.symm (zD enc0I _ (w1, w2, w3))
theorem main {Q0 W0} {ρ : Type} {K : AV → LO → Option ρ} {a1 a2} : exC Tryz.prog (O Q0) (L W0) [] 0 (zB Tryz.f170) (entry 27 [vl a1, vi a2] [] []) (finO Tryz.prog Tryz.f170.results.toList 0 [] [] K) =
    B (fun w1 w2 w3 k0 kr => W0 ρ [vl w1, vi w2, vi w3] [] k0 kr) a1 a2 (fun x1 => K (vi x1) []) := by kernel_rfl
theorem Gok : (O laws_szBody.Q).ok Tryz.prog := zH (by exact ⟨qE_ok laws_szBody.ac, trivial⟩) (by exact trivial)
theorem ok0 : OkL Tryz.prog (L V0) 0 (.loop c0) := fun ρ st K r h => zJ (ct := ct0) (lv := lv0) (L := (L V0)) Gok hmT (by rw [show zE [] 1 c0 = [] by kernel_rfl]; exact Lor.zF _ _) enc0I (fun k t => un3 (F0 k) t (k0_0 K) (k0_r K)) (fun t => rfl) (fun k t => by refine step0.trans ?_; rw [← laws_szBody.wrap]; exact congrFun (congrFun (congrArg (B0 _ _ _ _) (fx3 fun t => zD enc0I _ t)) _) _) (fun _ => fuelN) h
theorem e : zE [] 0 (zB Tryz.f170) = [(0, 0, .loop c0)] := by kernel_rfl
theorem acc : ∀ t x, un2 F t = some x → ACc Tryz.prog 170 (encA t) [] true [] fun rv obs => (rv, obs) = encR x := accT (T := YVB × Int) (F := un2 F) (L := (L V0)) (cmds := []) (body := (zB Tryz.f170)) Gok hmT Tryz.func170 (by kernel_rfl) (by kernel_rfl) (by rw [e]; exact Lor.zI ok0 (Lor.zF _ _)) (fun t => by refine main.trans ?_; rw [← zG]; exact congrArg (B _ _ _) (fx1 fun t => zD ZB some t))
theorem ac : ∀ a x, Q a = some x → AC Tryz.prog 170 a [] false [] fun rv obs => (rv, obs) = encR x := acF (body := (zB Tryz.f170)) Tryz.func170 (by kernel_rfl) (by kernel_rfl) acc fun x => ⟨by simp [encR, AV.Flat, K.Flat, C.Flat], fl0⟩
end laws_szBodyS
namespace laws_szWeave
noncomputable def B {ρ : Type} (C0 : YG → Int → Option Int) (C1 : YVB → Int → Option Int) (a1 : Vec YI) (a2 : Vec YB) (a3 : Int) (K : Int → Option ρ) : Option ρ :=
  (C0 a1 a3).bind fun r1 => sel (decide (r1 < (0 : Int))) (K (-1 : Int)) ((C1 a2 r1).bind fun r2 => sel (decide (r2 < (0 : Int))) (K (-1 : Int)) (K r2))
noncomputable def F (a1 : Vec YI) (a2 : Vec YB) (a3 : Int) : Option Int := B laws_szIntSS.F laws_szBodyS.F a1 a2 a3 (fun x1 => some (x1))
def encA (t : Vec YI × YVB × Int) : LA := [.a [cl t.1, cl t.2.1], vi t.2.2]
def encR (x : Int) : AV × LO := (vi x, [])
theorem ZA (a b) (h : encA a = encA b) : a = b := by simp [encA, zA] at h; simp [Prod.ext_iff, h]
theorem ZB (a b) (h : encR a = encR b) : a = b := by simpa [encR, zA] using h
noncomputable def Q (args : LA) : Option Int := ofC encA (un3 F) args
theorem wrap : F = fun y1 y2 y3 => Q [.a [cl y1, cl y2], vi y3] := by funext y1 y2 y3; exact Eq.symm (zD ZA _ (y1, y2, y3))
noncomputable abbrev O (Q0 : LA → Option Int) (Q1 : LA → Option Int) : Orc := mkO [qE 70 false laws_szIntSS.encR Q0, qE 170 false laws_szBodyS.encR Q1] [] []
noncomputable def L : Lor := fun _ _ _ _ => Option.none
theorem main {Q0 Q1} {ρ : Type} {K : AV → LO → Option ρ} {a1 a2 a3} : exC Tryz.prog (O Q0 Q1) L [] 0 (zB Tryz.f102) (entry 18 [.a [cl a1, cl a2], vi a3] [] []) (finO Tryz.prog Tryz.f102.results.toList 0 [] [] K) =
    B (fun y1 y2 => Q0 [vl y1, vi y2]) (fun y1 y2 => Q1 [vl y1, vi y2]) a1 a2 a3 (fun x1 => K (vi x1) []) := by kernel_rfl
theorem Gok : (O laws_szIntSS.Q laws_szBodyS.Q).ok Tryz.prog := zH (by exact ⟨qE_ok laws_szIntSS.ac, qE_ok laws_szBodyS.ac, trivial⟩) (by exact trivial)
theorem acc : ∀ t x, un3 F t = some x → ACc Tryz.prog 102 (encA t) [] true [] fun rv obs => (rv, obs) = encR x := accT (T := Vec YI × YVB × Int) (F := un3 F) (L := L) (cmds := []) (body := (zB Tryz.f102)) Gok hmT Tryz.func102 (by kernel_rfl) (by kernel_rfl) (by rw [show zE [] 0 (zB Tryz.f102) = [] by kernel_rfl]; exact Lor.zF _ _) (fun t => by refine main.trans ?_; rw [← laws_szIntSS.wrap, ← laws_szBodyS.wrap]; exact congrArg (B _ _ _ _ _) (fx1 fun t => zD ZB some t))
theorem ac : ∀ a x, Q a = some x → AC Tryz.prog 102 a [] false [] fun rv obs => (rv, obs) = encR x := acF (body := (zB Tryz.f102)) Tryz.func102 (by kernel_rfl) (by kernel_rfl) acc fun x => ⟨by simp [encR, AV.Flat, K.Flat, C.Flat], fl0⟩
end laws_szWeave
namespace laws_toIntSS
noncomputable def B0 {ρ : Type} (C0 : YI → Option YI) (v1 : Vec YI) (v2 : Int) (v3 : Vec YI) (W : YG → Int → YG → Option ρ) (K0 : YG → Option ρ) : Option ρ :=
  sel (decide (v2 < (v1.n : Int))) (chk (decide (0 ≤ v2 ∧ v2 < (v1.n : Int))) ((C0 (v1.g v2.toNat)).bind fun r1 => chk (decide (0 ≤ v2 ∧ v2 < (v3.n : Int))) (chk (decide (v2.toNat < v3.n)) (W v1 (wr (v2 + (1 : Int))) (Vec.set v3 v2.toNat r1))))) (K0 v3)
noncomputable def F0 {ρ : Type} : Nat → YG → Int → YG → (YG → Option ρ) → Option ρ
  | 0, _, _, _, _ => none
  | k + 1, v1, v2, v3, K0 => B0 laws_toIntS.F v1 v2 v3 (fun v1' v2' v3' => F0 k v1' v2' v3' K0) K0
noncomputable def B {ρ : Type} (L0 : YG → Int → YG → (YG → Option ρ) → Option ρ) (a1 : Vec YI) (K : YG → Option ρ) : Option ρ :=
  chk (decide ((a1.n : Int) = (a1.n : Int) ∧ 0 ≤ (a1.n : Int))) (chk (mkOk (a1.n : Int) 24) (L0 a1 (0 : Int) (Vec.rep ((a1.n : Int).toNat) Vec.nil : Vec YI) (fun e01 => K e01)))
noncomputable def F (a1 : Vec YI) : Option YG := B (F0 fuelN) a1 (fun x1 => some (x1))
def encA (t : Vec YI) : LA := [vl t]
def encR (x : Vec YI) : AV × LO := (.c (.h 0), [ro x])
theorem ZA (a b) (h : encA a = encA b) : a = b := by simpa [encA, zA] using h
theorem ZB (a b) (h : encR a = encR b) : a = b := by simpa [encR, zA] using h
noncomputable def Q (args : LA) : Option YG := ofC encA (un1 F) args
theorem wrap : F = fun y1 => Q [vl y1] := by funext y1; exact Eq.symm (zD ZA _ (y1))
noncomputable abbrev O (Q0 : LA → Option YI) : Orc := mkO [qE 26 false laws_toIntS.encR Q0] [] []
noncomputable def c0 : Code := loopC (atomN [] 0 (zB Tryz.f76) 0)
def ct0 : Cut := ⟨[0, 3, 4], []⟩
def lv0 : Exit → Cut
  | .exit 0 => ⟨[3], []⟩
  | _ => ⟨[], []⟩
def k0_0 {ρ : Type} (K : Exit → St → Option ρ) (z1 : Vec YI) : Option ρ := K (.exit 0) (mkS 23 (lv0 (.exit 0)).live [.c (.h 0)] [ro z1] [])
noncomputable def L (W0 : (ρ : Type) → LA → LO → (YG → Option ρ) → Option ρ) : Lor := fun ρ j st K => sel (Nat.beq j 0) (cutO Tryz.prog 23 ct0.live 0 [] ct0.cmds st fun avs obs => W0 ρ avs obs (k0_0 K)) (Option.none)
theorem step0 {Q0 W0} {ρ : Type} {K : Exit → St → Option ρ} {W : LA → LO → Option ρ} {v1 v2 v3} : exC Tryz.prog (O Q0) (L W0) [] 1 c0 (mkS 23 ct0.live [vl v1, .c (.h 0), vi v2] [ro v3] []) (bodyK Tryz.prog 23 0 [] ct0 W lv0 K) =
    B0 (fun y1 => Q0 [vl y1]) v1 v2 v3 (fun u1 u2 u3 => W [vl u1, .c (.h 0), vi u2] [ro u3]) (k0_0 K) := by kernel_rfl
def enc0 (t : Vec YI × Int × Vec YI) : LA × LO := ([vl t.1, .c (.h 0), vi t.2.1], [ro t.2.2])
theorem enc0I (a b) (h : enc0 a = enc0 b) : a = b := by simp [enc0, zA] at h; simp [Prod.ext_iff, h]
noncomputable def V0 : (ρ : Type) → LA → LO → (YG → Option ρ) → Option ρ := fun ρ avs obs k0 => ofC enc0 (fun t => un3 (F0 fuelN) t k0) (avs, obs)
theorem zG (ρ : Type) : F0 fuelN = fun w1 w2 w3 k0 => V0 ρ [vl w1, .c (.h 0), vi w2] [ro w3] k0 := by funext w1 w2 w3 k0; exact Eq.symm (zD enc0I _ (w1, w2, w3))
theorem main {Q0 W0} {ρ : Type} {K : AV → LO → Option ρ} {a1} : exC Tryz.prog (O Q0) (L W0) [] 0 (zB Tryz.f76) (entry 23 [vl a1] [] []) (finO Tryz.prog Tryz.f76.results.toList 0 [] [] K) =
    B (fun w1 w2 w3 k0 => W0 ρ [vl w1, .c (.h 0), vi w2] [ro w3] k0) a1 (fun x1 => K (.c (.h 0)) [ro x1]) := by kernel_rfl
theorem Gok : (O laws_toIntS.Q).ok Tryz.prog := zH (by exact ⟨qE_ok laws_toIntS.ac, trivial⟩) (by exact trivial)
theorem ok0 : OkL Tryz.prog (L V0) 0 (.loop c0) := fun ρ st K r h => zJ (ct := ct0) (lv := lv0) (L := (L V0)) Gok hmT (by rw [show zE [] 1 c0 = [] by kernel_rfl]; exact Lor.zF _ _) enc0I (fun k t => un3 (F0 k) t (k0_0 K)) (fun t => rfl) (fun k t => by refine step0.trans ?_; rw [← laws_toIntS.wrap]; exact congrFun (congrArg (B0 _ _ _ _) (fx3 fun t => zD enc0I _ t)) _) (fun _ => fuelN) h
theorem e : zE [] 0 (zB Tryz.f76) = [(0, 0, .loop c0)] := by kernel_rfl
theorem acc : ∀ t x, un1 F t = some x → ACc Tryz.prog 76 (encA t) [] true [] fun rv obs => (rv, obs) = encR x := accT (T := Vec YI) (F := un1 F) (L := (L V0)) (cmds := []) (body := (zB Tryz.f76)) Gok hmT Tryz.func76 (by kernel_rfl) (by kernel_rfl) (by rw [e]; exact Lor.zI ok0 (Lor.zF _ _)) (fun t => by refine main.trans ?_; rw [← zG]; exact congrArg (B _ _) (fx1 fun t => zD ZB some t))
theorem ac : ∀ a x, Q a = some x → AC Tryz.prog 76 a [] false [] fun rv obs => (rv, obs) = encR x := acF (body := (zB Tryz.f76)) Tryz.func76 (by kernel_rfl) (by kernel_rfl) acc fun x => ⟨by simp [encR, AV.Flat, K.Flat, C.Flat], flc (zN rfl _) (fl0)⟩
end laws_toIntSS
namespace laws_toBody
noncomputable def B {ρ : Type} (C0 : YI → Option YI) (a1 : ByteArray) (a2 : Int) (a3 : Int) (a4 : YI) (K : ByteArray → Int → Int → YI → Option ρ) : Option ρ :=
  (C0 a4).bind fun r1 => K a1 a2 a3 r1
noncomputable def F (a1 : ByteArray) (a2 : Int) (a3 : Int) (a4 : YI) : Option (ByteArray × Int × Int × YI) := B laws_toIntS.F a1 a2 a3 a4 (fun x1 x2 x3 x4 => some (x1, x2, x3, x4))
def encA (t : ByteArray × Int × Int × YI) : LA := [.a [cs t.1, ci t.2.1, ci t.2.2.1, cl t.2.2.2]]
def encR (x : ByteArray × Int × Int × YI) : AV × LO := (.a [cs x.1, ci x.2.1, ci x.2.2.1, .h 0], [ro x.2.2.2])
theorem ZA (a b) (h : encA a = encA b) : a = b := by simp [encA, zA] at h; simp [Prod.ext_iff, h]
theorem ZB (a b) (h : encR a = encR b) : a = b := by simp [encR, zA] at h; simp [Prod.ext_iff, h]
noncomputable def Q (args : LA) : Option (ByteArray × Int × Int × YI) := ofC encA (un4 F) args
theorem wrap : F = fun y1 y2 y3 y4 => Q [.a [cs y1, ci y2, ci y3, cl y4]] := by funext y1 y2 y3 y4; exact Eq.symm (zD ZA _ (y1, y2, y3, y4))
noncomputable abbrev O (Q0 : LA → Option YI) : Orc := mkO [qE 26 false laws_toIntS.encR Q0] [] []
noncomputable def L : Lor := fun _ _ _ _ => Option.none
theorem main {Q0} {ρ : Type} {K : AV → LO → Option ρ} {a1 a2 a3 a4} : exC Tryz.prog (O Q0) L [] 0 (zB Tryz.f207) (entry 18 [.a [cs a1, ci a2, ci a3, cl a4]] [] []) (finO Tryz.prog Tryz.f207.results.toList 0 [] [] K) =
    B (fun y1 => Q0 [vl y1]) a1 a2 a3 a4 (fun x1 x2 x3 x4 => K (.a [cs x1, ci x2, ci x3, .h 0]) [ro x4]) := by kernel_rfl
theorem Gok : (O laws_toIntS.Q).ok Tryz.prog := zH (by exact ⟨qE_ok laws_toIntS.ac, trivial⟩) (by exact trivial)
theorem acc : ∀ t x, un4 F t = some x → ACc Tryz.prog 207 (encA t) [] true [] fun rv obs => (rv, obs) = encR x := accT (T := ByteArray × Int × Int × YI) (F := un4 F) (L := L) (cmds := []) (body := (zB Tryz.f207)) Gok hmT Tryz.func207 (by kernel_rfl) (by kernel_rfl) (by rw [show zE [] 0 (zB Tryz.f207) = [] by kernel_rfl]; exact Lor.zF _ _) (fun t => by refine main.trans ?_; rw [← laws_toIntS.wrap]; exact congrArg (B _ _ _ _ _) (fx4 fun t => zD ZB some t))
theorem ac : ∀ a x, Q a = some x → AC Tryz.prog 207 a [] false [] fun rv obs => (rv, obs) = encR x := acF (body := (zB Tryz.f207)) Tryz.func207 (by kernel_rfl) (by kernel_rfl) acc fun x => ⟨by simp [encR, AV.Flat, K.Flat, C.Flat], flc (zN rfl _) (fl0)⟩
end laws_toBody
namespace laws_toBodyS
noncomputable def B0 {ρ : Type} (C0 : ByteArray → Int → Int → YI → Option (ByteArray × Int × Int × YI)) (v1 : Vec YB) (v2 : Int) (v3 : Vec YB) (W : YVB → Int → YVB → Option ρ) (K0 : YVB → Option ρ) : Option ρ :=
  sel (decide (v2 < (v1.n : Int))) (chk (decide (0 ≤ v2 ∧ v2 < (v1.n : Int))) ((C0 ((v1.g v2.toNat).1) ((v1.g v2.toNat).2.1) ((v1.g v2.toNat).2.2.1) ((v1.g v2.toNat).2.2.2)).bind fun r1 => chk (decide (0 ≤ v2 ∧ v2 < (v3.n : Int))) (chk (decide (v2.toNat < v3.n)) (W v1 (wr (v2 + (1 : Int))) (Vec.set v3 v2.toNat (r1.1, r1.2.1, r1.2.2.1, r1.2.2.2)))))) (K0 v3)
noncomputable def F0 {ρ : Type} : Nat → YVB → Int → YVB → (YVB → Option ρ) → Option ρ
  | 0, _, _, _, _ => none
  | k + 1, v1, v2, v3, K0 => B0 laws_toBody.F v1 v2 v3 (fun v1' v2' v3' => F0 k v1' v2' v3' K0) K0
noncomputable def B {ρ : Type} (L0 : YVB → Int → YVB → (YVB → Option ρ) → Option ρ) (a1 : Vec YB) (K : YVB → Option ρ) : Option ρ :=
  chk (decide ((a1.n : Int) = (a1.n : Int) ∧ 0 ≤ (a1.n : Int))) (chk (mkOk (a1.n : Int) 56) (L0 a1 (0 : Int) (Vec.rep ((a1.n : Int).toNat) (ByteArray.empty, (0 : Int), (0 : Int), Vec.nil) : Vec YB) (fun e01 => K e01)))
noncomputable def F (a1 : Vec YB) : Option YVB := B (F0 fuelN) a1 (fun x1 => some (x1))
def encA (t : Vec YB) : LA := [vl t]
def encR (x : Vec YB) : AV × LO := (.c (.h 0), [ro x])
theorem ZA (a b) (h : encA a = encA b) : a = b := by simpa [encA, zA] using h
theorem ZB (a b) (h : encR a = encR b) : a = b := by simpa [encR, zA] using h
noncomputable def Q (args : LA) : Option YVB := ofC encA (un1 F) args
theorem wrap : F = fun y1 => Q [vl y1] := by funext y1; exact Eq.symm (zD ZA _ (y1))
noncomputable abbrev O (Q0 : LA → Option (ByteArray × Int × Int × YI)) : Orc := mkO [qE 207 false laws_toBody.encR Q0] [] []
noncomputable def c0 : Code := loopC (atomN [] 0 (zB Tryz.f172) 0)
def ct0 : Cut := ⟨[0, 3, 4], []⟩
def lv0 : Exit → Cut
  | .exit 0 => ⟨[3], []⟩
  | _ => ⟨[], []⟩
def k0_0 {ρ : Type} (K : Exit → St → Option ρ) (z1 : Vec YB) : Option ρ := K (.exit 0) (mkS 23 (lv0 (.exit 0)).live [.c (.h 0)] [ro z1] [])
noncomputable def L (W0 : (ρ : Type) → LA → LO → (YVB → Option ρ) → Option ρ) : Lor := fun ρ j st K => sel (Nat.beq j 0) (cutO Tryz.prog 23 ct0.live 0 [] ct0.cmds st fun avs obs => W0 ρ avs obs (k0_0 K)) (Option.none)
theorem step0 {Q0 W0} {ρ : Type} {K : Exit → St → Option ρ} {W : LA → LO → Option ρ} {v1 v2 v3} : exC Tryz.prog (O Q0) (L W0) [] 1 c0 (mkS 23 ct0.live [vl v1, .c (.h 0), vi v2] [ro v3] []) (bodyK Tryz.prog 23 0 [] ct0 W lv0 K) =
    B0 (fun y1 y2 y3 y4 => Q0 [.a [cs y1, ci y2, ci y3, cl y4]]) v1 v2 v3 (fun u1 u2 u3 => W [vl u1, .c (.h 0), vi u2] [ro u3]) (k0_0 K) := by kernel_rfl
def enc0 (t : YVB × Int × YVB) : LA × LO := ([vl t.1, .c (.h 0), vi t.2.1], [ro t.2.2])
theorem enc0I (a b) (h : enc0 a = enc0 b) : a = b := by simp [enc0, zA] at h; simp [Prod.ext_iff, h]
noncomputable def V0 : (ρ : Type) → LA → LO → (YVB → Option ρ) → Option ρ := fun ρ avs obs k0 => ofC enc0 (fun t => un3 (F0 fuelN) t k0) (avs, obs)
theorem zG (ρ : Type) : F0 fuelN = fun w1 w2 w3 k0 => V0 ρ [vl w1, .c (.h 0), vi w2] [ro w3] k0 := by funext w1 w2 w3 k0; exact Eq.symm (zD enc0I _ (w1, w2, w3))
theorem main {Q0 W0} {ρ : Type} {K : AV → LO → Option ρ} {a1} : exC Tryz.prog (O Q0) (L W0) [] 0 (zB Tryz.f172) (entry 23 [vl a1] [] []) (finO Tryz.prog Tryz.f172.results.toList 0 [] [] K) =
    B (fun w1 w2 w3 k0 => W0 ρ [vl w1, .c (.h 0), vi w2] [ro w3] k0) a1 (fun x1 => K (.c (.h 0)) [ro x1]) := by kernel_rfl
theorem Gok : (O laws_toBody.Q).ok Tryz.prog := zH (by exact ⟨qE_ok laws_toBody.ac, trivial⟩) (by exact trivial)
theorem ok0 : OkL Tryz.prog (L V0) 0 (.loop c0) := fun ρ st K r h => zJ (ct := ct0) (lv := lv0) (L := (L V0)) Gok hmT (by rw [show zE [] 1 c0 = [] by kernel_rfl]; exact Lor.zF _ _) enc0I (fun k t => un3 (F0 k) t (k0_0 K)) (fun t => rfl) (fun k t => by refine step0.trans ?_; rw [← laws_toBody.wrap]; exact congrFun (congrArg (B0 _ _ _ _) (fx3 fun t => zD enc0I _ t)) _) (fun _ => fuelN) h
theorem e : zE [] 0 (zB Tryz.f172) = [(0, 0, .loop c0)] := by kernel_rfl
theorem acc : ∀ t x, un1 F t = some x → ACc Tryz.prog 172 (encA t) [] true [] fun rv obs => (rv, obs) = encR x := accT (T := Vec YB) (F := un1 F) (L := (L V0)) (cmds := []) (body := (zB Tryz.f172)) Gok hmT Tryz.func172 (by kernel_rfl) (by kernel_rfl) (by rw [e]; exact Lor.zI ok0 (Lor.zF _ _)) (fun t => by refine main.trans ?_; rw [← zG]; exact congrArg (B _ _) (fx1 fun t => zD ZB some t))
theorem ac : ∀ a x, Q a = some x → AC Tryz.prog 172 a [] false [] fun rv obs => (rv, obs) = encR x := acF (body := (zB Tryz.f172)) Tryz.func172 (by kernel_rfl) (by kernel_rfl) acc fun x => ⟨by simp [encR, AV.Flat, K.Flat, C.Flat], flc (zN rfl _) (fl0)⟩
end laws_toBodyS
namespace laws_toWeave
noncomputable def B {ρ : Type} (C0 : YG → Option YG) (C1 : YVB → Option YVB) (a1 : Vec YI) (a2 : Vec YB) (K : YG → YVB → Option ρ) : Option ρ :=
  (C0 a1).bind fun r1 => (C1 a2).bind fun r2 => K r1 r2
noncomputable def F (a1 : Vec YI) (a2 : Vec YB) : Option (Vec YI × YVB) := B laws_toIntSS.F laws_toBodyS.F a1 a2 (fun x1 x2 => some (x1, x2))
def encA (t : Vec YI × YVB) : LA := [.a [cl t.1, cl t.2]]
def encR (x : Vec YI × YVB) : AV × LO := (.a [.h 0, .h 1], [ro x.1, ro x.2])
theorem ZA (a b) (h : encA a = encA b) : a = b := by simp [encA, zA] at h; simp [Prod.ext_iff, h]
theorem ZB (a b) (h : encR a = encR b) : a = b := by simp [encR, zA] at h; simp [Prod.ext_iff, h]
noncomputable def Q (args : LA) : Option (Vec YI × YVB) := ofC encA (un2 F) args
theorem wrap : F = fun y1 y2 => Q [.a [cl y1, cl y2]] := by funext y1 y2; exact Eq.symm (zD ZA _ (y1, y2))
noncomputable abbrev O (Q0 : LA → Option YG) (Q1 : LA → Option YVB) : Orc := mkO [qE 76 false laws_toIntSS.encR Q0, qE 172 false laws_toBodyS.encR Q1] [] []
noncomputable def L : Lor := fun _ _ _ _ => Option.none
theorem main {Q0 Q1} {ρ : Type} {K : AV → LO → Option ρ} {a1 a2} : exC Tryz.prog (O Q0 Q1) L [] 0 (zB Tryz.f110) (entry 13 [.a [cl a1, cl a2]] [] []) (finO Tryz.prog Tryz.f110.results.toList 0 [] [] K) =
    B (fun y1 => Q0 [vl y1]) (fun y1 => Q1 [vl y1]) a1 a2 (fun x1 x2 => K (.a [.h 0, .h 1]) [ro x1, ro x2]) := by kernel_rfl
theorem Gok : (O laws_toIntSS.Q laws_toBodyS.Q).ok Tryz.prog := zH (by exact ⟨qE_ok laws_toIntSS.ac, qE_ok laws_toBodyS.ac, trivial⟩) (by exact trivial)
theorem acc : ∀ t x, un2 F t = some x → ACc Tryz.prog 110 (encA t) [] true [] fun rv obs => (rv, obs) = encR x := accT (T := Vec YI × YVB) (F := un2 F) (L := L) (cmds := []) (body := (zB Tryz.f110)) Gok hmT Tryz.func110 (by kernel_rfl) (by kernel_rfl) (by rw [show zE [] 0 (zB Tryz.f110) = [] by kernel_rfl]; exact Lor.zF _ _) (fun t => by refine main.trans ?_; rw [← laws_toIntSS.wrap, ← laws_toBodyS.wrap]; exact congrArg (B _ _ _ _) (fx2 fun t => zD ZB some t))
theorem ac : ∀ a x, Q a = some x → AC Tryz.prog 110 a [] false [] fun rv obs => (rv, obs) = encR x := acF (body := (zB Tryz.f110)) Tryz.func110 (by kernel_rfl) (by kernel_rfl) acc fun x => ⟨by simp [encR, AV.Flat, K.Flat, C.Flat], flc (zN rfl _) (flc (zN rfl _) (fl0))⟩
end laws_toWeave
namespace laws_eqIntSS
noncomputable def B0 {ρ : Type} (C0 : YI → YI → Option Bool) (v1 : Vec YI) (v2 : Vec YI) (v3 : Int) (W : YG → YG → Int → Option ρ) (K0 : Unit → Option ρ) (Kr : Bool → Option ρ) : Option ρ :=
  sel (decide (v3 < (v1.n : Int))) (chk (decide (0 ≤ v3 ∧ v3 < (v1.n : Int))) (chk (decide (0 ≤ v3 ∧ v3 < (v2.n : Int))) ((C0 (v1.g v3.toNat) (v2.g v3.toNat)).bind fun r1 => sel ((!r1)) (Kr false) (W v1 v2 (wr (v3 + (1 : Int))))))) (K0 ())
noncomputable def F0 {ρ : Type} : Nat → YG → YG → Int → (Unit → Option ρ) → (Bool → Option ρ) → Option ρ
  | 0, _, _, _, _, _ => none
  | k + 1, v1, v2, v3, K0, Kr => B0 laws_eqIntS.F v1 v2 v3 (fun v1' v2' v3' => F0 k v1' v2' v3' K0 Kr) K0 Kr
noncomputable def B {ρ : Type} (L0 : YG → YG → Int → (Unit → Option ρ) → (Bool → Option ρ) → Option ρ) (a1 : Vec YI) (a2 : Vec YI) (K : Bool → Option ρ) : Option ρ :=
  sel ((!decide ((a1.n : Int) = (a2.n : Int)))) (K false) (L0 a1 a2 (0 : Int) (fun _ => K true) (fun x01 => K x01))
noncomputable def F (a1 : Vec YI) (a2 : Vec YI) : Option Bool := B (F0 fuelN) a1 a2 (fun x1 => some (x1))
def encA (t : Vec YI × Vec YI) : LA := [vl t.1, vl t.2]
def encR (x : Bool) : AV × LO := (vb x, [])
theorem ZA (a b) (h : encA a = encA b) : a = b := by simp [encA, zA] at h; simp [Prod.ext_iff, h]
theorem ZB (a b) (h : encR a = encR b) : a = b := by simpa [encR, zA] using h
noncomputable def Q (args : LA) : Option Bool := ofC encA (un2 F) args
theorem wrap : F = fun y1 y2 => Q [vl y1, vl y2] := by funext y1 y2; exact Eq.symm (zD ZA _ (y1, y2))
noncomputable abbrev O (Q0 : LA → Option Bool) : Orc := mkO [qE 29 false laws_eqIntS.encR Q0] [] []
noncomputable def c0 : Code := loopC (atomN [] 0 (zB Tryz.f82) 0)
def ct0 : Cut := ⟨[0, 1, 5], []⟩
def lv0 : Exit → Cut
  | .exit 0 => ⟨[], []⟩
  | .ret => ⟨[4], []⟩
  | _ => ⟨[], []⟩
def k0_0 {ρ : Type} (K : Exit → St → Option ρ) (_ : Unit) : Option ρ := K (.exit 0) (mkS 27 (lv0 (.exit 0)).live [] [] [])
def k0_r {ρ : Type} (K : Exit → St → Option ρ) (z1 : Bool) : Option ρ := K .ret (mkS 27 (lv0 .ret).live [vb z1] [] [])
noncomputable def L (W0 : (ρ : Type) → LA → LO → (Unit → Option ρ) → (Bool → Option ρ) → Option ρ) : Lor := fun ρ j st K => sel (Nat.beq j 0) (cutO Tryz.prog 27 ct0.live 0 [] ct0.cmds st fun avs obs => W0 ρ avs obs (k0_0 K) (k0_r K)) (Option.none)
theorem step0 {Q0 W0} {ρ : Type} {K : Exit → St → Option ρ} {W : LA → LO → Option ρ} {v1 v2 v3} : exC Tryz.prog (O Q0) (L W0) [] 1 c0 (mkS 27 ct0.live [vl v1, vl v2, vi v3] [] []) (bodyK Tryz.prog 27 0 [] ct0 W lv0 K) =
    B0 (fun y1 y2 => Q0 [vl y1, vl y2]) v1 v2 v3 (fun u1 u2 u3 => W [vl u1, vl u2, vi u3] []) (k0_0 K) (k0_r K) := by kernel_rfl
def enc0 (t : Vec YI × Vec YI × Int) : LA × LO := ([vl t.1, vl t.2.1, vi t.2.2], [])
theorem enc0I (a b) (h : enc0 a = enc0 b) : a = b := by simp [enc0, zA] at h; simp [Prod.ext_iff, h]
noncomputable def V0 : (ρ : Type) → LA → LO → (Unit → Option ρ) → (Bool → Option ρ) → Option ρ := fun ρ avs obs k0 kr => ofC enc0 (fun t => un3 (F0 fuelN) t k0 kr) (avs, obs)
theorem zG (ρ : Type) : F0 fuelN = fun w1 w2 w3 k0 kr => V0 ρ [vl w1, vl w2, vi w3] [] k0 kr := by funext w1 w2 w3 k0 kr; exact Eq.symm (zD enc0I _ (w1, w2, w3))
theorem main {Q0 W0} {ρ : Type} {K : AV → LO → Option ρ} {a1 a2} : exC Tryz.prog (O Q0) (L W0) [] 0 (zB Tryz.f82) (entry 27 [vl a1, vl a2] [] []) (finO Tryz.prog Tryz.f82.results.toList 0 [] [] K) =
    B (fun w1 w2 w3 k0 kr => W0 ρ [vl w1, vl w2, vi w3] [] k0 kr) a1 a2 (fun x1 => K (vb x1) []) := by kernel_rfl
theorem Gok : (O laws_eqIntS.Q).ok Tryz.prog := zH (by exact ⟨qE_ok laws_eqIntS.ac, trivial⟩) (by exact trivial)
theorem ok0 : OkL Tryz.prog (L V0) 0 (.loop c0) := fun ρ st K r h => zJ (ct := ct0) (lv := lv0) (L := (L V0)) Gok hmT (by rw [show zE [] 1 c0 = [] by kernel_rfl]; exact Lor.zF _ _) enc0I (fun k t => un3 (F0 k) t (k0_0 K) (k0_r K)) (fun t => rfl) (fun k t => by refine step0.trans ?_; rw [← laws_eqIntS.wrap]; exact congrFun (congrFun (congrArg (B0 _ _ _ _) (fx3 fun t => zD enc0I _ t)) _) _) (fun _ => fuelN) h
theorem e : zE [] 0 (zB Tryz.f82) = [(0, 0, .loop c0)] := by kernel_rfl
theorem acc : ∀ t x, un2 F t = some x → ACc Tryz.prog 82 (encA t) [] true [] fun rv obs => (rv, obs) = encR x := accT (T := Vec YI × Vec YI) (F := un2 F) (L := (L V0)) (cmds := []) (body := (zB Tryz.f82)) Gok hmT Tryz.func82 (by kernel_rfl) (by kernel_rfl) (by rw [e]; exact Lor.zI ok0 (Lor.zF _ _)) (fun t => by refine main.trans ?_; rw [← zG]; exact congrArg (B _ _ _) (fx1 fun t => zD ZB some t))
theorem ac : ∀ a x, Q a = some x → AC Tryz.prog 82 a [] false [] fun rv obs => (rv, obs) = encR x := acF (body := (zB Tryz.f82)) Tryz.func82 (by kernel_rfl) (by kernel_rfl) acc fun x => ⟨by simp [encR, AV.Flat, K.Flat, C.Flat], fl0⟩
end laws_eqIntSS
namespace laws_eqBody
noncomputable def B {ρ : Type} (C0 : YI → YI → Option Bool) (a1 : ByteArray) (a2 : Int) (a3 : Int) (a4 : YI) (a5 : ByteArray) (a6 : Int) (a7 : Int) (a8 : YI) (K : Bool → Option ρ) : Option ρ :=
  sel ((!decide (a1 = a5))) (K false) (sel ((!decide (a2 = a6))) (K false) (sel ((!decide (a3 = a7))) (K false) ((C0 a4 a8).bind fun r1 => sel ((!r1)) (K false) (K true))))
noncomputable def F (a1 : ByteArray) (a2 : Int) (a3 : Int) (a4 : YI) (a5 : ByteArray) (a6 : Int) (a7 : Int) (a8 : YI) : Option Bool := B laws_eqIntS.F a1 a2 a3 a4 a5 a6 a7 a8 (fun x1 => some (x1))
def encA (t : ByteArray × Int × Int × YI × ByteArray × Int × Int × YI) : LA := [.a [cs t.1, ci t.2.1, ci t.2.2.1, cl t.2.2.2.1], .a [cs t.2.2.2.2.1, ci t.2.2.2.2.2.1, ci t.2.2.2.2.2.2.1, cl t.2.2.2.2.2.2.2]]
def encR (x : Bool) : AV × LO := (vb x, [])
theorem ZA (a b) (h : encA a = encA b) : a = b := by simp [encA, zA] at h; simp [Prod.ext_iff, h]
theorem ZB (a b) (h : encR a = encR b) : a = b := by simpa [encR, zA] using h
noncomputable def Q (args : LA) : Option Bool := ofC encA (un8 F) args
theorem wrap : F = fun y1 y2 y3 y4 y5 y6 y7 y8 => Q [.a [cs y1, ci y2, ci y3, cl y4], .a [cs y5, ci y6, ci y7, cl y8]] := by funext y1 y2 y3 y4 y5 y6 y7 y8; exact Eq.symm (zD ZA _ (y1, y2, y3, y4, y5, y6, y7, y8))
noncomputable abbrev O (Q0 : LA → Option Bool) : Orc := mkO [qE 29 false laws_eqIntS.encR Q0] [] []
noncomputable def L : Lor := fun _ _ _ _ => Option.none
theorem main {Q0} {ρ : Type} {K : AV → LO → Option ρ} {a1 a2 a3 a4 a5 a6 a7 a8} : exC Tryz.prog (O Q0) L [] 0 (zB Tryz.f208) (entry 26 [.a [cs a1, ci a2, ci a3, cl a4], .a [cs a5, ci a6, ci a7, cl a8]] [] []) (finO Tryz.prog Tryz.f208.results.toList 0 [] [] K) =
    B (fun y1 y2 => Q0 [vl y1, vl y2]) a1 a2 a3 a4 a5 a6 a7 a8 (fun x1 => K (vb x1) []) := by kernel_rfl
theorem Gok : (O laws_eqIntS.Q).ok Tryz.prog := zH (by exact ⟨qE_ok laws_eqIntS.ac, trivial⟩) (by exact trivial)
theorem acc : ∀ t x, un8 F t = some x → ACc Tryz.prog 208 (encA t) [] true [] fun rv obs => (rv, obs) = encR x := accT (T := ByteArray × Int × Int × YI × ByteArray × Int × Int × YI) (F := un8 F) (L := L) (cmds := []) (body := (zB Tryz.f208)) Gok hmT Tryz.func208 (by kernel_rfl) (by kernel_rfl) (by rw [show zE [] 0 (zB Tryz.f208) = [] by kernel_rfl]; exact Lor.zF _ _) (fun t => by refine main.trans ?_; rw [← laws_eqIntS.wrap]; exact congrArg (B _ _ _ _ _ _ _ _ _) (fx1 fun t => zD ZB some t))
theorem ac : ∀ a x, Q a = some x → AC Tryz.prog 208 a [] false [] fun rv obs => (rv, obs) = encR x := acF (body := (zB Tryz.f208)) Tryz.func208 (by kernel_rfl) (by kernel_rfl) acc fun x => ⟨by simp [encR, AV.Flat, K.Flat, C.Flat], fl0⟩
end laws_eqBody
namespace laws_eqBodyS
noncomputable def B0 {ρ : Type} (C0 : ByteArray → Int → Int → YI → ByteArray → Int → Int → YI → Option Bool) (v1 : Vec YB) (v2 : Vec YB) (v3 : Int) (W : YVB → YVB → Int → Option ρ) (K0 : Unit → Option ρ) (Kr : Bool → Option ρ) : Option ρ :=
  sel (decide (v3 < (v1.n : Int))) (chk (decide (0 ≤ v3 ∧ v3 < (v1.n : Int))) (chk (decide (0 ≤ v3 ∧ v3 < (v2.n : Int))) ((C0 ((v1.g v3.toNat).1) ((v1.g v3.toNat).2.1) ((v1.g v3.toNat).2.2.1) ((v1.g v3.toNat).2.2.2) ((v2.g v3.toNat).1) ((v2.g v3.toNat).2.1) ((v2.g v3.toNat).2.2.1) ((v2.g v3.toNat).2.2.2)).bind fun r1 => sel ((!r1)) (Kr false) (W v1 v2 (wr (v3 + (1 : Int))))))) (K0 ())
noncomputable def F0 {ρ : Type} : Nat → YVB → YVB → Int → (Unit → Option ρ) → (Bool → Option ρ) → Option ρ
  | 0, _, _, _, _, _ => none
  | k + 1, v1, v2, v3, K0, Kr => B0 laws_eqBody.F v1 v2 v3 (fun v1' v2' v3' => F0 k v1' v2' v3' K0 Kr) K0 Kr
noncomputable def B {ρ : Type} (L0 : YVB → YVB → Int → (Unit → Option ρ) → (Bool → Option ρ) → Option ρ) (a1 : Vec YB) (a2 : Vec YB) (K : Bool → Option ρ) : Option ρ :=
  sel ((!decide ((a1.n : Int) = (a2.n : Int)))) (K false) (L0 a1 a2 (0 : Int) (fun _ => K true) (fun x01 => K x01))
noncomputable def F (a1 : Vec YB) (a2 : Vec YB) : Option Bool := B (F0 fuelN) a1 a2 (fun x1 => some (x1))
def encA (t : YVB × YVB) : LA := [vl t.1, vl t.2]
def encR (x : Bool) : AV × LO := (vb x, [])
theorem ZA (a b) (h : encA a = encA b) : a = b := by simp [encA, zA] at h; simp [Prod.ext_iff, h]
theorem ZB (a b) (h : encR a = encR b) : a = b := by simpa [encR, zA] using h
noncomputable def Q (args : LA) : Option Bool := ofC encA (un2 F) args
theorem wrap : F = fun y1 y2 => Q [vl y1, vl y2] := by funext y1 y2; exact Eq.symm (zD ZA _ (y1, y2))
noncomputable abbrev O (Q0 : LA → Option Bool) : Orc := mkO [qE 208 false laws_eqBody.encR Q0] [] []
noncomputable def c0 : Code := loopC (atomN [] 0 (zB Tryz.f177) 0)
def ct0 : Cut := ⟨[0, 1, 5], []⟩
def lv0 : Exit → Cut
  | .exit 0 => ⟨[], []⟩
  | .ret => ⟨[4], []⟩
  | _ => ⟨[], []⟩
def k0_0 {ρ : Type} (K : Exit → St → Option ρ) (_ : Unit) : Option ρ := K (.exit 0) (mkS 27 (lv0 (.exit 0)).live [] [] [])
def k0_r {ρ : Type} (K : Exit → St → Option ρ) (z1 : Bool) : Option ρ := K .ret (mkS 27 (lv0 .ret).live [vb z1] [] [])
noncomputable def L (W0 : (ρ : Type) → LA → LO → (Unit → Option ρ) → (Bool → Option ρ) → Option ρ) : Lor := fun ρ j st K => sel (Nat.beq j 0) (cutO Tryz.prog 27 ct0.live 0 [] ct0.cmds st fun avs obs => W0 ρ avs obs (k0_0 K) (k0_r K)) (Option.none)
theorem step0 {Q0 W0} {ρ : Type} {K : Exit → St → Option ρ} {W : LA → LO → Option ρ} {v1 v2 v3} : exC Tryz.prog (O Q0) (L W0) [] 1 c0 (mkS 27 ct0.live [vl v1, vl v2, vi v3] [] []) (bodyK Tryz.prog 27 0 [] ct0 W lv0 K) =
    B0 (fun y1 y2 y3 y4 y5 y6 y7 y8 => Q0 [.a [cs y1, ci y2, ci y3, cl y4], .a [cs y5, ci y6, ci y7, cl y8]]) v1 v2 v3 (fun u1 u2 u3 => W [vl u1, vl u2, vi u3] []) (k0_0 K) (k0_r K) := by kernel_rfl
def enc0 (t : YVB × YVB × Int) : LA × LO := ([vl t.1, vl t.2.1, vi t.2.2], [])
theorem enc0I (a b) (h : enc0 a = enc0 b) : a = b := by simp [enc0, zA] at h; simp [Prod.ext_iff, h]
noncomputable def V0 : (ρ : Type) → LA → LO → (Unit → Option ρ) → (Bool → Option ρ) → Option ρ := fun ρ avs obs k0 kr => ofC enc0 (fun t => un3 (F0 fuelN) t k0 kr) (avs, obs)
theorem zG (ρ : Type) : F0 fuelN = fun w1 w2 w3 k0 kr => V0 ρ [vl w1, vl w2, vi w3] [] k0 kr := by funext w1 w2 w3 k0 kr; exact Eq.symm (zD enc0I _ (w1, w2, w3))
theorem main {Q0 W0} {ρ : Type} {K : AV → LO → Option ρ} {a1 a2} : exC Tryz.prog (O Q0) (L W0) [] 0 (zB Tryz.f177) (entry 27 [vl a1, vl a2] [] []) (finO Tryz.prog Tryz.f177.results.toList 0 [] [] K) =
    B (fun w1 w2 w3 k0 kr => W0 ρ [vl w1, vl w2, vi w3] [] k0 kr) a1 a2 (fun x1 => K (vb x1) []) := by kernel_rfl
theorem Gok : (O laws_eqBody.Q).ok Tryz.prog := zH (by exact ⟨qE_ok laws_eqBody.ac, trivial⟩) (by exact trivial)
theorem ok0 : OkL Tryz.prog (L V0) 0 (.loop c0) := fun ρ st K r h => zJ (ct := ct0) (lv := lv0) (L := (L V0)) Gok hmT (by rw [show zE [] 1 c0 = [] by kernel_rfl]; exact Lor.zF _ _) enc0I (fun k t => un3 (F0 k) t (k0_0 K) (k0_r K)) (fun t => rfl) (fun k t => by refine step0.trans ?_; rw [← laws_eqBody.wrap]; exact congrFun (congrFun (congrArg (B0 _ _ _ _) (fx3 fun t => zD enc0I _ t)) _) _) (fun _ => fuelN) h
theorem e : zE [] 0 (zB Tryz.f177) = [(0, 0, .loop c0)] := by kernel_rfl
theorem acc : ∀ t x, un2 F t = some x → ACc Tryz.prog 177 (encA t) [] true [] fun rv obs => (rv, obs) = encR x := accT (T := YVB × YVB) (F := un2 F) (L := (L V0)) (cmds := []) (body := (zB Tryz.f177)) Gok hmT Tryz.func177 (by kernel_rfl) (by kernel_rfl) (by rw [e]; exact Lor.zI ok0 (Lor.zF _ _)) (fun t => by refine main.trans ?_; rw [← zG]; exact congrArg (B _ _ _) (fx1 fun t => zD ZB some t))
theorem ac : ∀ a x, Q a = some x → AC Tryz.prog 177 a [] false [] fun rv obs => (rv, obs) = encR x := acF (body := (zB Tryz.f177)) Tryz.func177 (by kernel_rfl) (by kernel_rfl) acc fun x => ⟨by simp [encR, AV.Flat, K.Flat, C.Flat], fl0⟩
end laws_eqBodyS
namespace laws_eqWeave
noncomputable def B {ρ : Type} (C0 : YG → YG → Option Bool) (C1 : YVB → YVB → Option Bool) (a1 : Vec YI) (a2 : Vec YB) (a3 : Vec YI) (a4 : Vec YB) (K : Bool → Option ρ) : Option ρ :=
  (C0 a1 a3).bind fun r1 => sel ((!r1)) (K false) ((C1 a2 a4).bind fun r2 => sel ((!r2)) (K false) (K true))
noncomputable def F (a1 : Vec YI) (a2 : Vec YB) (a3 : Vec YI) (a4 : Vec YB) : Option Bool := B laws_eqIntSS.F laws_eqBodyS.F a1 a2 a3 a4 (fun x1 => some (x1))
def encA (t : Vec YI × YVB × Vec YI × YVB) : LA := [.a [cl t.1, cl t.2.1], .a [cl t.2.2.1, cl t.2.2.2]]
def encR (x : Bool) : AV × LO := (vb x, [])
theorem ZA (a b) (h : encA a = encA b) : a = b := by simp [encA, zA] at h; simp [Prod.ext_iff, h]
theorem ZB (a b) (h : encR a = encR b) : a = b := by simpa [encR, zA] using h
noncomputable def Q (args : LA) : Option Bool := ofC encA (un4 F) args
theorem wrap : F = fun y1 y2 y3 y4 => Q [.a [cl y1, cl y2], .a [cl y3, cl y4]] := by funext y1 y2 y3 y4; exact Eq.symm (zD ZA _ (y1, y2, y3, y4))
noncomputable abbrev O (Q0 : LA → Option Bool) (Q1 : LA → Option Bool) : Orc := mkO [qE 82 false laws_eqIntSS.encR Q0, qE 177 false laws_eqBodyS.encR Q1] [] []
noncomputable def L : Lor := fun _ _ _ _ => Option.none
theorem main {Q0 Q1} {ρ : Type} {K : AV → LO → Option ρ} {a1 a2 a3 a4} : exC Tryz.prog (O Q0 Q1) L [] 0 (zB Tryz.f116) (entry 17 [.a [cl a1, cl a2], .a [cl a3, cl a4]] [] []) (finO Tryz.prog Tryz.f116.results.toList 0 [] [] K) =
    B (fun y1 y2 => Q0 [vl y1, vl y2]) (fun y1 y2 => Q1 [vl y1, vl y2]) a1 a2 a3 a4 (fun x1 => K (vb x1) []) := by kernel_rfl
theorem Gok : (O laws_eqIntSS.Q laws_eqBodyS.Q).ok Tryz.prog := zH (by exact ⟨qE_ok laws_eqIntSS.ac, qE_ok laws_eqBodyS.ac, trivial⟩) (by exact trivial)
theorem acc : ∀ t x, un4 F t = some x → ACc Tryz.prog 116 (encA t) [] true [] fun rv obs => (rv, obs) = encR x := accT (T := Vec YI × YVB × Vec YI × YVB) (F := un4 F) (L := L) (cmds := []) (body := (zB Tryz.f116)) Gok hmT Tryz.func116 (by kernel_rfl) (by kernel_rfl) (by rw [show zE [] 0 (zB Tryz.f116) = [] by kernel_rfl]; exact Lor.zF _ _) (fun t => by refine main.trans ?_; rw [← laws_eqIntSS.wrap, ← laws_eqBodyS.wrap]; exact congrArg (B _ _ _ _ _ _) (fx1 fun t => zD ZB some t))
theorem ac : ∀ a x, Q a = some x → AC Tryz.prog 116 a [] false [] fun rv obs => (rv, obs) = encR x := acF (body := (zB Tryz.f116)) Tryz.func116 (by kernel_rfl) (by kernel_rfl) acc fun x => ⟨by simp [encR, AV.Flat, K.Flat, C.Flat], fl0⟩
end laws_eqWeave
end Go.Al
