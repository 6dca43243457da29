import Derived.Test.YtahffnkphppgoaaGreatAlE
import Derived.Test.YtahffnkphppgoaaGreatSC
import Derived.Test.YtahffnkphppgoaaGreatGCom
set_option linter.unusedVariables false
set_option linter.unusedSimpArgs false
set_option linter.constructorNameAsVariable false
set_option linter.unusedSectionVars false
set_option maxRecDepth 100000
namespace Go.Al
open Go.Proofs
namespace laws_szIntS
noncomputable def B {ρ : Type} (a1 : YI) (a2 : Int) (K : Int → Option ρ) : Option ρ :=
  sel (decide ((wr (a2 - (a1.n : Int))) < (0 : Int))) (K (-1 : Int)) (K (wr (a2 - (a1.n : Int))))
noncomputable def F (a1 : YI) (a2 : Int) : Option Int := B a1 a2 (fun x1 => some (x1))
def encA (t : YI × Int) : LA := [vl t.1, vi t.2]
def encR (x : Int) : AV × LO := (vi x, [])
theorem ZA (a b) (h : encA a = encA b) : a = b := by simp [encA, zA] at h; simp [Prod.ext_iff, h]
theorem ZB (a b) (h : encR a = encR b) : a = b := by simpa [encR, zA] using h
noncomputable def Q (args : LA) : Option Int := ofC encA (un2 F) args
theorem wrap : F = fun y1 y2 => Q [vl y1, vi y2] := by funext y1 y2; exact Eq.symm (zD ZA _ (y1, y2))
noncomputable abbrev O : Orc := mkO [] [] []
noncomputable def L : Lor := fun _ _ _ _ => Option.none
theorem main {ρ : Type} {K : AV → LO → Option ρ} {a1 a2} : exC Tryz.prog O L [] 0 (zB Tryz.f132) (entry 12 [vl a1, vi a2] [] []) (finO Tryz.prog Tryz.f132.results.toList 0 [] [] K) =
    B a1 a2 (fun x1 => K (vi x1) []) := by kernel_rfl
theorem Gok : O.ok Tryz.prog := zH (by exact trivial) (by exact trivial)
theorem acc : ∀ t x, un2 F t = some x → ACc Tryz.prog 132 (encA t) [] true [] fun rv obs => (rv, obs) = encR x := accT (T := YI × Int) (F := un2 F) (L := L) (cmds := []) (body := (zB Tryz.f132)) Gok hmT Tryz.func132 (by kernel_rfl) (by kernel_rfl) (by rw [show zE [] 0 (zB Tryz.f132) = [] by kernel_rfl]; exact Lor.zF _ _) (fun t => by refine main.trans ?_; exact congrArg (B _ _) (fx1 fun t => zD ZB some t))
theorem ac : ∀ a x, Q a = some x → AC Tryz.prog 132 a [] false [] fun rv obs => (rv, obs) = encR x := acF (body := (zB Tryz.f132)) Tryz.func132 (by kernel_rfl) (by kernel_rfl) acc fun x => ⟨by simp [encR, AV.Flat, K.Flat, C.Flat], fl0⟩
end laws_szIntS
namespace laws_szName
noncomputable def B {ρ : Type} (a1 : ByteArray) (a2 : Int) (a3 : Int) (a4 : Int) (K : Int → Option ρ) : Option ρ :=
  sel (decide ((wr (a4 - (a1.size : Int))) < (0 : Int))) (K (-1 : Int)) (K (wr (a4 - (a1.size : Int))))
noncomputable def F (a1 : ByteArray) (a2 : Int) (a3 : Int) (a4 : Int) : Option Int := B a1 a2 a3 a4 (fun x1 => some (x1))
def encA (t : ByteArray × Int × Int × Int) : LA := [.a [cs t.1, ci t.2.1, ci t.2.2.1], vi t.2.2.2]
def encR (x : Int) : AV × LO := (vi x, [])
theorem ZA (a b) (h : encA a = encA b) : a = b := by simp [encA, zA] at h; simp [Prod.ext_iff, h]
theorem ZB (a b) (h : encR a = encR b) : a = b := by simpa [encR, zA] using h
noncomputable def Q (args : LA) : Option Int := ofC encA (un4 F) args
theorem wrap : F = fun y1 y2 y3 y4 => Q [.a [cs y1, ci y2, ci y3], vi y4] := by funext y1 y2 y3 y4; exact Eq.symm (zD ZA _ (y1, y2, y3, y4))
noncomputable abbrev O : Orc := mkO [] [] []
noncomputable def L : Lor := fun _ _ _ _ => Option.none
theorem main {ρ : Type} {K : AV → LO → Option ρ} {a1 a2 a3 a4} : exC Tryz.prog O L [] 0 (zB Tryz.f185) (entry 13 [.a [cs a1, ci a2, ci a3], vi a4] [] []) (finO Tryz.prog Tryz.f185.results.toList 0 [] [] K) =
    B a1 a2 a3 a4 (fun x1 => K (vi x1) []) := by kernel_rfl
theorem Gok : O.ok Tryz.prog := zH (by exact trivial) (by exact trivial)
theorem acc : ∀ t x, un4 F t = some x → ACc Tryz.prog 185 (encA t) [] true [] fun rv obs => (rv, obs) = encR x := accT (T := ByteArray × Int × Int × Int) (F := un4 F) (L := L) (cmds := []) (body := (zB Tryz.f185)) Gok hmT Tryz.func185 (by kernel_rfl) (by kernel_rfl) (by rw [show zE [] 0 (zB Tryz.f185) = [] by kernel_rfl]; exact Lor.zF _ _) (fun t => by refine main.trans ?_; exact congrArg (B _ _ _ _) (fx1 fun t => zD ZB some t))
theorem ac : ∀ a x, Q a = some x → AC Tryz.prog 185 a [] false [] fun rv obs => (rv, obs) = encR x := acF (body := (zB Tryz.f185)) Tryz.func185 (by kernel_rfl) (by kernel_rfl) acc fun x => ⟨by simp [encR, AV.Flat, K.Flat, C.Flat], fl0⟩
end laws_szName
namespace laws_szNameS
noncomputable def B0 {ρ : Type} (C0 : ByteArray → Int → Int → Int → Option Int) (v1 : Vec YN) (v2 : Int) (v3 : Int) (W : YVN → Int → Int → Option ρ) (K0 : Int → Option ρ) (Kr : Int → Option ρ) : Option ρ :=
  sel (decide (v3 < (v1.n : Int))) (chk (decide (0 ≤ v3 ∧ v3 < (v1.n : Int))) ((C0 ((v1.g v3.toNat).1) ((v1.g v3.toNat).2.1) ((v1.g v3.toNat).2.2) v2).bind fun r1 => sel (decide (r1 < (0 : Int))) (Kr (-1 : Int)) (W v1 r1 (wr (v3 + (1 : Int)))))) (K0 v2)
noncomputable def F0 {ρ : Type} : Nat → YVN → Int → Int → (Int → Option ρ) → (Int → Option ρ) → Option ρ
  | 0, _, _, _, _, _ => none
  | k + 1, v1, v2, v3, K0, Kr => B0 laws_szName.F v1 v2 v3 (fun v1' v2' v3' => F0 k v1' v2' v3' K0 Kr) K0 Kr
noncomputable def B {ρ : Type} (L0 : YVN → Int → Int → (Int → Option ρ) → (Int → Option ρ) → Option ρ) (a1 : Vec YN) (a2 : Int) (K : Int → Option ρ) : Option ρ :=
  sel (decide ((wr (a2 - (a1.n : Int))) < (0 : Int))) (K (-1 : Int)) (L0 a1 (wr (a2 - (a1.n : Int))) (0 : Int) (fun e01 => K e01) (fun x01 => K x01))
noncomputable def F (a1 : Vec YN) (a2 : Int) : Option Int := B (F0 fuelN) a1 a2 (fun x1 => some (x1))
def encA (t : YVN × Int) : LA := [vl t.1, vi t.2]
def encR (x : Int) : AV × LO := (vi x, [])
theorem ZA (a b) (h : encA a = encA b) : a = b := by simp [encA, zA] at h; simp [Prod.ext_iff, h]
theorem ZB (a b) (h : encR a = encR b) : a = b := by simpa [encR, zA] using h
noncomputable def Q (args : LA) : Option Int := ofC encA (un2 F) args
theorem wrap : F = fun y1 y2 => Q [vl y1, vi y2] := by funext y1 y2; exact Eq.symm (zD ZA _ (y1, y2))
noncomputable abbrev O (Q0 : LA → Option Int) : Orc := mkO [qE 185 false laws_szName.encR Q0] [] []
noncomputable def c0 : Code := loopC (atomN [] 0 (zB Tryz.f133) 0)
def ct0 : Cut := ⟨[0, 1, 5], []⟩
def lv0 : Exit → Cut
  | .exit 0 => ⟨[1], []⟩
  | .ret => ⟨[4], []⟩
  | _ => ⟨[], []⟩
def k0_0 {ρ : Type} (K : Exit → St → Option ρ) (z1 : Int) : Option ρ := K (.exit 0) (mkS 27 (lv0 (.exit 0)).live [vi z1] [] [])
def k0_r {ρ : Type} (K : Exit → St → Option ρ) (z1 : Int) : Option ρ := K .ret (mkS 27 (lv0 .ret).live [vi z1] [] [])
noncomputable def L (W0 : (ρ : Type) → LA → LO → (Int → Option ρ) → (Int → Option ρ) → Option ρ) : Lor := fun ρ j st K => sel (Nat.beq j 0) (cutO Tryz.prog 27 ct0.live 0 [] ct0.cmds st fun avs obs => W0 ρ avs obs (k0_0 K) (k0_r K)) (Option.none)
theorem step0 {Q0 W0} {ρ : Type} {K : Exit → St → Option ρ} {W : LA → LO → Option ρ} {v1 v2 v3} : exC Tryz.prog (O Q0) (L W0) [] 1 c0 (mkS 27 ct0.live [vl v1, vi v2, vi v3] [] []) (bodyK Tryz.prog 27 0 [] ct0 W lv0 K) =
    B0 (fun y1 y2 y3 y4 => Q0 [.a [cs y1, ci y2, ci y3], vi y4]) v1 v2 v3 (fun u1 u2 u3 => W [vl u1, vi u2, vi u3] []) (k0_0 K) (k0_r K) := by kernel_rfl
def enc0 (t : YVN × Int × Int) : LA × LO := ([vl t.1, vi t.2.1, vi t.2.2], [])
theorem enc0I (a b) (h : enc0 a = enc0 b) : a = b := by simp [enc0, zA] at h; simp [Prod.ext_iff, h]
noncomputable def V0 : (ρ : Type) → LA → LO → (Int → Option ρ) → (Int → Option ρ) → Option ρ := fun ρ avs obs k0 kr => ofC enc0 (fun t => un3 (F0 fuelN) t k0 kr) (avs, obs)
theorem zG (ρ : Type) : F0 fuelN = fun w1 w2 w3 k0 kr => V0 ρ [vl w1, vi w2, vi w3] [] k0 kr := by funext w1 w2 w3 k0 kr; exact Eq.symm (zD enc0I _ (w1, w2, w3))
theorem main {Q0 W0} {ρ : Type} {K : AV → LO → Option ρ} {a1 a2} : exC Tryz.prog (O Q0) (L W0) [] 0 (zB Tryz.f133) (entry 27 [vl a1, vi a2] [] []) (finO Tryz.prog Tryz.f133.results.toList 0 [] [] K) =
    B (fun w1 w2 w3 k0 kr => W0 ρ [vl w1, vi w2, vi w3] [] k0 kr) a1 a2 (fun x1 => K (vi x1) []) := by kernel_rfl
theorem Gok : (O laws_szName.Q).ok Tryz.prog := zH (by exact ⟨qE_ok laws_szName.ac, trivial⟩) (by exact trivial)
theorem ok0 : OkL Tryz.prog (L V0) 0 (.loop c0) := fun ρ st K r h => zJ (ct := ct0) (lv := lv0) (L := (L V0)) Gok hmT (by rw [show zE [] 1 c0 = [] by kernel_rfl]; exact Lor.zF _ _) enc0I (fun k t => un3 (F0 k) t (k0_0 K) (k0_r K)) (fun t => rfl) (fun k t => by refine step0.trans ?_; rw [← laws_szName.wrap]; exact congrFun (congrFun (congrArg (B0 _ _ _ _) (fx3 fun t => zD enc0I _ t)) _) _) (fun _ => fuelN) h
theorem e : zE [] 0 (zB Tryz.f133) = [(0, 0, .loop c0)] := by kernel_rfl
theorem acc : ∀ t x, un2 F t = some x → ACc Tryz.prog 133 (encA t) [] true [] fun rv obs => (rv, obs) = encR x := accT (T := YVN × Int) (F := un2 F) (L := (L V0)) (cmds := []) (body := (zB Tryz.f133)) Gok hmT Tryz.func133 (by kernel_rfl) (by kernel_rfl) (by rw [e]; exact Lor.zI ok0 (Lor.zF _ _)) (fun t => by refine main.trans ?_; rw [← zG]; exact congrArg (B _ _ _) (fx1 fun t => zD ZB some t))
theorem ac : ∀ a x, Q a = some x → AC Tryz.prog 133 a [] false [] fun rv obs => (rv, obs) = encR x := acF (body := (zB Tryz.f133)) Tryz.func133 (by kernel_rfl) (by kernel_rfl) acc fun x => ⟨by simp [encR, AV.Flat, K.Flat, C.Flat], fl0⟩
end laws_szNameS
namespace laws_szCommit
noncomputable def B {ρ : Type} (C0 : YI → Int → Option Int) (C1 : YVN → Int → Option Int) (a1 : YI) (a2 : ByteArray) (a3 : Vec YN) (a4 : Int) (K : Int → Option ρ) : Option ρ :=
  (C0 a1 a4).bind fun r1 => sel (decide (r1 < (0 : Int))) (K (-1 : Int)) (sel (decide ((wr (r1 - (a2.size : Int))) < (0 : Int))) (K (-1 : Int)) ((C1 a3 (wr (r1 - (a2.size : Int)))).bind fun r2 => sel (decide (r2 < (0 : Int))) (K (-1 : Int)) (K r2)))
noncomputable def F (a1 : YI) (a2 : ByteArray) (a3 : Vec YN) (a4 : Int) : Option Int := B laws_szIntS.F laws_szNameS.F a1 a2 a3 a4 (fun x1 => some (x1))
def encA (t : YI × ByteArray × YVN × Int) : LA := [.a [cl t.1, cs t.2.1, cl t.2.2.1], vi t.2.2.2]
def encR (x : Int) : AV × LO := (vi x, [])
theorem ZA (a b) (h : encA a = encA b) : a = b := by simp [encA, zA] at h; simp [Prod.ext_iff, h]
theorem ZB (a b) (h : encR a = encR b) : a = b := by simpa [encR, zA] using h
noncomputable def Q (args : LA) : Option Int := ofC encA (un4 F) args
theorem wrap : F = fun y1 y2 y3 y4 => Q [.a [cl y1, cs y2, cl y3], vi y4] := by funext y1 y2 y3 y4; exact Eq.symm (zD ZA _ (y1, y2, y3, y4))
noncomputable abbrev O (Q0 : LA → Option Int) (Q1 : LA → Option Int) : Orc := mkO [qE 132 false laws_szIntS.encR Q0, qE 133 false laws_szNameS.encR Q1] [] []
noncomputable def L : Lor := fun _ _ _ _ => Option.none
theorem main {Q0 Q1} {ρ : Type} {K : AV → LO → Option ρ} {a1 a2 a3 a4} : exC Tryz.prog (O Q0 Q1) L [] 0 (zB Tryz.f69) (entry 25 [.a [cl a1, cs a2, cl a3], vi a4] [] []) (finO Tryz.prog Tryz.f69.results.toList 0 [] [] K) =
    B (fun y1 y2 => Q0 [vl y1, vi y2]) (fun y1 y2 => Q1 [vl y1, vi y2]) a1 a2 a3 a4 (fun x1 => K (vi x1) []) := by kernel_rfl
theorem Gok : (O laws_szIntS.Q laws_szNameS.Q).ok Tryz.prog := zH (by exact ⟨qE_ok laws_szIntS.ac, qE_ok laws_szNameS.ac, trivial⟩) (by exact trivial)
theorem acc : ∀ t x, un4 F t = some x → ACc Tryz.prog 69 (encA t) [] true [] fun rv obs => (rv, obs) = encR x := accT (T := YI × ByteArray × YVN × Int) (F := un4 F) (L := L) (cmds := []) (body := (zB Tryz.f69)) Gok hmT Tryz.func69 (by kernel_rfl) (by kernel_rfl) (by rw [show zE [] 0 (zB Tryz.f69) = [] by kernel_rfl]; exact Lor.zF _ _) (fun t => by refine main.trans ?_; rw [← laws_szIntS.wrap, ← laws_szNameS.wrap]; exact congrArg (B _ _ _ _ _ _) (fx1 fun t => zD ZB some t))
theorem ac : ∀ a x, Q a = some x → AC Tryz.prog 69 a [] false [] fun rv obs => (rv, obs) = encR x := acF (body := (zB Tryz.f69)) Tryz.func69 (by kernel_rfl) (by kernel_rfl) acc fun x => ⟨by simp [encR, AV.Flat, K.Flat, C.Flat], fl0⟩
end laws_szCommit
namespace laws_szCommitS
noncomputable def B0 {ρ : Type} (C0 : YI → ByteArray → YVN → Int → Option Int) (v1 : Vec YC) (v2 : Int) (v3 : Int) (W : YVC → Int → Int → Option ρ) (K0 : Int → Option ρ) (Kr : Int → Option ρ) : Option ρ :=
  sel (decide (v3 < (v1.n : Int))) (chk (decide (0 ≤ v3 ∧ v3 < (v1.n : Int))) ((C0 ((v1.g v3.toNat).1) ((v1.g v3.toNat).2.1) ((v1.g v3.toNat).2.2) v2).bind fun r1 => sel (decide (r1 < (0 : Int))) (Kr (-1 : Int)) (W v1 r1 (wr (v3 + (1 : Int)))))) (K0 v2)
noncomputable def F0 {ρ : Type} : Nat → YVC → Int → Int → (Int → Option ρ) → (Int → Option ρ) → Option ρ
  | 0, _, _, _, _, _ => none
  | k + 1, v1, v2, v3, K0, Kr => B0 laws_szCommit.F v1 v2 v3 (fun v1' v2' v3' => F0 k v1' v2' v3' K0 Kr) K0 Kr
noncomputable def B {ρ : Type} (L0 : YVC → Int → Int → (Int → Option ρ) → (Int → Option ρ) → Option ρ) (a1 : Vec YC) (a2 : Int) (K : Int → Option ρ) : Option ρ :=
  sel (decide ((wr (a2 - (a1.n : Int))) < (0 : Int))) (K (-1 : Int)) (L0 a1 (wr (a2 - (a1.n : Int))) (0 : Int) (fun e01 => K e01) (fun x01 => K x01))
noncomputable def F (a1 : Vec YC) (a2 : Int) : Option Int := B (F0 fuelN) a1 a2 (fun x1 => some (x1))
def encA (t : YVC × Int) : LA := [vl t.1, vi t.2]
def encR (x : Int) : AV × LO := (vi x, [])
theorem ZA (a b) (h : encA a = encA b) : a = b := by simp [encA, zA] at h; simp [Prod.ext_iff, h]
theorem ZB (a b) (h : encR a = encR b) : a = b := by simpa [encR, zA] using h
noncomputable def Q (args : LA) : Option Int := ofC encA (un2 F) args
theorem wrap : F = fun y1 y2 => Q [vl y1, vi y2] := by funext y1 y2; exact Eq.symm (zD ZA _ (y1, y2))
noncomputable abbrev O (Q0 : LA → Option Int) : Orc := mkO [qE 69 false laws_szCommit.encR Q0] [] []
noncomputable def c0 : Code := loopC (atomN [] 0 (zB Tryz.f21) 0)
def ct0 : Cut := ⟨[0, 1, 5], []⟩
def lv0 : Exit → Cut
  | .exit 0 => ⟨[1], []⟩
  | .ret => ⟨[4], []⟩
  | _ => ⟨[], []⟩
def k0_0 {ρ : Type} (K : Exit → St → Option ρ) (z1 : Int) : Option ρ := K (.exit 0) (mkS 27 (lv0 (.exit 0)).live [vi z1] [] [])
def k0_r {ρ : Type} (K : Exit → St → Option ρ) (z1 : Int) : Option ρ := K .ret (mkS 27 (lv0 .ret).live [vi z1] [] [])
noncomputable def L (W0 : (ρ : Type) → LA → LO → (Int → Option ρ) → (Int → Option ρ) → Option ρ) : Lor := fun ρ j st K => sel (Nat.beq j 0) (cutO Tryz.prog 27 ct0.live 0 [] ct0.cmds st fun avs obs => W0 ρ avs obs (k0_0 K) (k0_r K)) (Option.none)
theorem step0 {Q0 W0} {ρ : Type} {K : Exit → St → Option ρ} {W : LA → LO → Option ρ} {v1 v2 v3} : exC Tryz.prog (O Q0) (L W0) [] 1 c0 (mkS 27 ct0.live [vl v1, vi v2, vi v3] [] []) (bodyK Tryz.prog 27 0 [] ct0 W lv0 K) =
    B0 (fun y1 y2 y3 y4 => Q0 [.a [cl y1, cs y2, cl y3], vi y4]) v1 v2 v3 (fun u1 u2 u3 => W [vl u1, vi u2, vi u3] []) (k0_0 K) (k0_r K) := by kernel_rfl
def enc0 (t : YVC × Int × Int) : LA × LO := ([vl t.1, vi t.2.1, vi t.2.2], [])
theorem enc0I (a b) (h : enc0 a = enc0 b) : a = b := by simp [enc0, zA] at h; simp [Prod.ext_iff, h]
noncomputable def V0 : (ρ : Type) → LA → LO → (Int → Option ρ) → (Int → Option ρ) → Option ρ := fun ρ avs obs k0 kr => ofC enc0 (fun t => un3 (F0 fuelN) t k0 kr) (avs, obs)
theorem zG (ρ : Type) : F0 fuelN = fun w1 w2 w3 k0 kr => V0 ρ [vl w1, vi w2, vi w3] [] k0 kr := by funext w1 w2 w3 k0 kr; exact Eq.symm (zD enc0I _ (w1, w2, w3))
theorem main {Q0 W0} {ρ : Type} {K : AV → LO → Option ρ} {a1 a2} : exC Tryz.prog (O Q0) (L W0) [] 0 (zB Tryz.f21) (entry 27 [vl a1, vi a2] [] []) (finO Tryz.prog Tryz.f21.results.toList 0 [] [] K) =
    B (fun w1 w2 w3 k0 kr => W0 ρ [vl w1, vi w2, vi w3] [] k0 kr) a1 a2 (fun x1 => K (vi x1) []) := by kernel_rfl
theorem Gok : (O laws_szCommit.Q).ok Tryz.prog := zH (by exact ⟨qE_ok laws_szCommit.ac, trivial⟩) (by exact trivial)
theorem ok0 : OkL Tryz.prog (L V0) 0 (.loop c0) := fun ρ st K r h => zJ (ct := ct0) (lv := lv0) (L := (L V0)) Gok hmT (by rw [show zE [] 1 c0 = [] by kernel_rfl]; exact Lor.zF _ _) enc0I (fun k t => un3 (F0 k) t (k0_0 K) (k0_r K)) (fun t => rfl) (fun k t => by refine step0.trans ?_; rw [← laws_szCommit.wrap]; exact congrFun (congrFun (congrArg (B0 _ _ _ _) (fx3 fun t => zD enc0I _ t)) _) _) (fun _ => fuelN) h
theorem e : zE [] 0 (zB Tryz.f21) = [(0, 0, .loop c0)] := by kernel_rfl
theorem acc : ∀ t x, un2 F t = some x → ACc Tryz.prog 21 (encA t) [] true [] fun rv obs => (rv, obs) = encR x := accT (T := YVC × Int) (F := un2 F) (L := (L V0)) (cmds := []) (body := (zB Tryz.f21)) Gok hmT Tryz.func21 (by kernel_rfl) (by kernel_rfl) (by rw [e]; exact Lor.zI ok0 (Lor.zF _ _)) (fun t => by refine main.trans ?_; rw [← zG]; exact congrArg (B _ _ _) (fx1 fun t => zD ZB some t))
theorem ac : ∀ a x, Q a = some x → AC Tryz.prog 21 a [] false [] fun rv obs => (rv, obs) = encR x := acF (body := (zB Tryz.f21)) Tryz.func21 (by kernel_rfl) (by kernel_rfl) acc fun x => ⟨by simp [encR, AV.Flat, K.Flat, C.Flat], fl0⟩
end laws_szCommitS
namespace laws_toIntS
noncomputable def B0 {ρ : Type} (v1 : YI) (v2 : Int) (v3 : YI) (W : YI → Int → YI → Option ρ) (K0 : YI → Option ρ) : Option ρ :=
  sel (decide (v2 < (v1.n : Int))) (chk (decide (0 ≤ v2 ∧ v2 < (v1.n : Int))) (chk (decide (0 ≤ v2 ∧ v2 < (v3.n : Int))) (chk (decide (v2.toNat < v3.n)) (W v1 (wr (v2 + (1 : Int))) (Vec.set v3 v2.toNat (v1.g v2.toNat)))))) (K0 v3)
noncomputable def F0 {ρ : Type} : Nat → YI → Int → YI → (YI → Option ρ) → Option ρ
  | 0, _, _, _, _ => none
  | k + 1, v1, v2, v3, K0 => B0 v1 v2 v3 (fun v1' v2' v3' => F0 k v1' v2' v3' K0) K0
noncomputable def B {ρ : Type} (L0 : YI → Int → YI → (YI → Option ρ) → Option ρ) (a1 : YI) (K : YI → Option ρ) : Option ρ :=
  chk (decide ((a1.n : Int) = (a1.n : Int) ∧ 0 ≤ (a1.n : Int))) (chk (mkOk (a1.n : Int) 8) (L0 a1 (0 : Int) (Vec.rep ((a1.n : Int).toNat) (0 : Int) : YI) (fun e01 => K e01)))
noncomputable def F (a1 : YI) : Option YI := B (F0 fuelN) a1 (fun x1 => some (x1))
def encA (t : YI) : LA := [vl t]
def encR (x : YI) : AV × LO := (.c (.h 0), [ro x])
theorem ZA (a b) (h : encA a = encA b) : a = b := by simpa [encA, zA] using h
theorem ZB (a b) (h : encR a = encR b) : a = b := by simpa [encR, zA] using h
noncomputable def Q (args : LA) : Option YI := ofC encA (un1 F) args
theorem wrap : F = fun y1 => Q [vl y1] := by funext y1; exact Eq.symm (zD ZA _ (y1))
noncomputable abbrev O : Orc := mkO [] [] []
noncomputable def c0 : Code := loopC (atomN [] 0 (zB Tryz.f26) 0)
def ct0 : Cut := ⟨[0, 3, 4], []⟩
def lv0 : Exit → Cut
  | .exit 0 => ⟨[3], []⟩
  | _ => ⟨[], []⟩
def k0_0 {ρ : Type} (K : Exit → St → Option ρ) (z1 : YI) : Option ρ := K (.exit 0) (mkS 22 (lv0 (.exit 0)).live [.c (.h 0)] [ro z1] [])
noncomputable def L (W0 : (ρ : Type) → LA → LO → (YI → Option ρ) → Option ρ) : Lor := fun ρ j st K => sel (Nat.beq j 0) (cutO Tryz.prog 22 ct0.live 0 [] ct0.cmds st fun avs obs => W0 ρ avs obs (k0_0 K)) (Option.none)
theorem step0 {W0} {ρ : Type} {K : Exit → St → Option ρ} {W : LA → LO → Option ρ} {v1 v2 v3} : exC Tryz.prog O (L W0) [] 1 c0 (mkS 22 ct0.live [vl v1, .c (.h 0), vi v2] [ro v3] []) (bodyK Tryz.prog 22 0 [] ct0 W lv0 K) =
    B0 v1 v2 v3 (fun u1 u2 u3 => W [vl u1, .c (.h 0), vi u2] [ro u3]) (k0_0 K) := by kernel_rfl
def enc0 (t : YI × Int × YI) : LA × LO := ([vl t.1, .c (.h 0), vi t.2.1], [ro t.2.2])
theorem enc0I (a b) (h : enc0 a = enc0 b) : a = b := by simp [enc0, zA] at h; simp [Prod.ext_iff, h]
noncomputable def V0 : (ρ : Type) → LA → LO → (YI → Option ρ) → Option ρ := fun ρ avs obs k0 => ofC enc0 (fun t => un3 (F0 fuelN) t k0) (avs, obs)
theorem zG (ρ : Type) : F0 fuelN = fun w1 w2 w3 k0 => V0 ρ [vl w1, .c (.h 0), vi w2] [ro w3] k0 := by funext w1 w2 w3 k0; exact Eq.symm (zD enc0I _ (w1, w2, w3))
theorem main {W0} {ρ : Type} {K : AV → LO → Option ρ} {a1} : exC Tryz.prog O (L W0) [] 0 (zB Tryz.f26) (entry 22 [vl a1] [] []) (finO Tryz.prog Tryz.f26.results.toList 0 [] [] K) =
    B (fun w1 w2 w3 k0 => W0 ρ [vl w1, .c (.h 0), vi w2] [ro w3] k0) a1 (fun x1 => K (.c (.h 0)) [ro x1]) := by kernel_rfl
theorem Gok : O.ok Tryz.prog := zH (by exact trivial) (by exact trivial)
theorem ok0 : OkL Tryz.prog (L V0) 0 (.loop c0) := fun ρ st K r h => zJ (ct := ct0) (lv := lv0) (L := (L V0)) Gok hmT (by rw [show zE [] 1 c0 = [] by kernel_rfl]; exact Lor.zF _ _) enc0I (fun k t => un3 (F0 k) t (k0_0 K)) (fun t => rfl) (fun k t => by refine step0.trans ?_; exact congrFun (congrArg (B0 _ _ _) (fx3 fun t => zD enc0I _ t)) _) (fun _ => fuelN) h
theorem e : zE [] 0 (zB Tryz.f26) = [(0, 0, .loop c0)] := by kernel_rfl
theorem acc : ∀ t x, un1 F t = some x → ACc Tryz.prog 26 (encA t) [] true [] fun rv obs => (rv, obs) = encR x := accT (T := YI) (F := un1 F) (L := (L V0)) (cmds := []) (body := (zB Tryz.f26)) Gok hmT Tryz.func26 (by kernel_rfl) (by kernel_rfl) (by rw [e]; exact Lor.zI ok0 (Lor.zF _ _)) (fun t => by refine main.trans ?_; rw [← zG]; exact congrArg (B _ _) (fx1 fun t => zD ZB some t))
theorem ac : ∀ a x, Q a = some x → AC Tryz.prog 26 a [] false [] fun rv obs => (rv, obs) = encR x := acF (body := (zB Tryz.f26)) Tryz.func26 (by kernel_rfl) (by kernel_rfl) acc fun x => ⟨by simp [encR, AV.Flat, K.Flat, C.Flat], flc (zN rfl _) (fl0)⟩
end laws_toIntS
namespace laws_toName
noncomputable def B {ρ : Type} (a1 : ByteArray) (a2 : Int) (a3 : Int) (K : ByteArray → Int → Int → Option ρ) : Option ρ :=
  K a1 a2 a3
noncomputable def F (a1 : ByteArray) (a2 : Int) (a3 : Int) : Option YN := B a1 a2 a3 (fun x1 x2 x3 => some (x1, x2, x3))
def encA (t : YN) : LA := [.a [cs t.1, ci t.2.1, ci t.2.2]]
def encR (x : YN) : AV × LO := (.a [cs x.1, ci x.2.1, ci x.2.2], [])
theorem ZA (a b) (h : encA a = encA b) : a = b := by simp [encA, zA] at h; simp [Prod.ext_iff, h]
theorem ZB (a b) (h : encR a = encR b) : a = b := by simp [encR, zA] at h; simp [Prod.ext_iff, h]
noncomputable def Q (args : LA) : Option YN := ofC encA (un3 F) args
theorem wrap : F = fun y1 y2 y3 => Q [.a [cs y1, ci y2, ci y3]] := by funext y1 y2 y3; exact Eq.symm (zD ZA _ (y1, y2, y3))
noncomputable abbrev O : Orc := mkO [] [] []
noncomputable def L : Lor := fun _ _ _ _ => Option.none
theorem main {ρ : Type} {K : AV → LO → Option ρ} {a1 a2 a3} : exC Tryz.prog O L [] 0 (zB Tryz.f187) (entry 14 [.a [cs a1, ci a2, ci a3]] [] []) (finO Tryz.prog Tryz.f187.results.toList 0 [] [] K) =
    B a1 a2 a3 (fun x1 x2 x3 => K (.a [cs x1, ci x2, ci x3]) []) := by kernel_rfl
theorem Gok : O.ok Tryz.prog := zH (by exact trivial) (by exact trivial)
theorem acc : ∀ t x, un3 F t = some x → ACc Tryz.prog 187 (encA t) [] true [] fun rv obs => (rv, obs) = encR x := accT (T := ByteArray × Int × Int) (F := un3 F) (L := L) (cmds := []) (body := (zB Tryz.f187)) Gok hmT Tryz.func187 (by kernel_rfl) (by kernel_rfl) (by rw [show zE [] 0 (zB Tryz.f187) = [] by kernel_rfl]; exact Lor.zF _ _) (fun t => by refine main.trans ?_; exact congrArg (B _ _ _) (fx3 fun t => zD ZB some t))
theorem ac : ∀ a x, Q a = some x → AC Tryz.prog 187 a [] false [] fun rv obs => (rv, obs) = encR x := acF (body := (zB Tryz.f187)) Tryz.func187 (by kernel_rfl) (by kernel_rfl) acc fun x => ⟨by simp [encR, AV.Flat, K.Flat, C.Flat], fl0⟩
end laws_toName
namespace laws_toNameS
noncomputable def B0 {ρ : Type} (C0 : ByteArray → Int → Int → Option YN) (v1 : Vec YN) (v2 : Int) (v3 : Vec YN) (W : YVN → Int → YVN → Option ρ) (K0 : YVN → Option ρ) : Option ρ :=
  sel (decide (v2 < (v1.n : Int))) (chk (decide (0 ≤ v2 ∧ v2 < (v1.n : Int))) ((C0 ((v1.g v2.toNat).1) ((v1.g v2.toNat).2.1) ((v1.g v2.toNat).2.2)).bind fun r1 => chk (decide (0 ≤ v2 ∧ v2 < (v3.n : Int))) (chk (decide (v2.toNat < v3.n)) (W v1 (wr (v2 + (1 : Int))) (Vec.set v3 v2.toNat (r1.1, r1.2.1, r1.2.2)))))) (K0 v3)
noncomputable def F0 {ρ : Type} : Nat → YVN → Int → YVN → (YVN → Option ρ) → Option ρ
  | 0, _, _, _, _ => none
  | k + 1, v1, v2, v3, K0 => B0 laws_toName.F v1 v2 v3 (fun v1' v2' v3' => F0 k v1' v2' v3' K0) K0
noncomputable def B {ρ : Type} (L0 : YVN → Int → YVN → (YVN → Option ρ) → Option ρ) (a1 : Vec YN) (K : YVN → Option ρ) : Option ρ :=
  chk (decide ((a1.n : Int) = (a1.n : Int) ∧ 0 ≤ (a1.n : Int))) (chk (mkOk (a1.n : Int) 32) (L0 a1 (0 : Int) (Vec.rep ((a1.n : Int).toNat) (ByteArray.empty, (0 : Int), (0 : Int)) : Vec YN) (fun e01 => K e01)))
noncomputable def F (a1 : Vec YN) : Option YVN := B (F0 fuelN) a1 (fun x1 => some (x1))
def encA (t : Vec YN) : LA := [vl t]
def encR (x : Vec YN) : AV × LO := (.c (.h 0), [ro x])
theorem ZA (a b) (h : encA a = encA b) : a = b := by simpa [encA, zA] using h
theorem ZB (a b) (h : encR a = encR b) : a = b := by simpa [encR, zA] using h
noncomputable def Q (args : LA) : Option YVN := ofC encA (un1 F) args
theorem wrap : F = fun y1 => Q [vl y1] := by funext y1; exact Eq.symm (zD ZA _ (y1))
noncomputable abbrev O (Q0 : LA → Option YN) : Orc := mkO [qE 187 false laws_toName.encR Q0] [] []
noncomputable def c0 : Code := loopC (atomN [] 0 (zB Tryz.f142) 0)
def ct0 : Cut := ⟨[0, 3, 4], []⟩
def lv0 : Exit → Cut
  | .exit 0 => ⟨[3], []⟩
  | _ => ⟨[], []⟩
def k0_0 {ρ : Type} (K : Exit → St → Option ρ) (z1 : Vec YN) : Option ρ := K (.exit 0) (mkS 23 (lv0 (.exit 0)).live [.c (.h 0)] [ro z1] [])
noncomputable def L (W0 : (ρ : Type) → LA → LO → (YVN → Option ρ) → Option ρ) : Lor := fun ρ j st K => sel (Nat.beq j 0) (cutO Tryz.prog 23 ct0.live 0 [] ct0.cmds st fun avs obs => W0 ρ avs obs (k0_0 K)) (Option.none)
theorem step0 {Q0 W0} {ρ : Type} {K : Exit → St → Option ρ} {W : LA → LO → Option ρ} {v1 v2 v3} : exC Tryz.prog (O Q0) (L W0) [] 1 c0 (mkS 23 ct0.live [vl v1, .c (.h 0), vi v2] [ro v3] []) (bodyK Tryz.prog 23 0 [] ct0 W lv0 K) =
    B0 (fun y1 y2 y3 => Q0 [.a [cs y1, ci y2, ci y3]]) v1 v2 v3 (fun u1 u2 u3 => W [vl u1, .c (.h 0), vi u2] [ro u3]) (k0_0 K) := by kernel_rfl
def enc0 (t : YVN × Int × YVN) : LA × LO := ([vl t.1, .c (.h 0), vi t.2.1], [ro t.2.2])
theorem enc0I (a b) (h : enc0 a = enc0 b) : a = b := by simp [enc0, zA] at h; simp [Prod.ext_iff, h]
noncomputable def V0 : (ρ : Type) → LA → LO → (YVN → Option ρ) → Option ρ := fun ρ avs obs k0 => ofC enc0 (fun t => un3 (F0 fuelN) t k0) (avs, obs)
theorem zG (ρ : Type) : F0 fuelN = fun w1 w2 w3 k0 => V0 ρ [vl w1, .c (.h 0), vi w2] [ro w3] k0 := by funext w1 w2 w3 k0; exact Eq.symm (zD enc0I _ (w1, w2, w3))
theorem main {Q0 W0} {ρ : Type} {K : AV → LO → Option ρ} {a1} : exC Tryz.prog (O Q0) (L W0) [] 0 (zB Tryz.f142) (entry 23 [vl a1] [] []) (finO Tryz.prog Tryz.f142.results.toList 0 [] [] K) =
    B (fun w1 w2 w3 k0 => W0 ρ [vl w1, .c (.h 0), vi w2] [ro w3] k0) a1 (fun x1 => K (.c (.h 0)) [ro x1]) := by kernel_rfl
theorem Gok : (O laws_toName.Q).ok Tryz.prog := zH (by exact ⟨qE_ok laws_toName.ac, trivial⟩) (by exact trivial)
theorem ok0 : OkL Tryz.prog (L V0) 0 (.loop c0) := fun ρ st K r h => zJ (ct := ct0) (lv := lv0) (L := (L V0)) Gok hmT (by rw [show zE [] 1 c0 = [] by kernel_rfl]; exact Lor.zF _ _) enc0I (fun k t => un3 (F0 k) t (k0_0 K)) (fun t => rfl) (fun k t => by refine step0.trans ?_; rw [← laws_toName.wrap]; exact congrFun (congrArg (B0 _ _ _ _) (fx3 fun t => zD enc0I _ t)) _) (fun _ => fuelN) h
theorem e : zE [] 0 (zB Tryz.f142) = [(0, 0, .loop c0)] := by kernel_rfl
theorem acc : ∀ t x, un1 F t = some x → ACc Tryz.prog 142 (encA t) [] true [] fun rv obs => (rv, obs) = encR x := accT (T := Vec YN) (F := un1 F) (L := (L V0)) (cmds := []) (body := (zB Tryz.f142)) Gok hmT Tryz.func142 (by kernel_rfl) (by kernel_rfl) (by rw [e]; exact Lor.zI ok0 (Lor.zF _ _)) (fun t => by refine main.trans ?_; rw [← zG]; exact congrArg (B _ _) (fx1 fun t => zD ZB some t))
theorem ac : ∀ a x, Q a = some x → AC Tryz.prog 142 a [] false [] fun rv obs => (rv, obs) = encR x := acF (body := (zB Tryz.f142)) Tryz.func142 (by kernel_rfl) (by kernel_rfl) acc fun x => ⟨by simp [encR, AV.Flat, K.Flat, C.Flat], flc (zN rfl _) (fl0)⟩
end laws_toNameS
namespace laws_toCommit
noncomputable def B {ρ : Type} (C0 : YI → Option YI) (C1 : YVN → Option YVN) (a1 : YI) (a2 : ByteArray) (a3 : Vec YN) (K : ByteArray → YI → YVN → Option ρ) : Option ρ :=
  (C0 a1).bind fun r1 => (C1 a3).bind fun r2 => K a2 r1 r2
noncomputable def F (a1 : YI) (a2 : ByteArray) (a3 : Vec YN) : Option (ByteArray × YI × YVN) := B laws_toIntS.F laws_toNameS.F a1 a2 a3 (fun x1 x2 x3 => some (x1, x2, x3))
def encA (t : YI × ByteArray × YVN) : LA := [.a [cl t.1, cs t.2.1, cl t.2.2]]
def encR (x : ByteArray × YI × YVN) : AV × LO := (.a [.h 0, cs x.1, .h 1], [ro x.2.1, ro x.2.2])
theorem ZA (a b) (h : encA a = encA b) : a = b := by simp [encA, zA] at h; simp [Prod.ext_iff, h]
theorem ZB (a b) (h : encR a = encR b) : a = b := by simp [encR, zA] at h; simp [Prod.ext_iff, h]
noncomputable def Q (args : LA) : Option (ByteArray × YI × YVN) := ofC encA (un3 F) args
theorem wrap : F = fun y1 y2 y3 => Q [.a [cl y1, cs y2, cl y3]] := by funext y1 y2 y3; exact Eq.symm (zD ZA _ (y1, y2, y3))
noncomputable abbrev O (Q0 : LA → Option YI) (Q1 : LA → Option YVN) : Orc := mkO [qE 26 false laws_toIntS.encR Q0, qE 142 false laws_toNameS.encR Q1] [] []
noncomputable def L : Lor := fun _ _ _ _ => Option.none
theorem main {Q0 Q1} {ρ : Type} {K : AV → LO → Option ρ} {a1 a2 a3} : exC Tryz.prog (O Q0 Q1) L [] 0 (zB Tryz.f75) (entry 16 [.a [cl a1, cs a2, cl a3]] [] []) (finO Tryz.prog Tryz.f75.results.toList 0 [] [] K) =
    B (fun y1 => Q0 [vl y1]) (fun y1 => Q1 [vl y1]) a1 a2 a3 (fun x1 x2 x3 => K (.a [.h 0, cs x1, .h 1]) [ro x2, ro x3]) := by kernel_rfl
theorem Gok : (O laws_toIntS.Q laws_toNameS.Q).ok Tryz.prog := zH (by exact ⟨qE_ok laws_toIntS.ac, qE_ok laws_toNameS.ac, trivial⟩) (by exact trivial)
theorem acc : ∀ t x, un3 F t = some x → ACc Tryz.prog 75 (encA t) [] true [] fun rv obs => (rv, obs) = encR x := accT (T := YI × ByteArray × YVN) (F := un3 F) (L := L) (cmds := []) (body := (zB Tryz.f75)) Gok hmT Tryz.func75 (by kernel_rfl) (by kernel_rfl) (by rw [show zE [] 0 (zB Tryz.f75) = [] by kernel_rfl]; exact Lor.zF _ _) (fun t => by refine main.trans ?_; rw [← laws_toIntS.wrap, ← laws_toNameS.wrap]; exact congrArg (B _ _ _ _ _) (fx3 fun t => zD ZB some t))
theorem ac : ∀ a x, Q a = some x → AC Tryz.prog 75 a [] false [] fun rv obs => (rv, obs) = encR x := acF (body := (zB Tryz.f75)) Tryz.func75 (by kernel_rfl) (by kernel_rfl) acc fun x => ⟨by simp [encR, AV.Flat, K.Flat, C.Flat], flc (zN rfl _) (flc (zN rfl _) (fl0))⟩
end laws_toCommit
namespace laws_toCommitS
noncomputable def B0 {ρ : Type} (C0 : YI → ByteArray → YVN → Option (ByteArray × YI × YVN)) (v1 : Vec YC) (v2 : Int) (v3 : Vec YC) (W : YVC → Int → YVC → Option ρ) (K0 : YVC → Option ρ) : Option ρ :=
  sel (decide (v2 < (v1.n : Int))) (chk (decide (0 ≤ v2 ∧ v2 < (v1.n : Int))) ((C0 ((v1.g v2.toNat).1) ((v1.g v2.toNat).2.1) ((v1.g v2.toNat).2.2)).bind fun r1 => chk (decide (0 ≤ v2 ∧ v2 < (v3.n : Int))) (chk (decide (v2.toNat < v3.n)) (W v1 (wr (v2 + (1 : Int))) (Vec.set v3 v2.toNat (r1.2.1, r1.1, r1.2.2)))))) (K0 v3)
noncomputable def F0 {ρ : Type} : Nat → YVC → Int → YVC → (YVC → Option ρ) → Option ρ
  | 0, _, _, _, _ => none
  | k + 1, v1, v2, v3, K0 => B0 laws_toCommit.F v1 v2 v3 (fun v1' v2' v3' => F0 k v1' v2' v3' K0) K0
noncomputable def B {ρ : Type} (L0 : YVC → Int → YVC → (YVC → Option ρ) → Option ρ) (a1 : Vec YC) (K : YVC → Option ρ) : Option ρ :=
  chk (decide ((a1.n : Int) = (a1.n : Int) ∧ 0 ≤ (a1.n : Int))) (chk (mkOk (a1.n : Int) 64) (L0 a1 (0 : Int) (Vec.rep ((a1.n : Int).toNat) (Vec.nil, ByteArray.empty, Vec.nil) : Vec YC) (fun e01 => K e01)))
noncomputable def F (a1 : Vec YC) : Option YVC := B (F0 fuelN) a1 (fun x1 => some (x1))
def encA (t : Vec YC) : LA := [vl t]
def encR (x : Vec YC) : AV × LO := (.c (.h 0), [ro x])
theorem ZA (a b) (h : encA a = encA b) : a = b := by simpa [encA, zA] using h
theorem ZB (a b) (h : encR a = encR b) : a = b := by simpa [encR, zA] using h
noncomputable def Q (args : LA) : Option YVC := ofC encA (un1 F) args
theorem wrap : F = fun y1 => Q [vl y1] := by funext y1; exact Eq.symm (zD ZA _ (y1))
noncomputable abbrev O (Q0 : LA → Option (ByteArray × YI × YVN)) : Orc := mkO [qE 75 false laws_toCommit.encR Q0] [] []
noncomputable def c0 : Code := loopC (atomN [] 0 (zB Tryz.f24) 0)
def ct0 : Cut := ⟨[0, 3, 4], []⟩
def lv0 : Exit → Cut
  | .exit 0 => ⟨[3], []⟩
  | _ => ⟨[], []⟩
def k0_0 {ρ : Type} (K : Exit → St → Option ρ) (z1 : Vec YC) : Option ρ := K (.exit 0) (mkS 23 (lv0 (.exit 0)).live [.c (.h 0)] [ro z1] [])
noncomputable def L (W0 : (ρ : Type) → LA → LO → (YVC → Option ρ) → Option ρ) : Lor := fun ρ j st K => sel (Nat.beq j 0) (cutO Tryz.prog 23 ct0.live 0 [] ct0.cmds st fun avs obs => W0 ρ avs obs (k0_0 K)) (Option.none)
theorem step0 {Q0 W0} {ρ : Type} {K : Exit → St → Option ρ} {W : LA → LO → Option ρ} {v1 v2 v3} : exC Tryz.prog (O Q0) (L W0) [] 1 c0 (mkS 23 ct0.live [vl v1, .c (.h 0), vi v2] [ro v3] []) (bodyK Tryz.prog 23 0 [] ct0 W lv0 K) =
    B0 (fun y1 y2 y3 => Q0 [.a [cl y1, cs y2, cl y3]]) v1 v2 v3 (fun u1 u2 u3 => W [vl u1, .c (.h 0), vi u2] [ro u3]) (k0_0 K) := by kernel_rfl
def enc0 (t : YVC × Int × YVC) : LA × LO := ([vl t.1, .c (.h 0), vi t.2.1], [ro t.2.2])
theorem enc0I (a b) (h : enc0 a = enc0 b) : a = b := by simp [enc0, zA] at h; simp [Prod.ext_iff, h]
noncomputable def V0 : (ρ : Type) → LA → LO → (YVC → Option ρ) → Option ρ := fun ρ avs obs k0 => ofC enc0 (fun t => un3 (F0 fuelN) t k0) (avs, obs)
theorem zG (ρ : Type) : F0 fuelN = fun w1 w2 w3 k0 => V0 ρ [vl w1, .c (.h 0), vi w2] [ro w3] k0 := by funext w1 w2 w3 k0; exact Eq.symm (zD enc0I _ (w1, w2, w3))
theorem main {Q0 W0} {ρ : Type} {K : AV → LO → Option ρ} {a1} : exC Tryz.prog (O Q0) (L W0) [] 0 (zB Tryz.f24) (entry 23 [vl a1] [] []) (finO Tryz.prog Tryz.f24.results.toList 0 [] [] K) =
    B (fun w1 w2 w3 k0 => W0 ρ [vl w1, .c (.h 0), vi w2] [ro w3] k0) a1 (fun x1 => K (.c (.h 0)) [ro x1]) := by kernel_rfl
theorem Gok : (O laws_toCommit.Q).ok Tryz.prog := zH (by exact ⟨qE_ok laws_toCommit.ac, trivial⟩) (by exact trivial)
theorem ok0 : OkL Tryz.prog (L V0) 0 (.loop c0) := fun ρ st K r h => zJ (ct := ct0) (lv := lv0) (L := (L V0)) Gok hmT (by rw [show zE [] 1 c0 = [] by kernel_rfl]; exact Lor.zF _ _) enc0I (fun k t => un3 (F0 k) t (k0_0 K)) (fun t => rfl) (fun k t => by refine step0.trans ?_; rw [← laws_toCommit.wrap]; exact congrFun (congrArg (B0 _ _ _ _) (fx3 fun t => zD enc0I _ t)) _) (fun _ => fuelN) h
theorem e : zE [] 0 (zB Tryz.f24) = [(0, 0, .loop c0)] := by kernel_rfl
theorem acc : ∀ t x, un1 F t = some x → ACc Tryz.prog 24 (encA t) [] true [] fun rv obs => (rv, obs) = encR x := accT (T := Vec YC) (F := un1 F) (L := (L V0)) (cmds := []) (body := (zB Tryz.f24)) Gok hmT Tryz.func24 (by kernel_rfl) (by kernel_rfl) (by rw [e]; exact Lor.zI ok0 (Lor.zF _ _)) (fun t => by refine main.trans ?_; rw [← zG]; exact congrArg (B _ _) (fx1 fun t => zD ZB some t))
theorem ac : ∀ a x, Q a = some x → AC Tryz.prog 24 a [] false [] fun rv obs => (rv, obs) = encR x := acF (body := (zB Tryz.f24)) Tryz.func24 (by kernel_rfl) (by kernel_rfl) acc fun x => ⟨by simp [encR, AV.Flat, K.Flat, C.Flat], flc (zN rfl _) (fl0)⟩
end laws_toCommitS
namespace laws_eqIntS
noncomputable def B0 {ρ : Type} (v1 : YI) (v2 : YI) (v3 : Int) (W : YI → YI → Int → Option ρ) (K0 : Unit → Option ρ) (Kr : Bool → Option ρ) : Option ρ :=
  sel (decide (v3 < (v1.n : Int))) (chk (decide (0 ≤ v3 ∧ v3 < (v1.n : Int))) (chk (decide (0 ≤ v3 ∧ v3 < (v2.n : Int))) (sel ((!decide ((v1.g v3.toNat) = (v2.g v3.toNat)))) (Kr false) (W v1 v2 (wr (v3 + (1 : Int))))))) (K0 ())
noncomputable def F0 {ρ : Type} : Nat → YI → YI → Int → (Unit → Option ρ) → (Bool → Option ρ) → Option ρ
  | 0, _, _, _, _, _ => none
  | k + 1, v1, v2, v3, K0, Kr => B0 v1 v2 v3 (fun v1' v2' v3' => F0 k v1' v2' v3' K0 Kr) K0 Kr
noncomputable def B {ρ : Type} (L0 : YI → YI → Int → (Unit → Option ρ) → (Bool → Option ρ) → Option ρ) (a1 : YI) (a2 : YI) (K : Bool → Option ρ) : Option ρ :=
  sel ((!decide ((a1.n : Int) = (a2.n : Int)))) (K false) (L0 a1 a2 (0 : Int) (fun _ => K true) (fun x01 => K x01))
noncomputable def F (a1 : YI) (a2 : YI) : Option Bool := B (F0 fuelN) a1 a2 (fun x1 => some (x1))
def encA (t : YI × YI) : LA := [vl t.1, vl t.2]
def encR (x : Bool) : AV × LO := (vb x, [])
theorem ZA (a b) (h : encA a = encA b) : a = b := by simp [encA, zA] at h; simp [Prod.ext_iff, h]
theorem ZB (a b) (h : encR a = encR b) : a = b := by simpa [encR, zA] using h
noncomputable def Q (args : LA) : Option Bool := ofC encA (un2 F) args
theorem wrap : F = fun y1 y2 => Q [vl y1, vl y2] := by funext y1 y2; exact Eq.symm (zD ZA _ (y1, y2))
noncomputable abbrev O : Orc := mkO [] [] []
noncomputable def c0 : Code := loopC (atomN [] 0 (zB Tryz.f29) 0)
def ct0 : Cut := ⟨[0, 1, 5], []⟩
def lv0 : Exit → Cut
  | .exit 0 => ⟨[], []⟩
  | .ret => ⟨[4], []⟩
  | _ => ⟨[], []⟩
def k0_0 {ρ : Type} (K : Exit → St → Option ρ) (_ : Unit) : Option ρ := K (.exit 0) (mkS 26 (lv0 (.exit 0)).live [] [] [])
def k0_r {ρ : Type} (K : Exit → St → Option ρ) (z1 : Bool) : Option ρ := K .ret (mkS 26 (lv0 .ret).live [vb z1] [] [])
noncomputable def L (W0 : (ρ : Type) → LA → LO → (Unit → Option ρ) → (Bool → Option ρ) → Option ρ) : Lor := fun ρ j st K => sel (Nat.beq j 0) (cutO Tryz.prog 26 ct0.live 0 [] ct0.cmds st fun avs obs => W0 ρ avs obs (k0_0 K) (k0_r K)) (Option.none)
theorem step0 {W0} {ρ : Type} {K : Exit → St → Option ρ} {W : LA → LO → Option ρ} {v1 v2 v3} : exC Tryz.prog O (L W0) [] 1 c0 (mkS 26 ct0.live [vl v1, vl v2, vi v3] [] []) (bodyK Tryz.prog 26 0 [] ct0 W lv0 K) =
    B0 v1 v2 v3 (fun u1 u2 u3 => W [vl u1, vl u2, vi u3] []) (k0_0 K) (k0_r K) := by kernel_rfl
def enc0 (t : YI × YI × Int) : LA × LO := ([vl t.1, vl t.2.1, vi t.2.2], [])
theorem enc0I (a b) (h : enc0 a = enc0 b) : a = b := by simp [enc0, zA] at h; simp [Prod.ext_iff, h]
noncomputable def V0 : (ρ : Type) → LA → LO → (Unit → Option ρ) → (Bool → Option ρ) → Option ρ := fun ρ avs obs k0 kr => ofC enc0 (fun t => un3 (F0 fuelN) t k0 kr) (avs, obs)
theorem zG (ρ : Type) : F0 fuelN = fun w1 w2 w3 k0 kr => V0 ρ [vl w1, vl w2, vi w3] [] k0 kr := by funext w1 w2 w3 k0 kr; exact Eq.symm (zD enc0I _ (w1, w2, w3))
theorem main {W0} {ρ : Type} {K : AV → LO → Option ρ} {a1 a2} : exC Tryz.prog O (L W0) [] 0 (zB Tryz.f29) (entry 26 [vl a1, vl a2] [] []) (finO Tryz.prog Tryz.f29.results.toList 0 [] [] K) =
    B (fun w1 w2 w3 k0 kr => W0 ρ [vl w1, vl w2, vi w3] [] k0 kr) a1 a2 (fun x1 => K (vb x1) []) := by kernel_rfl
theorem Gok : O.ok Tryz.prog := zH (by exact trivial) (by exact trivial)
theorem ok0 : OkL Tryz.prog (L V0) 0 (.loop c0) := fun ρ st K r h => zJ (ct := ct0) (lv := lv0) (L := (L V0)) Gok hmT (by rw [show zE [] 1 c0 = [] by kernel_rfl]; exact Lor.zF _ _) enc0I (fun k t => un3 (F0 k) t (k0_0 K) (k0_r K)) (fun t => rfl) (fun k t => by refine step0.trans ?_; exact congrFun (congrFun (congrArg (B0 _ _ _) (fx3 fun t => zD enc0I _ t)) _) _) (fun _ => fuelN) h
theorem e : zE [] 0 (zB Tryz.f29) = [(0, 0, .loop c0)] := by kernel_rfl
theorem acc : ∀ t x, un2 F t = some x → ACc Tryz.prog 29 (encA t) [] true [] fun rv obs => (rv, obs) = encR x := accT (T := YI × YI) (F := un2 F) (L := (L V0)) (cmds := []) (body := (zB Tryz.f29)) Gok hmT Tryz.func29 (by kernel_rfl) (by kernel_rfl) (by rw [e]; exact Lor.zI ok0 (Lor.zF _ _)) (fun t => by refine main.trans ?_; rw [← zG]; exact congrArg (B _ _ _) (fx1 fun t => zD ZB some t))
theorem ac : ∀ a x, Q a = some x → AC Tryz.prog 29 a [] false [] fun rv obs => (rv, obs) = encR x := acF (body := (zB Tryz.f29)) Tryz.func29 (by kernel_rfl) (by kernel_rfl) acc fun x => ⟨by simp [encR, AV.Flat, K.Flat, C.Flat], fl0⟩
end laws_eqIntS
namespace laws_eqName
noncomputable def B {ρ : Type} (a1 : ByteArray) (a2 : Int) (a3 : Int) (a4 : ByteArray) (a5 : Int) (a6 : Int) (K : Bool → Option ρ) : Option ρ :=
  sel ((!decide (a1 = a4))) (K false) (sel ((!decide (a2 = a5))) (K false) (sel ((!decide (a3 = a6))) (K false) (K true)))
noncomputable def F (a1 : ByteArray) (a2 : Int) (a3 : Int) (a4 : ByteArray) (a5 : Int) (a6 : Int) : Option Bool := B a1 a2 a3 a4 a5 a6 (fun x1 => some (x1))
def encA (t : ByteArray × Int × Int × ByteArray × Int × Int) : LA := [.a [cs t.1, ci t.2.1, ci t.2.2.1], .a [cs t.2.2.2.1, ci t.2.2.2.2.1, ci t.2.2.2.2.2]]
def encR (x : Bool) : AV × LO := (vb x, [])
theorem ZA (a b) (h : encA a = encA b) : a = b := by simp [encA, zA] at h; simp [Prod.ext_iff, h]
theorem ZB (a b) (h : encR a = encR b) : a = b := by simpa [encR, zA] using h
noncomputable def Q (args : LA) : Option Bool := ofC encA (un6 F) args
theorem wrap : F = fun y1 y2 y3 y4 y5 y6 => Q [.a [cs y1, ci y2, ci y3], .a [cs y4, ci y5, ci y6]] := by funext y1 y2 y3 y4 y5 y6; exact Eq.symm (zD ZA _ (y1, y2, y3, y4, y5, y6))
noncomputable abbrev O : Orc := mkO [] [] []
noncomputable def L : Lor := fun _ _ _ _ => Option.none
theorem main {ρ : Type} {K : AV → LO → Option ρ} {a1 a2 a3 a4 a5 a6} : exC Tryz.prog O L [] 0 (zB Tryz.f80) (entry 20 [.a [cs a1, ci a2, ci a3], .a [cs a4, ci a5, ci a6]] [] []) (finO Tryz.prog Tryz.f80.results.toList 0 [] [] K) =
    B a1 a2 a3 a4 a5 a6 (fun x1 => K (vb x1) []) := by kernel_rfl
theorem Gok : O.ok Tryz.prog := zH (by exact trivial) (by exact trivial)
theorem acc : ∀ t x, un6 F t = some x → ACc Tryz.prog 80 (encA t) [] true [] fun rv obs => (rv, obs) = encR x := accT (T := ByteArray × Int × Int × ByteArray × Int × Int) (F := un6 F) (L := L) (cmds := []) (body := (zB Tryz.f80)) Gok hmT Tryz.func80 (by kernel_rfl) (by kernel_rfl) (by rw [show zE [] 0 (zB Tryz.f80) = [] by kernel_rfl]; exact Lor.zF _ _) (fun t => by refine main.trans ?_; exact congrArg (B _ _ _ _ _ _) (fx1 fun t => zD ZB some t))
theorem ac : ∀ a x, Q a = some x → AC Tryz.prog 80 a [] false [] fun rv obs => (rv, obs) = encR x := acF (body := (zB Tryz.f80)) Tryz.func80 (by kernel_rfl) (by kernel_rfl) acc fun x => ⟨by simp [encR, AV.Flat, K.Flat, C.Flat], fl0⟩
end laws_eqName
namespace laws_eqNameS
noncomputable def B0 {ρ : Type} (C0 : ByteArray → Int → Int → ByteArray → Int → Int → Option Bool) (v1 : Vec YN) (v2 : Vec YN) (v3 : Int) (W : YVN → YVN → Int → Option ρ) (K0 : Unit → Option ρ) (Kr : Bool → Option ρ) : Option ρ :=
  sel (decide (v3 < (v1.n : Int))) (chk (decide (0 ≤ v3 ∧ v3 < (v1.n : Int))) (chk (decide (0 ≤ v3 ∧ v3 < (v2.n : Int))) ((C0 ((v1.g v3.toNat).1) ((v1.g v3.toNat).2.1) ((v1.g v3.toNat).2.2) ((v2.g v3.toNat).1) ((v2.g v3.toNat).2.1) ((v2.g v3.toNat).2.2)).bind fun r1 => sel ((!r1)) (Kr false) (W v1 v2 (wr (v3 + (1 : Int))))))) (K0 ())
noncomputable def F0 {ρ : Type} : Nat → YVN → YVN → Int → (Unit → Option ρ) → (Bool → Option ρ) → Option ρ
  | 0, _, _, _, _, _ => none
  | k + 1, v1, v2, v3, K0, Kr => B0 laws_eqName.F v1 v2 v3 (fun v1' v2' v3' => F0 k v1' v2' v3' K0 Kr) K0 Kr
noncomputable def B {ρ : Type} (L0 : YVN → YVN → Int → (Unit → Option ρ) → (Bool → Option ρ) → Option ρ) (a1 : Vec YN) (a2 : Vec YN) (K : Bool → Option ρ) : Option ρ :=
  sel ((!decide ((a1.n : Int) = (a2.n : Int)))) (K false) (L0 a1 a2 (0 : Int) (fun _ => K true) (fun x01 => K x01))
noncomputable def F (a1 : Vec YN) (a2 : Vec YN) : Option Bool := B (F0 fuelN) a1 a2 (fun x1 => some (x1))
def encA (t : YVN × YVN) : LA := [vl t.1, vl t.2]
def encR (x : Bool) : AV × LO := (vb x, [])
theorem ZA (a b) (h : encA a = encA b) : a = b := by simp [encA, zA] at h; simp [Prod.ext_iff, h]
theorem ZB (a b) (h : encR a = encR b) : a = b := by simpa [encR, zA] using h
noncomputable def Q (args : LA) : Option Bool := ofC encA (un2 F) args
theorem wrap : F = fun y1 y2 => Q [vl y1, vl y2] := by funext y1 y2; exact Eq.symm (zD ZA _ (y1, y2))
noncomputable abbrev O (Q0 : LA → Option Bool) : Orc := mkO [qE 80 false laws_eqName.encR Q0] [] []
noncomputable def c0 : Code := loopC (atomN [] 0 (zB Tryz.f28) 0)
def ct0 : Cut := ⟨[0, 1, 5], []⟩
def lv0 : Exit → Cut
  | .exit 0 => ⟨[], []⟩
  | .ret => ⟨[4], []⟩
  | _ => ⟨[], []⟩
def k0_0 {ρ : Type} (K : Exit → St → Option ρ) (_ : Unit) : Option ρ := K (.exit 0) (mkS 27 (lv0 (.exit 0)).live [] [] [])
def k0_r {ρ : Type} (K : Exit → St → Option ρ) (z1 : Bool) : Option ρ := K .ret (mkS 27 (lv0 .ret).live [vb z1] [] [])
noncomputable def L (W0 : (ρ : Type) → LA → LO → (Unit → Option ρ) → (Bool → Option ρ) → Option ρ) : Lor := fun ρ j st K => sel (Nat.beq j 0) (cutO Tryz.prog 27 ct0.live 0 [] ct0.cmds st fun avs obs => W0 ρ avs obs (k0_0 K) (k0_r K)) (Option.none)
theorem step0 {Q0 W0} {ρ : Type} {K : Exit → St → Option ρ} {W : LA → LO → Option ρ} {v1 v2 v3} : exC Tryz.prog (O Q0) (L W0) [] 1 c0 (mkS 27 ct0.live [vl v1, vl v2, vi v3] [] []) (bodyK Tryz.prog 27 0 [] ct0 W lv0 K) =
    B0 (fun y1 y2 y3 y4 y5 y6 => Q0 [.a [cs y1, ci y2, ci y3], .a [cs y4, ci y5, ci y6]]) v1 v2 v3 (fun u1 u2 u3 => W [vl u1, vl u2, vi u3] []) (k0_0 K) (k0_r K) := by kernel_rfl
def enc0 (t : YVN × YVN × Int) : LA × LO := ([vl t.1, vl t.2.1, vi t.2.2], [])
theorem enc0I (a b) (h : enc0 a = enc0 b) : a = b := by simp [enc0, zA] at h; simp [Prod.ext_iff, h]
noncomputable def V0 : (ρ : Type) → LA → LO → (Unit → Option ρ) → (Bool → Option ρ) → Option ρ := fun ρ avs obs k0 kr => ofC enc0 (fun t => un3 (F0 fuelN) t k0 kr) (avs, obs)
theorem zG (ρ : Type) : F0 fuelN = fun w1 w2 w3 k0 kr => V0 ρ [vl w1, vl w2, vi w3] [] k0 kr := by funext w1 w2 w3 k0 kr; exact Eq.symm (zD enc0I _ (w1, w2, w3))
theorem main {Q0 W0} {ρ : Type} {K : AV → LO → Option ρ} {a1 a2} : exC Tryz.prog (O Q0) (L W0) [] 0 (zB Tryz.f28) (entry 27 [vl a1, vl a2] [] []) (finO Tryz.prog Tryz.f28.results.toList 0 [] [] K) =
    B (fun w1 w2 w3 k0 kr => W0 ρ [vl w1, vl w2, vi w3] [] k0 kr) a1 a2 (fun x1 => K (vb x1) []) := by kernel_rfl
theorem Gok : (O laws_eqName.Q).ok Tryz.prog := zH (by exact ⟨qE_ok laws_eqName.ac, trivial⟩) (by exact trivial)
theorem ok0 : OkL Tryz.prog (L V0) 0 (.loop c0) := fun ρ st K r h => zJ (ct := ct0) (lv := lv0) (L := (L V0)) Gok hmT (by rw [show zE [] 1 c0 = [] by kernel_rfl]; exact Lor.zF _ _) enc0I (fun k t => un3 (F0 k) t (k0_0 K) (k0_r K)) (fun t => rfl) (fun k t => by refine step0.trans ?_; rw [← laws_eqName.wrap]; exact congrFun (congrFun (congrArg (B0 _ _ _ _) (fx3 fun t => zD enc0I _ t)) _) _) (fun _ => fuelN) h
theorem e : zE [] 0 (zB Tryz.f28) = [(0, 0, .loop c0)] := by kernel_rfl
theorem acc : ∀ t x, un2 F t = some x → ACc Tryz.prog 28 (encA t) [] true [] fun rv obs => (rv, obs) = encR x := accT (T := YVN × YVN) (F := un2 F) (L := (L V0)) (cmds := []) (body := (zB Tryz.f28)) Gok hmT Tryz.func28 (by kernel_rfl) (by kernel_rfl) (by rw [e]; exact Lor.zI ok0 (Lor.zF _ _)) (fun t => by refine main.trans ?_; rw [← zG]; exact congrArg (B _ _ _) (fx1 fun t => zD ZB some t))
theorem ac : ∀ a x, Q a = some x → AC Tryz.prog 28 a [] false [] fun rv obs => (rv, obs) = encR x := acF (body := (zB Tryz.f28)) Tryz.func28 (by kernel_rfl) (by kernel_rfl) acc fun x => ⟨by simp [encR, AV.Flat, K.Flat, C.Flat], fl0⟩
end laws_eqNameS
namespace laws_eqCommit
noncomputable def B {ρ : Type} (C0 : YI → YI → Option Bool) (C1 : YVN → YVN → Option Bool) (a1 : YI) (a2 : ByteArray) (a3 : Vec YN) (a4 : YI) (a5 : ByteArray) (a6 : Vec YN) (K : Bool → Option ρ) : Option ρ :=
  (C0 a1 a4).bind fun r1 => sel ((!r1)) (K false) (sel ((!decide (a2 = a5))) (K false) ((C1 a3 a6).bind fun r2 => sel ((!r2)) (K false) (K true)))
noncomputable def F (a1 : YI) (a2 : ByteArray) (a3 : Vec YN) (a4 : YI) (a5 : ByteArray) (a6 : Vec YN) : Option Bool := B laws_eqIntS.F laws_eqNameS.F a1 a2 a3 a4 a5 a6 (fun x1 => some (x1))
def encA (t : YI × ByteArray × YVN × YI × ByteArray × YVN) : LA := [.a [cl t.1, cs t.2.1, cl t.2.2.1], .a [cl t.2.2.2.1, cs t.2.2.2.2.1, cl t.2.2.2.2.2]]
def encR (x : Bool) : AV × LO := (vb x, [])
theorem ZA (a b) (h : encA a = encA b) : a = b := by simp [encA, zA] at h; simp [Prod.ext_iff, h]
theorem ZB (a b) (h : encR a = encR b) : a = b := by simpa [encR, zA] using h
noncomputable def Q (args : LA) : Option Bool := ofC encA (un6 F) args
theorem wrap : F = fun y1 y2 y3 y4 y5 y6 => Q [.a [cl y1, cs y2, cl y3], .a [cl y4, cs y5, cl y6]] := by funext y1 y2 y3 y4 y5 y6; exact Eq.symm (zD ZA _ (y1, y2, y3, y4, y5, y6))
noncomputable abbrev O (Q0 : LA → Option Bool) (Q1 : LA → Option Bool) : Orc := mkO [qE 29 false laws_eqIntS.encR Q0, qE 28 false laws_eqNameS.encR Q1] [] []
noncomputable def L : Lor := fun _ _ _ _ => Option.none
theorem main {Q0 Q1} {ρ : Type} {K : AV → LO → Option ρ} {a1 a2 a3 a4 a5 a6} : exC Tryz.prog (O Q0 Q1) L [] 0 (zB Tryz.f81) (entry 22 [.a [cl a1, cs a2, cl a3], .a [cl a4, cs a5, cl a6]] [] []) (finO Tryz.prog Tryz.f81.results.toList 0 [] [] K) =
    B (fun y1 y2 => Q0 [vl y1, vl y2]) (fun y1 y2 => Q1 [vl y1, vl y2]) a1 a2 a3 a4 a5 a6 (fun x1 => K (vb x1) []) := by kernel_rfl
theorem Gok : (O laws_eqIntS.Q laws_eqNameS.Q).ok Tryz.prog := zH (by exact ⟨qE_ok laws_eqIntS.ac, qE_ok laws_eqNameS.ac, trivial⟩) (by exact trivial)
theorem acc : ∀ t x, un6 F t = some x → ACc Tryz.prog 81 (encA t) [] true [] fun rv obs => (rv, obs) = encR x := accT (T := YI × ByteArray × YVN × YI × ByteArray × YVN) (F := un6 F) (L := L) (cmds := []) (body := (zB Tryz.f81)) Gok hmT Tryz.func81 (by kernel_rfl) (by kernel_rfl) (by rw [show zE [] 0 (zB Tryz.f81) = [] by kernel_rfl]; exact Lor.zF _ _) (fun t => by refine main.trans ?_; rw [← laws_eqIntS.wrap, ← laws_eqNameS.wrap]; exact congrArg (B _ _ _ _ _ _ _ _) (fx1 fun t => zD ZB some t))
theorem ac : ∀ a x, Q a = some x → AC Tryz.prog 81 a [] false [] fun rv obs => (rv, obs) = encR x := acF (body := (zB Tryz.f81)) Tryz.func81 (by kernel_rfl) (by kernel_rfl) acc fun x => ⟨by simp [encR, AV.Flat, K.Flat, C.Flat], fl0⟩
end laws_eqCommit
namespace laws_eqCommitS
noncomputable def B0 {ρ : Type} (C0 : YI → ByteArray → YVN → YI → ByteArray → YVN → Option Bool) (v1 : Vec YC) (v2 : Vec YC) (v3 : Int) (W : YVC → YVC → Int → Option ρ) (K0 : Unit → Option ρ) (Kr : Bool → Option ρ) : Option ρ :=
  sel (decide (v3 < (v1.n : Int))) (chk (decide (0 ≤ v3 ∧ v3 < (v1.n : Int))) (chk (decide (0 ≤ v3 ∧ v3 < (v2.n : Int))) ((C0 ((v1.g v3.toNat).1) ((v1.g v3.toNat).2.1) ((v1.g v3.toNat).2.2) ((v2.g v3.toNat).1) ((v2.g v3.toNat).2.1) ((v2.g v3.toNat).2.2)).bind fun r1 => sel ((!r1)) (Kr false) (W v1 v2 (wr (v3 + (1 : Int))))))) (K0 ())
noncomputable def F0 {ρ : Type} : Nat → YVC → YVC → Int → (Unit → Option ρ) → (Bool → Option ρ) → Option ρ
  | 0, _, _, _, _, _ => none
  | k + 1, v1, v2, v3, K0, Kr => B0 laws_eqCommit.F v1 v2 v3 (fun v1' v2' v3' => F0 k v1' v2' v3' K0 Kr) K0 Kr
noncomputable def B {ρ : Type} (L0 : YVC → YVC → Int → (Unit → Option ρ) → (Bool → Option ρ) → Option ρ) (a1 : Vec YC) (a2 : Vec YC) (K : Bool → Option ρ) : Option ρ :=
  sel ((!decide ((a1.n : Int) = (a2.n : Int)))) (K false) (L0 a1 a2 (0 : Int) (fun _ => K true) (fun x01 => K x01))
noncomputable def F (a1 : Vec YC) (a2 : Vec YC) : Option Bool := B (F0 fuelN) a1 a2 (fun x1 => some (x1))
def encA (t : YVC × YVC) : LA := [vl t.1, vl t.2]
def encR (x : Bool) : AV × LO := (vb x, [])
theorem ZA (a b) (h : encA a = encA b) : a = b := by simp [encA, zA] at h; simp [Prod.ext_iff, h]
theorem ZB (a b) (h : encR a = encR b) : a = b := by simpa [encR, zA] using h
noncomputable def Q (args : LA) : Option Bool := ofC encA (un2 F) args
theorem wrap : F = fun y1 y2 => Q [vl y1, vl y2] := by funext y1 y2; exact Eq.symm (zD ZA _ (y1, y2))
noncomputable abbrev O (Q0 : LA → Option Bool) : Orc := mkO [qE 81 false laws_eqCommit.encR Q0] [] []
noncomputable def c0 : Code := loopC (atomN [] 0 (zB Tryz.f30) 0)
def ct0 : Cut := ⟨[0, 1, 5], []⟩
def lv0 : Exit → Cut
  | .exit 0 => ⟨[], []⟩
  | .ret => ⟨[4], []⟩
  | _ => ⟨[], []⟩
def k0_0 {ρ : Type} (K : Exit → St → Option ρ) (_ : Unit) : Option ρ := K (.exit 0) (mkS 27 (lv0 (.exit 0)).live [] [] [])
def k0_r {ρ : Type} (K : Exit → St → Option ρ) (z1 : Bool) : Option ρ := K .ret (mkS 27 (lv0 .ret).live [vb z1] [] [])
noncomputable def L (W0 : (ρ : Type) → LA → LO → (Unit → Option ρ) → (Bool → Option ρ) → Option ρ) : Lor := fun ρ j st K => sel (Nat.beq j 0) (cutO Tryz.prog 27 ct0.live 0 [] ct0.cmds st fun avs obs => W0 ρ avs obs (k0_0 K) (k0_r K)) (Option.none)
theorem step0 {Q0 W0} {ρ : Type} {K : Exit → St → Option ρ} {W : LA → LO → Option ρ} {v1 v2 v3} : exC Tryz.prog (O Q0) (L W0) [] 1 c0 (mkS 27 ct0.live [vl v1, vl v2, vi v3] [] []) (bodyK Tryz.prog 27 0 [] ct0 W lv0 K) =
    B0 (fun y1 y2 y3 y4 y5 y6 => Q0 [.a [cl y1, cs y2, cl y3], .a [cl y4, cs y5, cl y6]]) v1 v2 v3 (fun u1 u2 u3 => W [vl u1, vl u2, vi u3] []) (k0_0 K) (k0_r K) := by kernel_rfl
def enc0 (t : YVC × YVC × Int) : LA × LO := ([vl t.1, vl t.2.1, vi t.2.2], [])
theorem enc0I (a b) (h : enc0 a = enc0 b) : a = b := by simp [enc0, zA] at h; simp [Prod.ext_iff, h]
noncomputable def V0 : (ρ : Type) → LA → LO → (Unit → Option ρ) → (Bool → Option ρ) → Option ρ := fun ρ avs obs k0 kr => ofC enc0 (fun t => un3 (F0 fuelN) t k0 kr) (avs, obs)
theorem zG (ρ : Type) : F0 fuelN = fun w1 w2 w3 k0 kr => V0 ρ [vl w1, vl w2, vi w3] [] k0 kr := by funext w1 w2 w3 k0 kr; exact Eq.symm (zD enc0I _ (w1, w2, w3))
theorem main {Q0 W0} {ρ : Type} {K : AV → LO → Option ρ} {a1 a2} : exC Tryz.prog (O Q0) (L W0) [] 0 (zB Tryz.f30) (entry 27 [vl a1, vl a2] [] []) (finO Tryz.prog Tryz.f30.results.toList 0 [] [] K) =
    B (fun w1 w2 w3 k0 kr => W0 ρ [vl w1, vl w2, vi w3] [] k0 kr) a1 a2 (fun x1 => K (vb x1) []) := by kernel_rfl
theorem Gok : (O laws_eqCommit.Q).ok Tryz.prog := zH (by exact ⟨qE_ok laws_eqCommit.ac, trivial⟩) (by exact trivial)
theorem ok0 : OkL Tryz.prog (L V0) 0 (.loop c0) := fun ρ st K r h => zJ (ct := ct0) (lv := lv0) (L := (L V0)) Gok hmT (by rw [show zE [] 1 c0 = [] by kernel_rfl]; exact Lor.zF _ _) enc0I (fun k t => un3 (F0 k) t (k0_0 K) (k0_r K)) (fun t => rfl) (fun k t => by refine step0.trans ?_; rw [← laws_eqCommit.wrap]; exact congrFun (congrFun (congrArg (B0 _ _ _ _) (fx3 fun t => zD enc0I _ t)) _) _) (fun _ => fuelN) h
theorem e : zE [] 0 (zB Tryz.f30) = [(0, 0, .loop c0)] := by kernel_rfl
theorem acc : ∀ t x, un2 F t = some x → ACc Tryz.prog 30 (encA t) [] true [] fun rv obs => (rv, obs) = encR x := accT (T := YVC × YVC) (F := un2 F) (L := (L V0)) (cmds := []) (body := (zB Tryz.f30)) Gok hmT Tryz.func30 (by kernel_rfl) (by kernel_rfl) (by rw [e]; exact Lor.zI ok0 (Lor.zF _ _)) (fun t => by refine main.trans ?_; rw [← zG]; exact congrArg (B _ _ _) (fx1 fun t => zD ZB some t))
theorem ac : ∀ a x, Q a = some x → AC Tryz.prog 30 a [] false [] fun rv obs => (rv, obs) = encR x := acF (body := (zB Tryz.f30)) Tryz.func30 (by kernel_rfl) (by kernel_rfl) acc fun x => ⟨by simp [encR, AV.Flat, K.Flat, C.Flat], fl0⟩
end laws_eqCommitS
end Go.Al
