import Derived.Test.YtahffnkphppgoaaGreatAlE
import Derived.Test.YtahffnkphppgoaaGreatSC
set_option linter.unusedVariables false
set_option linter.unusedSimpArgs false
set_option linter.constructorNameAsVariable false
set_option linter.unusedSectionVars false
set_option maxRecDepth 100000
namespace Go.Al
open Go.Proofs
namespace spec_l01In
noncomputable def B {ρ : Type} (a1 : Int) (a2 : Int) (a3 : Int) (K : Bool → Option ρ) : Option ρ :=
  sel (decide (a2 ≤ a1)) (K (decide (a1 ≤ a3))) (K false)
noncomputable def F (a1 : Int) (a2 : Int) (a3 : Int) : Option Bool := B a1 a2 a3 (fun x1 => some (x1))
def encA (t : Int × Int × Int) : LA := [vi t.1, vi t.2.1, vi t.2.2]
def encR (x : Bool) : AV × LO := (vb x, [])
theorem ZA (a b) (h : encA a = encA b) : a = b := by simp [encA, zA] at h; simp [Prod.ext_iff, h]
theorem ZB (a b) (h : encR a = encR b) : a = b := by simpa [encR, zA] using h
noncomputable def Q (args : LA) : Option Bool := ofC encA (un3 F) args
theorem wrap : F = fun y1 y2 y3 => Q [vi y1, vi y2, vi y3] := by funext y1 y2 y3; exact Eq.symm (zD ZA _ (y1, y2, y3))
noncomputable abbrev O : Orc := mkO [] [] []
noncomputable def L : Lor := fun _ _ _ _ => Option.none
theorem main {ρ : Type} {K : AV → LO → Option ρ} {a1 a2 a3} : exC Tryz.prog O L [] 0 (zB Tryz.f119) (entry 15 [vi a1, vi a2, vi a3] [] []) (finO Tryz.prog Tryz.f119.results.toList 0 [] [] K) =
    B a1 a2 a3 (fun x1 => K (vb x1) []) := by kernel_rfl
theorem Gok : O.ok Tryz.prog := zH (by exact trivial) (by exact trivial)
theorem acc : ∀ t x, un3 F t = some x → ACc Tryz.prog 119 (encA t) [] true [] fun rv obs => (rv, obs) = encR x := accT (T := Int × Int × Int) (F := un3 F) (L := L) (cmds := []) (body := (zB Tryz.f119)) Gok hmT Tryz.func119 (by kernel_rfl) (by kernel_rfl) (by rw [show zE [] 0 (zB Tryz.f119) = [] by kernel_rfl]; exact Lor.zF _ _) (fun t => by refine main.trans ?_; exact congrArg (B _ _ _) (fx1 fun t => zD ZB some t))
theorem ac : ∀ a x, Q a = some x → AC Tryz.prog 119 a [] false [] fun rv obs => (rv, obs) = encR x := acF (body := (zB Tryz.f119)) Tryz.func119 (by kernel_rfl) (by kernel_rfl) acc fun x => ⟨by simp [encR, AV.Flat, K.Flat, C.Flat], fl0⟩
end spec_l01In
namespace spec_l05Rise
noncomputable def B0 {ρ : Type} (C0 : Int → Int → Int → Option Bool) (v1 : YI) (v2 : Int) (v3 : Int) (W : YI → Int → Int → Option ρ) (K0 : Unit → Option ρ) (Kr : Bool → Option ρ) : Option ρ :=
  sel (decide (v3 < (v1.n : Int))) (chk (decide (0 ≤ v3 ∧ v3 < (v1.n : Int))) ((C0 (v1.g v3.toNat) (0 : Int) (wr (v2 - (1 : Int)))).bind fun r1 => sel ((!r1)) (Kr false) (sel (decide ((0 : Int) < v3)) (chk (decide (0 ≤ (wr (v3 - (1 : Int))) ∧ (wr (v3 - (1 : Int))) < (v1.n : Int))) (chk (decide (0 ≤ v3 ∧ v3 < (v1.n : Int))) (sel (decide ((v1.g v3.toNat) ≤ (v1.g (wr (v3 - (1 : Int))).toNat))) (Kr false) (W v1 v2 (wr (v3 + (1 : Int))))))) (W v1 v2 (wr (v3 + (1 : Int))))))) (K0 ())
noncomputable def F0 {ρ : Type} : Nat → YI → Int → Int → (Unit → Option ρ) → (Bool → Option ρ) → Option ρ
  | 0, _, _, _, _, _ => none
  | k + 1, v1, v2, v3, K0, Kr => B0 spec_l01In.F v1 v2 v3 (fun v1' v2' v3' => F0 k v1' v2' v3' K0 Kr) K0 Kr
noncomputable def B {ρ : Type} (L0 : YI → Int → Int → (Unit → Option ρ) → (Bool → Option ρ) → Option ρ) (a1 : YI) (a2 : Int) (K : Bool → Option ρ) : Option ρ :=
  L0 a1 a2 (0 : Int) (fun _ => K true) (fun x01 => K x01)
noncomputable def F (a1 : YI) (a2 : Int) : Option Bool := B (F0 fuelN) a1 a2 (fun x1 => some (x1))
def encA (t : YI × Int) : LA := [vl t.1, vi t.2]
def encR (x : Bool) : AV × LO := (vb x, [])
theorem ZA (a b) (h : encA a = encA b) : a = b := by simp [encA, zA] at h; simp [Prod.ext_iff, h]
theorem ZB (a b) (h : encR a = encR b) : a = b := by simpa [encR, zA] using h
noncomputable def Q (args : LA) : Option Bool := ofC encA (un2 F) args
theorem wrap : F = fun y1 y2 => Q [vl y1, vi y2] := by funext y1 y2; exact Eq.symm (zD ZA _ (y1, y2))
noncomputable abbrev O (Q0 : LA → Option Bool) : Orc := mkO [qE 119 false spec_l01In.encR Q0] [] []
noncomputable def c0 : Code := loopC (atomN [] 0 (zB Tryz.f73) 0)
def ct0 : Cut := ⟨[0, 1, 5], []⟩
def lv0 : Exit → Cut
  | .exit 0 => ⟨[], []⟩
  | .ret => ⟨[4], []⟩
  | _ => ⟨[], []⟩
def k0_0 {ρ : Type} (K : Exit → St → Option ρ) (_ : Unit) : Option ρ := K (.exit 0) (mkS 36 (lv0 (.exit 0)).live [] [] [])
def k0_r {ρ : Type} (K : Exit → St → Option ρ) (z1 : Bool) : Option ρ := K .ret (mkS 36 (lv0 .ret).live [vb z1] [] [])
noncomputable def L (W0 : (ρ : Type) → LA → LO → (Unit → Option ρ) → (Bool → Option ρ) → Option ρ) : Lor := fun ρ j st K => sel (Nat.beq j 0) (cutO Tryz.prog 36 ct0.live 0 [] ct0.cmds st fun avs obs => W0 ρ avs obs (k0_0 K) (k0_r K)) (Option.none)
theorem step0 {Q0 W0} {ρ : Type} {K : Exit → St → Option ρ} {W : LA → LO → Option ρ} {v1 v2 v3} : exC Tryz.prog (O Q0) (L W0) [] 1 c0 (mkS 36 ct0.live [vl v1, vi v2, vi v3] [] []) (bodyK Tryz.prog 36 0 [] ct0 W lv0 K) =
    B0 (fun y1 y2 y3 => Q0 [vi y1, vi y2, vi y3]) v1 v2 v3 (fun u1 u2 u3 => W [vl u1, vi u2, vi u3] []) (k0_0 K) (k0_r K) := by kernel_rfl
def enc0 (t : YI × Int × Int) : LA × LO := ([vl t.1, vi t.2.1, vi t.2.2], [])
theorem enc0I (a b) (h : enc0 a = enc0 b) : a = b := by simp [enc0, zA] at h; simp [Prod.ext_iff, h]
noncomputable def V0 : (ρ : Type) → LA → LO → (Unit → Option ρ) → (Bool → Option ρ) → Option ρ := fun ρ avs obs k0 kr => ofC enc0 (fun t => un3 (F0 fuelN) t k0 kr) (avs, obs)
theorem zG (ρ : Type) : F0 fuelN = fun w1 w2 w3 k0 kr => V0 ρ [vl w1, vi w2, vi w3] [] k0 kr := by funext w1 w2 w3 k0 kr; exact Eq.symm (zD enc0I _ (w1, w2, w3))
theorem main {Q0 W0} {ρ : Type} {K : AV → LO → Option ρ} {a1 a2} : exC Tryz.prog (O Q0) (L W0) [] 0 (zB Tryz.f73) (entry 36 [vl a1, vi a2] [] []) (finO Tryz.prog Tryz.f73.results.toList 0 [] [] K) =
    B (fun w1 w2 w3 k0 kr => W0 ρ [vl w1, vi w2, vi w3] [] k0 kr) a1 a2 (fun x1 => K (vb x1) []) := by kernel_rfl
theorem Gok : (O spec_l01In.Q).ok Tryz.prog := zH (by exact ⟨qE_ok spec_l01In.ac, trivial⟩) (by exact trivial)
theorem ok0 : OkL Tryz.prog (L V0) 0 (.loop c0) := fun ρ st K r h => zJ (ct := ct0) (lv := lv0) (L := (L V0)) Gok hmT (by rw [show zE [] 1 c0 = [] by kernel_rfl]; exact Lor.zF _ _) enc0I (fun k t => un3 (F0 k) t (k0_0 K) (k0_r K)) (fun t => rfl) (fun k t => by refine step0.trans ?_; rw [← spec_l01In.wrap]; exact congrFun (congrFun (congrArg (B0 _ _ _ _) (fx3 fun t => zD enc0I _ t)) _) _) (fun _ => fuelN) h
theorem e : zE [] 0 (zB Tryz.f73) = [(0, 0, .loop c0)] := by kernel_rfl
theorem acc : ∀ t x, un2 F t = some x → ACc Tryz.prog 73 (encA t) [] true [] fun rv obs => (rv, obs) = encR x := accT (T := YI × Int) (F := un2 F) (L := (L V0)) (cmds := []) (body := (zB Tryz.f73)) Gok hmT Tryz.func73 (by kernel_rfl) (by kernel_rfl) (by rw [e]; exact Lor.zI ok0 (Lor.zF _ _)) (fun t => by refine main.trans ?_; rw [← zG]; exact congrArg (B _ _ _) (fx1 fun t => zD ZB some t))
theorem ac : ∀ a x, Q a = some x → AC Tryz.prog 73 a [] false [] fun rv obs => (rv, obs) = encR x := acF (body := (zB Tryz.f73)) Tryz.func73 (by kernel_rfl) (by kernel_rfl) acc fun x => ⟨by simp [encR, AV.Flat, K.Flat, C.Flat], fl0⟩
end spec_l05Rise
namespace impl_inRange
noncomputable def B {ρ : Type} (a1 : Int) (a2 : Int) (a3 : Int) (K : Bool → Option ρ) : Option ρ :=
  sel (decide (a2 ≤ a1)) (K (decide (a1 ≤ a3))) (K false)
noncomputable def F (a1 : Int) (a2 : Int) (a3 : Int) : Option Bool := B a1 a2 a3 (fun x1 => some (x1))
def encA (t : Int × Int × Int) : LA := [vi t.1, vi t.2.1, vi t.2.2]
def encR (x : Bool) : AV × LO := (vb x, [])
theorem ZA (a b) (h : encA a = encA b) : a = b := by simp [encA, zA] at h; simp [Prod.ext_iff, h]
theorem ZB (a b) (h : encR a = encR b) : a = b := by simpa [encR, zA] using h
noncomputable def Q (args : LA) : Option Bool := ofC encA (un3 F) args
theorem wrap : F = fun y1 y2 y3 => Q [vi y1, vi y2, vi y3] := by funext y1 y2 y3; exact Eq.symm (zD ZA _ (y1, y2, y3))
noncomputable abbrev O : Orc := mkO [] [] []
noncomputable def L : Lor := fun _ _ _ _ => Option.none
theorem main {ρ : Type} {K : AV → LO → Option ρ} {a1 a2 a3} : exC Tryz.prog O L [] 0 (zB Tryz.f126) (entry 15 [vi a1, vi a2, vi a3] [] []) (finO Tryz.prog Tryz.f126.results.toList 0 [] [] K) =
    B a1 a2 a3 (fun x1 => K (vb x1) []) := by kernel_rfl
theorem Gok : O.ok Tryz.prog := zH (by exact trivial) (by exact trivial)
theorem acc : ∀ t x, un3 F t = some x → ACc Tryz.prog 126 (encA t) [] true [] fun rv obs => (rv, obs) = encR x := accT (T := Int × Int × Int) (F := un3 F) (L := L) (cmds := []) (body := (zB Tryz.f126)) Gok hmT Tryz.func126 (by kernel_rfl) (by kernel_rfl) (by rw [show zE [] 0 (zB Tryz.f126) = [] by kernel_rfl]; exact Lor.zF _ _) (fun t => by refine main.trans ?_; exact congrArg (B _ _ _) (fx1 fun t => zD ZB some t))
theorem ac : ∀ a x, Q a = some x → AC Tryz.prog 126 a [] false [] fun rv obs => (rv, obs) = encR x := acF (body := (zB Tryz.f126)) Tryz.func126 (by kernel_rfl) (by kernel_rfl) acc fun x => ⟨by simp [encR, AV.Flat, K.Flat, C.Flat], fl0⟩
end impl_inRange
namespace impl_ascends
noncomputable def B0 {ρ : Type} (C0 : Int → Int → Int → Option Bool) (v1 : YI) (v2 : Int) (v3 : YI) (v4 : Int) (v5 : Int) (W : YI → Int → YI → Int → Int → Option ρ) (K0 : Unit → Option ρ) (Kr : Bool → Option ρ) : Option ρ :=
  sel (decide (v5 < v4)) (chk (decide (0 ≤ v5 ∧ v5 < (v3.n : Int))) ((C0 (v3.g v5.toNat) (0 : Int) (wr (v2 - (1 : Int)))).bind fun r1 => sel ((!r1)) (Kr false) (sel (decide ((0 : Int) < v5)) (chk (decide (0 ≤ (wr (v5 - (1 : Int))) ∧ (wr (v5 - (1 : Int))) < (v1.n : Int))) (sel (decide ((v3.g v5.toNat) ≤ (v1.g (wr (v5 - (1 : Int))).toNat))) (Kr false) (W v1 v2 v3 v4 (wr (v5 + (1 : Int)))))) (W v1 v2 v3 v4 (wr (v5 + (1 : Int))))))) (K0 ())
noncomputable def F0 {ρ : Type} : Nat → YI → Int → YI → Int → Int → (Unit → Option ρ) → (Bool → Option ρ) → Option ρ
  | 0, _, _, _, _, _, _, _ => none
  | k + 1, v1, v2, v3, v4, v5, K0, Kr => B0 impl_inRange.F v1 v2 v3 v4 v5 (fun v1' v2' v3' v4' v5' => F0 k v1' v2' v3' v4' v5' K0 Kr) K0 Kr
noncomputable def B {ρ : Type} (L0 : YI → Int → YI → Int → Int → (Unit → Option ρ) → (Bool → Option ρ) → Option ρ) (a1 : YI) (a2 : Int) (K : Bool → Option ρ) : Option ρ :=
  L0 a1 a2 a1 (a1.n : Int) (0 : Int) (fun _ => K true) (fun x01 => K x01)
noncomputable def F (a1 : YI) (a2 : Int) : Option Bool := B (F0 fuelN) a1 a2 (fun x1 => some (x1))
def encA (t : YI × Int) : LA := [vl t.1, vi t.2]
def encR (x : Bool) : AV × LO := (vb x, [])
theorem ZA (a b) (h : encA a = encA b) : a = b := by simp [encA, zA] at h; simp [Prod.ext_iff, h]
theorem ZB (a b) (h : encR a = encR b) : a = b := by simpa [encR, zA] using h
noncomputable def Q (args : LA) : Option Bool := ofC encA (un2 F) args
theorem wrap : F = fun y1 y2 => Q [vl y1, vi y2] := by funext y1 y2; exact Eq.symm (zD ZA _ (y1, y2))
noncomputable abbrev O (Q0 : LA → Option Bool) : Orc := mkO [qE 126 false impl_inRange.encR Q0] [] []
noncomputable def c0 : Code := loopC (atomN [] 0 (zB Tryz.f78) 0)
def ct0 : Cut := ⟨[0, 1, 7, 8, 9], []⟩
def lv0 : Exit → Cut
  | .exit 0 => ⟨[], []⟩
  | .ret => ⟨[4], []⟩
  | _ => ⟨[], []⟩
def k0_0 {ρ : Type} (K : Exit → St → Option ρ) (_ : Unit) : Option ρ := K (.exit 0) (mkS 33 (lv0 (.exit 0)).live [] [] [])
def k0_r {ρ : Type} (K : Exit → St → Option ρ) (z1 : Bool) : Option ρ := K .ret (mkS 33 (lv0 .ret).live [vb z1] [] [])
noncomputable def L (W0 : (ρ : Type) → LA → LO → (Unit → Option ρ) → (Bool → Option ρ) → Option ρ) : Lor := fun ρ j st K => sel (Nat.beq j 0) (cutO Tryz.prog 33 ct0.live 0 [] ct0.cmds st fun avs obs => W0 ρ avs obs (k0_0 K) (k0_r K)) (Option.none)
theorem step0 {Q0 W0} {ρ : Type} {K : Exit → St → Option ρ} {W : LA → LO → Option ρ} {v1 v2 v3 v4 v5} : exC Tryz.prog (O Q0) (L W0) [] 1 c0 (mkS 33 ct0.live [vl v1, vi v2, vl v3, vi v4, vi v5] [] []) (bodyK Tryz.prog 33 0 [] ct0 W lv0 K) =
    B0 (fun y1 y2 y3 => Q0 [vi y1, vi y2, vi y3]) v1 v2 v3 v4 v5 (fun u1 u2 u3 u4 u5 => W [vl u1, vi u2, vl u3, vi u4, vi u5] []) (k0_0 K) (k0_r K) := by kernel_rfl
def enc0 (t : YI × Int × YI × Int × Int) : LA × LO := ([vl t.1, vi t.2.1, vl t.2.2.1, vi t.2.2.2.1, vi t.2.2.2.2], [])
theorem enc0I (a b) (h : enc0 a = enc0 b) : a = b := by simp [enc0, zA] at h; simp [Prod.ext_iff, h]
noncomputable def V0 : (ρ : Type) → LA → LO → (Unit → Option ρ) → (Bool → Option ρ) → Option ρ := fun ρ avs obs k0 kr => ofC enc0 (fun t => un5 (F0 fuelN) t k0 kr) (avs, obs)
theorem zG (ρ : Type) : F0 fuelN = fun w1 w2 w3 w4 w5 k0 kr => V0 ρ [vl w1, vi w2, vl w3, vi w4, vi w5] [] k0 kr := by funext w1 w2 w3 w4 w5 k0 kr; exact Eq.symm (zD enc0I _ (w1, w2, w3, w4, w5))
theorem main {Q0 W0} {ρ : Type} {K : AV → LO → Option ρ} {a1 a2} : exC Tryz.prog (O Q0) (L W0) [] 0 (zB Tryz.f78) (entry 33 [vl a1, vi a2] [] []) (finO Tryz.prog Tryz.f78.results.toList 0 [] [] K) =
    B (fun w1 w2 w3 w4 w5 k0 kr => W0 ρ [vl w1, vi w2, vl w3, vi w4, vi w5] [] k0 kr) a1 a2 (fun x1 => K (vb x1) []) := by kernel_rfl
theorem Gok : (O impl_inRange.Q).ok Tryz.prog := zH (by exact ⟨qE_ok impl_inRange.ac, trivial⟩) (by exact trivial)
theorem ok0 : OkL Tryz.prog (L V0) 0 (.loop c0) := fun ρ st K r h => zJ (ct := ct0) (lv := lv0) (L := (L V0)) Gok hmT (by rw [show zE [] 1 c0 = [] by kernel_rfl]; exact Lor.zF _ _) enc0I (fun k t => un5 (F0 k) t (k0_0 K) (k0_r K)) (fun t => rfl) (fun k t => by refine step0.trans ?_; rw [← impl_inRange.wrap]; exact congrFun (congrFun (congrArg (B0 _ _ _ _ _ _) (fx5 fun t => zD enc0I _ t)) _) _) (fun _ => fuelN) h
theorem e : zE [] 0 (zB Tryz.f78) = [(0, 0, .loop c0)] := by kernel_rfl
theorem acc : ∀ t x, un2 F t = some x → ACc Tryz.prog 78 (encA t) [] true [] fun rv obs => (rv, obs) = encR x := accT (T := YI × Int) (F := un2 F) (L := (L V0)) (cmds := []) (body := (zB Tryz.f78)) Gok hmT Tryz.func78 (by kernel_rfl) (by kernel_rfl) (by rw [e]; exact Lor.zI ok0 (Lor.zF _ _)) (fun t => by refine main.trans ?_; rw [← zG]; exact congrArg (B _ _ _) (fx1 fun t => zD ZB some t))
theorem ac : ∀ a x, Q a = some x → AC Tryz.prog 78 a [] false [] fun rv obs => (rv, obs) = encR x := acF (body := (zB Tryz.f78)) Tryz.func78 (by kernel_rfl) (by kernel_rfl) acc fun x => ⟨by simp [encR, AV.Flat, K.Flat, C.Flat], fl0⟩
end impl_ascends
end Go.Al
