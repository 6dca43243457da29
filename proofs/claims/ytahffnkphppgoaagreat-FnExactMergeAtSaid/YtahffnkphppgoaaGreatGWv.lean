import Derived.Test.YtahffnkphppgoaaGreatAlE
import Derived.Test.YtahffnkphppgoaaGreatSC
import Derived.Test.YtahffnkphppgoaaGreatGRise
set_option linter.unusedVariables false
set_option linter.unusedSimpArgs false
set_option linter.constructorNameAsVariable false
set_option linter.unusedSectionVars false
set_option maxRecDepth 100000
namespace Go.Al
open Go.Proofs
namespace spec_GraphOk
noncomputable def B0 {ρ : Type} (C0 : YI → Int → Option Bool) (v1 : Vec YI) (v2 : Int) (W : YG → Int → Option ρ) (K0 : Unit → Option ρ) (Kr : Bool → Option ρ) : Option ρ :=
  sel (decide (v2 < (v1.n : Int))) (chk (decide (0 ≤ v2 ∧ v2 < (v1.n : Int))) (sel (decide ((4 : Int) < ((v1.g v2.toNat).n : Int))) (Kr false) (chk (decide (0 ≤ v2 ∧ v2 < (v1.n : Int))) ((C0 (v1.g v2.toNat) v2).bind fun r1 => sel ((!r1)) (Kr false) (W v1 (wr (v2 + (1 : Int)))))))) (K0 ())
noncomputable def F0 {ρ : Type} : Nat → YG → Int → (Unit → Option ρ) → (Bool → Option ρ) → Option ρ
  | 0, _, _, _, _ => none
  | k + 1, v1, v2, K0, Kr => B0 spec_l05Rise.F v1 v2 (fun v1' v2' => F0 k v1' v2' K0 Kr) K0 Kr
noncomputable def B {ρ : Type} (L0 : YG → Int → (Unit → Option ρ) → (Bool → Option ρ) → Option ρ) (a1 : Vec YI) (K : Bool → Option ρ) : Option ρ :=
  sel (decide ((40 : Int) < (a1.n : Int))) (K false) (L0 a1 (0 : Int) (fun _ => K true) (fun x01 => K x01))
noncomputable def F (a1 : Vec YI) : Option Bool := B (F0 fuelN) a1 (fun x1 => some (x1))
def encA (t : Vec YI) : LA := [vl t]
def encR (x : Bool) : AV × LO := (vb x, [])
theorem ZA (a b) (h : encA a = encA b) : a = b := by simpa [encA, zA] using h
theorem ZB (a b) (h : encR a = encR b) : a = b := by simpa [encR, zA] using h
noncomputable def Q (args : LA) : Option Bool := ofC encA (un1 F) args
theorem wrap : F = fun y1 => Q [vl y1] := by funext y1; exact Eq.symm (zD ZA _ (y1))
noncomputable abbrev O (Q0 : LA → Option Bool) : Orc := mkO [qE 73 false spec_l05Rise.encR Q0] [] []
noncomputable def c0 : Code := loopC (atomN [] 0 (zB Tryz.f71) 0)
def ct0 : Cut := ⟨[0, 3], []⟩
def lv0 : Exit → Cut
  | .exit 0 => ⟨[], []⟩
  | .ret => ⟨[2], []⟩
  | _ => ⟨[], []⟩
def k0_0 {ρ : Type} (K : Exit → St → Option ρ) (_ : Unit) : Option ρ := K (.exit 0) (mkS 28 (lv0 (.exit 0)).live [] [] [])
def k0_r {ρ : Type} (K : Exit → St → Option ρ) (z1 : Bool) : Option ρ := K .ret (mkS 28 (lv0 .ret).live [vb z1] [] [])
noncomputable def L (W0 : (ρ : Type) → LA → LO → (Unit → Option ρ) → (Bool → Option ρ) → Option ρ) : Lor := fun ρ j st K => sel (Nat.beq j 0) (cutO Tryz.prog 28 ct0.live 0 [] ct0.cmds st fun avs obs => W0 ρ avs obs (k0_0 K) (k0_r K)) (Option.none)
theorem step0 {Q0 W0} {ρ : Type} {K : Exit → St → Option ρ} {W : LA → LO → Option ρ} {v1 v2} : exC Tryz.prog (O Q0) (L W0) [] 1 c0 (mkS 28 ct0.live [vl v1, vi v2] [] []) (bodyK Tryz.prog 28 0 [] ct0 W lv0 K) =
    B0 (fun y1 y2 => Q0 [vl y1, vi y2]) v1 v2 (fun u1 u2 => W [vl u1, vi u2] []) (k0_0 K) (k0_r K) := by kernel_rfl
def enc0 (t : Vec YI × Int) : LA × LO := ([vl t.1, vi t.2], [])
theorem enc0I (a b) (h : enc0 a = enc0 b) : a = b := by simp [enc0, zA] at h; simp [Prod.ext_iff, h]
noncomputable def V0 : (ρ : Type) → LA → LO → (Unit → Option ρ) → (Bool → Option ρ) → Option ρ := fun ρ avs obs k0 kr => ofC enc0 (fun t => un2 (F0 fuelN) t k0 kr) (avs, obs)
theorem zG (ρ : Type) : F0 fuelN = fun w1 w2 k0 kr => V0 ρ [vl w1, vi w2] [] k0 kr := by funext w1 w2 k0 kr; exact Eq.symm (zD enc0I _ (w1, w2))
theorem main {Q0 W0} {ρ : Type} {K : AV → LO → Option ρ} {a1} : exC Tryz.prog (O Q0) (L W0) [] 0 (zB Tryz.f71) (entry 28 [vl a1] [] []) (finO Tryz.prog Tryz.f71.results.toList 0 [] [] K) =
    B (fun w1 w2 k0 kr => W0 ρ [vl w1, vi w2] [] k0 kr) a1 (fun x1 => K (vb x1) []) := by kernel_rfl
theorem Gok : (O spec_l05Rise.Q).ok Tryz.prog := zH (by exact ⟨qE_ok spec_l05Rise.ac, trivial⟩) (by exact trivial)
theorem ok0 : OkL Tryz.prog (L V0) 0 (.loop c0) := fun ρ st K r h => zJ (ct := ct0) (lv := lv0) (L := (L V0)) Gok hmT (by rw [show zE [] 1 c0 = [] by kernel_rfl]; exact Lor.zF _ _) enc0I (fun k t => un2 (F0 k) t (k0_0 K) (k0_r K)) (fun t => rfl) (fun k t => by refine step0.trans ?_; rw [← spec_l05Rise.wrap]; exact congrFun (congrFun (congrArg (B0 _ _ _) (fx2 fun t => zD enc0I _ t)) _) _) (fun _ => fuelN) h
theorem e : zE [] 0 (zB Tryz.f71) = [(0, 0, .loop c0)] := by kernel_rfl
theorem acc : ∀ t x, un1 F t = some x → ACc Tryz.prog 71 (encA t) [] true [] fun rv obs => (rv, obs) = encR x := accT (T := Vec YI) (F := un1 F) (L := (L V0)) (cmds := []) (body := (zB Tryz.f71)) Gok hmT Tryz.func71 (by kernel_rfl) (by kernel_rfl) (by rw [e]; exact Lor.zI ok0 (Lor.zF _ _)) (fun t => by refine main.trans ?_; rw [← zG]; exact congrArg (B _ _) (fx1 fun t => zD ZB some t))
theorem ac : ∀ a x, Q a = some x → AC Tryz.prog 71 a [] false [] fun rv obs => (rv, obs) = encR x := acF (body := (zB Tryz.f71)) Tryz.func71 (by kernel_rfl) (by kernel_rfl) acc fun x => ⟨by simp [encR, AV.Flat, K.Flat, C.Flat], fl0⟩
end spec_GraphOk
namespace spec_l05Set
noncomputable def B2 {ρ : Type} (v1 : Vec YI) (v2 : Int) (v3 : Int) (v4 : YX) (W : YG → Int → Int → YX → Option ρ) (K4 : YG → Int → YX → Option ρ) : Option ρ :=
  chk (decide (0 ≤ v2 ∧ v2 < (v1.n : Int))) (sel (decide (v3 < ((v1.g v2.toNat).n : Int))) (chk (decide (0 ≤ v2 ∧ v2 < (v4.n : Int))) (chk (decide (v2.toNat < v4.n)) (sel ((v4.g v2.toNat)) (chk (decide (0 ≤ v2 ∧ v2 < (v1.n : Int))) (chk (decide (0 ≤ v3 ∧ v3 < ((v1.g v2.toNat).n : Int))) (chk (decide (0 ≤ ((v1.g v2.toNat).g v3.toNat) ∧ ((v1.g v2.toNat).g v3.toNat) < (v4.n : Int))) (chk (decide (((v1.g v2.toNat).g v3.toNat).toNat < v4.n)) (W v1 v2 (wr (v3 + (1 : Int))) (Vec.set v4 (((v1.g v2.toNat).g v3.toNat).toNat) true)))))) (K4 v1 v2 v4)))) (K4 v1 v2 v4))
noncomputable def F2 {ρ : Type} : Nat → YG → Int → Int → YX → (YG → Int → YX → Option ρ) → Option ρ
  | 0, _, _, _, _, _ => none
  | k + 1, v1, v2, v3, v4, K4 => B2 v1 v2 v3 v4 (fun v1' v2' v3' v4' => F2 k v1' v2' v3' v4' K4) K4
noncomputable def B1 {ρ : Type} (L2 : YG → Int → Int → YX → (YG → Int → YX → Option ρ) → Option ρ) (v1 : Vec YI) (v2 : Int) (v3 : YX) (W : YG → Int → YX → Option ρ) (K2 : YX → Option ρ) : Option ρ :=
  sel (decide ((0 : Int) ≤ v2)) (L2 v1 v2 (0 : Int) v3 (fun e21 e22 e23 => W e21 (wr (e22 - (1 : Int))) e23)) (K2 v3)
noncomputable def F1 {ρ : Type} : Nat → YG → Int → YX → (YX → Option ρ) → Option ρ
  | 0, _, _, _, _ => none
  | k + 1, v1, v2, v3, K2 => B1 (F2 fuelN) v1 v2 v3 (fun v1' v2' v3' => F1 k v1' v2' v3' K2) K2
noncomputable def B0 {ρ : Type} (C0 : Int → Int → Int → Option Bool) (v1 : Vec YI) (v2 : YI) (v3 : Int) (v4 : YX) (W : YG → YI → Int → YX → Option ρ) (K0 : YG → YX → Option ρ) : Option ρ :=
  sel (decide (v3 < (v2.n : Int))) (chk (decide (0 ≤ v3 ∧ v3 < (v2.n : Int))) ((C0 (v2.g v3.toNat) (0 : Int) (wr ((v1.n : Int) - (1 : Int)))).bind fun r1 => sel (r1) (chk (decide (0 ≤ v3 ∧ v3 < (v2.n : Int))) (chk (decide (0 ≤ (v2.g v3.toNat) ∧ (v2.g v3.toNat) < (v4.n : Int))) (chk (decide ((v2.g v3.toNat).toNat < v4.n)) (W v1 v2 (wr (v3 + (1 : Int))) (Vec.set v4 ((v2.g v3.toNat).toNat) true))))) (W v1 v2 (wr (v3 + (1 : Int))) v4))) (K0 v1 v4)
noncomputable def F0 {ρ : Type} : Nat → YG → YI → Int → YX → (YG → YX → Option ρ) → Option ρ
  | 0, _, _, _, _, _ => none
  | k + 1, v1, v2, v3, v4, K0 => B0 spec_l01In.F v1 v2 v3 v4 (fun v1' v2' v3' v4' => F0 k v1' v2' v3' v4' K0) K0
noncomputable def B {ρ : Type} (L0 : YG → YI → Int → YX → (YG → YX → Option ρ) → Option ρ) (L1 : YG → Int → YX → (YX → Option ρ) → Option ρ) (a1 : Vec YI) (a2 : YI) (K : YX → Option ρ) : Option ρ :=
  chk (decide ((a1.n : Int) = (a1.n : Int) ∧ 0 ≤ (a1.n : Int))) (chk (mkOk (a1.n : Int) 1) (L0 a1 a2 (0 : Int) (Vec.rep ((a1.n : Int).toNat) false : YX) (fun e01 e02 => L1 e01 (wr ((e01.n : Int) - (1 : Int))) e02 (fun e11 => K e11))))
noncomputable def F (a1 : Vec YI) (a2 : YI) : Option YX := B (F0 fuelN) (F1 fuelN) a1 a2 (fun x1 => some (x1))
def encA (t : Vec YI × YI) : LA := [vl t.1, vl t.2]
def encR (x : YX) : AV × LO := (.c (.h 0), [ro x])
theorem ZA (a b) (h : encA a = encA b) : a = b := by simp [encA, zA] at h; simp [Prod.ext_iff, h]
theorem ZB (a b) (h : encR a = encR b) : a = b := by simpa [encR, zA] using h
noncomputable def Q (args : LA) : Option YX := ofC encA (un2 F) args
theorem wrap : F = fun y1 y2 => Q [vl y1, vl y2] := by funext y1 y2; exact Eq.symm (zD ZA _ (y1, y2))
noncomputable abbrev O (Q0 : LA → Option Bool) : Orc := mkO [qE 119 false spec_l01In.encR Q0] [] []
noncomputable def c0 : Code := loopC (atomN [] 0 (zB Tryz.f138) 0)
noncomputable def c1 : Code := loopC (atomN [] 0 (zB Tryz.f138) 1)
noncomputable def c2 : Code := loopC (atomN [] 2 c1 0)
def ct0 : Cut := ⟨[0, 1, 5, 6], []⟩
def lv0 : Exit → Cut
  | .exit 0 => ⟨[0, 5], []⟩
  | _ => ⟨[], []⟩
def k0_0 {ρ : Type} (K : Exit → St → Option ρ) (z1 : Vec YI) (z2 : YX) : Option ρ := K (.exit 0) (mkS 64 (lv0 (.exit 0)).live [vl z1, .c (.h 0)] [ro z2] [])
def ct1 : Cut := ⟨[0, 5, 7], []⟩
def lv1 : Exit → Cut
  | .exit 2 => ⟨[5], []⟩
  | _ => ⟨[], []⟩
def k1_2 {ρ : Type} (K : Exit → St → Option ρ) (z1 : YX) : Option ρ := K (.exit 2) (mkS 64 (lv1 (.exit 2)).live [.c (.h 0)] [ro z1] [])
def ct2 : Cut := ⟨[0, 5, 7, 8], []⟩
def lv2 : Exit → Cut
  | .exit 4 => ⟨[0, 5, 7], []⟩
  | _ => ⟨[], []⟩
def k2_4 {ρ : Type} (K : Exit → St → Option ρ) (z1 : Vec YI) (z2 : Int) (z3 : YX) : Option ρ := K (.exit 4) (mkS 64 (lv2 (.exit 4)).live [vl z1, .c (.h 0), vi z2] [ro z3] [])
noncomputable def L (W2 : (ρ : Type) → LA → LO → (YG → Int → YX → Option ρ) → Option ρ) (W1 : (ρ : Type) → LA → LO → (YX → Option ρ) → Option ρ) (W0 : (ρ : Type) → LA → LO → (YG → YX → Option ρ) → Option ρ) : Lor := fun ρ j st K => sel (Nat.beq j 0) (cutO Tryz.prog 64 ct0.live 0 [] ct0.cmds st fun avs obs => W0 ρ avs obs (k0_0 K)) (sel (Nat.beq j 1) (cutO Tryz.prog 64 ct1.live 0 [] ct1.cmds st fun avs obs => W1 ρ avs obs (k1_2 K)) (sel (Nat.beq j 2) (cutO Tryz.prog 64 ct2.live 0 [] ct2.cmds st fun avs obs => W2 ρ avs obs (k2_4 K)) (Option.none)))
theorem step0 {Q0 W2 W1 W0} {ρ : Type} {K : Exit → St → Option ρ} {W : LA → LO → Option ρ} {v1 v2 v3 v4} : exC Tryz.prog (O Q0) (L W2 W1 W0) [] 1 c0 (mkS 64 ct0.live [vl v1, vl v2, .c (.h 0), vi v3] [ro v4] []) (bodyK Tryz.prog 64 0 [] ct0 W lv0 K) =
    B0 (fun y1 y2 y3 => Q0 [vi y1, vi y2, vi y3]) v1 v2 v3 v4 (fun u1 u2 u3 u4 => W [vl u1, vl u2, .c (.h 0), vi u3] [ro u4]) (k0_0 K) := by kernel_rfl
def enc0 (t : Vec YI × YI × Int × Vec Bool) : LA × LO := ([vl t.1, vl t.2.1, .c (.h 0), vi t.2.2.1], [ro t.2.2.2])
theorem enc0I (a b) (h : enc0 a = enc0 b) : a = b := by simp [enc0, zA] at h; simp [Prod.ext_iff, h]
noncomputable def V0 : (ρ : Type) → LA → LO → (YG → YX → Option ρ) → Option ρ := fun ρ avs obs k0 => ofC enc0 (fun t => un4 (F0 fuelN) t k0) (avs, obs)
theorem zG (ρ : Type) : F0 fuelN = fun w1 w2 w3 w4 k0 => V0 ρ [vl w1, vl w2, .c (.h 0), vi w3] [ro w4] k0 := by funext w1 w2 w3 w4 k0; exact Eq.symm (zD enc0I _ (w1, w2, w3, w4))
theorem step1 {Q0 W2 W1 W0} {ρ : Type} {K : Exit → St → Option ρ} {W : LA → LO → Option ρ} {v1 v2 v3} : exC Tryz.prog (O Q0) (L W2 W1 W0) [] 2 c1 (mkS 64 ct1.live [vl v1, .c (.h 0), vi v2] [ro v3] []) (bodyK Tryz.prog 64 0 [] ct1 W lv1 K) =
    B1 (fun w1 w2 w3 w4 k4 => W2 ρ [vl w1, .c (.h 0), vi w2, vi w3] [ro w4] k4) v1 v2 v3 (fun u1 u2 u3 => W [vl u1, .c (.h 0), vi u2] [ro u3]) (k1_2 K) := by kernel_rfl
def enc1 (t : Vec YI × Int × Vec Bool) : LA × LO := ([vl t.1, .c (.h 0), vi t.2.1], [ro t.2.2])
theorem enc1I (a b) (h : enc1 a = enc1 b) : a = b := by simp [enc1, zA] at h; simp [Prod.ext_iff, h]
noncomputable def V1 : (ρ : Type) → LA → LO → (YX → Option ρ) → Option ρ := fun ρ avs obs k2 => ofC enc1 (fun t => un3 (F1 fuelN) t k2) (avs, obs)
theorem ZC (ρ : Type) : F1 fuelN = fun w1 w2 w3 k2 => V1 ρ [vl w1, .c (.h 0), vi w2] [ro w3] k2 := by funext w1 w2 w3 k2; exact Eq.symm (zD enc1I _ (w1, w2, w3))
theorem step2 {Q0 W2 W1 W0} {ρ : Type} {K : Exit → St → Option ρ} {W : LA → LO → Option ρ} {v1 v2 v3 v4} : exC Tryz.prog (O Q0) (L W2 W1 W0) [] 3 c2 (mkS 64 ct2.live [vl v1, .c (.h 0), vi v2, vi v3] [ro v4] []) (bodyK Tryz.prog 64 0 [] ct2 W lv2 K) =
    B2 v1 v2 v3 v4 (fun u1 u2 u3 u4 => W [vl u1, .c (.h 0), vi u2, vi u3] [ro u4]) (k2_4 K) := by kernel_rfl
def enc2 (t : Vec YI × Int × Int × Vec Bool) : LA × LO := ([vl t.1, .c (.h 0), vi t.2.1, vi t.2.2.1], [ro t.2.2.2])
theorem enc2I (a b) (h : enc2 a = enc2 b) : a = b := by simp [enc2, zA] at h; simp [Prod.ext_iff, h]
noncomputable def V2 : (ρ : Type) → LA → LO → (YG → Int → YX → Option ρ) → Option ρ := fun ρ avs obs k4 => ofC enc2 (fun t => un4 (F2 fuelN) t k4) (avs, obs)
theorem ZD (ρ : Type) : F2 fuelN = fun w1 w2 w3 w4 k4 => V2 ρ [vl w1, .c (.h 0), vi w2, vi w3] [ro w4] k4 := by funext w1 w2 w3 w4 k4; exact Eq.symm (zD enc2I _ (w1, w2, w3, w4))
theorem main {Q0 W2 W1 W0} {ρ : Type} {K : AV → LO → Option ρ} {a1 a2} : exC Tryz.prog (O Q0) (L W2 W1 W0) [] 0 (zB Tryz.f138) (entry 64 [vl a1, vl a2] [] []) (finO Tryz.prog Tryz.f138.results.toList 0 [] [] K) =
    B (fun w1 w2 w3 w4 k0 => W0 ρ [vl w1, vl w2, .c (.h 0), vi w3] [ro w4] k0) (fun w1 w2 w3 k2 => W1 ρ [vl w1, .c (.h 0), vi w2] [ro w3] k2) a1 a2 (fun x1 => K (.c (.h 0)) [ro x1]) := by kernel_rfl
theorem Gok : (O spec_l01In.Q).ok Tryz.prog := zH (by exact ⟨qE_ok spec_l01In.ac, trivial⟩) (by exact trivial)
theorem ok2 : OkL Tryz.prog (L V2 V1 V0) 2 (.loop c2) := fun ρ st K r h => zJ (ct := ct2) (lv := lv2) (L := (L V2 V1 V0)) Gok hmT (by rw [show zE [] 3 c2 = [] by kernel_rfl]; exact Lor.zF _ _) enc2I (fun k t => un4 (F2 k) t (k2_4 K)) (fun t => rfl) (fun k t => by refine step2.trans ?_; exact congrFun (congrArg (B2 _ _ _ _) (fx4 fun t => zD enc2I _ t)) _) (fun _ => fuelN) h
theorem e1 : zE [] 2 c1 = [(2, 2, .loop c2)] := by kernel_rfl
theorem ok1 : OkL Tryz.prog (L V2 V1 V0) 1 (.loop c1) := fun ρ st K r h => zJ (ct := ct1) (lv := lv1) (L := (L V2 V1 V0)) Gok hmT (by rw [e1]; exact Lor.zI ok2 (Lor.zF _ _)) enc1I (fun k t => un3 (F1 k) t (k1_2 K)) (fun t => rfl) (fun k t => by refine step1.trans ?_; rw [← ZD]; exact congrFun (congrArg (B1 _ _ _ _) (fx3 fun t => zD enc1I _ t)) _) (fun _ => fuelN) h
theorem ok0 : OkL Tryz.prog (L V2 V1 V0) 0 (.loop c0) := fun ρ st K r h => zJ (ct := ct0) (lv := lv0) (L := (L V2 V1 V0)) Gok hmT (by rw [show zE [] 1 c0 = [] by kernel_rfl]; exact Lor.zF _ _) enc0I (fun k t => un4 (F0 k) t (k0_0 K)) (fun t => rfl) (fun k t => by refine step0.trans ?_; rw [← spec_l01In.wrap]; exact congrFun (congrArg (B0 _ _ _ _ _) (fx4 fun t => zD enc0I _ t)) _) (fun _ => fuelN) h
theorem e : zE [] 0 (zB Tryz.f138) = [(0, 0, .loop c0), (1, 1, .loop c1)] := by kernel_rfl
theorem acc : ∀ t x, un2 F t = some x → ACc Tryz.prog 138 (encA t) [] true [] fun rv obs => (rv, obs) = encR x := accT (T := Vec YI × YI) (F := un2 F) (L := (L V2 V1 V0)) (cmds := []) (body := (zB Tryz.f138)) Gok hmT Tryz.func138 (by kernel_rfl) (by kernel_rfl) (by rw [e]; exact Lor.zI ok0 (Lor.zI ok1 (Lor.zF _ _))) (fun t => by refine main.trans ?_; rw [← zG, ← ZC]; exact congrArg (B _ _ _ _) (fx1 fun t => zD ZB some t))
theorem ac : ∀ a x, Q a = some x → AC Tryz.prog 138 a [] false [] fun rv obs => (rv, obs) = encR x := acF (body := (zB Tryz.f138)) Tryz.func138 (by kernel_rfl) (by kernel_rfl) acc fun x => ⟨by simp [encR, AV.Flat, K.Flat, C.Flat], flc (zN rfl _) (fl0)⟩
end spec_l05Set
namespace spec_LineOk
noncomputable def B0 {ρ : Type} (v1 : ByteArray) (v2 : Int) (W : ByteArray → Int → Option ρ) (K0 : ByteArray → Option ρ) (Kr : Bool → Option ρ) : Option ρ :=
  sel (decide (v2 < (v1.size : Int))) (chk (decide (0 ≤ v2 ∧ v2 < (v1.size : Int))) (sel (decide ((byteAt v1 v2.toNat) = (10 : Int))) (Kr false) (W v1 (wr (v2 + (1 : Int)))))) (K0 v1)
noncomputable def F0 {ρ : Type} : Nat → ByteArray → Int → (ByteArray → Option ρ) → (Bool → Option ρ) → Option ρ
  | 0, _, _, _, _ => none
  | k + 1, v1, v2, K0, Kr => B0 v1 v2 (fun v1' v2' => F0 k v1' v2' K0 Kr) K0 Kr
noncomputable def B {ρ : Type} (L0 : ByteArray → Int → (ByteArray → Option ρ) → (Bool → Option ρ) → Option ρ) (a1 : ByteArray) (K : Bool → Option ρ) : Option ρ :=
  L0 a1 (0 : Int) (fun e01 => K (decide ((e01.size : Int) ≤ (60 : Int)))) (fun x01 => K x01)
noncomputable def F (a1 : ByteArray) : Option Bool := B (F0 fuelN) a1 (fun x1 => some (x1))
def encA (t : ByteArray) : LA := [vs t]
def encR (x : Bool) : AV × LO := (vb x, [])
theorem ZA (a b) (h : encA a = encA b) : a = b := by simpa [encA, zA] using h
theorem ZB (a b) (h : encR a = encR b) : a = b := by simpa [encR, zA] using h
noncomputable def Q (args : LA) : Option Bool := ofC encA (un1 F) args
theorem wrap : F = fun y1 => Q [vs y1] := by funext y1; exact Eq.symm (zD ZA _ (y1))
noncomputable abbrev O : Orc := mkO [] [] []
noncomputable def c0 : Code := loopC (atomN [] 0 (zB Tryz.f171) 0)
def ct0 : Cut := ⟨[0, 3], []⟩
def lv0 : Exit → Cut
  | .exit 0 => ⟨[0], []⟩
  | .ret => ⟨[2], []⟩
  | _ => ⟨[], []⟩
def k0_0 {ρ : Type} (K : Exit → St → Option ρ) (z1 : ByteArray) : Option ρ := K (.exit 0) (mkS 17 (lv0 (.exit 0)).live [vs z1] [] [])
def k0_r {ρ : Type} (K : Exit → St → Option ρ) (z1 : Bool) : Option ρ := K .ret (mkS 17 (lv0 .ret).live [vb z1] [] [])
noncomputable def L (W0 : (ρ : Type) → LA → LO → (ByteArray → Option ρ) → (Bool → Option ρ) → Option ρ) : Lor := fun ρ j st K => sel (Nat.beq j 0) (cutO Tryz.prog 17 ct0.live 0 [] ct0.cmds st fun avs obs => W0 ρ avs obs (k0_0 K) (k0_r K)) (Option.none)
theorem step0 {W0} {ρ : Type} {K : Exit → St → Option ρ} {W : LA → LO → Option ρ} {v1 v2} : exC Tryz.prog O (L W0) [] 1 c0 (mkS 17 ct0.live [vs v1, vi v2] [] []) (bodyK Tryz.prog 17 0 [] ct0 W lv0 K) =
    B0 v1 v2 (fun u1 u2 => W [vs u1, vi u2] []) (k0_0 K) (k0_r K) := by kernel_rfl
def enc0 (t : ByteArray × Int) : LA × LO := ([vs t.1, vi t.2], [])
theorem enc0I (a b) (h : enc0 a = enc0 b) : a = b := by simp [enc0, zA] at h; simp [Prod.ext_iff, h]
noncomputable def V0 : (ρ : Type) → LA → LO → (ByteArray → Option ρ) → (Bool → Option ρ) → Option ρ := fun ρ avs obs k0 kr => ofC enc0 (fun t => un2 (F0 fuelN) t k0 kr) (avs, obs)
theorem zG (ρ : Type) : F0 fuelN = fun w1 w2 k0 kr => V0 ρ [vs w1, vi w2] [] k0 kr := by funext w1 w2 k0 kr; exact Eq.symm (zD enc0I _ (w1, w2))
theorem main {W0} {ρ : Type} {K : AV → LO → Option ρ} {a1} : exC Tryz.prog O (L W0) [] 0 (zB Tryz.f171) (entry 17 [vs a1] [] []) (finO Tryz.prog Tryz.f171.results.toList 0 [] [] K) =
    B (fun w1 w2 k0 kr => W0 ρ [vs w1, vi w2] [] k0 kr) a1 (fun x1 => K (vb x1) []) := by kernel_rfl
theorem Gok : O.ok Tryz.prog := zH (by exact trivial) (by exact trivial)
theorem ok0 : OkL Tryz.prog (L V0) 0 (.loop c0) := fun ρ st K r h => zJ (ct := ct0) (lv := lv0) (L := (L V0)) Gok hmT (by rw [show zE [] 1 c0 = [] by kernel_rfl]; exact Lor.zF _ _) enc0I (fun k t => un2 (F0 k) t (k0_0 K) (k0_r K)) (fun t => rfl) (fun k t => by refine step0.trans ?_; exact congrFun (congrFun (congrArg (B0 _ _) (fx2 fun t => zD enc0I _ t)) _) _) (fun _ => fuelN) h
theorem e : zE [] 0 (zB Tryz.f171) = [(0, 0, .loop c0)] := by kernel_rfl
theorem acc : ∀ t x, un1 F t = some x → ACc Tryz.prog 171 (encA t) [] true [] fun rv obs => (rv, obs) = encR x := accT (T := ByteArray) (F := un1 F) (L := (L V0)) (cmds := []) (body := (zB Tryz.f171)) Gok hmT Tryz.func171 (by kernel_rfl) (by kernel_rfl) (by rw [e]; exact Lor.zI ok0 (Lor.zF _ _)) (fun t => by refine main.trans ?_; rw [← zG]; exact congrArg (B _ _) (fx1 fun t => zD ZB some t))
theorem ac : ∀ a x, Q a = some x → AC Tryz.prog 171 a [] false [] fun rv obs => (rv, obs) = encR x := acF (body := (zB Tryz.f171)) Tryz.func171 (by kernel_rfl) (by kernel_rfl) acc fun x => ⟨by simp [encR, AV.Flat, K.Flat, C.Flat], fl0⟩
end spec_LineOk
namespace spec_l06Live
noncomputable def B0 {ρ : Type} (C0 : Int → Int → Int → Option Bool) (v1 : YX) (v2 : Int) (v3 : ByteArray) (v4 : Int) (v5 : Int) (v6 : YI) (W : YX → Int → ByteArray → Int → Int → YI → Option ρ) (K0 : Unit → Option ρ) (Kr : Bool → Option ρ) : Option ρ :=
  sel (decide (v2 < (v6.n : Int))) (chk (decide (0 ≤ v2 ∧ v2 < (v6.n : Int))) ((C0 (v6.g v2.toNat) (0 : Int) (wr ((v1.n : Int) - (1 : Int)))).bind fun r2 => sel (r2) (chk (decide (0 ≤ v2 ∧ v2 < (v6.n : Int))) (chk (decide (0 ≤ (v6.g v2.toNat) ∧ (v6.g v2.toNat) < (v1.n : Int))) (sel ((v1.g (v6.g v2.toNat).toNat)) (Kr false) (W v1 (wr (v2 + (1 : Int))) v3 v4 v5 v6)))) (W v1 (wr (v2 + (1 : Int))) v3 v4 v5 v6))) (K0 ())
noncomputable def F0 {ρ : Type} : Nat → YX → Int → ByteArray → Int → Int → YI → (Unit → Option ρ) → (Bool → Option ρ) → Option ρ
  | 0, _, _, _, _, _, _, _, _ => none
  | k + 1, v1, v2, v3, v4, v5, v6, K0, Kr => B0 spec_l01In.F v1 v2 v3 v4 v5 v6 (fun v1' v2' v3' v4' v5' v6' => F0 k v1' v2' v3' v4' v5' v6' K0 Kr) K0 Kr
noncomputable def B {ρ : Type} (C0 : Int → Int → Int → Option Bool) (L0 : YX → Int → ByteArray → Int → Int → YI → (Unit → Option ρ) → (Bool → Option ρ) → Option ρ) (a1 : ByteArray) (a2 : Int) (a3 : Int) (a4 : YI) (a5 : YX) (K : Bool → Option ρ) : Option ρ :=
  (C0 a2 (0 : Int) (wr ((a5.n : Int) - (1 : Int)))).bind fun r1 => sel ((!r1)) (K false) (chk (decide (0 ≤ a2 ∧ a2 < (a5.n : Int))) (sel ((!(a5.g a2.toNat))) (K false) (L0 a5 (0 : Int) a1 a2 a3 a4 (fun _ => K true) (fun x01 => K x01))))
noncomputable def F (a1 : ByteArray) (a2 : Int) (a3 : Int) (a4 : YI) (a5 : YX) : Option Bool := B spec_l01In.F (F0 fuelN) a1 a2 a3 a4 a5 (fun x1 => some (x1))
def encA (t : ByteArray × Int × Int × YI × Vec Bool) : LA := [.a [cs t.1, ci t.2.1, ci t.2.2.1, cl t.2.2.2.1], vl t.2.2.2.2]
def encR (x : Bool) : AV × LO := (vb x, [])
theorem ZA (a b) (h : encA a = encA b) : a = b := by simp [encA, zA] at h; simp [Prod.ext_iff, h]
theorem ZB (a b) (h : encR a = encR b) : a = b := by simpa [encR, zA] using h
noncomputable def Q (args : LA) : Option Bool := ofC encA (un5 F) args
theorem wrap : F = fun y1 y2 y3 y4 y5 => Q [.a [cs y1, ci y2, ci y3, cl y4], vl y5] := by funext y1 y2 y3 y4 y5; exact Eq.symm (zD ZA _ (y1, y2, y3, y4, y5))
noncomputable abbrev O (Q0 : LA → Option Bool) : Orc := mkO [qE 119 false spec_l01In.encR Q0] [] []
noncomputable def c0 : Code := loopC (atomN [] 0 (zB Tryz.f155) 0)
def ct0 : Cut := ⟨[1, 2, 5], []⟩
def lv0 : Exit → Cut
  | .exit 0 => ⟨[], []⟩
  | .ret => ⟨[4], []⟩
  | _ => ⟨[], []⟩
def k0_0 {ρ : Type} (K : Exit → St → Option ρ) (_ : Unit) : Option ρ := K (.exit 0) (mkS 47 (lv0 (.exit 0)).live [] [] [])
def k0_r {ρ : Type} (K : Exit → St → Option ρ) (z1 : Bool) : Option ρ := K .ret (mkS 47 (lv0 .ret).live [vb z1] [] [])
noncomputable def L (W0 : (ρ : Type) → LA → LO → (Unit → Option ρ) → (Bool → Option ρ) → Option ρ) : Lor := fun ρ j st K => sel (Nat.beq j 0) (cutO Tryz.prog 47 ct0.live 0 [] ct0.cmds st fun avs obs => W0 ρ avs obs (k0_0 K) (k0_r K)) (Option.none)
theorem step0 {Q0 W0} {ρ : Type} {K : Exit → St → Option ρ} {W : LA → LO → Option ρ} {v1 v2 v3 v4 v5 v6} : exC Tryz.prog (O Q0) (L W0) [] 1 c0 (mkS 47 ct0.live [vl v1, .c (.p 0 0), vi v2] [.box [cs v3, ci v4, ci v5, cl v6]] []) (bodyK Tryz.prog 47 0 [] ct0 W lv0 K) =
    B0 (fun y1 y2 y3 => Q0 [vi y1, vi y2, vi y3]) v1 v2 v3 v4 v5 v6 (fun u1 u2 u3 u4 u5 u6 => W [vl u1, .c (.p 0 0), vi u2] [.box [cs u3, ci u4, ci u5, cl u6]]) (k0_0 K) (k0_r K) := by kernel_rfl
def enc0 (t : Vec Bool × Int × ByteArray × Int × Int × YI) : LA × LO := ([vl t.1, .c (.p 0 0), vi t.2.1], [.box [cs t.2.2.1, ci t.2.2.2.1, ci t.2.2.2.2.1, cl t.2.2.2.2.2]])
theorem enc0I (a b) (h : enc0 a = enc0 b) : a = b := by simp [enc0, zA] at h; simp [Prod.ext_iff, h]
noncomputable def V0 : (ρ : Type) → LA → LO → (Unit → Option ρ) → (Bool → Option ρ) → Option ρ := fun ρ avs obs k0 kr => ofC enc0 (fun t => un6 (F0 fuelN) t k0 kr) (avs, obs)
theorem zG (ρ : Type) : F0 fuelN = fun w1 w2 w3 w4 w5 w6 k0 kr => V0 ρ [vl w1, .c (.p 0 0), vi w2] [.box [cs w3, ci w4, ci w5, cl w6]] k0 kr := by funext w1 w2 w3 w4 w5 w6 k0 kr; exact Eq.symm (zD enc0I _ (w1, w2, w3, w4, w5, w6))
theorem main {Q0 W0} {ρ : Type} {K : AV → LO → Option ρ} {a1 a2 a3 a4 a5} : exC Tryz.prog (O Q0) (L W0) [] 0 (zB Tryz.f155) (entry 47 [.a [cs a1, ci a2, ci a3, cl a4], vl a5] [] []) (finO Tryz.prog Tryz.f155.results.toList 0 [] [] K) =
    B (fun y1 y2 y3 => Q0 [vi y1, vi y2, vi y3]) (fun w1 w2 w3 w4 w5 w6 k0 kr => W0 ρ [vl w1, .c (.p 0 0), vi w2] [.box [cs w3, ci w4, ci w5, cl w6]] k0 kr) a1 a2 a3 a4 a5 (fun x1 => K (vb x1) []) := by kernel_rfl
theorem Gok : (O spec_l01In.Q).ok Tryz.prog := zH (by exact ⟨qE_ok spec_l01In.ac, trivial⟩) (by exact trivial)
theorem ok0 : OkL Tryz.prog (L V0) 0 (.loop c0) := fun ρ st K r h => zJ (ct := ct0) (lv := lv0) (L := (L V0)) Gok hmT (by rw [show zE [] 1 c0 = [] by kernel_rfl]; exact Lor.zF _ _) enc0I (fun k t => un6 (F0 k) t (k0_0 K) (k0_r K)) (fun t => rfl) (fun k t => by refine step0.trans ?_; rw [← spec_l01In.wrap]; exact congrFun (congrFun (congrArg (B0 _ _ _ _ _ _ _) (fx6 fun t => zD enc0I _ t)) _) _) (fun _ => fuelN) h
theorem e : zE [] 0 (zB Tryz.f155) = [(0, 0, .loop c0)] := by kernel_rfl
theorem acc : ∀ t x, un5 F t = some x → ACc Tryz.prog 155 (encA t) [] true [] fun rv obs => (rv, obs) = encR x := accT (T := ByteArray × Int × Int × YI × Vec Bool) (F := un5 F) (L := (L V0)) (cmds := []) (body := (zB Tryz.f155)) Gok hmT Tryz.func155 (by kernel_rfl) (by kernel_rfl) (by rw [e]; exact Lor.zI ok0 (Lor.zF _ _)) (fun t => by refine main.trans ?_; rw [← spec_l01In.wrap, ← zG]; exact congrArg (B _ _ _ _ _ _ _) (fx1 fun t => zD ZB some t))
theorem ac : ∀ a x, Q a = some x → AC Tryz.prog 155 a [] false [] fun rv obs => (rv, obs) = encR x := acF (body := (zB Tryz.f155)) Tryz.func155 (by kernel_rfl) (by kernel_rfl) acc fun x => ⟨by simp [encR, AV.Flat, K.Flat, C.Flat], fl0⟩
end spec_l06Live
namespace spec_l06Closure
noncomputable def B {ρ : Type} (C0 : YG → YI → Option YX) (a1 : Vec YI) (a2 : Vec YB) (a3 : Int) (K : YX → Option ρ) : Option ρ :=
  (C0 a1 (Vec.lit [a3] : YI)).bind fun r1 => K r1
noncomputable def F (a1 : Vec YI) (a2 : Vec YB) (a3 : Int) : Option YX := B spec_l05Set.F a1 a2 a3 (fun x1 => some (x1))
def encA (t : Vec YI × YVB × Int) : LA := [.a [cl t.1, cl t.2.1], vi t.2.2]
def encR (x : YX) : AV × LO := (.c (.h 0), [ro x])
theorem ZA (a b) (h : encA a = encA b) : a = b := by simp [encA, zA] at h; simp [Prod.ext_iff, h]
theorem ZB (a b) (h : encR a = encR b) : a = b := by simpa [encR, zA] using h
noncomputable def Q (args : LA) : Option YX := ofC encA (un3 F) args
theorem wrap : F = fun y1 y2 y3 => Q [.a [cl y1, cl y2], vi y3] := by funext y1 y2 y3; exact Eq.symm (zD ZA _ (y1, y2, y3))
noncomputable abbrev O (Q0 : LA → Option YX) : Orc := mkO [qE 138 false spec_l05Set.encR Q0] [] []
noncomputable def L : Lor := fun _ _ _ _ => Option.none
theorem main {Q0} {ρ : Type} {K : AV → LO → Option ρ} {a1 a2 a3} : exC Tryz.prog (O Q0) L [] 0 (zB Tryz.f108) (entry 10 [.a [cl a1, cl a2], vi a3] [] []) (finO Tryz.prog Tryz.f108.results.toList 0 [] [] K) =
    B (fun y1 y2 => Q0 [vl y1, vl y2]) a1 a2 a3 (fun x1 => K (.c (.h 0)) [ro x1]) := by kernel_rfl
theorem Gok : (O spec_l05Set.Q).ok Tryz.prog := zH (by exact ⟨qE_ok spec_l05Set.ac, trivial⟩) (by exact trivial)
theorem acc : ∀ t x, un3 F t = some x → ACc Tryz.prog 108 (encA t) [] true [] fun rv obs => (rv, obs) = encR x := accT (T := Vec YI × YVB × Int) (F := un3 F) (L := L) (cmds := []) (body := (zB Tryz.f108)) Gok hmT Tryz.func108 (by kernel_rfl) (by kernel_rfl) (by rw [show zE [] 0 (zB Tryz.f108) = [] by kernel_rfl]; exact Lor.zF _ _) (fun t => by refine main.trans ?_; rw [← spec_l05Set.wrap]; exact congrArg (B _ _ _ _) (fx1 fun t => zD ZB some t))
theorem ac : ∀ a x, Q a = some x → AC Tryz.prog 108 a [] false [] fun rv obs => (rv, obs) = encR x := acF (body := (zB Tryz.f108)) Tryz.func108 (by kernel_rfl) (by kernel_rfl) acc fun x => ⟨by simp [encR, AV.Flat, K.Flat, C.Flat], flc (zN rfl _) (fl0)⟩
end spec_l06Closure
namespace spec_l06Places
noncomputable def B0 {ρ : Type} (C0 : ByteArray → Int → Int → YI → YX → Option Bool) (v1 : YX) (v2 : Int) (v3 : Vec YI) (v4 : Vec YB) (v5 : YI) (W : YX → Int → YG → YVB → YI → Option ρ) (K0 : YI → Option ρ) : Option ρ :=
  sel (decide (v2 < (v4.n : Int))) (chk (decide (0 ≤ v2 ∧ v2 < (v4.n : Int))) ((C0 ((v4.g v2.toNat).1) ((v4.g v2.toNat).2.1) ((v4.g v2.toNat).2.2.1) ((v4.g v2.toNat).2.2.2) v1).bind fun r1 => sel (r1) (chk (decide ((v5.n + (Vec.lit [v2] : YI).n) * 9 ≤ maxN)) (W v1 (wr (v2 + (1 : Int))) v3 v4 (Vec.app v5 (Vec.lit [v2] : YI)))) (W v1 (wr (v2 + (1 : Int))) v3 v4 v5))) (K0 v5)
noncomputable def F0 {ρ : Type} : Nat → YX → Int → YG → YVB → YI → (YI → Option ρ) → Option ρ
  | 0, _, _, _, _, _, _ => none
  | k + 1, v1, v2, v3, v4, v5, K0 => B0 spec_l06Live.F v1 v2 v3 v4 v5 (fun v1' v2' v3' v4' v5' => F0 k v1' v2' v3' v4' v5' K0) K0
noncomputable def B {ρ : Type} (L0 : YX → Int → YG → YVB → YI → (YI → Option ρ) → Option ρ) (a1 : Vec YI) (a2 : Vec YB) (a3 : YX) (K : YI → Option ρ) : Option ρ :=
  L0 a3 (0 : Int) a1 a2 (Vec.nil : YI) (fun e01 => K e01)
noncomputable def F (a1 : Vec YI) (a2 : Vec YB) (a3 : YX) : Option YI := B (F0 fuelN) a1 a2 a3 (fun x1 => some (x1))
def encA (t : Vec YI × YVB × Vec Bool) : LA := [.a [cl t.1, cl t.2.1], vl t.2.2]
def encR (x : YI) : AV × LO := (.c (.h 0), [ro x])
theorem ZA (a b) (h : encA a = encA b) : a = b := by simp [encA, zA] at h; simp [Prod.ext_iff, h]
theorem ZB (a b) (h : encR a = encR b) : a = b := by simpa [encR, zA] using h
noncomputable def Q (args : LA) : Option YI := ofC encA (un3 F) args
theorem wrap : F = fun y1 y2 y3 => Q [.a [cl y1, cl y2], vl y3] := by funext y1 y2 y3; exact Eq.symm (zD ZA _ (y1, y2, y3))
noncomputable abbrev O (Q0 : LA → Option Bool) : Orc := mkO [qE 155 false spec_l06Live.encR Q0] [] []
noncomputable def c0 : Code := loopC (atomN [] 0 (zB Tryz.f107) 0)
def ct0 : Cut := ⟨[1, 2, 5, 6], [.ad (.s 5) 47]⟩
def lv0 : Exit → Cut
  | .exit 0 => ⟨[5], []⟩
  | _ => ⟨[], []⟩
def k0_0 {ρ : Type} (K : Exit → St → Option ρ) (z1 : YI) : Option ρ := K (.exit 0) (mkS 27 (lv0 (.exit 0)).live [.c (.h 0)] [ro z1] [])
noncomputable def L (W0 : (ρ : Type) → LA → LO → (YI → Option ρ) → Option ρ) : Lor := fun ρ j st K => sel (Nat.beq j 0) (cutO Tryz.prog 27 ct0.live 0 [] ct0.cmds st fun avs obs => W0 ρ avs obs (k0_0 K)) (Option.none)
theorem step0 {Q0 W0} {ρ : Type} {K : Exit → St → Option ρ} {W : LA → LO → Option ρ} {v1 v2 v3 v4 v5} : exC Tryz.prog (O Q0) (L W0) [] 1 c0 (mkS 27 ct0.live [vl v1, .c (.p 0 0), .c (.h 1), vi v2] [.box [cl v3, cl v4], ro v5] []) (bodyK Tryz.prog 27 0 [] ct0 W lv0 K) =
    B0 (fun y1 y2 y3 y4 y5 => Q0 [.a [cs y1, ci y2, ci y3, cl y4], vl y5]) v1 v2 v3 v4 v5 (fun u1 u2 u3 u4 u5 => W [vl u1, .c (.p 0 0), .c (.h 1), vi u2] [.box [cl u3, cl u4], ro u5]) (k0_0 K) := by kernel_rfl
def enc0 (t : Vec Bool × Int × Vec YI × YVB × YI) : LA × LO := ([vl t.1, .c (.p 0 0), .c (.h 1), vi t.2.1], [.box [cl t.2.2.1, cl t.2.2.2.1], ro t.2.2.2.2])
theorem enc0I (a b) (h : enc0 a = enc0 b) : a = b := by simp [enc0, zA] at h; simp [Prod.ext_iff, h]
noncomputable def V0 : (ρ : Type) → LA → LO → (YI → Option ρ) → Option ρ := fun ρ avs obs k0 => ofC enc0 (fun t => un5 (F0 fuelN) t k0) (avs, obs)
theorem zG (ρ : Type) : F0 fuelN = fun w1 w2 w3 w4 w5 k0 => V0 ρ [vl w1, .c (.p 0 0), .c (.h 1), vi w2] [.box [cl w3, cl w4], ro w5] k0 := by funext w1 w2 w3 w4 w5 k0; exact Eq.symm (zD enc0I _ (w1, w2, w3, w4, w5))
theorem main {Q0 W0} {ρ : Type} {K : AV → LO → Option ρ} {a1 a2 a3} : exC Tryz.prog (O Q0) (L W0) [] 0 (zB Tryz.f107) (entry 27 [.a [cl a1, cl a2], vl a3] [] []) (finO Tryz.prog Tryz.f107.results.toList 0 [] [] K) =
    B (fun w1 w2 w3 w4 w5 k0 => W0 ρ [vl w1, .c (.p 0 0), .c (.h 1), vi w2] [.box [cl w3, cl w4], ro w5] k0) a1 a2 a3 (fun x1 => K (.c (.h 0)) [ro x1]) := by kernel_rfl
theorem Gok : (O spec_l06Live.Q).ok Tryz.prog := zH (by exact ⟨qE_ok spec_l06Live.ac, trivial⟩) (by exact trivial)
theorem ok0 : OkL Tryz.prog (L V0) 0 (.loop c0) := fun ρ st K r h => zJ (ct := ct0) (lv := lv0) (L := (L V0)) Gok hmT (by rw [show zE [] 1 c0 = [] by kernel_rfl]; exact Lor.zF _ _) enc0I (fun k t => un5 (F0 k) t (k0_0 K)) (fun t => rfl) (fun k t => by refine step0.trans ?_; rw [← spec_l06Live.wrap]; exact congrFun (congrArg (B0 _ _ _ _ _ _) (fx5 fun t => zD enc0I _ t)) _) (fun _ => fuelN) h
theorem e : zE [] 0 (zB Tryz.f107) = [(0, 0, .loop c0)] := by kernel_rfl
theorem acc : ∀ t x, un3 F t = some x → ACc Tryz.prog 107 (encA t) [] true [] fun rv obs => (rv, obs) = encR x := accT (T := Vec YI × YVB × Vec Bool) (F := un3 F) (L := (L V0)) (cmds := []) (body := (zB Tryz.f107)) Gok hmT Tryz.func107 (by kernel_rfl) (by kernel_rfl) (by rw [e]; exact Lor.zI ok0 (Lor.zF _ _)) (fun t => by refine main.trans ?_; rw [← zG]; exact congrArg (B _ _ _ _) (fx1 fun t => zD ZB some t))
theorem ac : ∀ a x, Q a = some x → AC Tryz.prog 107 a [] false [] fun rv obs => (rv, obs) = encR x := acF (body := (zB Tryz.f107)) Tryz.func107 (by kernel_rfl) (by kernel_rfl) acc fun x => ⟨by simp [encR, AV.Flat, K.Flat, C.Flat], flc (zN rfl _) (fl0)⟩
end spec_l06Places
namespace spec_WeaveOk
noncomputable def B3 {ρ : Type} (C6 : YG → YVB → Int → Option YX) (C7 : YG → YVB → YX → Option YI) (v1 : Int) (v2 : Int) (v3 : Vec YI) (v4 : Vec YB) (v5 : YI) (W : Int → Int → YG → YVB → YI → Option ρ) (K6 : Unit → Option ρ) (Kr : Bool → Option ρ) : Option ρ :=
  sel (decide (v2 < v1)) (chk (decide (0 ≤ v2 ∧ v2 < (v5.n : Int))) (chk (decide (v2.toNat < v5.n)) (sel (decide ((80 : Int) < (v5.g v2.toNat))) (Kr false) ((C6 v3 v4 v2).bind fun r7 => (C7 v3 v4 r7).bind fun r8 => sel (decide ((80 : Int) < (r8.n : Int))) (Kr false) (W v1 (wr (v2 + (1 : Int))) v3 v4 v5))))) (K6 ())
noncomputable def F3 {ρ : Type} : Nat → Int → Int → YG → YVB → YI → (Unit → Option ρ) → (Bool → Option ρ) → Option ρ
  | 0, _, _, _, _, _, _, _ => none
  | k + 1, v1, v2, v3, v4, v5, K6, Kr => B3 spec_l06Closure.F spec_l06Places.F v1 v2 v3 v4 v5 (fun v1' v2' v3' v4' v5' => F3 k v1' v2' v3' v4' v5' K6 Kr) K6 Kr
noncomputable def B2 {ρ : Type} (C5 : ByteArray → Int → Int → YI → YX → Option Bool) (v1 : Int) (v2 : Int) (v3 : Int) (v4 : Vec YI) (v5 : Vec YB) (v6 : YI) (v7 : Vec YX) (v8 : ByteArray) (v9 : Int) (v10 : Int) (v11 : YI) (W : Int → Int → Int → YG → YVB → YI → YVX → ByteArray → Int → Int → YI → Option ρ) (K4 : Int → Int → YG → YVB → YI → YVX → Option ρ) (Kr : Bool → Option ρ) : Option ρ :=
  sel (decide (v3 < (v11.n : Int))) (chk (decide (0 ≤ v3 ∧ v3 < (v11.n : Int))) (chk (decide (0 ≤ (v11.g v3.toNat) ∧ (v11.g v3.toNat) < (v7.n : Int))) (chk (decide ((v11.g v3.toNat).toNat < v7.n)) ((C5 v8 v9 v10 v11 (v7.g ((v11.g v3.toNat).toNat))).bind fun r6 => sel ((!r6)) (Kr false) (W v1 v2 (wr (v3 + (1 : Int))) v4 v5 v6 v7 v8 v9 v10 v11))))) (K4 v1 v2 v4 v5 v6 v7)
noncomputable def F2 {ρ : Type} : Nat → Int → Int → Int → YG → YVB → YI → YVX → ByteArray → Int → Int → YI → (Int → Int → YG → YVB → YI → YVX → Option ρ) → (Bool → Option ρ) → Option ρ
  | 0, _, _, _, _, _, _, _, _, _, _, _, _, _ => none
  | k + 1, v1, v2, v3, v4, v5, v6, v7, v8, v9, v10, v11, K4, Kr => B2 spec_l06Live.F v1 v2 v3 v4 v5 v6 v7 v8 v9 v10 v11 (fun v1' v2' v3' v4' v5' v6' v7' v8' v9' v10' v11' => F2 k v1' v2' v3' v4' v5' v6' v7' v8' v9' v10' v11' K4 Kr) K4 Kr
noncomputable def B1 {ρ : Type} (C2 : ByteArray → Option Bool) (C3 : Int → Int → Int → Option Bool) (C4 : YI → Int → Option Bool) (L2 : Int → Int → Int → YG → YVB → YI → YVX → ByteArray → Int → Int → YI → (Int → Int → YG → YVB → YI → YVX → Option ρ) → (Bool → Option ρ) → Option ρ) (v1 : Int) (v2 : Int) (v3 : Vec YI) (v4 : Vec YB) (v5 : YI) (v6 : Vec YX) (W : Int → Int → YG → YVB → YI → YVX → Option ρ) (K2 : Int → YG → YVB → YI → Option ρ) (Kr : Bool → Option ρ) : Option ρ :=
  sel (decide (v2 < (v4.n : Int))) (chk (decide (0 ≤ v2 ∧ v2 < (v4.n : Int))) ((C2 ((v4.g v2.toNat).1)).bind fun r3 => sel ((!r3)) (Kr false) ((C3 ((v4.g v2.toNat).2.1) (0 : Int) (wr (v1 - (1 : Int)))).bind fun r4 => sel ((!r4)) (Kr false) (chk (decide (0 ≤ (v4.g v2.toNat).2.1 ∧ (v4.g v2.toNat).2.1 < (v5.n : Int))) (chk (decide (((v4.g v2.toNat).2.1).toNat < v5.n)) (sel ((!decide ((v4.g v2.toNat).2.2.1 = (v5.g (((v4.g v2.toNat).2.1).toNat))))) (Kr false) ((C4 ((v4.g v2.toNat).2.2.2) v1).bind fun r5 => sel ((!r5)) (Kr false) (chk (decide (0 ≤ (v4.g v2.toNat).2.1 ∧ (v4.g v2.toNat).2.1 < (v5.n : Int))) (chk (decide (((v4.g v2.toNat).2.1).toNat < v5.n)) (chk (decide (0 ≤ (v4.g v2.toNat).2.1 ∧ (v4.g v2.toNat).2.1 < (v5.n : Int))) (chk (decide (((v4.g v2.toNat).2.1).toNat < v5.n)) (L2 v1 v2 (0 : Int) v3 v4 (Vec.set v5 (((v4.g v2.toNat).2.1).toNat) (wr ((v5.g (((v4.g v2.toNat).2.1).toNat)) + (1 : Int)))) v6 ((v4.g v2.toNat).1) ((v4.g v2.toNat).2.1) ((v4.g v2.toNat).2.2.1) ((v4.g v2.toNat).2.2.2) (fun e21 e22 e23 e24 e25 e26 => W e21 (wr (e22 + (1 : Int))) e23 e24 e25 e26) (fun x21 => Kr x21))))))))))))) (K2 v1 v3 v4 v5)
noncomputable def F1 {ρ : Type} : Nat → Int → Int → YG → YVB → YI → YVX → (Int → YG → YVB → YI → Option ρ) → (Bool → Option ρ) → Option ρ
  | 0, _, _, _, _, _, _, _, _ => none
  | k + 1, v1, v2, v3, v4, v5, v6, K2, Kr => B1 spec_LineOk.F spec_l01In.F spec_l05Rise.F (F2 fuelN) v1 v2 v3 v4 v5 v6 (fun v1' v2' v3' v4' v5' v6' => F1 k v1' v2' v3' v4' v5' v6' K2 Kr) K2 Kr
noncomputable def B0 {ρ : Type} (C1 : YG → YI → Option YX) (v1 : Int) (v2 : Int) (v3 : Vec YI) (v4 : Vec YB) (v5 : YI) (v6 : Vec YX) (W : Int → Int → YG → YVB → YI → YVX → Option ρ) (K0 : Int → YG → YVB → YI → YVX → Option ρ) : Option ρ :=
  sel (decide (v2 < v1)) (chk (decide (0 ≤ v2 ∧ v2 < (v3.n : Int))) ((C1 v3 (v3.g v2.toNat)).bind fun r2 => chk (decide ((v6.n + (Vec.lit [r2] : Vec YX).n) * 25 ≤ maxN)) (W v1 (wr (v2 + (1 : Int))) v3 v4 v5 (Vec.app v6 (Vec.lit [r2] : Vec YX))))) (K0 v1 v3 v4 v5 v6)
noncomputable def F0 {ρ : Type} : Nat → Int → Int → YG → YVB → YI → YVX → (Int → YG → YVB → YI → YVX → Option ρ) → Option ρ
  | 0, _, _, _, _, _, _, _ => none
  | k + 1, v1, v2, v3, v4, v5, v6, K0 => B0 spec_l05Set.F v1 v2 v3 v4 v5 v6 (fun v1' v2' v3' v4' v5' v6' => F0 k v1' v2' v3' v4' v5' v6' K0) K0
noncomputable def B {ρ : Type} (C0 : YG → Option Bool) (L0 : Int → Int → YG → YVB → YI → YVX → (Int → YG → YVB → YI → YVX → Option ρ) → Option ρ) (L1 : Int → Int → YG → YVB → YI → YVX → (Int → YG → YVB → YI → Option ρ) → (Bool → Option ρ) → Option ρ) (L3 : Int → Int → YG → YVB → YI → (Unit → Option ρ) → (Bool → Option ρ) → Option ρ) (a1 : Vec YI) (a2 : Vec YB) (K : Bool → Option ρ) : Option ρ :=
  (C0 a1).bind fun r1 => sel ((!r1)) (K false) (sel (decide ((300 : Int) < (a2.n : Int))) (K false) (chk (decide ((a1.n : Int) = (a1.n : Int) ∧ 0 ≤ (a1.n : Int))) (chk (mkOk (a1.n : Int) 8) (L0 (a1.n : Int) (0 : Int) a1 a2 (Vec.rep ((a1.n : Int).toNat) (0 : Int) : YI) (Vec.nil : Vec YX) (fun e01 e02 e03 e04 e05 => L1 e01 (0 : Int) e02 e03 e04 e05 (fun e11 e12 e13 e14 => L3 e11 (0 : Int) e12 e13 e14 (fun _ => K true) (fun x31 => K x31)) (fun x11 => K x11))))))
noncomputable def F (a1 : Vec YI) (a2 : Vec YB) : Option Bool := B spec_GraphOk.F (F0 fuelN) (F1 fuelN) (F3 fuelN) a1 a2 (fun x1 => some (x1))
def encA (t : Vec YI × YVB) : LA := [.a [cl t.1, cl t.2]]
def encR (x : Bool) : AV × LO := (vb x, [])
theorem ZA (a b) (h : encA a = encA b) : a = b := by simp [encA, zA] at h; simp [Prod.ext_iff, h]
theorem ZB (a b) (h : encR a = encR b) : a = b := by simpa [encR, zA] using h
noncomputable def Q (args : LA) : Option Bool := ofC encA (un2 F) args
theorem wrap : F = fun y1 y2 => Q [.a [cl y1, cl y2]] := by funext y1 y2; exact Eq.symm (zD ZA _ (y1, y2))
noncomputable abbrev O (Q0 : LA → Option Bool) (Q1 : LA → Option YX) (Q2 : LA → Option Bool) (Q3 : LA → Option Bool) (Q4 : LA → Option Bool) (Q5 : LA → Option Bool) (Q6 : LA → Option YX) (Q7 : LA → Option YI) : Orc := mkO [qE 71 false spec_GraphOk.encR Q0, qE 138 false spec_l05Set.encR Q1, qE 171 false spec_LineOk.encR Q2, qE 119 false spec_l01In.encR Q3, qE 73 false spec_l05Rise.encR Q4, qE 155 false spec_l06Live.encR Q5, qE 108 false spec_l06Closure.encR Q6, qE 107 false spec_l06Places.encR Q7] [] []
noncomputable def c0 : Code := loopC (atomN [] 0 (zB Tryz.f105) 0)
noncomputable def c1 : Code := loopC (atomN [] 0 (zB Tryz.f105) 1)
noncomputable def c2 : Code := loopC (atomN [] 2 c1 0)
noncomputable def c3 : Code := loopC (atomN [] 0 (zB Tryz.f105) 2)
def ct0 : Cut := ⟨[1, 3, 4, 5, 6], [.ad (.s 5) 212]⟩
def lv0 : Exit → Cut
  | .exit 0 => ⟨[1, 3, 4, 5], []⟩
  | _ => ⟨[], []⟩
def k0_0 {ρ : Type} (K : Exit → St → Option ρ) (z1 : Int) (z2 : Vec YI) (z3 : Vec YB) (z4 : YI) (z5 : Vec YX) : Option ρ := K (.exit 0) (mkS 131 (lv0 (.exit 0)).live [.c (.p 0 0), vi z1, .c (.h 1), .c (.h 2)] [.box [cl z2, cl z3], ro z4, ro z5] [])
def ct1 : Cut := ⟨[1, 3, 4, 5, 7], []⟩
def lv1 : Exit → Cut
  | .exit 2 => ⟨[1, 3, 4], []⟩
  | .ret => ⟨[2], []⟩
  | _ => ⟨[], []⟩
def k1_2 {ρ : Type} (K : Exit → St → Option ρ) (z1 : Int) (z2 : Vec YI) (z3 : Vec YB) (z4 : YI) : Option ρ := K (.exit 2) (mkS 131 (lv1 (.exit 2)).live [.c (.p 0 0), vi z1, .c (.h 1)] [.box [cl z2, cl z3], ro z4] [])
def k1_r {ρ : Type} (K : Exit → St → Option ρ) (z1 : Bool) : Option ρ := K .ret (mkS 131 (lv1 .ret).live [vb z1] [] [])
def ct2 : Cut := ⟨[1, 3, 4, 5, 7, 8, 9], []⟩
def lv2 : Exit → Cut
  | .exit 4 => ⟨[1, 3, 4, 5, 7], []⟩
  | .ret => ⟨[2], []⟩
  | _ => ⟨[], []⟩
def k2_4 {ρ : Type} (K : Exit → St → Option ρ) (z1 : Int) (z2 : Int) (z3 : Vec YI) (z4 : Vec YB) (z5 : YI) (z6 : Vec YX) : Option ρ := K (.exit 4) (mkS 131 (lv2 (.exit 4)).live [.c (.p 0 0), vi z1, .c (.h 1), .c (.h 2), vi z2] [.box [cl z3, cl z4], ro z5, ro z6] [])
def k2_r {ρ : Type} (K : Exit → St → Option ρ) (z1 : Bool) : Option ρ := K .ret (mkS 131 (lv2 .ret).live [vb z1] [] [])
def ct3 : Cut := ⟨[1, 3, 4, 10], []⟩
def lv3 : Exit → Cut
  | .exit 6 => ⟨[], []⟩
  | .ret => ⟨[2], []⟩
  | _ => ⟨[], []⟩
def k3_6 {ρ : Type} (K : Exit → St → Option ρ) (_ : Unit) : Option ρ := K (.exit 6) (mkS 131 (lv3 (.exit 6)).live [] [] [])
def k3_r {ρ : Type} (K : Exit → St → Option ρ) (z1 : Bool) : Option ρ := K .ret (mkS 131 (lv3 .ret).live [vb z1] [] [])
noncomputable def L (W3 : (ρ : Type) → LA → LO → (Unit → Option ρ) → (Bool → Option ρ) → Option ρ) (W2 : (ρ : Type) → LA → LO → (Int → Int → YG → YVB → YI → YVX → Option ρ) → (Bool → Option ρ) → Option ρ) (W1 : (ρ : Type) → LA → LO → (Int → YG → YVB → YI → Option ρ) → (Bool → Option ρ) → Option ρ) (W0 : (ρ : Type) → LA → LO → (Int → YG → YVB → YI → YVX → Option ρ) → Option ρ) : Lor := fun ρ j st K => sel (Nat.beq j 0) (cutO Tryz.prog 131 ct0.live 0 [] ct0.cmds st fun avs obs => W0 ρ avs obs (k0_0 K)) (sel (Nat.beq j 1) (cutO Tryz.prog 131 ct1.live 0 [] ct1.cmds st fun avs obs => W1 ρ avs obs (k1_2 K) (k1_r K)) (sel (Nat.beq j 2) (cutO Tryz.prog 131 ct2.live 0 [] ct2.cmds st fun avs obs => W2 ρ avs obs (k2_4 K) (k2_r K)) (sel (Nat.beq j 3) (cutO Tryz.prog 131 ct3.live 0 [] ct3.cmds st fun avs obs => W3 ρ avs obs (k3_6 K) (k3_r K)) (Option.none))))
theorem step0 {Q0 Q1 Q2 Q3 Q4 Q5 Q6 Q7 W3 W2 W1 W0} {ρ : Type} {K : Exit → St → Option ρ} {W : LA → LO → Option ρ} {v1 v2 v3 v4 v5 v6} : exC Tryz.prog (O Q0 Q1 Q2 Q3 Q4 Q5 Q6 Q7) (L W3 W2 W1 W0) [] 1 c0 (mkS 131 ct0.live [.c (.p 0 0), vi v1, .c (.h 1), .c (.h 2), vi v2] [.box [cl v3, cl v4], ro v5, ro v6] []) (bodyK Tryz.prog 131 0 [] ct0 W lv0 K) =
    B0 (fun y1 y2 => Q1 [vl y1, vl y2]) v1 v2 v3 v4 v5 v6 (fun u1 u2 u3 u4 u5 u6 => W [.c (.p 0 0), vi u1, .c (.h 1), .c (.h 2), vi u2] [.box [cl u3, cl u4], ro u5, ro u6]) (k0_0 K) := by kernel_rfl
def enc0 (t : Int × Int × Vec YI × YVB × YI × Vec YX) : LA × LO := ([.c (.p 0 0), vi t.1, .c (.h 1), .c (.h 2), vi t.2.1], [.box [cl t.2.2.1, cl t.2.2.2.1], ro t.2.2.2.2.1, ro t.2.2.2.2.2])
theorem enc0I (a b) (h : enc0 a = enc0 b) : a = b := by simp [enc0, zA] at h; simp [Prod.ext_iff, h]
noncomputable def V0 : (ρ : Type) → LA → LO → (Int → YG → YVB → YI → YVX → Option ρ) → Option ρ := fun ρ avs obs k0 => ofC enc0 (fun t => un6 (F0 fuelN) t k0) (avs, obs)
theorem zG (ρ : Type) : F0 fuelN = fun w1 w2 w3 w4 w5 w6 k0 => V0 ρ [.c (.p 0 0), vi w1, .c (.h 1), .c (.h 2), vi w2] [.box [cl w3, cl w4], ro w5, ro w6] k0 := by funext w1 w2 w3 w4 w5 w6 k0; exact Eq.symm (zD enc0I _ (w1, w2, w3, w4, w5, w6))
theorem step1 {Q0 Q1 Q2 Q3 Q4 Q5 Q6 Q7 W3 W2 W1 W0} {ρ : Type} {K : Exit → St → Option ρ} {W : LA → LO → Option ρ} {v1 v2 v3 v4 v5 v6} : exC Tryz.prog (O Q0 Q1 Q2 Q3 Q4 Q5 Q6 Q7) (L W3 W2 W1 W0) [] 2 c1 (mkS 131 ct1.live [.c (.p 0 0), vi v1, .c (.h 1), .c (.h 2), vi v2] [.box [cl v3, cl v4], ro v5, ro v6] []) (bodyK Tryz.prog 131 0 [] ct1 W lv1 K) =
    B1 (fun y1 => Q2 [vs y1]) (fun y1 y2 y3 => Q3 [vi y1, vi y2, vi y3]) (fun y1 y2 => Q4 [vl y1, vi y2]) (fun w1 w2 w3 w4 w5 w6 w7 w8 w9 w10 w11 k4 kr => W2 ρ [.c (.p 0 0), vi w1, .c (.h 1), .c (.h 2), vi w2, .c (.p 3 0), vi w3] [.box [cl w4, cl w5], ro w6, ro w7, .box [cs w8, ci w9, ci w10, cl w11]] k4 kr) v1 v2 v3 v4 v5 v6 (fun u1 u2 u3 u4 u5 u6 => W [.c (.p 0 0), vi u1, .c (.h 1), .c (.h 2), vi u2] [.box [cl u3, cl u4], ro u5, ro u6]) (k1_2 K) (k1_r K) := by kernel_rfl
def enc1 (t : Int × Int × Vec YI × YVB × YI × Vec YX) : LA × LO := ([.c (.p 0 0), vi t.1, .c (.h 1), .c (.h 2), vi t.2.1], [.box [cl t.2.2.1, cl t.2.2.2.1], ro t.2.2.2.2.1, ro t.2.2.2.2.2])
theorem enc1I (a b) (h : enc1 a = enc1 b) : a = b := by simp [enc1, zA] at h; simp [Prod.ext_iff, h]
noncomputable def V1 : (ρ : Type) → LA → LO → (Int → YG → YVB → YI → Option ρ) → (Bool → Option ρ) → Option ρ := fun ρ avs obs k2 kr => ofC enc1 (fun t => un6 (F1 fuelN) t k2 kr) (avs, obs)
theorem ZC (ρ : Type) : F1 fuelN = fun w1 w2 w3 w4 w5 w6 k2 kr => V1 ρ [.c (.p 0 0), vi w1, .c (.h 1), .c (.h 2), vi w2] [.box [cl w3, cl w4], ro w5, ro w6] k2 kr := by funext w1 w2 w3 w4 w5 w6 k2 kr; exact Eq.symm (zD enc1I _ (w1, w2, w3, w4, w5, w6))
theorem step2 {Q0 Q1 Q2 Q3 Q4 Q5 Q6 Q7 W3 W2 W1 W0} {ρ : Type} {K : Exit → St → Option ρ} {W : LA → LO → Option ρ} {v1 v2 v3 v4 v5 v6 v7 v8 v9 v10 v11} : exC Tryz.prog (O Q0 Q1 Q2 Q3 Q4 Q5 Q6 Q7) (L W3 W2 W1 W0) [] 3 c2 (mkS 131 ct2.live [.c (.p 0 0), vi v1, .c (.h 1), .c (.h 2), vi v2, .c (.p 3 0), vi v3] [.box [cl v4, cl v5], ro v6, ro v7, .box [cs v8, ci v9, ci v10, cl v11]] []) (bodyK Tryz.prog 131 0 [] ct2 W lv2 K) =
    B2 (fun y1 y2 y3 y4 y5 => Q5 [.a [cs y1, ci y2, ci y3, cl y4], vl y5]) v1 v2 v3 v4 v5 v6 v7 v8 v9 v10 v11 (fun u1 u2 u3 u4 u5 u6 u7 u8 u9 u10 u11 => W [.c (.p 0 0), vi u1, .c (.h 1), .c (.h 2), vi u2, .c (.p 3 0), vi u3] [.box [cl u4, cl u5], ro u6, ro u7, .box [cs u8, ci u9, ci u10, cl u11]]) (k2_4 K) (k2_r K) := by kernel_rfl
def enc2 (t : Int × Int × Int × Vec YI × YVB × YI × Vec YX × ByteArray × Int × Int × YI) : LA × LO := ([.c (.p 0 0), vi t.1, .c (.h 1), .c (.h 2), vi t.2.1, .c (.p 3 0), vi t.2.2.1], [.box [cl t.2.2.2.1, cl t.2.2.2.2.1], ro t.2.2.2.2.2.1, ro t.2.2.2.2.2.2.1, .box [cs t.2.2.2.2.2.2.2.1, ci t.2.2.2.2.2.2.2.2.1, ci t.2.2.2.2.2.2.2.2.2.1, cl t.2.2.2.2.2.2.2.2.2.2]])
theorem enc2I (a b) (h : enc2 a = enc2 b) : a = b := by simp [enc2, zA] at h; simp [Prod.ext_iff, h]
noncomputable def V2 : (ρ : Type) → LA → LO → (Int → Int → YG → YVB → YI → YVX → Option ρ) → (Bool → Option ρ) → Option ρ := fun ρ avs obs k4 kr => ofC enc2 (fun t => un11 (F2 fuelN) t k4 kr) (avs, obs)
theorem ZD (ρ : Type) : F2 fuelN = fun w1 w2 w3 w4 w5 w6 w7 w8 w9 w10 w11 k4 kr => V2 ρ [.c (.p 0 0), vi w1, .c (.h 1), .c (.h 2), vi w2, .c (.p 3 0), vi w3] [.box [cl w4, cl w5], ro w6, ro w7, .box [cs w8, ci w9, ci w10, cl w11]] k4 kr := by funext w1 w2 w3 w4 w5 w6 w7 w8 w9 w10 w11 k4 kr; exact Eq.symm (zD enc2I _ (w1, w2, w3, w4, w5, w6, w7, w8, w9, w10, w11))
theorem step3 {Q0 Q1 Q2 Q3 Q4 Q5 Q6 Q7 W3 W2 W1 W0} {ρ : Type} {K : Exit → St → Option ρ} {W : LA → LO → Option ρ} {v1 v2 v3 v4 v5} : exC Tryz.prog (O Q0 Q1 Q2 Q3 Q4 Q5 Q6 Q7) (L W3 W2 W1 W0) [] 4 c3 (mkS 131 ct3.live [.c (.p 0 0), vi v1, .c (.h 1), vi v2] [.box [cl v3, cl v4], ro v5] []) (bodyK Tryz.prog 131 0 [] ct3 W lv3 K) =
    B3 (fun y1 y2 y3 => Q6 [.a [cl y1, cl y2], vi y3]) (fun y1 y2 y3 => Q7 [.a [cl y1, cl y2], vl y3]) v1 v2 v3 v4 v5 (fun u1 u2 u3 u4 u5 => W [.c (.p 0 0), vi u1, .c (.h 1), vi u2] [.box [cl u3, cl u4], ro u5]) (k3_6 K) (k3_r K) := by kernel_rfl
def enc3 (t : Int × Int × Vec YI × YVB × YI) : LA × LO := ([.c (.p 0 0), vi t.1, .c (.h 1), vi t.2.1], [.box [cl t.2.2.1, cl t.2.2.2.1], ro t.2.2.2.2])
theorem enc3I (a b) (h : enc3 a = enc3 b) : a = b := by simp [enc3, zA] at h; simp [Prod.ext_iff, h]
noncomputable def V3 : (ρ : Type) → LA → LO → (Unit → Option ρ) → (Bool → Option ρ) → Option ρ := fun ρ avs obs k6 kr => ofC enc3 (fun t => un5 (F3 fuelN) t k6 kr) (avs, obs)
theorem V3_enc (ρ : Type) : F3 fuelN = fun w1 w2 w3 w4 w5 k6 kr => V3 ρ [.c (.p 0 0), vi w1, .c (.h 1), vi w2] [.box [cl w3, cl w4], ro w5] k6 kr := by funext w1 w2 w3 w4 w5 k6 kr; exact Eq.symm (zD enc3I _ (w1, w2, w3, w4, w5))
theorem main {Q0 Q1 Q2 Q3 Q4 Q5 Q6 Q7 W3 W2 W1 W0} {ρ : Type} {K : AV → LO → Option ρ} {a1 a2} : exC Tryz.prog (O Q0 Q1 Q2 Q3 Q4 Q5 Q6 Q7) (L W3 W2 W1 W0) [] 0 (zB Tryz.f105) (entry 131 [.a [cl a1, cl a2]] [] []) (finO Tryz.prog Tryz.f105.results.toList 0 [] [] K) =
    B (fun y1 => Q0 [vl y1]) (fun w1 w2 w3 w4 w5 w6 k0 => W0 ρ [.c (.p 0 0), vi w1, .c (.h 1), .c (.h 2), vi w2] [.box [cl w3, cl w4], ro w5, ro w6] k0) (fun w1 w2 w3 w4 w5 w6 k2 kr => W1 ρ [.c (.p 0 0), vi w1, .c (.h 1), .c (.h 2), vi w2] [.box [cl w3, cl w4], ro w5, ro w6] k2 kr) (fun w1 w2 w3 w4 w5 k6 kr => W3 ρ [.c (.p 0 0), vi w1, .c (.h 1), vi w2] [.box [cl w3, cl w4], ro w5] k6 kr) a1 a2 (fun x1 => K (vb x1) []) := by kernel_rfl
theorem Gok : (O spec_GraphOk.Q spec_l05Set.Q spec_LineOk.Q spec_l01In.Q spec_l05Rise.Q spec_l06Live.Q spec_l06Closure.Q spec_l06Places.Q).ok Tryz.prog := zH (by exact ⟨qE_ok spec_GraphOk.ac, qE_ok spec_l05Set.ac, qE_ok spec_LineOk.ac, qE_ok spec_l01In.ac, qE_ok spec_l05Rise.ac, qE_ok spec_l06Live.ac, qE_ok spec_l06Closure.ac, qE_ok spec_l06Places.ac, trivial⟩) (by exact trivial)
theorem ok3 : OkL Tryz.prog (L V3 V2 V1 V0) 3 (.loop c3) := fun ρ st K r h => zJ (ct := ct3) (lv := lv3) (L := (L V3 V2 V1 V0)) Gok hmT (by rw [show zE [] 4 c3 = [] by kernel_rfl]; exact Lor.zF _ _) enc3I (fun k t => un5 (F3 k) t (k3_6 K) (k3_r K)) (fun t => rfl) (fun k t => by refine step3.trans ?_; rw [← spec_l06Closure.wrap, ← spec_l06Places.wrap]; exact congrFun (congrFun (congrArg (B3 _ _ _ _ _ _ _) (fx5 fun t => zD enc3I _ t)) _) _) (fun _ => fuelN) h
theorem ok2 : OkL Tryz.prog (L V3 V2 V1 V0) 2 (.loop c2) := fun ρ st K r h => zJ (ct := ct2) (lv := lv2) (L := (L V3 V2 V1 V0)) Gok hmT (by rw [show zE [] 3 c2 = [] by kernel_rfl]; exact Lor.zF _ _) enc2I (fun k t => un11 (F2 k) t (k2_4 K) (k2_r K)) (fun t => rfl) (fun k t => by refine step2.trans ?_; rw [← spec_l06Live.wrap]; exact congrFun (congrFun (congrArg (B2 _ _ _ _ _ _ _ _ _ _ _ _) (fx11 fun t => zD enc2I _ t)) _) _) (fun _ => fuelN) h
theorem e1 : zE [] 2 c1 = [(2, 2, .loop c2)] := by kernel_rfl
theorem ok1 : OkL Tryz.prog (L V3 V2 V1 V0) 1 (.loop c1) := fun ρ st K r h => zJ (ct := ct1) (lv := lv1) (L := (L V3 V2 V1 V0)) Gok hmT (by rw [e1]; exact Lor.zI ok2 (Lor.zF _ _)) enc1I (fun k t => un6 (F1 k) t (k1_2 K) (k1_r K)) (fun t => rfl) (fun k t => by refine step1.trans ?_; rw [← spec_LineOk.wrap, ← spec_l01In.wrap, ← spec_l05Rise.wrap, ← ZD]; exact congrFun (congrFun (congrArg (B1 _ _ _ _ _ _ _ _ _ _) (fx6 fun t => zD enc1I _ t)) _) _) (fun _ => fuelN) h
theorem ok0 : OkL Tryz.prog (L V3 V2 V1 V0) 0 (.loop c0) := fun ρ st K r h => zJ (ct := ct0) (lv := lv0) (L := (L V3 V2 V1 V0)) Gok hmT (by rw [show zE [] 1 c0 = [] by kernel_rfl]; exact Lor.zF _ _) enc0I (fun k t => un6 (F0 k) t (k0_0 K)) (fun t => rfl) (fun k t => by refine step0.trans ?_; rw [← spec_l05Set.wrap]; exact congrFun (congrArg (B0 _ _ _ _ _ _ _) (fx6 fun t => zD enc0I _ t)) _) (fun _ => fuelN) h
theorem e : zE [] 0 (zB Tryz.f105) = [(0, 0, .loop c0), (1, 1, .loop c1), (3, 3, .loop c3)] := by kernel_rfl
theorem acc : ∀ t x, un2 F t = some x → ACc Tryz.prog 105 (encA t) [] true [] fun rv obs => (rv, obs) = encR x := accT (T := Vec YI × YVB) (F := un2 F) (L := (L V3 V2 V1 V0)) (cmds := []) (body := (zB Tryz.f105)) Gok hmT Tryz.func105 (by kernel_rfl) (by kernel_rfl) (by rw [e]; exact Lor.zI ok0 (Lor.zI ok1 (Lor.zI ok3 (Lor.zF _ _)))) (fun t => by refine main.trans ?_; rw [← spec_GraphOk.wrap, ← zG, ← ZC, ← V3_enc]; exact congrArg (B _ _ _ _ _ _) (fx1 fun t => zD ZB some t))
theorem ac : ∀ a x, Q a = some x → AC Tryz.prog 105 a [] false [] fun rv obs => (rv, obs) = encR x := acF (body := (zB Tryz.f105)) Tryz.func105 (by kernel_rfl) (by kernel_rfl) acc fun x => ⟨by simp [encR, AV.Flat, K.Flat, C.Flat], fl0⟩
end spec_WeaveOk
namespace impl_GraphOk
noncomputable def B0 {ρ : Type} (C0 : YI → Int → Option Bool) (v1 : Vec YI) (v2 : Vec YI) (v3 : Int) (v4 : Int) (W : YG → YG → Int → Int → Option ρ) (K0 : YG → Option ρ) (Kr : Bool → Option ρ) : Option ρ :=
  sel (decide (v4 < v3)) (chk (decide (0 ≤ v4 ∧ v4 < (v2.n : Int))) (sel (decide ((4 : Int) < ((v2.g v4.toNat).n : Int))) (Kr false) ((C0 (v2.g v4.toNat) v4).bind fun r1 => sel ((!r1)) (Kr false) (W v1 v2 v3 (wr (v4 + (1 : Int))))))) (K0 v1)
noncomputable def F0 {ρ : Type} : Nat → YG → YG → Int → Int → (YG → Option ρ) → (Bool → Option ρ) → Option ρ
  | 0, _, _, _, _, _, _ => none
  | k + 1, v1, v2, v3, v4, K0, Kr => B0 impl_ascends.F v1 v2 v3 v4 (fun v1' v2' v3' v4' => F0 k v1' v2' v3' v4' K0 Kr) K0 Kr
noncomputable def B {ρ : Type} (L0 : YG → YG → Int → Int → (YG → Option ρ) → (Bool → Option ρ) → Option ρ) (a1 : Vec YI) (K : Bool → Option ρ) : Option ρ :=
  L0 a1 a1 (a1.n : Int) (0 : Int) (fun e01 => K (decide ((e01.n : Int) ≤ (40 : Int)))) (fun x01 => K x01)
noncomputable def F (a1 : Vec YI) : Option Bool := B (F0 fuelN) a1 (fun x1 => some (x1))
def encA (t : Vec YI) : LA := [vl t]
def encR (x : Bool) : AV × LO := (vb x, [])
theorem ZA (a b) (h : encA a = encA b) : a = b := by simpa [encA, zA] using h
theorem ZB (a b) (h : encR a = encR b) : a = b := by simpa [encR, zA] using h
noncomputable def Q (args : LA) : Option Bool := ofC encA (un1 F) args
theorem wrap : F = fun y1 => Q [vl y1] := by funext y1; exact Eq.symm (zD ZA _ (y1))
noncomputable abbrev O (Q0 : LA → Option Bool) : Orc := mkO [qE 78 false impl_ascends.encR Q0] [] []
noncomputable def c0 : Code := loopC (atomN [] 0 (zB Tryz.f143) 0)
def ct0 : Cut := ⟨[0, 5, 6, 7], []⟩
def lv0 : Exit → Cut
  | .exit 0 => ⟨[0], []⟩
  | .ret => ⟨[2], []⟩
  | _ => ⟨[], []⟩
def k0_0 {ρ : Type} (K : Exit → St → Option ρ) (z1 : Vec YI) : Option ρ := K (.exit 0) (mkS 25 (lv0 (.exit 0)).live [vl z1] [] [])
def k0_r {ρ : Type} (K : Exit → St → Option ρ) (z1 : Bool) : Option ρ := K .ret (mkS 25 (lv0 .ret).live [vb z1] [] [])
noncomputable def L (W0 : (ρ : Type) → LA → LO → (YG → Option ρ) → (Bool → Option ρ) → Option ρ) : Lor := fun ρ j st K => sel (Nat.beq j 0) (cutO Tryz.prog 25 ct0.live 0 [] ct0.cmds st fun avs obs => W0 ρ avs obs (k0_0 K) (k0_r K)) (Option.none)
theorem step0 {Q0 W0} {ρ : Type} {K : Exit → St → Option ρ} {W : LA → LO → Option ρ} {v1 v2 v3 v4} : exC Tryz.prog (O Q0) (L W0) [] 1 c0 (mkS 25 ct0.live [vl v1, vl v2, vi v3, vi v4] [] []) (bodyK Tryz.prog 25 0 [] ct0 W lv0 K) =
    B0 (fun y1 y2 => Q0 [vl y1, vi y2]) v1 v2 v3 v4 (fun u1 u2 u3 u4 => W [vl u1, vl u2, vi u3, vi u4] []) (k0_0 K) (k0_r K) := by kernel_rfl
def enc0 (t : Vec YI × Vec YI × Int × Int) : LA × LO := ([vl t.1, vl t.2.1, vi t.2.2.1, vi t.2.2.2], [])
theorem enc0I (a b) (h : enc0 a = enc0 b) : a = b := by simp [enc0, zA] at h; simp [Prod.ext_iff, h]
noncomputable def V0 : (ρ : Type) → LA → LO → (YG → Option ρ) → (Bool → Option ρ) → Option ρ := fun ρ avs obs k0 kr => ofC enc0 (fun t => un4 (F0 fuelN) t k0 kr) (avs, obs)
theorem zG (ρ : Type) : F0 fuelN = fun w1 w2 w3 w4 k0 kr => V0 ρ [vl w1, vl w2, vi w3, vi w4] [] k0 kr := by funext w1 w2 w3 w4 k0 kr; exact Eq.symm (zD enc0I _ (w1, w2, w3, w4))
theorem main {Q0 W0} {ρ : Type} {K : AV → LO → Option ρ} {a1} : exC Tryz.prog (O Q0) (L W0) [] 0 (zB Tryz.f143) (entry 25 [vl a1] [] []) (finO Tryz.prog Tryz.f143.results.toList 0 [] [] K) =
    B (fun w1 w2 w3 w4 k0 kr => W0 ρ [vl w1, vl w2, vi w3, vi w4] [] k0 kr) a1 (fun x1 => K (vb x1) []) := by kernel_rfl
theorem Gok : (O impl_ascends.Q).ok Tryz.prog := zH (by exact ⟨qE_ok impl_ascends.ac, trivial⟩) (by exact trivial)
theorem ok0 : OkL Tryz.prog (L V0) 0 (.loop c0) := fun ρ st K r h => zJ (ct := ct0) (lv := lv0) (L := (L V0)) Gok hmT (by rw [show zE [] 1 c0 = [] by kernel_rfl]; exact Lor.zF _ _) enc0I (fun k t => un4 (F0 k) t (k0_0 K) (k0_r K)) (fun t => rfl) (fun k t => by refine step0.trans ?_; rw [← impl_ascends.wrap]; exact congrFun (congrFun (congrArg (B0 _ _ _ _ _) (fx4 fun t => zD enc0I _ t)) _) _) (fun _ => fuelN) h
theorem e : zE [] 0 (zB Tryz.f143) = [(0, 0, .loop c0)] := by kernel_rfl
theorem acc : ∀ t x, un1 F t = some x → ACc Tryz.prog 143 (encA t) [] true [] fun rv obs => (rv, obs) = encR x := accT (T := Vec YI) (F := un1 F) (L := (L V0)) (cmds := []) (body := (zB Tryz.f143)) Gok hmT Tryz.func143 (by kernel_rfl) (by kernel_rfl) (by rw [e]; exact Lor.zI ok0 (Lor.zF _ _)) (fun t => by refine main.trans ?_; rw [← zG]; exact congrArg (B _ _) (fx1 fun t => zD ZB some t))
theorem ac : ∀ a x, Q a = some x → AC Tryz.prog 143 a [] false [] fun rv obs => (rv, obs) = encR x := acF (body := (zB Tryz.f143)) Tryz.func143 (by kernel_rfl) (by kernel_rfl) acc fun x => ⟨by simp [encR, AV.Flat, K.Flat, C.Flat], fl0⟩
end impl_GraphOk
namespace impl_unionOf
noncomputable def B0 {ρ : Type} (v1 : YK) (v2 : Int) (v3 : YI) (v4 : Int) (v5 : Int) (W : YK → Int → YI → Int → Int → Option ρ) (K0 : Int → Option ρ) : Option ρ :=
  sel (decide (v5 < v4)) (chk (decide (0 ≤ v5 ∧ v5 < (v3.n : Int))) (chk (decide (0 ≤ (v3.g v5.toNat) ∧ (v3.g v5.toNat) < (v1.n : Int))) (W v1 (bOr .u64 v2 ((v1.g (v3.g v5.toNat).toNat).v)) v3 v4 (wr (v5 + (1 : Int)))))) (K0 v2)
noncomputable def F0 {ρ : Type} : Nat → YK → Int → YI → Int → Int → (Int → Option ρ) → Option ρ
  | 0, _, _, _, _, _, _ => none
  | k + 1, v1, v2, v3, v4, v5, K0 => B0 v1 v2 v3 v4 v5 (fun v1' v2' v3' v4' v5' => F0 k v1' v2' v3' v4' v5' K0) K0
noncomputable def B {ρ : Type} (L0 : YK → Int → YI → Int → Int → (Int → Option ρ) → Option ρ) (a1 : YK) (a2 : YI) (K : Int → Option ρ) : Option ρ :=
  L0 a1 (0 : Int) a2 (a2.n : Int) (0 : Int) (fun e01 => K e01)
noncomputable def F (a1 : YK) (a2 : YI) : Option Int := B (F0 fuelN) a1 a2 (fun x1 => some (x1))
def encA (t : Vec (IK .u64) × YI) : LA := [vl t.1, vl t.2]
def encR (x : Int) : AV × LO := (vk .u64 x, [])
theorem ZA (a b) (h : encA a = encA b) : a = b := by simp [encA, zA] at h; simp [Prod.ext_iff, h]
theorem ZB (a b) (h : encR a = encR b) : a = b := by simpa [encR, zA] using h
noncomputable def Q (args : LA) : Option Int := ofC encA (un2 F) args
theorem wrap : F = fun y1 y2 => Q [vl y1, vl y2] := by funext y1 y2; exact Eq.symm (zD ZA _ (y1, y2))
noncomputable abbrev O : Orc := mkO [] [] []
noncomputable def c0 : Code := loopC (atomN [] 0 (zB Tryz.f176) 0)
def ct0 : Cut := ⟨[0, 5, 8, 9, 10], []⟩
def lv0 : Exit → Cut
  | .exit 0 => ⟨[5], []⟩
  | _ => ⟨[], []⟩
def k0_0 {ρ : Type} (K : Exit → St → Option ρ) (z1 : Int) : Option ρ := K (.exit 0) (mkS 22 (lv0 (.exit 0)).live [vk .u64 z1] [] [])
noncomputable def L (W0 : (ρ : Type) → LA → LO → (Int → Option ρ) → Option ρ) : Lor := fun ρ j st K => sel (Nat.beq j 0) (cutO Tryz.prog 22 ct0.live 0 [] ct0.cmds st fun avs obs => W0 ρ avs obs (k0_0 K)) (Option.none)
theorem step0 {W0} {ρ : Type} {K : Exit → St → Option ρ} {W : LA → LO → Option ρ} {v1 v2 v3 v4 v5} : exC Tryz.prog O (L W0) [] 1 c0 (mkS 22 ct0.live [vl v1, vk .u64 v2, vl v3, vi v4, vi v5] [] []) (bodyK Tryz.prog 22 0 [] ct0 W lv0 K) =
    B0 v1 v2 v3 v4 v5 (fun u1 u2 u3 u4 u5 => W [vl u1, vk .u64 u2, vl u3, vi u4, vi u5] []) (k0_0 K) := by kernel_rfl
def enc0 (t : Vec (IK .u64) × Int × YI × Int × Int) : LA × LO := ([vl t.1, vk .u64 t.2.1, vl t.2.2.1, vi t.2.2.2.1, vi t.2.2.2.2], [])
theorem enc0I (a b) (h : enc0 a = enc0 b) : a = b := by simp [enc0, zA] at h; simp [Prod.ext_iff, h]
noncomputable def V0 : (ρ : Type) → LA → LO → (Int → Option ρ) → Option ρ := fun ρ avs obs k0 => ofC enc0 (fun t => un5 (F0 fuelN) t k0) (avs, obs)
theorem zG (ρ : Type) : F0 fuelN = fun w1 w2 w3 w4 w5 k0 => V0 ρ [vl w1, vk .u64 w2, vl w3, vi w4, vi w5] [] k0 := by funext w1 w2 w3 w4 w5 k0; exact Eq.symm (zD enc0I _ (w1, w2, w3, w4, w5))
theorem main {W0} {ρ : Type} {K : AV → LO → Option ρ} {a1 a2} : exC Tryz.prog O (L W0) [] 0 (zB Tryz.f176) (entry 22 [vl a1, vl a2] [] []) (finO Tryz.prog Tryz.f176.results.toList 0 [] [] K) =
    B (fun w1 w2 w3 w4 w5 k0 => W0 ρ [vl w1, vk .u64 w2, vl w3, vi w4, vi w5] [] k0) a1 a2 (fun x1 => K (vk .u64 x1) []) := by kernel_rfl
theorem Gok : O.ok Tryz.prog := zH (by exact trivial) (by exact trivial)
theorem ok0 : OkL Tryz.prog (L V0) 0 (.loop c0) := fun ρ st K r h => zJ (ct := ct0) (lv := lv0) (L := (L V0)) Gok hmT (by rw [show zE [] 1 c0 = [] by kernel_rfl]; exact Lor.zF _ _) enc0I (fun k t => un5 (F0 k) t (k0_0 K)) (fun t => rfl) (fun k t => by refine step0.trans ?_; exact congrFun (congrArg (B0 _ _ _ _ _) (fx5 fun t => zD enc0I _ t)) _) (fun _ => fuelN) h
theorem e : zE [] 0 (zB Tryz.f176) = [(0, 0, .loop c0)] := by kernel_rfl
theorem acc : ∀ t x, un2 F t = some x → ACc Tryz.prog 176 (encA t) [] true [] fun rv obs => (rv, obs) = encR x := accT (T := Vec (IK .u64) × YI) (F := un2 F) (L := (L V0)) (cmds := []) (body := (zB Tryz.f176)) Gok hmT Tryz.func176 (by kernel_rfl) (by kernel_rfl) (by rw [e]; exact Lor.zI ok0 (Lor.zF _ _)) (fun t => by refine main.trans ?_; rw [← zG]; exact congrArg (B _ _ _) (fx1 fun t => zD ZB some t))
theorem ac : ∀ a x, Q a = some x → AC Tryz.prog 176 a [] false [] fun rv obs => (rv, obs) = encR x := acF (body := (zB Tryz.f176)) Tryz.func176 (by kernel_rfl) (by kernel_rfl) acc fun x => ⟨by simp [encR, AV.Flat, K.Flat, C.Flat], fl0⟩
end impl_unionOf
namespace impl_closures
noncomputable def B0 {ρ : Type} (C0 : YK → YI → Option Int) (v1 : Vec YI) (v2 : Int) (v3 : Int) (v4 : YK) (W : YG → Int → Int → YK → Option ρ) (K0 : YK → Option ρ) : Option ρ :=
  sel (decide (v3 < v2)) (chk (decide (0 ≤ v3 ∧ v3 < (v1.n : Int))) ((C0 v4 (v1.g v3.toNat)).bind fun r1 => chk (decide (0 ≤ (IntKind.wrap .u64 v3))) (chk (decide (0 ≤ v3 ∧ v3 < (v4.n : Int))) (chk (decide (v3.toNat < v4.n)) (W v1 v2 (wr (v3 + (1 : Int))) (Vec.set v4 v3.toNat ⟨(bOr .u64 r1 (bShl .u64 (1 : Int) (IntKind.wrap .u64 v3)))⟩)))))) (K0 v4)
noncomputable def F0 {ρ : Type} : Nat → YG → Int → Int → YK → (YK → Option ρ) → Option ρ
  | 0, _, _, _, _, _ => none
  | k + 1, v1, v2, v3, v4, K0 => B0 impl_unionOf.F v1 v2 v3 v4 (fun v1' v2' v3' v4' => F0 k v1' v2' v3' v4' K0) K0
noncomputable def B {ρ : Type} (L0 : YG → Int → Int → YK → (YK → Option ρ) → Option ρ) (a1 : Vec YI) (K : YK → Option ρ) : Option ρ :=
  chk (decide ((a1.n : Int) = (a1.n : Int) ∧ 0 ≤ (a1.n : Int))) (chk (mkOk (a1.n : Int) 8) (L0 a1 (a1.n : Int) (0 : Int) (Vec.rep ((a1.n : Int).toNat) ⟨0⟩ : YK) (fun e01 => K e01)))
noncomputable def F (a1 : Vec YI) : Option YK := B (F0 fuelN) a1 (fun x1 => some (x1))
def encA (t : Vec YI) : LA := [vl t]
def encR (x : YK) : AV × LO := (.c (.h 0), [ro x])
theorem ZA (a b) (h : encA a = encA b) : a = b := by simpa [encA, zA] using h
theorem ZB (a b) (h : encR a = encR b) : a = b := by simpa [encR, zA] using h
noncomputable def Q (args : LA) : Option YK := ofC encA (un1 F) args
theorem wrap : F = fun y1 => Q [vl y1] := by funext y1; exact Eq.symm (zD ZA _ (y1))
noncomputable abbrev O (Q0 : LA → Option Int) : Orc := mkO [qE 176 false impl_unionOf.encR Q0] [] []
noncomputable def c0 : Code := loopC (atomN [] 0 (zB Tryz.f114) 0)
def ct0 : Cut := ⟨[3, 9, 10, 11], []⟩
def lv0 : Exit → Cut
  | .exit 0 => ⟨[3], []⟩
  | _ => ⟨[], []⟩
def k0_0 {ρ : Type} (K : Exit → St → Option ρ) (z1 : YK) : Option ρ := K (.exit 0) (mkS 28 (lv0 (.exit 0)).live [.c (.h 0)] [ro z1] [])
noncomputable def L (W0 : (ρ : Type) → LA → LO → (YK → Option ρ) → Option ρ) : Lor := fun ρ j st K => sel (Nat.beq j 0) (cutO Tryz.prog 28 ct0.live 0 [] ct0.cmds st fun avs obs => W0 ρ avs obs (k0_0 K)) (Option.none)
theorem step0 {Q0 W0} {ρ : Type} {K : Exit → St → Option ρ} {W : LA → LO → Option ρ} {v1 v2 v3 v4} : exC Tryz.prog (O Q0) (L W0) [] 1 c0 (mkS 28 ct0.live [.c (.h 0), vl v1, vi v2, vi v3] [ro v4] []) (bodyK Tryz.prog 28 0 [] ct0 W lv0 K) =
    B0 (fun y1 y2 => Q0 [vl y1, vl y2]) v1 v2 v3 v4 (fun u1 u2 u3 u4 => W [.c (.h 0), vl u1, vi u2, vi u3] [ro u4]) (k0_0 K) := by kernel_rfl
def enc0 (t : Vec YI × Int × Int × Vec (IK .u64)) : LA × LO := ([.c (.h 0), vl t.1, vi t.2.1, vi t.2.2.1], [ro t.2.2.2])
theorem enc0I (a b) (h : enc0 a = enc0 b) : a = b := by simp [enc0, zA] at h; simp [Prod.ext_iff, h]
noncomputable def V0 : (ρ : Type) → LA → LO → (YK → Option ρ) → Option ρ := fun ρ avs obs k0 => ofC enc0 (fun t => un4 (F0 fuelN) t k0) (avs, obs)
theorem zG (ρ : Type) : F0 fuelN = fun w1 w2 w3 w4 k0 => V0 ρ [.c (.h 0), vl w1, vi w2, vi w3] [ro w4] k0 := by funext w1 w2 w3 w4 k0; exact Eq.symm (zD enc0I _ (w1, w2, w3, w4))
theorem main {Q0 W0} {ρ : Type} {K : AV → LO → Option ρ} {a1} : exC Tryz.prog (O Q0) (L W0) [] 0 (zB Tryz.f114) (entry 28 [vl a1] [] []) (finO Tryz.prog Tryz.f114.results.toList 0 [] [] K) =
    B (fun w1 w2 w3 w4 k0 => W0 ρ [.c (.h 0), vl w1, vi w2, vi w3] [ro w4] k0) a1 (fun x1 => K (.c (.h 0)) [ro x1]) := by kernel_rfl
theorem Gok : (O impl_unionOf.Q).ok Tryz.prog := zH (by exact ⟨qE_ok impl_unionOf.ac, trivial⟩) (by exact trivial)
theorem ok0 : OkL Tryz.prog (L V0) 0 (.loop c0) := fun ρ st K r h => zJ (ct := ct0) (lv := lv0) (L := (L V0)) Gok hmT (by rw [show zE [] 1 c0 = [] by kernel_rfl]; exact Lor.zF _ _) enc0I (fun k t => un4 (F0 k) t (k0_0 K)) (fun t => rfl) (fun k t => by refine step0.trans ?_; rw [← impl_unionOf.wrap]; exact congrFun (congrArg (B0 _ _ _ _ _) (fx4 fun t => zD enc0I _ t)) _) (fun _ => fuelN) h
theorem e : zE [] 0 (zB Tryz.f114) = [(0, 0, .loop c0)] := by kernel_rfl
theorem acc : ∀ t x, un1 F t = some x → ACc Tryz.prog 114 (encA t) [] true [] fun rv obs => (rv, obs) = encR x := accT (T := Vec YI) (F := un1 F) (L := (L V0)) (cmds := []) (body := (zB Tryz.f114)) Gok hmT Tryz.func114 (by kernel_rfl) (by kernel_rfl) (by rw [e]; exact Lor.zI ok0 (Lor.zF _ _)) (fun t => by refine main.trans ?_; rw [← zG]; exact congrArg (B _ _) (fx1 fun t => zD ZB some t))
theorem ac : ∀ a x, Q a = some x → AC Tryz.prog 114 a [] false [] fun rv obs => (rv, obs) = encR x := acF (body := (zB Tryz.f114)) Tryz.func114 (by kernel_rfl) (by kernel_rfl) acc fun x => ⟨by simp [encR, AV.Flat, K.Flat, C.Flat], flc (zN rfl _) (fl0)⟩
end impl_closures
namespace impl_LineOk
noncomputable def B {ρ : Type} (C0 : ByteArray → ByteArray → Option Bool) (a1 : ByteArray) (K : Bool → Option ρ) : Option ρ :=
  sel (decide ((a1.size : Int) ≤ (60 : Int))) ((C0 a1 (ByteArray.mk #[10])).bind fun r1 => K (!r1)) (K false)
noncomputable def F (a1 : ByteArray) : Option Bool := B strings_Contains.F a1 (fun x1 => some (x1))
def encA (t : ByteArray) : LA := [vs t]
def encR (x : Bool) : AV × LO := (vb x, [])
theorem ZA (a b) (h : encA a = encA b) : a = b := by simpa [encA, zA] using h
theorem ZB (a b) (h : encR a = encR b) : a = b := by simpa [encR, zA] using h
noncomputable def Q (args : LA) : Option Bool := ofC encA (un1 F) args
theorem wrap : F = fun y1 => Q [vs y1] := by funext y1; exact Eq.symm (zD ZA _ (y1))
noncomputable abbrev O (Q0 : LA → Option Bool) : Orc := mkO [qE 228 false strings_Contains.encR Q0] [] []
noncomputable def L : Lor := fun _ _ _ _ => Option.none
theorem main {Q0} {ρ : Type} {K : AV → LO → Option ρ} {a1} : exC Tryz.prog (O Q0) L [] 0 (zB Tryz.f209) (entry 11 [vs a1] [] []) (finO Tryz.prog Tryz.f209.results.toList 0 [] [] K) =
    B (fun y1 y2 => Q0 [vs y1, vs y2]) a1 (fun x1 => K (vb x1) []) := by kernel_rfl
theorem Gok : (O strings_Contains.Q).ok Tryz.prog := zH (by exact ⟨qE_ok strings_Contains.ac, trivial⟩) (by exact trivial)
theorem acc : ∀ t x, un1 F t = some x → ACc Tryz.prog 209 (encA t) [] true [] fun rv obs => (rv, obs) = encR x := accT (T := ByteArray) (F := un1 F) (L := L) (cmds := []) (body := (zB Tryz.f209)) Gok hmT Tryz.func209 (by kernel_rfl) (by kernel_rfl) (by rw [show zE [] 0 (zB Tryz.f209) = [] by kernel_rfl]; exact Lor.zF _ _) (fun t => by refine main.trans ?_; rw [strings_Contains.wrap]; exact congrArg (B _ _) (fx1 fun t => zD ZB some t))
theorem ac : ∀ a x, Q a = some x → AC Tryz.prog 209 a [] false [] fun rv obs => (rv, obs) = encR x := acF (body := (zB Tryz.f209)) Tryz.func209 (by kernel_rfl) (by kernel_rfl) acc fun x => ⟨by simp [encR, AV.Flat, K.Flat, C.Flat], fl0⟩
end impl_LineOk
namespace impl_isPlace
noncomputable def B {ρ : Type} (C0 : Int → Int → Int → Option Bool) (a1 : Int) (a2 : Int) (K : Bool → Option ρ) : Option ρ :=
  (C0 a1 (0 : Int) (wr (a2 - (1 : Int)))).bind fun r1 => K r1
noncomputable def F (a1 : Int) (a2 : Int) : Option Bool := B impl_inRange.F a1 a2 (fun x1 => some (x1))
def encA (t : YD) : LA := [vi t.1, vi t.2]
def encR (x : Bool) : AV × LO := (vb x, [])
theorem ZA (a b) (h : encA a = encA b) : a = b := by simp [encA, zA] at h; simp [Prod.ext_iff, h]
theorem ZB (a b) (h : encR a = encR b) : a = b := by simpa [encR, zA] using h
noncomputable def Q (args : LA) : Option Bool := ofC encA (un2 F) args
theorem wrap : F = fun y1 y2 => Q [vi y1, vi y2] := by funext y1 y2; exact Eq.symm (zD ZA _ (y1, y2))
noncomputable abbrev O (Q0 : LA → Option Bool) : Orc := mkO [qE 126 false impl_inRange.encR Q0] [] []
noncomputable def L : Lor := fun _ _ _ _ => Option.none
theorem main {Q0} {ρ : Type} {K : AV → LO → Option ρ} {a1 a2} : exC Tryz.prog (O Q0) L [] 0 (zB Tryz.f64) (entry 9 [vi a1, vi a2] [] []) (finO Tryz.prog Tryz.f64.results.toList 0 [] [] K) =
    B (fun y1 y2 y3 => Q0 [vi y1, vi y2, vi y3]) a1 a2 (fun x1 => K (vb x1) []) := by kernel_rfl
theorem Gok : (O impl_inRange.Q).ok Tryz.prog := zH (by exact ⟨qE_ok impl_inRange.ac, trivial⟩) (by exact trivial)
theorem acc : ∀ t x, un2 F t = some x → ACc Tryz.prog 64 (encA t) [] true [] fun rv obs => (rv, obs) = encR x := accT (T := Int × Int) (F := un2 F) (L := L) (cmds := []) (body := (zB Tryz.f64)) Gok hmT Tryz.func64 (by kernel_rfl) (by kernel_rfl) (by rw [show zE [] 0 (zB Tryz.f64) = [] by kernel_rfl]; exact Lor.zF _ _) (fun t => by refine main.trans ?_; rw [← impl_inRange.wrap]; exact congrArg (B _ _ _) (fx1 fun t => zD ZB some t))
theorem ac : ∀ a x, Q a = some x → AC Tryz.prog 64 a [] false [] fun rv obs => (rv, obs) = encR x := acF (body := (zB Tryz.f64)) Tryz.func64 (by kernel_rfl) (by kernel_rfl) acc fun x => ⟨by simp [encR, AV.Flat, K.Flat, C.Flat], fl0⟩
end impl_isPlace
namespace impl_set_has
noncomputable def B {ρ : Type} (C0 : Int → Int → Int → Option Bool) (a1 : Int) (a2 : Int) (K : Bool → Option ρ) : Option ρ :=
  (C0 a2 (0 : Int) (63 : Int)).bind fun r1 => sel (r1) (chk (decide (0 ≤ (IntKind.wrap .u64 a2))) (K (decide ((bAnd .u64 (bShr .u64 a1 (IntKind.wrap .u64 a2)) (1 : Int)) = (1 : Int))))) (K false)
noncomputable def F (a1 : Int) (a2 : Int) : Option Bool := B impl_inRange.F a1 a2 (fun x1 => some (x1))
def encA (t : YD) : LA := [vk .u64 t.1, vi t.2]
def encR (x : Bool) : AV × LO := (vb x, [])
theorem ZA (a b) (h : encA a = encA b) : a = b := by simp [encA, zA] at h; simp [Prod.ext_iff, h]
theorem ZB (a b) (h : encR a = encR b) : a = b := by simpa [encR, zA] using h
noncomputable def Q (args : LA) : Option Bool := ofC encA (un2 F) args
theorem wrap : F = fun y1 y2 => Q [vk .u64 y1, vi y2] := by funext y1 y2; exact Eq.symm (zD ZA _ (y1, y2))
noncomputable abbrev O (Q0 : LA → Option Bool) : Orc := mkO [qE 126 false impl_inRange.encR Q0] [] []
noncomputable def L : Lor := fun _ _ _ _ => Option.none
theorem main {Q0} {ρ : Type} {K : AV → LO → Option ρ} {a1 a2} : exC Tryz.prog (O Q0) L [] 0 (zB Tryz.f184) (entry 15 [vk .u64 a1, vi a2] [] []) (finO Tryz.prog Tryz.f184.results.toList 0 [] [] K) =
    B (fun y1 y2 y3 => Q0 [vi y1, vi y2, vi y3]) a1 a2 (fun x1 => K (vb x1) []) := by kernel_rfl
theorem Gok : (O impl_inRange.Q).ok Tryz.prog := zH (by exact ⟨qE_ok impl_inRange.ac, trivial⟩) (by exact trivial)
theorem acc : ∀ t x, un2 F t = some x → ACc Tryz.prog 184 (encA t) [] true [] fun rv obs => (rv, obs) = encR x := accT (T := Int × Int) (F := un2 F) (L := L) (cmds := []) (body := (zB Tryz.f184)) Gok hmT Tryz.func184 (by kernel_rfl) (by kernel_rfl) (by rw [show zE [] 0 (zB Tryz.f184) = [] by kernel_rfl]; exact Lor.zF _ _) (fun t => by refine main.trans ?_; rw [← impl_inRange.wrap]; exact congrArg (B _ _ _) (fx1 fun t => zD ZB some t))
theorem ac : ∀ a x, Q a = some x → AC Tryz.prog 184 a [] false [] fun rv obs => (rv, obs) = encR x := acF (body := (zB Tryz.f184)) Tryz.func184 (by kernel_rfl) (by kernel_rfl) acc fun x => ⟨by simp [encR, AV.Flat, K.Flat, C.Flat], fl0⟩
end impl_set_has
namespace impl_setOf
noncomputable def B0 {ρ : Type} (C0 : Int → Int → Int → Option Bool) (v1 : Int) (v2 : YI) (v3 : Int) (v4 : Int) (W : Int → YI → Int → Int → Option ρ) (K0 : Int → Option ρ) : Option ρ :=
  sel (decide (v4 < v3)) (chk (decide (0 ≤ v4 ∧ v4 < (v2.n : Int))) ((C0 (v2.g v4.toNat) (0 : Int) (63 : Int)).bind fun r1 => sel (r1) (chk (decide (0 ≤ (IntKind.wrap .u64 (v2.g v4.toNat)))) (W (bOr .u64 v1 (bShl .u64 (1 : Int) (IntKind.wrap .u64 (v2.g v4.toNat)))) v2 v3 (wr (v4 + (1 : Int))))) (W v1 v2 v3 (wr (v4 + (1 : Int)))))) (K0 v1)
noncomputable def F0 {ρ : Type} : Nat → Int → YI → Int → Int → (Int → Option ρ) → Option ρ
  | 0, _, _, _, _, _ => none
  | k + 1, v1, v2, v3, v4, K0 => B0 impl_inRange.F v1 v2 v3 v4 (fun v1' v2' v3' v4' => F0 k v1' v2' v3' v4' K0) K0
noncomputable def B {ρ : Type} (L0 : Int → YI → Int → Int → (Int → Option ρ) → Option ρ) (a1 : YI) (K : Int → Option ρ) : Option ρ :=
  L0 (0 : Int) a1 (a1.n : Int) (0 : Int) (fun e01 => K e01)
noncomputable def F (a1 : YI) : Option Int := B (F0 fuelN) a1 (fun x1 => some (x1))
def encA (t : YI) : LA := [vl t]
def encR (x : Int) : AV × LO := (vk .u64 x, [])
theorem ZA (a b) (h : encA a = encA b) : a = b := by simpa [encA, zA] using h
theorem ZB (a b) (h : encR a = encR b) : a = b := by simpa [encR, zA] using h
noncomputable def Q (args : LA) : Option Int := ofC encA (un1 F) args
theorem wrap : F = fun y1 => Q [vl y1] := by funext y1; exact Eq.symm (zD ZA _ (y1))
noncomputable abbrev O (Q0 : LA → Option Bool) : Orc := mkO [qE 126 false impl_inRange.encR Q0] [] []
noncomputable def c0 : Code := loopC (atomN [] 0 (zB Tryz.f188) 0)
def ct0 : Cut := ⟨[3, 6, 7, 8], []⟩
def lv0 : Exit → Cut
  | .exit 0 => ⟨[3], []⟩
  | _ => ⟨[], []⟩
def k0_0 {ρ : Type} (K : Exit → St → Option ρ) (z1 : Int) : Option ρ := K (.exit 0) (mkS 21 (lv0 (.exit 0)).live [vk .u64 z1] [] [])
noncomputable def L (W0 : (ρ : Type) → LA → LO → (Int → Option ρ) → Option ρ) : Lor := fun ρ j st K => sel (Nat.beq j 0) (cutO Tryz.prog 21 ct0.live 0 [] ct0.cmds st fun avs obs => W0 ρ avs obs (k0_0 K)) (Option.none)
theorem step0 {Q0 W0} {ρ : Type} {K : Exit → St → Option ρ} {W : LA → LO → Option ρ} {v1 v2 v3 v4} : exC Tryz.prog (O Q0) (L W0) [] 1 c0 (mkS 21 ct0.live [vk .u64 v1, vl v2, vi v3, vi v4] [] []) (bodyK Tryz.prog 21 0 [] ct0 W lv0 K) =
    B0 (fun y1 y2 y3 => Q0 [vi y1, vi y2, vi y3]) v1 v2 v3 v4 (fun u1 u2 u3 u4 => W [vk .u64 u1, vl u2, vi u3, vi u4] []) (k0_0 K) := by kernel_rfl
def enc0 (t : Int × YI × Int × Int) : LA × LO := ([vk .u64 t.1, vl t.2.1, vi t.2.2.1, vi t.2.2.2], [])
theorem enc0I (a b) (h : enc0 a = enc0 b) : a = b := by simp [enc0, zA] at h; simp [Prod.ext_iff, h]
noncomputable def V0 : (ρ : Type) → LA → LO → (Int → Option ρ) → Option ρ := fun ρ avs obs k0 => ofC enc0 (fun t => un4 (F0 fuelN) t k0) (avs, obs)
theorem zG (ρ : Type) : F0 fuelN = fun w1 w2 w3 w4 k0 => V0 ρ [vk .u64 w1, vl w2, vi w3, vi w4] [] k0 := by funext w1 w2 w3 w4 k0; exact Eq.symm (zD enc0I _ (w1, w2, w3, w4))
theorem main {Q0 W0} {ρ : Type} {K : AV → LO → Option ρ} {a1} : exC Tryz.prog (O Q0) (L W0) [] 0 (zB Tryz.f188) (entry 21 [vl a1] [] []) (finO Tryz.prog Tryz.f188.results.toList 0 [] [] K) =
    B (fun w1 w2 w3 w4 k0 => W0 ρ [vk .u64 w1, vl w2, vi w3, vi w4] [] k0) a1 (fun x1 => K (vk .u64 x1) []) := by kernel_rfl
theorem Gok : (O impl_inRange.Q).ok Tryz.prog := zH (by exact ⟨qE_ok impl_inRange.ac, trivial⟩) (by exact trivial)
theorem ok0 : OkL Tryz.prog (L V0) 0 (.loop c0) := fun ρ st K r h => zJ (ct := ct0) (lv := lv0) (L := (L V0)) Gok hmT (by rw [show zE [] 1 c0 = [] by kernel_rfl]; exact Lor.zF _ _) enc0I (fun k t => un4 (F0 k) t (k0_0 K)) (fun t => rfl) (fun k t => by refine step0.trans ?_; rw [← impl_inRange.wrap]; exact congrFun (congrArg (B0 _ _ _ _ _) (fx4 fun t => zD enc0I _ t)) _) (fun _ => fuelN) h
theorem e : zE [] 0 (zB Tryz.f188) = [(0, 0, .loop c0)] := by kernel_rfl
theorem acc : ∀ t x, un1 F t = some x → ACc Tryz.prog 188 (encA t) [] true [] fun rv obs => (rv, obs) = encR x := accT (T := YI) (F := un1 F) (L := (L V0)) (cmds := []) (body := (zB Tryz.f188)) Gok hmT Tryz.func188 (by kernel_rfl) (by kernel_rfl) (by rw [e]; exact Lor.zI ok0 (Lor.zF _ _)) (fun t => by refine main.trans ?_; rw [← zG]; exact congrArg (B _ _) (fx1 fun t => zD ZB some t))
theorem ac : ∀ a x, Q a = some x → AC Tryz.prog 188 a [] false [] fun rv obs => (rv, obs) = encR x := acF (body := (zB Tryz.f188)) Tryz.func188 (by kernel_rfl) (by kernel_rfl) acc fun x => ⟨by simp [encR, AV.Flat, K.Flat, C.Flat], fl0⟩
end impl_setOf
namespace impl_Body_isLive
noncomputable def B {ρ : Type} (C0 : Int → Int → Option Bool) (C1 : YI → Option Int) (a1 : ByteArray) (a2 : Int) (a3 : Int) (a4 : YI) (a5 : Int) (K : Bool → Option ρ) : Option ρ :=
  (C0 a5 a2).bind fun r1 => sel (r1) ((C1 a4).bind fun r2 => K (decide ((bAnd .u64 r2 a5) = (0 : Int)))) (K false)
noncomputable def F (a1 : ByteArray) (a2 : Int) (a3 : Int) (a4 : YI) (a5 : Int) : Option Bool := B impl_set_has.F impl_setOf.F a1 a2 a3 a4 a5 (fun x1 => some (x1))
def encA (t : ByteArray × Int × Int × YI × Int) : LA := [.a [cs t.1, ci t.2.1, ci t.2.2.1, cl t.2.2.2.1], vk .u64 t.2.2.2.2]
def encR (x : Bool) : AV × LO := (vb x, [])
theorem ZA (a b) (h : encA a = encA b) : a = b := by simp [encA, zA] at h; simp [Prod.ext_iff, h]
theorem ZB (a b) (h : encR a = encR b) : a = b := by simpa [encR, zA] using h
noncomputable def Q (args : LA) : Option Bool := ofC encA (un5 F) args
theorem wrap : F = fun y1 y2 y3 y4 y5 => Q [.a [cs y1, ci y2, ci y3, cl y4], vk .u64 y5] := by funext y1 y2 y3 y4 y5; exact Eq.symm (zD ZA _ (y1, y2, y3, y4, y5))
noncomputable abbrev O (Q0 : LA → Option Bool) (Q1 : LA → Option Int) : Orc := mkO [qE 184 false impl_set_has.encR Q0, qE 188 false impl_setOf.encR Q1] [] []
noncomputable def L : Lor := fun _ _ _ _ => Option.none
theorem main {Q0 Q1} {ρ : Type} {K : AV → LO → Option ρ} {a1 a2 a3 a4 a5} : exC Tryz.prog (O Q0 Q1) L [] 0 (zB Tryz.f175) (entry 17 [.a [cs a1, ci a2, ci a3, cl a4], vk .u64 a5] [] []) (finO Tryz.prog Tryz.f175.results.toList 0 [] [] K) =
    B (fun y1 y2 => Q0 [vk .u64 y1, vi y2]) (fun y1 => Q1 [vl y1]) a1 a2 a3 a4 a5 (fun x1 => K (vb x1) []) := by kernel_rfl
theorem Gok : (O impl_set_has.Q impl_setOf.Q).ok Tryz.prog := zH (by exact ⟨qE_ok impl_set_has.ac, qE_ok impl_setOf.ac, trivial⟩) (by exact trivial)
theorem acc : ∀ t x, un5 F t = some x → ACc Tryz.prog 175 (encA t) [] true [] fun rv obs => (rv, obs) = encR x := accT (T := ByteArray × Int × Int × YI × Int) (F := un5 F) (L := L) (cmds := []) (body := (zB Tryz.f175)) Gok hmT Tryz.func175 (by kernel_rfl) (by kernel_rfl) (by rw [show zE [] 0 (zB Tryz.f175) = [] by kernel_rfl]; exact Lor.zF _ _) (fun t => by refine main.trans ?_; rw [← impl_set_has.wrap, ← impl_setOf.wrap]; exact congrArg (B _ _ _ _ _ _ _) (fx1 fun t => zD ZB some t))
theorem ac : ∀ a x, Q a = some x → AC Tryz.prog 175 a [] false [] fun rv obs => (rv, obs) = encR x := acF (body := (zB Tryz.f175)) Tryz.func175 (by kernel_rfl) (by kernel_rfl) acc fun x => ⟨by simp [encR, AV.Flat, K.Flat, C.Flat], fl0⟩
end impl_Body_isLive
namespace impl_Weave_liveIn
noncomputable def B0 {ρ : Type} (C0 : ByteArray → Int → Int → YI → Int → Option Bool) (v1 : Int) (v2 : Vec YB) (v3 : Int) (v4 : Int) (v5 : YI) (W : Int → YVB → Int → Int → YI → Option ρ) (K0 : YI → Option ρ) : Option ρ :=
  sel (decide (v4 < v3)) (chk (decide (0 ≤ v4 ∧ v4 < (v2.n : Int))) ((C0 ((v2.g v4.toNat).1) ((v2.g v4.toNat).2.1) ((v2.g v4.toNat).2.2.1) ((v2.g v4.toNat).2.2.2) v1).bind fun r1 => sel (r1) (chk (decide ((v5.n + (Vec.lit [v4] : YI).n) * 9 ≤ maxN)) (W v1 v2 v3 (wr (v4 + (1 : Int))) (Vec.app v5 (Vec.lit [v4] : YI)))) (W v1 v2 v3 (wr (v4 + (1 : Int))) v5))) (K0 v5)
noncomputable def F0 {ρ : Type} : Nat → Int → YVB → Int → Int → YI → (YI → Option ρ) → Option ρ
  | 0, _, _, _, _, _, _ => none
  | k + 1, v1, v2, v3, v4, v5, K0 => B0 impl_Body_isLive.F v1 v2 v3 v4 v5 (fun v1' v2' v3' v4' v5' => F0 k v1' v2' v3' v4' v5' K0) K0
noncomputable def B {ρ : Type} (L0 : Int → YVB → Int → Int → YI → (YI → Option ρ) → Option ρ) (a1 : Vec YI) (a2 : Vec YB) (a3 : Int) (K : YI → Option ρ) : Option ρ :=
  L0 a3 a2 (a2.n : Int) (0 : Int) (Vec.nil : YI) (fun e01 => K e01)
noncomputable def F (a1 : Vec YI) (a2 : Vec YB) (a3 : Int) : Option YI := B (F0 fuelN) a1 a2 a3 (fun x1 => some (x1))
def encA (t : Vec YI × YVB × Int) : LA := [.ra [nl t.1, nl t.2.1], vk .u64 t.2.2]
def encR (x : YI) : AV × LO := (.c (.h 0), [ro x])
theorem ZA (a b) (h : encA a = encA b) : a = b := by simp [encA, zA] at h; simp [Prod.ext_iff, h]
theorem ZB (a b) (h : encR a = encR b) : a = b := by simpa [encR, zA] using h
noncomputable def Q (args : LA) : Option YI := ofC encA (un3 F) args
theorem wrap : F = fun y1 y2 y3 => Q [.ra [nl y1, nl y2], vk .u64 y3] := by funext y1 y2 y3; exact Eq.symm (zD ZA _ (y1, y2, y3))
noncomputable abbrev O (Q0 : LA → Option Bool) : Orc := mkO [qE 175 false impl_Body_isLive.encR Q0] [] []
noncomputable def c0 : Code := loopC (atomN [] 0 (zB Tryz.f113) 0)
def ct0 : Cut := ⟨[1, 5, 11, 12, 13], [.ad (.s 5) 47]⟩
def lv0 : Exit → Cut
  | .exit 0 => ⟨[5], []⟩
  | _ => ⟨[], []⟩
def k0_0 {ρ : Type} (K : Exit → St → Option ρ) (z1 : YI) : Option ρ := K (.exit 0) (mkS 27 (lv0 (.exit 0)).live [.c (.h 0)] [ro z1] [])
noncomputable def L (W0 : (ρ : Type) → LA → LO → (YI → Option ρ) → Option ρ) : Lor := fun ρ j st K => sel (Nat.beq j 0) (cutO Tryz.prog 27 ct0.live 0 [] ct0.cmds st fun avs obs => W0 ρ avs obs (k0_0 K)) (Option.none)
theorem step0 {Q0 W0} {ρ : Type} {K : Exit → St → Option ρ} {W : LA → LO → Option ρ} {v1 v2 v3 v4 v5} : exC Tryz.prog (O Q0) (L W0) [] 1 c0 (mkS 27 ct0.live [vk .u64 v1, .c (.h 0), vl v2, vi v3, vi v4] [ro v5] []) (bodyK Tryz.prog 27 0 [] ct0 W lv0 K) =
    B0 (fun y1 y2 y3 y4 y5 => Q0 [.a [cs y1, ci y2, ci y3, cl y4], vk .u64 y5]) v1 v2 v3 v4 v5 (fun u1 u2 u3 u4 u5 => W [vk .u64 u1, .c (.h 0), vl u2, vi u3, vi u4] [ro u5]) (k0_0 K) := by kernel_rfl
def enc0 (t : Int × YVB × Int × Int × YI) : LA × LO := ([vk .u64 t.1, .c (.h 0), vl t.2.1, vi t.2.2.1, vi t.2.2.2.1], [ro t.2.2.2.2])
theorem enc0I (a b) (h : enc0 a = enc0 b) : a = b := by simp [enc0, zA] at h; simp [Prod.ext_iff, h]
noncomputable def V0 : (ρ : Type) → LA → LO → (YI → Option ρ) → Option ρ := fun ρ avs obs k0 => ofC enc0 (fun t => un5 (F0 fuelN) t k0) (avs, obs)
theorem zG (ρ : Type) : F0 fuelN = fun w1 w2 w3 w4 w5 k0 => V0 ρ [vk .u64 w1, .c (.h 0), vl w2, vi w3, vi w4] [ro w5] k0 := by funext w1 w2 w3 w4 w5 k0; exact Eq.symm (zD enc0I _ (w1, w2, w3, w4, w5))
theorem main {Q0 W0} {ρ : Type} {K : AV → LO → Option ρ} {a1 a2 a3} : exC Tryz.prog (O Q0) (L W0) [] 0 (zB Tryz.f113) (entry 27 [.ra [nl a1, nl a2], vk .u64 a3] [] []) (finO Tryz.prog Tryz.f113.results.toList 0 [] [] K) =
    B (fun w1 w2 w3 w4 w5 k0 => W0 ρ [vk .u64 w1, .c (.h 0), vl w2, vi w3, vi w4] [ro w5] k0) a1 a2 a3 (fun x1 => K (.c (.h 0)) [ro x1]) := by kernel_rfl
theorem Gok : (O impl_Body_isLive.Q).ok Tryz.prog := zH (by exact ⟨qE_ok impl_Body_isLive.ac, trivial⟩) (by exact trivial)
theorem ok0 : OkL Tryz.prog (L V0) 0 (.loop c0) := fun ρ st K r h => zJ (ct := ct0) (lv := lv0) (L := (L V0)) Gok hmT (by rw [show zE [] 1 c0 = [] by kernel_rfl]; exact Lor.zF _ _) enc0I (fun k t => un5 (F0 k) t (k0_0 K)) (fun t => rfl) (fun k t => by refine step0.trans ?_; rw [← impl_Body_isLive.wrap]; exact congrFun (congrArg (B0 _ _ _ _ _ _) (fx5 fun t => zD enc0I _ t)) _) (fun _ => fuelN) h
theorem e : zE [] 0 (zB Tryz.f113) = [(0, 0, .loop c0)] := by kernel_rfl
theorem acc : ∀ t x, un3 F t = some x → ACc Tryz.prog 113 (encA t) [] true [] fun rv obs => (rv, obs) = encR x := accT (T := Vec YI × YVB × Int) (F := un3 F) (L := (L V0)) (cmds := []) (body := (zB Tryz.f113)) Gok hmT Tryz.func113 (by kernel_rfl) (by kernel_rfl) (by rw [e]; exact Lor.zI ok0 (Lor.zF _ _)) (fun t => by refine main.trans ?_; rw [← zG]; exact congrArg (B _ _ _ _) (fx1 fun t => zD ZB some t))
theorem ac : ∀ a x, Q a = some x → AC Tryz.prog 113 a [] false [] fun rv obs => (rv, obs) = encR x := acF (body := (zB Tryz.f113)) Tryz.func113 (by kernel_rfl) (by kernel_rfl) acc fun x => ⟨by simp [encR, AV.Flat, K.Flat, C.Flat], flc (zN rfl _) (fl0)⟩
end impl_Weave_liveIn
namespace impl_bodiesOk
noncomputable def B2 {ρ : Type} (C5 : YG → YVB → Int → Option YI) (v1 : YK) (v2 : Int) (v3 : Int) (v4 : Vec YI) (v5 : Vec YB) (v6 : YI) (W : YK → Int → Int → YG → YVB → YI → Option ρ) (K4 : Unit → Option ρ) (Kr : Bool → Option ρ) : Option ρ :=
  sel (decide (v3 < v2)) (chk (decide (0 ≤ v3 ∧ v3 < (v1.n : Int))) (chk (decide (0 ≤ v3 ∧ v3 < (v6.n : Int))) (chk (decide (v3.toNat < v6.n)) (sel (decide ((80 : Int) < (v6.g v3.toNat))) (Kr false) ((C5 v4 v5 ((v1.g v3.toNat).v)).bind fun r6 => sel (decide ((80 : Int) < (r6.n : Int))) (Kr false) (W v1 v2 (wr (v3 + (1 : Int))) v4 v5 v6)))))) (K4 ())
noncomputable def F2 {ρ : Type} : Nat → YK → Int → Int → YG → YVB → YI → (Unit → Option ρ) → (Bool → Option ρ) → Option ρ
  | 0, _, _, _, _, _, _, _, _ => none
  | k + 1, v1, v2, v3, v4, v5, v6, K4, Kr => B2 impl_Weave_liveIn.F v1 v2 v3 v4 v5 v6 (fun v1' v2' v3' v4' v5' v6' => F2 k v1' v2' v3' v4' v5' v6' K4 Kr) K4 Kr
noncomputable def B1 {ρ : Type} (C3 : YK → YI → Option Int) (C4 : ByteArray → Int → Int → YI → Int → Option Bool) (v1 : YK) (v2 : Vec YB) (v3 : Int) (v4 : Int) (v5 : YI) (v6 : Int) (v7 : Int) (v8 : Vec YI) (v9 : Vec YB) (v10 : YI) (v11 : ByteArray) (v12 : Int) (v13 : Int) (v14 : YI) (W : YK → YVB → Int → Int → YI → Int → Int → YG → YVB → YI → ByteArray → Int → Int → YI → Option ρ) (K2 : YK → YVB → Int → Int → YG → YVB → YI → Option ρ) (Kr : Bool → Option ρ) : Option ρ :=
  sel (decide (v7 < v6)) (chk (decide (0 ≤ v7 ∧ v7 < (v5.n : Int))) (chk (decide (0 ≤ (v5.g v7.toNat) ∧ (v5.g v7.toNat) < (v8.n : Int))) ((C3 v1 (v8.g (v5.g v7.toNat).toNat)).bind fun r4 => (C4 v11 v12 v13 v14 r4).bind fun r5 => sel ((!r5)) (Kr false) (W v1 v2 v3 v4 v5 v6 (wr (v7 + (1 : Int))) v8 v9 v10 v11 v12 v13 v14)))) (K2 v1 v2 v3 v4 v8 v9 v10)
noncomputable def F1 {ρ : Type} : Nat → YK → YVB → Int → Int → YI → Int → Int → YG → YVB → YI → ByteArray → Int → Int → YI → (YK → YVB → Int → Int → YG → YVB → YI → Option ρ) → (Bool → Option ρ) → Option ρ
  | 0, _, _, _, _, _, _, _, _, _, _, _, _, _, _, _, _ => none
  | k + 1, v1, v2, v3, v4, v5, v6, v7, v8, v9, v10, v11, v12, v13, v14, K2, Kr => B1 impl_unionOf.F impl_Body_isLive.F v1 v2 v3 v4 v5 v6 v7 v8 v9 v10 v11 v12 v13 v14 (fun v1' v2' v3' v4' v5' v6' v7' v8' v9' v10' v11' v12' v13' v14' => F1 k v1' v2' v3' v4' v5' v6' v7' v8' v9' v10' v11' v12' v13' v14' K2 Kr) K2 Kr
noncomputable def B0 {ρ : Type} (C0 : ByteArray → Option Bool) (C1 : Int → Int → Option Bool) (C2 : YI → Int → Option Bool) (L1 : YK → YVB → Int → Int → YI → Int → Int → YG → YVB → YI → ByteArray → Int → Int → YI → (YK → YVB → Int → Int → YG → YVB → YI → Option ρ) → (Bool → Option ρ) → Option ρ) (v1 : YK) (v2 : Vec YB) (v3 : Int) (v4 : Int) (v5 : Vec YI) (v6 : Vec YB) (v7 : YI) (W : YK → YVB → Int → Int → YG → YVB → YI → Option ρ) (K0 : YK → YG → YVB → YI → Option ρ) (Kr : Bool → Option ρ) : Option ρ :=
  sel (decide (v4 < v3)) (chk (decide (0 ≤ v4 ∧ v4 < (v2.n : Int))) ((C0 ((v2.g v4.toNat).1)).bind fun r1 => sel ((!r1)) (Kr false) ((C1 ((v2.g v4.toNat).2.1) (v1.n : Int)).bind fun r2 => sel ((!r2)) (Kr false) (chk (decide (0 ≤ (v2.g v4.toNat).2.1 ∧ (v2.g v4.toNat).2.1 < (v7.n : Int))) (chk (decide (((v2.g v4.toNat).2.1).toNat < v7.n)) (sel ((!decide ((v2.g v4.toNat).2.2.1 = (v7.g (((v2.g v4.toNat).2.1).toNat))))) (Kr false) ((C2 ((v2.g v4.toNat).2.2.2) (v1.n : Int)).bind fun r3 => sel ((!r3)) (Kr false) (chk (decide (0 ≤ (v2.g v4.toNat).2.1 ∧ (v2.g v4.toNat).2.1 < (v7.n : Int))) (chk (decide (((v2.g v4.toNat).2.1).toNat < v7.n)) (chk (decide (0 ≤ (v2.g v4.toNat).2.1 ∧ (v2.g v4.toNat).2.1 < (v7.n : Int))) (chk (decide (((v2.g v4.toNat).2.1).toNat < v7.n)) (L1 v1 v2 v3 v4 ((v2.g v4.toNat).2.2.2) (((v2.g v4.toNat).2.2.2).n : Int) (0 : Int) v5 v6 (Vec.set v7 (((v2.g v4.toNat).2.1).toNat) (wr ((v7.g (((v2.g v4.toNat).2.1).toNat)) + (1 : Int)))) ((v2.g v4.toNat).1) ((v2.g v4.toNat).2.1) ((v2.g v4.toNat).2.2.1) ((v2.g v4.toNat).2.2.2) (fun e11 e12 e13 e14 e15 e16 e17 => W e11 e12 e13 (wr (e14 + (1 : Int))) e15 e16 e17) (fun x11 => Kr x11))))))))))))) (K0 v1 v5 v6 v7)
noncomputable def F0 {ρ : Type} : Nat → YK → YVB → Int → Int → YG → YVB → YI → (YK → YG → YVB → YI → Option ρ) → (Bool → Option ρ) → Option ρ
  | 0, _, _, _, _, _, _, _, _, _ => none
  | k + 1, v1, v2, v3, v4, v5, v6, v7, K0, Kr => B0 impl_LineOk.F impl_isPlace.F impl_ascends.F (F1 fuelN) v1 v2 v3 v4 v5 v6 v7 (fun v1' v2' v3' v4' v5' v6' v7' => F0 k v1' v2' v3' v4' v5' v6' v7' K0 Kr) K0 Kr
noncomputable def B {ρ : Type} (L0 : YK → YVB → Int → Int → YG → YVB → YI → (YK → YG → YVB → YI → Option ρ) → (Bool → Option ρ) → Option ρ) (L2 : YK → Int → Int → YG → YVB → YI → (Unit → Option ρ) → (Bool → Option ρ) → Option ρ) (a1 : Vec YI) (a2 : Vec YB) (a3 : YK) (K : Bool → Option ρ) : Option ρ :=
  chk (decide ((a3.n : Int) = (a3.n : Int) ∧ 0 ≤ (a3.n : Int))) (chk (mkOk (a3.n : Int) 8) (L0 a3 a2 (a2.n : Int) (0 : Int) a1 a2 (Vec.rep ((a3.n : Int).toNat) (0 : Int) : YI) (fun e01 e02 e03 e04 => L2 e01 (e01.n : Int) (0 : Int) e02 e03 e04 (fun _ => K true) (fun x21 => K x21)) (fun x01 => K x01)))
noncomputable def F (a1 : Vec YI) (a2 : Vec YB) (a3 : YK) : Option Bool := B (F0 fuelN) (F2 fuelN) a1 a2 a3 (fun x1 => some (x1))
def encA (t : Vec YI × YVB × Vec (IK .u64)) : LA := [.a [cl t.1, cl t.2.1], vl t.2.2]
def encR (x : Bool) : AV × LO := (vb x, [])
theorem ZA (a b) (h : encA a = encA b) : a = b := by simp [encA, zA] at h; simp [Prod.ext_iff, h]
theorem ZB (a b) (h : encR a = encR b) : a = b := by simpa [encR, zA] using h
noncomputable def Q (args : LA) : Option Bool := ofC encA (un3 F) args
theorem wrap : F = fun y1 y2 y3 => Q [.a [cl y1, cl y2], vl y3] := by funext y1 y2 y3; exact Eq.symm (zD ZA _ (y1, y2, y3))
noncomputable abbrev O (Q0 : LA → Option Bool) (Q1 : LA → Option Bool) (Q2 : LA → Option Bool) (Q3 : LA → Option Int) (Q4 : LA → Option Bool) (Q5 : LA → Option YI) : Orc := mkO [qE 209 false impl_LineOk.encR Q0, qE 64 false impl_isPlace.encR Q1, qE 78 false impl_ascends.encR Q2, qE 176 false impl_unionOf.encR Q3, qE 175 false impl_Body_isLive.encR Q4, qE 113 false impl_Weave_liveIn.encR Q5] [] []
noncomputable def c0 : Code := loopC (atomN [] 0 (zB Tryz.f179) 0)
noncomputable def c1 : Code := loopC (atomN [] 1 c0 0)
noncomputable def c2 : Code := loopC (atomN [] 0 (zB Tryz.f179) 1)
def ct0 : Cut := ⟨[1, 2, 5, 16, 17, 18], []⟩
def lv0 : Exit → Cut
  | .exit 0 => ⟨[1, 2, 5], []⟩
  | .ret => ⟨[4], []⟩
  | _ => ⟨[], []⟩
def k0_0 {ρ : Type} (K : Exit → St → Option ρ) (z1 : YK) (z2 : Vec YI) (z3 : Vec YB) (z4 : YI) : Option ρ := K (.exit 0) (mkS 97 (lv0 (.exit 0)).live [vl z1, .c (.p 0 0), .c (.h 1)] [.box [cl z2, cl z3], ro z4] [])
def k0_r {ρ : Type} (K : Exit → St → Option ρ) (z1 : Bool) : Option ρ := K .ret (mkS 97 (lv0 .ret).live [vb z1] [] [])
def ct1 : Cut := ⟨[1, 2, 5, 7, 16, 17, 18, 60, 61, 62], []⟩
def lv1 : Exit → Cut
  | .exit 2 => ⟨[1, 2, 5, 16, 17, 18], []⟩
  | .ret => ⟨[4], []⟩
  | _ => ⟨[], []⟩
def k1_2 {ρ : Type} (K : Exit → St → Option ρ) (z1 : YK) (z2 : Vec YB) (z3 : Int) (z4 : Int) (z5 : Vec YI) (z6 : Vec YB) (z7 : YI) : Option ρ := K (.exit 2) (mkS 97 (lv1 (.exit 2)).live [vl z1, .c (.p 0 0), .c (.h 1), vl z2, vi z3, vi z4] [.box [cl z5, cl z6], ro z7] [])
def k1_r {ρ : Type} (K : Exit → St → Option ρ) (z1 : Bool) : Option ρ := K .ret (mkS 97 (lv1 .ret).live [vb z1] [] [])
def ct2 : Cut := ⟨[2, 5, 78, 79, 80], []⟩
def lv2 : Exit → Cut
  | .exit 4 => ⟨[], []⟩
  | .ret => ⟨[4], []⟩
  | _ => ⟨[], []⟩
def k2_4 {ρ : Type} (K : Exit → St → Option ρ) (_ : Unit) : Option ρ := K (.exit 4) (mkS 97 (lv2 (.exit 4)).live [] [] [])
def k2_r {ρ : Type} (K : Exit → St → Option ρ) (z1 : Bool) : Option ρ := K .ret (mkS 97 (lv2 .ret).live [vb z1] [] [])
noncomputable def L (W2 : (ρ : Type) → LA → LO → (Unit → Option ρ) → (Bool → Option ρ) → Option ρ) (W1 : (ρ : Type) → LA → LO → (YK → YVB → Int → Int → YG → YVB → YI → Option ρ) → (Bool → Option ρ) → Option ρ) (W0 : (ρ : Type) → LA → LO → (YK → YG → YVB → YI → Option ρ) → (Bool → Option ρ) → Option ρ) : Lor := fun ρ j st K => sel (Nat.beq j 0) (cutO Tryz.prog 97 ct0.live 0 [] ct0.cmds st fun avs obs => W0 ρ avs obs (k0_0 K) (k0_r K)) (sel (Nat.beq j 1) (cutO Tryz.prog 97 ct1.live 0 [] ct1.cmds st fun avs obs => W1 ρ avs obs (k1_2 K) (k1_r K)) (sel (Nat.beq j 2) (cutO Tryz.prog 97 ct2.live 0 [] ct2.cmds st fun avs obs => W2 ρ avs obs (k2_4 K) (k2_r K)) (Option.none)))
theorem step0 {Q0 Q1 Q2 Q3 Q4 Q5 W2 W1 W0} {ρ : Type} {K : Exit → St → Option ρ} {W : LA → LO → Option ρ} {v1 v2 v3 v4 v5 v6 v7} : exC Tryz.prog (O Q0 Q1 Q2 Q3 Q4 Q5) (L W2 W1 W0) [] 1 c0 (mkS 97 ct0.live [vl v1, .c (.p 0 0), .c (.h 1), vl v2, vi v3, vi v4] [.box [cl v5, cl v6], ro v7] []) (bodyK Tryz.prog 97 0 [] ct0 W lv0 K) =
    B0 (fun y1 => Q0 [vs y1]) (fun y1 y2 => Q1 [vi y1, vi y2]) (fun y1 y2 => Q2 [vl y1, vi y2]) (fun w1 w2 w3 w4 w5 w6 w7 w8 w9 w10 w11 w12 w13 w14 k2 kr => W1 ρ [vl w1, .c (.p 0 0), .c (.h 1), .c (.p 2 0), vl w2, vi w3, vi w4, vl w5, vi w6, vi w7] [.box [cl w8, cl w9], ro w10, .box [cs w11, ci w12, ci w13, cl w14]] k2 kr) v1 v2 v3 v4 v5 v6 v7 (fun u1 u2 u3 u4 u5 u6 u7 => W [vl u1, .c (.p 0 0), .c (.h 1), vl u2, vi u3, vi u4] [.box [cl u5, cl u6], ro u7]) (k0_0 K) (k0_r K) := by kernel_rfl
def enc0 (t : Vec (IK .u64) × YVB × Int × Int × Vec YI × YVB × YI) : LA × LO := ([vl t.1, .c (.p 0 0), .c (.h 1), vl t.2.1, vi t.2.2.1, vi t.2.2.2.1], [.box [cl t.2.2.2.2.1, cl t.2.2.2.2.2.1], ro t.2.2.2.2.2.2])
theorem enc0I (a b) (h : enc0 a = enc0 b) : a = b := by simp [enc0, zA] at h; simp [Prod.ext_iff, h]
noncomputable def V0 : (ρ : Type) → LA → LO → (YK → YG → YVB → YI → Option ρ) → (Bool → Option ρ) → Option ρ := fun ρ avs obs k0 kr => ofC enc0 (fun t => un7 (F0 fuelN) t k0 kr) (avs, obs)
theorem zG (ρ : Type) : F0 fuelN = fun w1 w2 w3 w4 w5 w6 w7 k0 kr => V0 ρ [vl w1, .c (.p 0 0), .c (.h 1), vl w2, vi w3, vi w4] [.box [cl w5, cl w6], ro w7] k0 kr := by funext w1 w2 w3 w4 w5 w6 w7 k0 kr; exact Eq.symm (zD enc0I _ (w1, w2, w3, w4, w5, w6, w7))
theorem step1 {Q0 Q1 Q2 Q3 Q4 Q5 W2 W1 W0} {ρ : Type} {K : Exit → St → Option ρ} {W : LA → LO → Option ρ} {v1 v2 v3 v4 v5 v6 v7 v8 v9 v10 v11 v12 v13 v14} : exC Tryz.prog (O Q0 Q1 Q2 Q3 Q4 Q5) (L W2 W1 W0) [] 2 c1 (mkS 97 ct1.live [vl v1, .c (.p 0 0), .c (.h 1), .c (.p 2 0), vl v2, vi v3, vi v4, vl v5, vi v6, vi v7] [.box [cl v8, cl v9], ro v10, .box [cs v11, ci v12, ci v13, cl v14]] []) (bodyK Tryz.prog 97 0 [] ct1 W lv1 K) =
    B1 (fun y1 y2 => Q3 [vl y1, vl y2]) (fun y1 y2 y3 y4 y5 => Q4 [.a [cs y1, ci y2, ci y3, cl y4], vk .u64 y5]) v1 v2 v3 v4 v5 v6 v7 v8 v9 v10 v11 v12 v13 v14 (fun u1 u2 u3 u4 u5 u6 u7 u8 u9 u10 u11 u12 u13 u14 => W [vl u1, .c (.p 0 0), .c (.h 1), .c (.p 2 0), vl u2, vi u3, vi u4, vl u5, vi u6, vi u7] [.box [cl u8, cl u9], ro u10, .box [cs u11, ci u12, ci u13, cl u14]]) (k1_2 K) (k1_r K) := by kernel_rfl
def enc1 (t : Vec (IK .u64) × YVB × Int × Int × YI × Int × Int × Vec YI × YVB × YI × ByteArray × Int × Int × YI) : LA × LO := ([vl t.1, .c (.p 0 0), .c (.h 1), .c (.p 2 0), vl t.2.1, vi t.2.2.1, vi t.2.2.2.1, vl t.2.2.2.2.1, vi t.2.2.2.2.2.1, vi t.2.2.2.2.2.2.1], [.box [cl t.2.2.2.2.2.2.2.1, cl t.2.2.2.2.2.2.2.2.1], ro t.2.2.2.2.2.2.2.2.2.1, .box [cs t.2.2.2.2.2.2.2.2.2.2.1, ci t.2.2.2.2.2.2.2.2.2.2.2.1, ci t.2.2.2.2.2.2.2.2.2.2.2.2.1, cl t.2.2.2.2.2.2.2.2.2.2.2.2.2]])
theorem enc1I (a b) (h : enc1 a = enc1 b) : a = b := by simp [enc1, zA] at h; simp [Prod.ext_iff, h]
noncomputable def V1 : (ρ : Type) → LA → LO → (YK → YVB → Int → Int → YG → YVB → YI → Option ρ) → (Bool → Option ρ) → Option ρ := fun ρ avs obs k2 kr => ofC enc1 (fun t => un14 (F1 fuelN) t k2 kr) (avs, obs)
theorem ZC (ρ : Type) : F1 fuelN = fun w1 w2 w3 w4 w5 w6 w7 w8 w9 w10 w11 w12 w13 w14 k2 kr => V1 ρ [vl w1, .c (.p 0 0), .c (.h 1), .c (.p 2 0), vl w2, vi w3, vi w4, vl w5, vi w6, vi w7] [.box [cl w8, cl w9], ro w10, .box [cs w11, ci w12, ci w13, cl w14]] k2 kr := by funext w1 w2 w3 w4 w5 w6 w7 w8 w9 w10 w11 w12 w13 w14 k2 kr; exact Eq.symm (zD enc1I _ (w1, w2, w3, w4, w5, w6, w7, w8, w9, w10, w11, w12, w13, w14))
theorem step2 {Q0 Q1 Q2 Q3 Q4 Q5 W2 W1 W0} {ρ : Type} {K : Exit → St → Option ρ} {W : LA → LO → Option ρ} {v1 v2 v3 v4 v5 v6} : exC Tryz.prog (O Q0 Q1 Q2 Q3 Q4 Q5) (L W2 W1 W0) [] 3 c2 (mkS 97 ct2.live [.c (.p 0 0), .c (.h 1), vl v1, vi v2, vi v3] [.box [cl v4, cl v5], ro v6] []) (bodyK Tryz.prog 97 0 [] ct2 W lv2 K) =
    B2 (fun y1 y2 y3 => Q5 [.ra [nl y1, nl y2], vk .u64 y3]) v1 v2 v3 v4 v5 v6 (fun u1 u2 u3 u4 u5 u6 => W [.c (.p 0 0), .c (.h 1), vl u1, vi u2, vi u3] [.box [cl u4, cl u5], ro u6]) (k2_4 K) (k2_r K) := by kernel_rfl
def enc2 (t : Vec (IK .u64) × Int × Int × Vec YI × YVB × YI) : LA × LO := ([.c (.p 0 0), .c (.h 1), vl t.1, vi t.2.1, vi t.2.2.1], [.box [cl t.2.2.2.1, cl t.2.2.2.2.1], ro t.2.2.2.2.2])
theorem enc2I (a b) (h : enc2 a = enc2 b) : a = b := by simp [enc2, zA] at h; simp [Prod.ext_iff, h]
noncomputable def V2 : (ρ : Type) → LA → LO → (Unit → Option ρ) → (Bool → Option ρ) → Option ρ := fun ρ avs obs k4 kr => ofC enc2 (fun t => un6 (F2 fuelN) t k4 kr) (avs, obs)
theorem ZD (ρ : Type) : F2 fuelN = fun w1 w2 w3 w4 w5 w6 k4 kr => V2 ρ [.c (.p 0 0), .c (.h 1), vl w1, vi w2, vi w3] [.box [cl w4, cl w5], ro w6] k4 kr := by funext w1 w2 w3 w4 w5 w6 k4 kr; exact Eq.symm (zD enc2I _ (w1, w2, w3, w4, w5, w6))
theorem main {Q0 Q1 Q2 Q3 Q4 Q5 W2 W1 W0} {ρ : Type} {K : AV → LO → Option ρ} {a1 a2 a3} : exC Tryz.prog (O Q0 Q1 Q2 Q3 Q4 Q5) (L W2 W1 W0) [] 0 (zB Tryz.f179) (entry 97 [.a [cl a1, cl a2], vl a3] [] []) (finO Tryz.prog Tryz.f179.results.toList 0 [] [] K) =
    B (fun w1 w2 w3 w4 w5 w6 w7 k0 kr => W0 ρ [vl w1, .c (.p 0 0), .c (.h 1), vl w2, vi w3, vi w4] [.box [cl w5, cl w6], ro w7] k0 kr) (fun w1 w2 w3 w4 w5 w6 k4 kr => W2 ρ [.c (.p 0 0), .c (.h 1), vl w1, vi w2, vi w3] [.box [cl w4, cl w5], ro w6] k4 kr) a1 a2 a3 (fun x1 => K (vb x1) []) := by kernel_rfl
theorem Gok : (O impl_LineOk.Q impl_isPlace.Q impl_ascends.Q impl_unionOf.Q impl_Body_isLive.Q impl_Weave_liveIn.Q).ok Tryz.prog := zH (by exact ⟨qE_ok impl_LineOk.ac, qE_ok impl_isPlace.ac, qE_ok impl_ascends.ac, qE_ok impl_unionOf.ac, qE_ok impl_Body_isLive.ac, qE_ok impl_Weave_liveIn.ac, trivial⟩) (by exact trivial)
theorem ok2 : OkL Tryz.prog (L V2 V1 V0) 2 (.loop c2) := fun ρ st K r h => zJ (ct := ct2) (lv := lv2) (L := (L V2 V1 V0)) Gok hmT (by rw [show zE [] 3 c2 = [] by kernel_rfl]; exact Lor.zF _ _) enc2I (fun k t => un6 (F2 k) t (k2_4 K) (k2_r K)) (fun t => rfl) (fun k t => by refine step2.trans ?_; rw [← impl_Weave_liveIn.wrap]; exact congrFun (congrFun (congrArg (B2 _ _ _ _ _ _ _) (fx6 fun t => zD enc2I _ t)) _) _) (fun _ => fuelN) h
theorem ok1 : OkL Tryz.prog (L V2 V1 V0) 1 (.loop c1) := fun ρ st K r h => zJ (ct := ct1) (lv := lv1) (L := (L V2 V1 V0)) Gok hmT (by rw [show zE [] 2 c1 = [] by kernel_rfl]; exact Lor.zF _ _) enc1I (fun k t => un14 (F1 k) t (k1_2 K) (k1_r K)) (fun t => rfl) (fun k t => by refine step1.trans ?_; rw [← impl_unionOf.wrap, ← impl_Body_isLive.wrap]; exact congrFun (congrFun (congrArg (B1 _ _ _ _ _ _ _ _ _ _ _ _ _ _ _ _) (fx14 fun t => zD enc1I _ t)) _) _) (fun _ => fuelN) h
theorem e0 : zE [] 1 c0 = [(1, 1, .loop c1)] := by kernel_rfl
theorem ok0 : OkL Tryz.prog (L V2 V1 V0) 0 (.loop c0) := fun ρ st K r h => zJ (ct := ct0) (lv := lv0) (L := (L V2 V1 V0)) Gok hmT (by rw [e0]; exact Lor.zI ok1 (Lor.zF _ _)) enc0I (fun k t => un7 (F0 k) t (k0_0 K) (k0_r K)) (fun t => rfl) (fun k t => by refine step0.trans ?_; rw [← impl_LineOk.wrap, ← impl_isPlace.wrap, ← impl_ascends.wrap, ← ZC]; exact congrFun (congrFun (congrArg (B0 _ _ _ _ _ _ _ _ _ _ _) (fx7 fun t => zD enc0I _ t)) _) _) (fun _ => fuelN) h
theorem e : zE [] 0 (zB Tryz.f179) = [(0, 0, .loop c0), (2, 2, .loop c2)] := by kernel_rfl
theorem acc : ∀ t x, un3 F t = some x → ACc Tryz.prog 179 (encA t) [] true [] fun rv obs => (rv, obs) = encR x := accT (T := Vec YI × YVB × Vec (IK .u64)) (F := un3 F) (L := (L V2 V1 V0)) (cmds := []) (body := (zB Tryz.f179)) Gok hmT Tryz.func179 (by kernel_rfl) (by kernel_rfl) (by rw [e]; exact Lor.zI ok0 (Lor.zI ok2 (Lor.zF _ _))) (fun t => by refine main.trans ?_; rw [← zG, ← ZD]; exact congrArg (B _ _ _ _ _) (fx1 fun t => zD ZB some t))
theorem ac : ∀ a x, Q a = some x → AC Tryz.prog 179 a [] false [] fun rv obs => (rv, obs) = encR x := acF (body := (zB Tryz.f179)) Tryz.func179 (by kernel_rfl) (by kernel_rfl) acc fun x => ⟨by simp [encR, AV.Flat, K.Flat, C.Flat], fl0⟩
end impl_bodiesOk
namespace impl_WeaveOk
noncomputable def B {ρ : Type} (C0 : YG → Option Bool) (C1 : YG → Option YK) (C2 : YG → YVB → YK → Option Bool) (a1 : Vec YI) (a2 : Vec YB) (K : Bool → Option ρ) : Option ρ :=
  sel (decide ((a2.n : Int) ≤ (300 : Int))) ((C0 a1).bind fun r1 => sel (r1) ((C1 a1).bind fun r2 => (C2 a1 a2 r2).bind fun r3 => K r3) (K false)) (K false)
noncomputable def F (a1 : Vec YI) (a2 : Vec YB) : Option Bool := B impl_GraphOk.F impl_closures.F impl_bodiesOk.F a1 a2 (fun x1 => some (x1))
def encA (t : Vec YI × YVB) : LA := [.a [cl t.1, cl t.2]]
def encR (x : Bool) : AV × LO := (vb x, [])
theorem ZA (a b) (h : encA a = encA b) : a = b := by simp [encA, zA] at h; simp [Prod.ext_iff, h]
theorem ZB (a b) (h : encR a = encR b) : a = b := by simpa [encR, zA] using h
noncomputable def Q (args : LA) : Option Bool := ofC encA (un2 F) args
theorem wrap : F = fun y1 y2 => Q [.a [cl y1, cl y2]] := by funext y1 y2; exact Eq.symm (zD ZA _ (y1, y2))
noncomputable abbrev O (Q0 : LA → Option Bool) (Q1 : LA → Option YK) (Q2 : LA → Option Bool) : Orc := mkO [qE 143 false impl_GraphOk.encR Q0, qE 114 false impl_closures.encR Q1, qE 179 false impl_bodiesOk.encR Q2] [] []
noncomputable def L : Lor := fun _ _ _ _ => Option.none
theorem main {Q0 Q1 Q2} {ρ : Type} {K : AV → LO → Option ρ} {a1 a2} : exC Tryz.prog (O Q0 Q1 Q2) L [] 0 (zB Tryz.f122) (entry 19 [.a [cl a1, cl a2]] [] []) (finO Tryz.prog Tryz.f122.results.toList 0 [] [] K) =
    B (fun y1 => Q0 [vl y1]) (fun y1 => Q1 [vl y1]) (fun y1 y2 y3 => Q2 [.a [cl y1, cl y2], vl y3]) a1 a2 (fun x1 => K (vb x1) []) := by kernel_rfl
theorem Gok : (O impl_GraphOk.Q impl_closures.Q impl_bodiesOk.Q).ok Tryz.prog := zH (by exact ⟨qE_ok impl_GraphOk.ac, qE_ok impl_closures.ac, qE_ok impl_bodiesOk.ac, trivial⟩) (by exact trivial)
theorem acc : ∀ t x, un2 F t = some x → ACc Tryz.prog 122 (encA t) [] true [] fun rv obs => (rv, obs) = encR x := accT (T := Vec YI × YVB) (F := un2 F) (L := L) (cmds := []) (body := (zB Tryz.f122)) Gok hmT Tryz.func122 (by kernel_rfl) (by kernel_rfl) (by rw [show zE [] 0 (zB Tryz.f122) = [] by kernel_rfl]; exact Lor.zF _ _) (fun t => by refine main.trans ?_; rw [← impl_GraphOk.wrap, ← impl_closures.wrap, ← impl_bodiesOk.wrap]; exact congrArg (B _ _ _ _ _) (fx1 fun t => zD ZB some t))
theorem ac : ∀ a x, Q a = some x → AC Tryz.prog 122 a [] false [] fun rv obs => (rv, obs) = encR x := acF (body := (zB Tryz.f122)) Tryz.func122 (by kernel_rfl) (by kernel_rfl) acc fun x => ⟨by simp [encR, AV.Flat, K.Flat, C.Flat], fl0⟩
end impl_WeaveOk
end Go.Al
