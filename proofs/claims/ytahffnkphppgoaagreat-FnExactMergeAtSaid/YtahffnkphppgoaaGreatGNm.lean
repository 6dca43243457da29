import Derived.Test.YtahffnkphppgoaaGreatAlE
import Derived.Test.YtahffnkphppgoaaGreatSC
import Derived.Test.YtahffnkphppgoaaGreatGRise
set_option linter.unusedVariables false
set_option linter.unusedSimpArgs false
set_option linter.constructorNameAsVariable false
set_option linter.unusedSectionVars false
set_option maxRecDepth 100000
namespace Go.Al
open Go.Proofs
namespace spec_PathOk
noncomputable def B0 {ρ : Type} (v1 : ByteArray) (v2 : Int) (v3 : Int) (W : ByteArray → Int → Int → Option ρ) (K0 : Unit → Option ρ) (Kr : Bool → Option ρ) : Option ρ :=
  let d1 := (decide (0 ≤ (wr (v3 - (1 : Int))) ∧ (wr (v3 - (1 : Int))) < (v1.size : Int)))
  let d2 := (decide ((byteAt v1 ((wr (v3 - (1 : Int))).toNat)) = (47 : Int)))
  let d3 := (wr (v3 + (1 : Int)))
  let d5 := (decide ((0 : Int) < v3))
  let d6 := (byteAt v1 v3.toNat)
  let d4 := (decide (d6 = (47 : Int)))
  sel (decide (v3 < v2)) (chk (decide (0 ≤ v3 ∧ v3 < (v1.size : Int))) (sel (decide ((97 : Int) ≤ d6)) (sel (decide (d6 ≤ (122 : Int))) (sel d5 (sel d4 (chk d1 (sel d2 (Kr false) (W v1 v2 d3))) (W v1 v2 d3)) (W v1 v2 d3)) (sel (decide ((48 : Int) ≤ d6)) (sel (decide (d6 ≤ (57 : Int))) (sel d5 (sel d4 (chk d1 (sel d2 (Kr false) (W v1 v2 d3))) (W v1 v2 d3)) (W v1 v2 d3)) (sel (decide (d6 = (46 : Int))) (sel d5 (sel d4 (chk d1 (sel d2 (Kr false) (W v1 v2 d3))) (W v1 v2 d3)) (W v1 v2 d3)) (sel (decide (d6 = (45 : Int))) (sel d5 (sel d4 (chk d1 (sel d2 (Kr false) (W v1 v2 d3))) (W v1 v2 d3)) (W v1 v2 d3)) (sel ((!decide (d6 = (47 : Int)))) (Kr false) (sel d5 (sel d4 (chk d1 (sel d2 (Kr false) (W v1 v2 d3))) (W v1 v2 d3)) (W v1 v2 d3)))))) (sel (decide (d6 = (46 : Int))) (sel d5 (sel d4 (chk d1 (sel d2 (Kr false) (W v1 v2 d3))) (W v1 v2 d3)) (W v1 v2 d3)) (sel (decide (d6 = (45 : Int))) (sel d5 (sel d4 (chk d1 (sel d2 (Kr false) (W v1 v2 d3))) (W v1 v2 d3)) (W v1 v2 d3)) (sel ((!decide (d6 = (47 : Int)))) (Kr false) (sel d5 (sel d4 (chk d1 (sel d2 (Kr false) (W v1 v2 d3))) (W v1 v2 d3)) (W v1 v2 d3))))))) (sel (decide ((48 : Int) ≤ d6)) (sel (decide (d6 ≤ (57 : Int))) (sel d5 (sel d4 (chk d1 (sel d2 (Kr false) (W v1 v2 d3))) (W v1 v2 d3)) (W v1 v2 d3)) (sel (decide (d6 = (46 : Int))) (sel d5 (sel d4 (chk d1 (sel d2 (Kr false) (W v1 v2 d3))) (W v1 v2 d3)) (W v1 v2 d3)) (sel (decide (d6 = (45 : Int))) (sel d5 (sel d4 (chk d1 (sel d2 (Kr false) (W v1 v2 d3))) (W v1 v2 d3)) (W v1 v2 d3)) (sel ((!decide (d6 = (47 : Int)))) (Kr false) (sel d5 (sel d4 (chk d1 (sel d2 (Kr false) (W v1 v2 d3))) (W v1 v2 d3)) (W v1 v2 d3)))))) (sel (decide (d6 = (46 : Int))) (sel d5 (sel d4 (chk d1 (sel d2 (Kr false) (W v1 v2 d3))) (W v1 v2 d3)) (W v1 v2 d3)) (sel (decide (d6 = (45 : Int))) (sel d5 (sel d4 (chk d1 (sel d2 (Kr false) (W v1 v2 d3))) (W v1 v2 d3)) (W v1 v2 d3)) (sel ((!decide (d6 = (47 : Int)))) (Kr false) (sel d5 (sel d4 (chk d1 (sel d2 (Kr false) (W v1 v2 d3))) (W v1 v2 d3)) (W v1 v2 d3)))))))) (K0 ())
noncomputable def F0 {ρ : Type} : Nat → ByteArray → Int → Int → (Unit → Option ρ) → (Bool → Option ρ) → Option ρ
  | 0, _, _, _, _, _ => none
  | k + 1, v1, v2, v3, K0, Kr => B0 v1 v2 v3 (fun v1' v2' v3' => F0 k v1' v2' v3' K0 Kr) K0 Kr
noncomputable def B {ρ : Type} (C0 : Int → Int → Int → Option Bool) (L0 : ByteArray → Int → Int → (Unit → Option ρ) → (Bool → Option ρ) → Option ρ) (a1 : ByteArray) (K : Bool → Option ρ) : Option ρ :=
  (C0 (a1.size : Int) (1 : Int) (24 : Int)).bind fun r1 => sel ((!r1)) (K false) (chk (decide (0 ≤ (0 : Int) ∧ (0 : Int) < (a1.size : Int))) (sel (decide ((byteAt a1 ((0 : Int).toNat)) = (47 : Int))) (K false) (chk (decide (0 ≤ (wr ((a1.size : Int) - (1 : Int))) ∧ (wr ((a1.size : Int) - (1 : Int))) < (a1.size : Int))) (sel (decide ((byteAt a1 ((wr ((a1.size : Int) - (1 : Int))).toNat)) = (47 : Int))) (K false) (L0 a1 (a1.size : Int) (0 : Int) (fun _ => K true) (fun x01 => K x01))))))
noncomputable def F (a1 : ByteArray) : Option Bool := B spec_l01In.F (F0 fuelN) a1 (fun x1 => some (x1))
def encA (t : ByteArray) : LA := [vs t]
def encR (x : Bool) : AV × LO := (vb x, [])
theorem ZA (a b) (h : encA a = encA b) : a = b := by simpa [encA, zA] using h
theorem ZB (a b) (h : encR a = encR b) : a = b := by simpa [encR, zA] using h
noncomputable def Q (args : LA) : Option Bool := ofC encA (un1 F) args
theorem wrap : F = fun y1 => Q [vs y1] := by funext y1; exact Eq.symm (zD ZA _ (y1))
noncomputable abbrev O (Q0 : LA → Option Bool) : Orc := mkO [qE 119 false spec_l01In.encR Q0] [] []
noncomputable def c0 : Code := loopC (atomN [] 0 (zB Tryz.f186) 0)
def ct0 : Cut := ⟨[0, 3, 4], []⟩
def lv0 : Exit → Cut
  | .exit 0 => ⟨[], []⟩
  | .ret => ⟨[2], []⟩
  | _ => ⟨[], []⟩
def k0_0 {ρ : Type} (K : Exit → St → Option ρ) (_ : Unit) : Option ρ := K (.exit 0) (mkS 73 (lv0 (.exit 0)).live [] [] [])
def k0_r {ρ : Type} (K : Exit → St → Option ρ) (z1 : Bool) : Option ρ := K .ret (mkS 73 (lv0 .ret).live [vb z1] [] [])
noncomputable def L (W0 : (ρ : Type) → LA → LO → (Unit → Option ρ) → (Bool → Option ρ) → Option ρ) : Lor := fun ρ j st K => sel (Nat.beq j 0) (cutO Tryz.prog 73 ct0.live 0 [] ct0.cmds st fun avs obs => W0 ρ avs obs (k0_0 K) (k0_r K)) (Option.none)
theorem step0 {Q0 W0} {ρ : Type} {K : Exit → St → Option ρ} {W : LA → LO → Option ρ} {v1 v2 v3} : exC Tryz.prog (O Q0) (L W0) [] 1 c0 (mkS 73 ct0.live [vs v1, vi v2, vi v3] [] []) (bodyK Tryz.prog 73 0 [] ct0 W lv0 K) =
    B0 v1 v2 v3 (fun u1 u2 u3 => W [vs u1, vi u2, vi u3] []) (k0_0 K) (k0_r K) := by kernel_rfl
def enc0 (t : YN) : LA × LO := ([vs t.1, vi t.2.1, vi t.2.2], [])
theorem enc0I (a b) (h : enc0 a = enc0 b) : a = b := by simp [enc0, zA] at h; simp [Prod.ext_iff, h]
noncomputable def V0 : (ρ : Type) → LA → LO → (Unit → Option ρ) → (Bool → Option ρ) → Option ρ := fun ρ avs obs k0 kr => ofC enc0 (fun t => un3 (F0 fuelN) t k0 kr) (avs, obs)
theorem zG (ρ : Type) : F0 fuelN = fun w1 w2 w3 k0 kr => V0 ρ [vs w1, vi w2, vi w3] [] k0 kr := by funext w1 w2 w3 k0 kr; exact Eq.symm (zD enc0I _ (w1, w2, w3))
theorem main {Q0 W0} {ρ : Type} {K : AV → LO → Option ρ} {a1} : exC Tryz.prog (O Q0) (L W0) [] 0 (zB Tryz.f186) (entry 73 [vs a1] [] []) (finO Tryz.prog Tryz.f186.results.toList 0 [] [] K) =
    B (fun y1 y2 y3 => Q0 [vi y1, vi y2, vi y3]) (fun w1 w2 w3 k0 kr => W0 ρ [vs w1, vi w2, vi w3] [] k0 kr) a1 (fun x1 => K (vb x1) []) := by kernel_rfl
theorem Gok : (O spec_l01In.Q).ok Tryz.prog := zH (by exact ⟨qE_ok spec_l01In.ac, trivial⟩) (by exact trivial)
theorem ok0 : OkL Tryz.prog (L V0) 0 (.loop c0) := fun ρ st K r h => zJ (ct := ct0) (lv := lv0) (L := (L V0)) Gok hmT (by rw [show zE [] 1 c0 = [] by kernel_rfl]; exact Lor.zF _ _) enc0I (fun k t => un3 (F0 k) t (k0_0 K) (k0_r K)) (fun t => rfl) (fun k t => by refine step0.trans ?_; exact congrFun (congrFun (congrArg (B0 _ _ _) (fx3 fun t => zD enc0I _ t)) _) _) (fun _ => fuelN) h
theorem e : zE [] 0 (zB Tryz.f186) = [(0, 0, .loop c0)] := by kernel_rfl
theorem acc : ∀ t x, un1 F t = some x → ACc Tryz.prog 186 (encA t) [] true [] fun rv obs => (rv, obs) = encR x := accT (T := ByteArray) (F := un1 F) (L := (L V0)) (cmds := []) (body := (zB Tryz.f186)) Gok hmT Tryz.func186 (by kernel_rfl) (by kernel_rfl) (by rw [e]; exact Lor.zI ok0 (Lor.zF _ _)) (fun t => by refine main.trans ?_; rw [← spec_l01In.wrap, ← zG]; exact congrArg (B _ _ _) (fx1 fun t => zD ZB some t))
theorem ac : ∀ a x, Q a = some x → AC Tryz.prog 186 a [] false [] fun rv obs => (rv, obs) = encR x := acF (body := (zB Tryz.f186)) Tryz.func186 (by kernel_rfl) (by kernel_rfl) acc fun x => ⟨by simp [encR, AV.Flat, K.Flat, C.Flat], fl0⟩
end spec_PathOk
namespace spec_NamesOk
noncomputable def B1 {ρ : Type} (v1 : Vec YN) (v2 : Int) (v3 : Int) (v4 : ByteArray) (v5 : Int) (v6 : Int) (W : YVN → Int → Int → ByteArray → Int → Int → Option ρ) (K2 : YVN → Int → Option ρ) (Kr : Bool → Option ρ) : Option ρ :=
  sel (decide (v3 < v2)) (chk (decide (0 ≤ v3 ∧ v3 < (v1.n : Int))) (sel (decide ((v1.g v3.toNat).2.1 = v5)) (Kr false) (W v1 v2 (wr (v3 + (1 : Int))) v4 v5 v6))) (K2 v1 v2)
noncomputable def F1 {ρ : Type} : Nat → YVN → Int → Int → ByteArray → Int → Int → (YVN → Int → Option ρ) → (Bool → Option ρ) → Option ρ
  | 0, _, _, _, _, _, _, _, _ => none
  | k + 1, v1, v2, v3, v4, v5, v6, K2, Kr => B1 v1 v2 v3 v4 v5 v6 (fun v1' v2' v3' v4' v5' v6' => F1 k v1' v2' v3' v4' v5' v6' K2 Kr) K2 Kr
noncomputable def B0 {ρ : Type} (C0 : ByteArray → Option Bool) (C1 : Int → Int → Int → Option Bool) (L1 : YVN → Int → Int → ByteArray → Int → Int → (YVN → Int → Option ρ) → (Bool → Option ρ) → Option ρ) (v1 : Vec YN) (v2 : Int) (W : YVN → Int → Option ρ) (K0 : Unit → Option ρ) (Kr : Bool → Option ρ) : Option ρ :=
  sel (decide (v2 < (v1.n : Int))) (chk (decide (0 ≤ v2 ∧ v2 < (v1.n : Int))) ((C0 ((v1.g v2.toNat).1)).bind fun r1 => sel ((!r1)) (Kr false) (sel (decide ((0 : Int) < v2)) (chk (decide (0 ≤ (wr (v2 - (1 : Int))) ∧ (wr (v2 - (1 : Int))) < (v1.n : Int))) (sel ((!decide (((v1.g (wr (v2 - (1 : Int))).toNat).1).toList < ((v1.g v2.toNat).1).toList))) (Kr false) ((C1 ((v1.g v2.toNat).2.1) (0 : Int) (11 : Int)).bind fun r2 => sel ((!r2)) (Kr false) ((C1 ((v1.g v2.toNat).2.2) (0 : Int) (39 : Int)).bind fun r3 => sel ((!r3)) (Kr false) (L1 v1 v2 (0 : Int) ((v1.g v2.toNat).1) ((v1.g v2.toNat).2.1) ((v1.g v2.toNat).2.2) (fun e11 e12 => W e11 (wr (e12 + (1 : Int)))) (fun x11 => Kr x11)))))) ((C1 ((v1.g v2.toNat).2.1) (0 : Int) (11 : Int)).bind fun r4 => sel ((!r4)) (Kr false) ((C1 ((v1.g v2.toNat).2.2) (0 : Int) (39 : Int)).bind fun r5 => sel ((!r5)) (Kr false) (L1 v1 v2 (0 : Int) ((v1.g v2.toNat).1) ((v1.g v2.toNat).2.1) ((v1.g v2.toNat).2.2) (fun e11 e12 => W e11 (wr (e12 + (1 : Int)))) (fun x11 => Kr x11))))))) (K0 ())
noncomputable def F0 {ρ : Type} : Nat → YVN → Int → (Unit → Option ρ) → (Bool → Option ρ) → Option ρ
  | 0, _, _, _, _ => none
  | k + 1, v1, v2, K0, Kr => B0 spec_PathOk.F spec_l01In.F (F1 fuelN) v1 v2 (fun v1' v2' => F0 k v1' v2' K0 Kr) K0 Kr
noncomputable def B {ρ : Type} (L0 : YVN → Int → (Unit → Option ρ) → (Bool → Option ρ) → Option ρ) (a1 : Vec YN) (K : Bool → Option ρ) : Option ρ :=
  sel (decide ((12 : Int) < (a1.n : Int))) (K false) (L0 a1 (0 : Int) (fun _ => K true) (fun x01 => K x01))
noncomputable def F (a1 : Vec YN) : Option Bool := B (F0 fuelN) a1 (fun x1 => some (x1))
def encA (t : Vec YN) : LA := [vl t]
def encR (x : Bool) : AV × LO := (vb x, [])
theorem ZA (a b) (h : encA a = encA b) : a = b := by simpa [encA, zA] using h
theorem ZB (a b) (h : encR a = encR b) : a = b := by simpa [encR, zA] using h
noncomputable def Q (args : LA) : Option Bool := ofC encA (un1 F) args
theorem wrap : F = fun y1 => Q [vl y1] := by funext y1; exact Eq.symm (zD ZA _ (y1))
noncomputable abbrev O (Q0 : LA → Option Bool) (Q1 : LA → Option Bool) : Orc := mkO [qE 186 false spec_PathOk.encR Q0, qE 119 false spec_l01In.encR Q1] [] []
noncomputable def c0 : Code := loopC (atomN [] 0 (zB Tryz.f136) 0)
noncomputable def c1 : Code := loopC (atomN [] 1 c0 0)
def ct0 : Cut := ⟨[0, 3], []⟩
def lv0 : Exit → Cut
  | .exit 0 => ⟨[], []⟩
  | .ret => ⟨[2], []⟩
  | _ => ⟨[], []⟩
def k0_0 {ρ : Type} (K : Exit → St → Option ρ) (_ : Unit) : Option ρ := K (.exit 0) (mkS 63 (lv0 (.exit 0)).live [] [] [])
def k0_r {ρ : Type} (K : Exit → St → Option ρ) (z1 : Bool) : Option ρ := K .ret (mkS 63 (lv0 .ret).live [vb z1] [] [])
def ct1 : Cut := ⟨[0, 3, 4, 5], []⟩
def lv1 : Exit → Cut
  | .exit 2 => ⟨[0, 3], []⟩
  | .ret => ⟨[2], []⟩
  | _ => ⟨[], []⟩
def k1_2 {ρ : Type} (K : Exit → St → Option ρ) (z1 : Vec YN) (z2 : Int) : Option ρ := K (.exit 2) (mkS 63 (lv1 (.exit 2)).live [vl z1, vi z2] [] [])
def k1_r {ρ : Type} (K : Exit → St → Option ρ) (z1 : Bool) : Option ρ := K .ret (mkS 63 (lv1 .ret).live [vb z1] [] [])
noncomputable def L (W1 : (ρ : Type) → LA → LO → (YVN → Int → Option ρ) → (Bool → Option ρ) → Option ρ) (W0 : (ρ : Type) → LA → LO → (Unit → Option ρ) → (Bool → Option ρ) → Option ρ) : Lor := fun ρ j st K => sel (Nat.beq j 0) (cutO Tryz.prog 63 ct0.live 0 [] ct0.cmds st fun avs obs => W0 ρ avs obs (k0_0 K) (k0_r K)) (sel (Nat.beq j 1) (cutO Tryz.prog 63 ct1.live 0 [] ct1.cmds st fun avs obs => W1 ρ avs obs (k1_2 K) (k1_r K)) (Option.none))
theorem step0 {Q0 Q1 W1 W0} {ρ : Type} {K : Exit → St → Option ρ} {W : LA → LO → Option ρ} {v1 v2} : exC Tryz.prog (O Q0 Q1) (L W1 W0) [] 1 c0 (mkS 63 ct0.live [vl v1, vi v2] [] []) (bodyK Tryz.prog 63 0 [] ct0 W lv0 K) =
    B0 (fun y1 => Q0 [vs y1]) (fun y1 y2 y3 => Q1 [vi y1, vi y2, vi y3]) (fun w1 w2 w3 w4 w5 w6 k2 kr => W1 ρ [vl w1, vi w2, .c (.p 0 0), vi w3] [.box [cs w4, ci w5, ci w6]] k2 kr) v1 v2 (fun u1 u2 => W [vl u1, vi u2] []) (k0_0 K) (k0_r K) := by kernel_rfl
def enc0 (t : YVN × Int) : LA × LO := ([vl t.1, vi t.2], [])
theorem enc0I (a b) (h : enc0 a = enc0 b) : a = b := by simp [enc0, zA] at h; simp [Prod.ext_iff, h]
noncomputable def V0 : (ρ : Type) → LA → LO → (Unit → Option ρ) → (Bool → Option ρ) → Option ρ := fun ρ avs obs k0 kr => ofC enc0 (fun t => un2 (F0 fuelN) t k0 kr) (avs, obs)
theorem zG (ρ : Type) : F0 fuelN = fun w1 w2 k0 kr => V0 ρ [vl w1, vi w2] [] k0 kr := by funext w1 w2 k0 kr; exact Eq.symm (zD enc0I _ (w1, w2))
theorem step1 {Q0 Q1 W1 W0} {ρ : Type} {K : Exit → St → Option ρ} {W : LA → LO → Option ρ} {v1 v2 v3 v4 v5 v6} : exC Tryz.prog (O Q0 Q1) (L W1 W0) [] 2 c1 (mkS 63 ct1.live [vl v1, vi v2, .c (.p 0 0), vi v3] [.box [cs v4, ci v5, ci v6]] []) (bodyK Tryz.prog 63 0 [] ct1 W lv1 K) =
    B1 v1 v2 v3 v4 v5 v6 (fun u1 u2 u3 u4 u5 u6 => W [vl u1, vi u2, .c (.p 0 0), vi u3] [.box [cs u4, ci u5, ci u6]]) (k1_2 K) (k1_r K) := by kernel_rfl
def enc1 (t : YVN × Int × Int × ByteArray × Int × Int) : LA × LO := ([vl t.1, vi t.2.1, .c (.p 0 0), vi t.2.2.1], [.box [cs t.2.2.2.1, ci t.2.2.2.2.1, ci t.2.2.2.2.2]])
theorem enc1I (a b) (h : enc1 a = enc1 b) : a = b := by simp [enc1, zA] at h; simp [Prod.ext_iff, h]
noncomputable def V1 : (ρ : Type) → LA → LO → (YVN → Int → Option ρ) → (Bool → Option ρ) → Option ρ := fun ρ avs obs k2 kr => ofC enc1 (fun t => un6 (F1 fuelN) t k2 kr) (avs, obs)
theorem ZC (ρ : Type) : F1 fuelN = fun w1 w2 w3 w4 w5 w6 k2 kr => V1 ρ [vl w1, vi w2, .c (.p 0 0), vi w3] [.box [cs w4, ci w5, ci w6]] k2 kr := by funext w1 w2 w3 w4 w5 w6 k2 kr; exact Eq.symm (zD enc1I _ (w1, w2, w3, w4, w5, w6))
theorem main {Q0 Q1 W1 W0} {ρ : Type} {K : AV → LO → Option ρ} {a1} : exC Tryz.prog (O Q0 Q1) (L W1 W0) [] 0 (zB Tryz.f136) (entry 63 [vl a1] [] []) (finO Tryz.prog Tryz.f136.results.toList 0 [] [] K) =
    B (fun w1 w2 k0 kr => W0 ρ [vl w1, vi w2] [] k0 kr) a1 (fun x1 => K (vb x1) []) := by kernel_rfl
theorem Gok : (O spec_PathOk.Q spec_l01In.Q).ok Tryz.prog := zH (by exact ⟨qE_ok spec_PathOk.ac, qE_ok spec_l01In.ac, trivial⟩) (by exact trivial)
theorem ok1 : OkL Tryz.prog (L V1 V0) 1 (.loop c1) := fun ρ st K r h => zJ (ct := ct1) (lv := lv1) (L := (L V1 V0)) Gok hmT (by rw [show zE [] 2 c1 = [] by kernel_rfl]; exact Lor.zF _ _) enc1I (fun k t => un6 (F1 k) t (k1_2 K) (k1_r K)) (fun t => rfl) (fun k t => by refine step1.trans ?_; exact congrFun (congrFun (congrArg (B1 _ _ _ _ _ _) (fx6 fun t => zD enc1I _ t)) _) _) (fun _ => fuelN) h
theorem e0 : zE [] 1 c0 = [(1, 1, .loop c1)] := by kernel_rfl
theorem ok0 : OkL Tryz.prog (L V1 V0) 0 (.loop c0) := fun ρ st K r h => zJ (ct := ct0) (lv := lv0) (L := (L V1 V0)) Gok hmT (by rw [e0]; exact Lor.zI ok1 (Lor.zF _ _)) enc0I (fun k t => un2 (F0 k) t (k0_0 K) (k0_r K)) (fun t => rfl) (fun k t => by refine step0.trans ?_; rw [← spec_PathOk.wrap, ← spec_l01In.wrap, ← ZC]; exact congrFun (congrFun (congrArg (B0 _ _ _ _ _) (fx2 fun t => zD enc0I _ t)) _) _) (fun _ => fuelN) h
theorem e : zE [] 0 (zB Tryz.f136) = [(0, 0, .loop c0)] := by kernel_rfl
theorem acc : ∀ t x, un1 F t = some x → ACc Tryz.prog 136 (encA t) [] true [] fun rv obs => (rv, obs) = encR x := accT (T := Vec YN) (F := un1 F) (L := (L V1 V0)) (cmds := []) (body := (zB Tryz.f136)) Gok hmT Tryz.func136 (by kernel_rfl) (by kernel_rfl) (by rw [e]; exact Lor.zI ok0 (Lor.zF _ _)) (fun t => by refine main.trans ?_; rw [← zG]; exact congrArg (B _ _) (fx1 fun t => zD ZB some t))
theorem ac : ∀ a x, Q a = some x → AC Tryz.prog 136 a [] false [] fun rv obs => (rv, obs) = encR x := acF (body := (zB Tryz.f136)) Tryz.func136 (by kernel_rfl) (by kernel_rfl) acc fun x => ⟨by simp [encR, AV.Flat, K.Flat, C.Flat], fl0⟩
end spec_NamesOk
namespace stringslite_HasPrefix
noncomputable def B {ρ : Type} (a1 : ByteArray) (a2 : ByteArray) (K : Bool → Option ρ) : Option ρ :=
  sel (decide ((a2.size : Int) ≤ (a1.size : Int))) (chk (decide (0 ≤ (0 : Int) ∧ (0 : Int) ≤ (a2.size : Int) ∧ (a2.size : Int) ≤ (a1.size : Int))) (K (decide ((a1.extract (0 : Int).toNat (a2.size : Int).toNat) = a2)))) (K false)
noncomputable def F (a1 : ByteArray) (a2 : ByteArray) : Option Bool := B a1 a2 (fun x1 => some (x1))
def encA (t : YF) : LA := [vs t.1, vs t.2]
def encR (x : Bool) : AV × LO := (vb x, [])
theorem ZA (a b) (h : encA a = encA b) : a = b := by simp [encA, zA] at h; simp [Prod.ext_iff, h]
theorem ZB (a b) (h : encR a = encR b) : a = b := by simpa [encR, zA] using h
noncomputable def Q (args : LA) : Option Bool := ofC encA (un2 F) args
theorem wrap : F = fun y1 y2 => Q [vs y1, vs y2] := by funext y1 y2; exact Eq.symm (zD ZA _ (y1, y2))
noncomputable abbrev O : Orc := mkO [] [] []
noncomputable def L : Lor := fun _ _ _ _ => Option.none
theorem main {ρ : Type} {K : AV → LO → Option ρ} {a1 a2} : exC Tryz.prog O L [] 0 (zB Tryz.f241) (entry 18 [vs a1, vs a2] [] []) (finO Tryz.prog Tryz.f241.results.toList 0 [] [] K) =
    B a1 a2 (fun x1 => K (vb x1) []) := by kernel_rfl
theorem Gok : O.ok Tryz.prog := zH (by exact trivial) (by exact trivial)
theorem acc : ∀ t x, un2 F t = some x → ACc Tryz.prog 241 (encA t) [] true [] fun rv obs => (rv, obs) = encR x := accT (T := ByteArray × ByteArray) (F := un2 F) (L := L) (cmds := []) (body := (zB Tryz.f241)) Gok hmT Tryz.func241 (by kernel_rfl) (by kernel_rfl) (by rw [show zE [] 0 (zB Tryz.f241) = [] by kernel_rfl]; exact Lor.zF _ _) (fun t => by refine main.trans ?_; exact congrArg (B _ _) (fx1 fun t => zD ZB some t))
theorem ac : ∀ a x, Q a = some x → AC Tryz.prog 241 a [] false [] fun rv obs => (rv, obs) = encR x := acF (body := (zB Tryz.f241)) Tryz.func241 (by kernel_rfl) (by kernel_rfl) acc fun x => ⟨by simp [encR, AV.Flat, K.Flat, C.Flat], fl0⟩
end stringslite_HasPrefix
namespace strings_HasPrefix
noncomputable def B {ρ : Type} (C0 : ByteArray → ByteArray → Option Bool) (a1 : ByteArray) (a2 : ByteArray) (K : Bool → Option ρ) : Option ρ :=
  (C0 a1 a2).bind fun r1 => K r1
noncomputable def F (a1 : ByteArray) (a2 : ByteArray) : Option Bool := B stringslite_HasPrefix.F a1 a2 (fun x1 => some (x1))
def encA (t : YF) : LA := [vs t.1, vs t.2]
def encR (x : Bool) : AV × LO := (vb x, [])
theorem ZA (a b) (h : encA a = encA b) : a = b := by simp [encA, zA] at h; simp [Prod.ext_iff, h]
theorem ZB (a b) (h : encR a = encR b) : a = b := by simpa [encR, zA] using h
noncomputable def Q (args : LA) : Option Bool := ofC encA (un2 F) args
theorem wrap : F = fun y1 y2 => Q [vs y1, vs y2] := by funext y1 y2; exact Eq.symm (zD ZA _ (y1, y2))
noncomputable abbrev O (Q0 : LA → Option Bool) : Orc := mkO [qE 241 false stringslite_HasPrefix.encR Q0] [] []
noncomputable def L : Lor := fun _ _ _ _ => Option.none
theorem main {Q0} {ρ : Type} {K : AV → LO → Option ρ} {a1 a2} : exC Tryz.prog (O Q0) L [] 0 (zB Tryz.f229) (entry 8 [vs a1, vs a2] [] []) (finO Tryz.prog Tryz.f229.results.toList 0 [] [] K) =
    B (fun y1 y2 => Q0 [vs y1, vs y2]) a1 a2 (fun x1 => K (vb x1) []) := by kernel_rfl
theorem Gok : (O stringslite_HasPrefix.Q).ok Tryz.prog := zH (by exact ⟨qE_ok stringslite_HasPrefix.ac, trivial⟩) (by exact trivial)
theorem acc : ∀ t x, un2 F t = some x → ACc Tryz.prog 229 (encA t) [] true [] fun rv obs => (rv, obs) = encR x := accT (T := ByteArray × ByteArray) (F := un2 F) (L := L) (cmds := []) (body := (zB Tryz.f229)) Gok hmT Tryz.func229 (by kernel_rfl) (by kernel_rfl) (by rw [show zE [] 0 (zB Tryz.f229) = [] by kernel_rfl]; exact Lor.zF _ _) (fun t => by refine main.trans ?_; rw [← stringslite_HasPrefix.wrap]; exact congrArg (B _ _ _) (fx1 fun t => zD ZB some t))
theorem ac : ∀ a x, Q a = some x → AC Tryz.prog 229 a [] false [] fun rv obs => (rv, obs) = encR x := acF (body := (zB Tryz.f229)) Tryz.func229 (by kernel_rfl) (by kernel_rfl) acc fun x => ⟨by simp [encR, AV.Flat, K.Flat, C.Flat], fl0⟩
end strings_HasPrefix
namespace stringslite_HasSuffix
noncomputable def B {ρ : Type} (a1 : ByteArray) (a2 : ByteArray) (K : Bool → Option ρ) : Option ρ :=
  sel (decide ((a2.size : Int) ≤ (a1.size : Int))) (chk (decide (0 ≤ (wr ((a1.size : Int) - (a2.size : Int))) ∧ (wr ((a1.size : Int) - (a2.size : Int))) ≤ (a1.size : Int) ∧ (a1.size : Int) ≤ (a1.size : Int))) (K (decide ((a1.extract (wr ((a1.size : Int) - (a2.size : Int))).toNat (a1.size : Int).toNat) = a2)))) (K false)
noncomputable def F (a1 : ByteArray) (a2 : ByteArray) : Option Bool := B a1 a2 (fun x1 => some (x1))
def encA (t : YF) : LA := [vs t.1, vs t.2]
def encR (x : Bool) : AV × LO := (vb x, [])
theorem ZA (a b) (h : encA a = encA b) : a = b := by simp [encA, zA] at h; simp [Prod.ext_iff, h]
theorem ZB (a b) (h : encR a = encR b) : a = b := by simpa [encR, zA] using h
noncomputable def Q (args : LA) : Option Bool := ofC encA (un2 F) args
theorem wrap : F = fun y1 y2 => Q [vs y1, vs y2] := by funext y1 y2; exact Eq.symm (zD ZA _ (y1, y2))
noncomputable abbrev O : Orc := mkO [] [] []
noncomputable def L : Lor := fun _ _ _ _ => Option.none
theorem main {ρ : Type} {K : AV → LO → Option ρ} {a1 a2} : exC Tryz.prog O L [] 0 (zB Tryz.f242) (entry 21 [vs a1, vs a2] [] []) (finO Tryz.prog Tryz.f242.results.toList 0 [] [] K) =
    B a1 a2 (fun x1 => K (vb x1) []) := by kernel_rfl
theorem Gok : O.ok Tryz.prog := zH (by exact trivial) (by exact trivial)
theorem acc : ∀ t x, un2 F t = some x → ACc Tryz.prog 242 (encA t) [] true [] fun rv obs => (rv, obs) = encR x := accT (T := ByteArray × ByteArray) (F := un2 F) (L := L) (cmds := []) (body := (zB Tryz.f242)) Gok hmT Tryz.func242 (by kernel_rfl) (by kernel_rfl) (by rw [show zE [] 0 (zB Tryz.f242) = [] by kernel_rfl]; exact Lor.zF _ _) (fun t => by refine main.trans ?_; exact congrArg (B _ _) (fx1 fun t => zD ZB some t))
theorem ac : ∀ a x, Q a = some x → AC Tryz.prog 242 a [] false [] fun rv obs => (rv, obs) = encR x := acF (body := (zB Tryz.f242)) Tryz.func242 (by kernel_rfl) (by kernel_rfl) acc fun x => ⟨by simp [encR, AV.Flat, K.Flat, C.Flat], fl0⟩
end stringslite_HasSuffix
namespace strings_HasSuffix
noncomputable def B {ρ : Type} (C0 : ByteArray → ByteArray → Option Bool) (a1 : ByteArray) (a2 : ByteArray) (K : Bool → Option ρ) : Option ρ :=
  (C0 a1 a2).bind fun r1 => K r1
noncomputable def F (a1 : ByteArray) (a2 : ByteArray) : Option Bool := B stringslite_HasSuffix.F a1 a2 (fun x1 => some (x1))
def encA (t : YF) : LA := [vs t.1, vs t.2]
def encR (x : Bool) : AV × LO := (vb x, [])
theorem ZA (a b) (h : encA a = encA b) : a = b := by simp [encA, zA] at h; simp [Prod.ext_iff, h]
theorem ZB (a b) (h : encR a = encR b) : a = b := by simpa [encR, zA] using h
noncomputable def Q (args : LA) : Option Bool := ofC encA (un2 F) args
theorem wrap : F = fun y1 y2 => Q [vs y1, vs y2] := by funext y1 y2; exact Eq.symm (zD ZA _ (y1, y2))
noncomputable abbrev O (Q0 : LA → Option Bool) : Orc := mkO [qE 242 false stringslite_HasSuffix.encR Q0] [] []
noncomputable def L : Lor := fun _ _ _ _ => Option.none
theorem main {Q0} {ρ : Type} {K : AV → LO → Option ρ} {a1 a2} : exC Tryz.prog (O Q0) L [] 0 (zB Tryz.f230) (entry 8 [vs a1, vs a2] [] []) (finO Tryz.prog Tryz.f230.results.toList 0 [] [] K) =
    B (fun y1 y2 => Q0 [vs y1, vs y2]) a1 a2 (fun x1 => K (vb x1) []) := by kernel_rfl
theorem Gok : (O stringslite_HasSuffix.Q).ok Tryz.prog := zH (by exact ⟨qE_ok stringslite_HasSuffix.ac, trivial⟩) (by exact trivial)
theorem acc : ∀ t x, un2 F t = some x → ACc Tryz.prog 230 (encA t) [] true [] fun rv obs => (rv, obs) = encR x := accT (T := ByteArray × ByteArray) (F := un2 F) (L := L) (cmds := []) (body := (zB Tryz.f230)) Gok hmT Tryz.func230 (by kernel_rfl) (by kernel_rfl) (by rw [show zE [] 0 (zB Tryz.f230) = [] by kernel_rfl]; exact Lor.zF _ _) (fun t => by refine main.trans ?_; rw [← stringslite_HasSuffix.wrap]; exact congrArg (B _ _ _) (fx1 fun t => zD ZB some t))
theorem ac : ∀ a x, Q a = some x → AC Tryz.prog 230 a [] false [] fun rv obs => (rv, obs) = encR x := acF (body := (zB Tryz.f230)) Tryz.func230 (by kernel_rfl) (by kernel_rfl) acc fun x => ⟨by simp [encR, AV.Flat, K.Flat, C.Flat], fl0⟩
end strings_HasSuffix
namespace impl_PathOk
noncomputable def B0 {ρ : Type} (v1 : ByteArray) (v2 : Int) (W : ByteArray → Int → Option ρ) (K0 : ByteArray → Option ρ) (Kr : Bool → Option ρ) : Option ρ :=
  sel (decide (v2 < (v1.size : Int))) (chk (decide (0 ≤ v2 ∧ v2 < (v1.size : Int))) (sel (decide ((97 : Int) ≤ (byteAt v1 v2.toNat))) (sel (decide ((byteAt v1 v2.toNat) ≤ (122 : Int))) (W v1 (wr (v2 + (1 : Int)))) (sel (decide ((48 : Int) ≤ (byteAt v1 v2.toNat))) (sel (decide ((byteAt v1 v2.toNat) ≤ (57 : Int))) (W v1 (wr (v2 + (1 : Int)))) (sel (decide ((byteAt v1 v2.toNat) = (46 : Int))) (W v1 (wr (v2 + (1 : Int)))) (sel (decide ((byteAt v1 v2.toNat) = (45 : Int))) (W v1 (wr (v2 + (1 : Int)))) (sel ((!decide ((byteAt v1 v2.toNat) = (47 : Int)))) (Kr false) (W v1 (wr (v2 + (1 : Int)))))))) (sel (decide ((byteAt v1 v2.toNat) = (46 : Int))) (W v1 (wr (v2 + (1 : Int)))) (sel (decide ((byteAt v1 v2.toNat) = (45 : Int))) (W v1 (wr (v2 + (1 : Int)))) (sel ((!decide ((byteAt v1 v2.toNat) = (47 : Int)))) (Kr false) (W v1 (wr (v2 + (1 : Int))))))))) (sel (decide ((48 : Int) ≤ (byteAt v1 v2.toNat))) (sel (decide ((byteAt v1 v2.toNat) ≤ (57 : Int))) (W v1 (wr (v2 + (1 : Int)))) (sel (decide ((byteAt v1 v2.toNat) = (46 : Int))) (W v1 (wr (v2 + (1 : Int)))) (sel (decide ((byteAt v1 v2.toNat) = (45 : Int))) (W v1 (wr (v2 + (1 : Int)))) (sel ((!decide ((byteAt v1 v2.toNat) = (47 : Int)))) (Kr false) (W v1 (wr (v2 + (1 : Int)))))))) (sel (decide ((byteAt v1 v2.toNat) = (46 : Int))) (W v1 (wr (v2 + (1 : Int)))) (sel (decide ((byteAt v1 v2.toNat) = (45 : Int))) (W v1 (wr (v2 + (1 : Int)))) (sel ((!decide ((byteAt v1 v2.toNat) = (47 : Int)))) (Kr false) (W v1 (wr (v2 + (1 : Int)))))))))) (K0 v1)
noncomputable def F0 {ρ : Type} : Nat → ByteArray → Int → (ByteArray → Option ρ) → (Bool → Option ρ) → Option ρ
  | 0, _, _, _, _ => none
  | k + 1, v1, v2, K0, Kr => B0 v1 v2 (fun v1' v2' => F0 k v1' v2' K0 Kr) K0 Kr
noncomputable def B {ρ : Type} (C0 : Int → Int → Int → Option Bool) (C1 : ByteArray → ByteArray → Option Bool) (C2 : ByteArray → ByteArray → Option Bool) (C3 : ByteArray → ByteArray → Option Bool) (L0 : ByteArray → Int → (ByteArray → Option ρ) → (Bool → Option ρ) → Option ρ) (a1 : ByteArray) (K : Bool → Option ρ) : Option ρ :=
  L0 a1 (0 : Int) (fun e01 => (C0 (e01.size : Int) (1 : Int) (24 : Int)).bind fun r1 => sel ((!r1)) (K false) ((C1 e01 (ByteArray.mk #[47])).bind fun r2 => sel ((!r2)) ((C2 e01 (ByteArray.mk #[47])).bind fun r3 => sel ((!r3)) ((C3 e01 (ByteArray.mk #[47, 47])).bind fun r4 => K (!r4)) (K false)) (K false))) (fun x01 => K x01)
noncomputable def F (a1 : ByteArray) : Option Bool := B impl_inRange.F strings_HasPrefix.F strings_HasSuffix.F strings_Contains.F (F0 fuelN) a1 (fun x1 => some (x1))
def encA (t : ByteArray) : LA := [vs t]
def encR (x : Bool) : AV × LO := (vb x, [])
theorem ZA (a b) (h : encA a = encA b) : a = b := by simpa [encA, zA] using h
theorem ZB (a b) (h : encR a = encR b) : a = b := by simpa [encR, zA] using h
noncomputable def Q (args : LA) : Option Bool := ofC encA (un1 F) args
theorem wrap : F = fun y1 => Q [vs y1] := by funext y1; exact Eq.symm (zD ZA _ (y1))
noncomputable abbrev O (Q0 : LA → Option Bool) (Q1 : LA → Option Bool) (Q2 : LA → Option Bool) (Q3 : LA → Option Bool) : Orc := mkO [qE 126 false impl_inRange.encR Q0, qE 229 false strings_HasPrefix.encR Q1, qE 230 false strings_HasSuffix.encR Q2, qE 228 false strings_Contains.encR Q3] [] []
noncomputable def c0 : Code := loopC (atomN [] 0 (zB Tryz.f210) 0)
def ct0 : Cut := ⟨[0, 3], []⟩
def lv0 : Exit → Cut
  | .exit 0 => ⟨[0], []⟩
  | .ret => ⟨[2], []⟩
  | _ => ⟨[], []⟩
def k0_0 {ρ : Type} (K : Exit → St → Option ρ) (z1 : ByteArray) : Option ρ := K (.exit 0) (mkS 58 (lv0 (.exit 0)).live [vs z1] [] [])
def k0_r {ρ : Type} (K : Exit → St → Option ρ) (z1 : Bool) : Option ρ := K .ret (mkS 58 (lv0 .ret).live [vb z1] [] [])
noncomputable def L (W0 : (ρ : Type) → LA → LO → (ByteArray → Option ρ) → (Bool → Option ρ) → Option ρ) : Lor := fun ρ j st K => sel (Nat.beq j 0) (cutO Tryz.prog 58 ct0.live 0 [] ct0.cmds st fun avs obs => W0 ρ avs obs (k0_0 K) (k0_r K)) (Option.none)
theorem step0 {Q0 Q1 Q2 Q3 W0} {ρ : Type} {K : Exit → St → Option ρ} {W : LA → LO → Option ρ} {v1 v2} : exC Tryz.prog (O Q0 Q1 Q2 Q3) (L W0) [] 1 c0 (mkS 58 ct0.live [vs v1, vi v2] [] []) (bodyK Tryz.prog 58 0 [] ct0 W lv0 K) =
    B0 v1 v2 (fun u1 u2 => W [vs u1, vi u2] []) (k0_0 K) (k0_r K) := by kernel_rfl
def enc0 (t : ByteArray × Int) : LA × LO := ([vs t.1, vi t.2], [])
theorem enc0I (a b) (h : enc0 a = enc0 b) : a = b := by simp [enc0, zA] at h; simp [Prod.ext_iff, h]
noncomputable def V0 : (ρ : Type) → LA → LO → (ByteArray → Option ρ) → (Bool → Option ρ) → Option ρ := fun ρ avs obs k0 kr => ofC enc0 (fun t => un2 (F0 fuelN) t k0 kr) (avs, obs)
theorem zG (ρ : Type) : F0 fuelN = fun w1 w2 k0 kr => V0 ρ [vs w1, vi w2] [] k0 kr := by funext w1 w2 k0 kr; exact Eq.symm (zD enc0I _ (w1, w2))
theorem main {Q0 Q1 Q2 Q3 W0} {ρ : Type} {K : AV → LO → Option ρ} {a1} : exC Tryz.prog (O Q0 Q1 Q2 Q3) (L W0) [] 0 (zB Tryz.f210) (entry 58 [vs a1] [] []) (finO Tryz.prog Tryz.f210.results.toList 0 [] [] K) =
    B (fun y1 y2 y3 => Q0 [vi y1, vi y2, vi y3]) (fun y1 y2 => Q1 [vs y1, vs y2]) (fun y1 y2 => Q2 [vs y1, vs y2]) (fun y1 y2 => Q3 [vs y1, vs y2]) (fun w1 w2 k0 kr => W0 ρ [vs w1, vi w2] [] k0 kr) a1 (fun x1 => K (vb x1) []) := by kernel_rfl
theorem Gok : (O impl_inRange.Q strings_HasPrefix.Q strings_HasSuffix.Q strings_Contains.Q).ok Tryz.prog := zH (by exact ⟨qE_ok impl_inRange.ac, qE_ok strings_HasPrefix.ac, qE_ok strings_HasSuffix.ac, qE_ok strings_Contains.ac, trivial⟩) (by exact trivial)
theorem ok0 : OkL Tryz.prog (L V0) 0 (.loop c0) := fun ρ st K r h => zJ (ct := ct0) (lv := lv0) (L := (L V0)) Gok hmT (by rw [show zE [] 1 c0 = [] by kernel_rfl]; exact Lor.zF _ _) enc0I (fun k t => un2 (F0 k) t (k0_0 K) (k0_r K)) (fun t => rfl) (fun k t => by refine step0.trans ?_; exact congrFun (congrFun (congrArg (B0 _ _) (fx2 fun t => zD enc0I _ t)) _) _) (fun _ => fuelN) h
theorem e : zE [] 0 (zB Tryz.f210) = [(0, 0, .loop c0)] := by kernel_rfl
theorem acc : ∀ t x, un1 F t = some x → ACc Tryz.prog 210 (encA t) [] true [] fun rv obs => (rv, obs) = encR x := accT (T := ByteArray) (F := un1 F) (L := (L V0)) (cmds := []) (body := (zB Tryz.f210)) Gok hmT Tryz.func210 (by kernel_rfl) (by kernel_rfl) (by rw [e]; exact Lor.zI ok0 (Lor.zF _ _)) (fun t => by refine main.trans ?_; rw [← impl_inRange.wrap, ← strings_HasPrefix.wrap, ← strings_HasSuffix.wrap, strings_Contains.wrap, ← zG]; exact congrArg (B _ _ _ _ _ _) (fx1 fun t => zD ZB some t))
theorem ac : ∀ a x, Q a = some x → AC Tryz.prog 210 a [] false [] fun rv obs => (rv, obs) = encR x := acF (body := (zB Tryz.f210)) Tryz.func210 (by kernel_rfl) (by kernel_rfl) acc fun x => ⟨by simp [encR, AV.Flat, K.Flat, C.Flat], fl0⟩
end impl_PathOk
namespace impl_idAt_1_s0fda
noncomputable def B {ρ : Type} (a1 : ByteArray) (a2 : Int) (a3 : Int) (a4 : Int) (K : Bool → Option ρ) : Option ρ :=
  K (decide (a2 = a4))
noncomputable def F (a1 : ByteArray) (a2 : Int) (a3 : Int) (a4 : Int) : Option Bool := B a1 a2 a3 a4 (fun x1 => some (x1))
def encA (t : ByteArray × Int × Int × Int) : LA := [.a [cs t.1, ci t.2.1, ci t.2.2.1], .ra [.v (.int .i64 t.2.2.2)]]
def encR (x : Bool) : AV × LO := (vb x, [])
theorem ZA (a b) (h : encA a = encA b) : a = b := by simp [encA, zA] at h; simp [Prod.ext_iff, h]
theorem ZB (a b) (h : encR a = encR b) : a = b := by simpa [encR, zA] using h
noncomputable def Q (args : LA) : Option Bool := ofC encA (un4 F) args
theorem wrap : F = fun y1 y2 y3 y4 => Q [.a [cs y1, ci y2, ci y3], .ra [.v (.int .i64 y4)]] := by funext y1 y2 y3 y4; exact Eq.symm (zD ZA _ (y1, y2, y3, y4))
noncomputable abbrev O : Orc := mkO [] [] []
noncomputable def L : Lor := fun _ _ _ _ => Option.none
theorem main {ρ : Type} {K : AV → LO → Option ρ} {a1 a2 a3 a4} : exC Tryz.prog O L [] 0 (zB Tryz.f128) (entry 8 [.a [cs a1, ci a2, ci a3], .ra [.v (.int .i64 a4)]] [] []) (finO Tryz.prog Tryz.f128.results.toList 0 [] [] K) =
    B a1 a2 a3 a4 (fun x1 => K (vb x1) []) := by kernel_rfl
theorem Gok : O.ok Tryz.prog := zH (by exact trivial) (by exact trivial)
theorem acc : ∀ t x, un4 F t = some x → ACc Tryz.prog 128 (encA t) [] true [] fun rv obs => (rv, obs) = encR x := accT (T := ByteArray × Int × Int × Int) (F := un4 F) (L := L) (cmds := []) (body := (zB Tryz.f128)) Gok hmT Tryz.func128 (by kernel_rfl) (by kernel_rfl) (by rw [show zE [] 0 (zB Tryz.f128) = [] by kernel_rfl]; exact Lor.zF _ _) (fun t => by refine main.trans ?_; exact congrArg (B _ _ _ _) (fx1 fun t => zD ZB some t))
theorem ac : ∀ a x, Q a = some x → AC Tryz.prog 128 a [] false [] fun rv obs => (rv, obs) = encR x := acF (body := (zB Tryz.f128)) Tryz.func128 (by kernel_rfl) (by kernel_rfl) acc fun x => ⟨by simp [encR, AV.Flat, K.Flat, C.Flat], fl0⟩
end impl_idAt_1_s0fda
namespace slices_IndexFunc_impl_Name_sf709
noncomputable def B0 {ρ : Type} (C0 : ByteArray → Int → Int → Int → Option Bool) (v1 : Vec YN) (v2 : Int) (v3 : Int) (v4 : Int) (W : YVN → Int → Int → Int → Option ρ) (K0 : Int → Option ρ) (Kr : Int → Int → Option ρ) : Option ρ :=
  sel (decide (v3 < v2)) (chk (decide (0 ≤ v3 ∧ v3 < (v1.n : Int))) ((C0 ((v1.g v3.toNat).1) ((v1.g v3.toNat).2.1) ((v1.g v3.toNat).2.2) v4).bind fun r1 => sel (r1) (Kr v3 v4) (W v1 v2 (wr (v3 + (1 : Int))) v4))) (K0 v4)
noncomputable def F0 {ρ : Type} : Nat → YVN → Int → Int → Int → (Int → Option ρ) → (Int → Int → Option ρ) → Option ρ
  | 0, _, _, _, _, _, _ => none
  | k + 1, v1, v2, v3, v4, K0, Kr => B0 impl_idAt_1_s0fda.F v1 v2 v3 v4 (fun v1' v2' v3' v4' => F0 k v1' v2' v3' v4' K0 Kr) K0 Kr
noncomputable def B {ρ : Type} (L0 : YVN → Int → Int → Int → (Int → Option ρ) → (Int → Int → Option ρ) → Option ρ) (a1 : Vec YN) (a2 : Int) (K : Int → Int → Option ρ) : Option ρ :=
  L0 a1 (a1.n : Int) (0 : Int) a2 (fun e01 => K (-1 : Int) e01) (fun x01 x02 => K x01 x02)
noncomputable def F (a1 : Vec YN) (a2 : Int) : Option YD := B (F0 fuelN) a1 a2 (fun x1 x2 => some (x1, x2))
def encA (t : YVN × Int) : LA × LO := ([vl t.1, .fn 128 [.p 0 0]], [.box [ci t.2]])
def encR (x : YD) : AV × LO := (vi x.1, [.box [ci x.2]])
theorem ZA (a b) (h : encA a = encA b) : a = b := by simp [encA, zA] at h; simp [Prod.ext_iff, h]
theorem ZB (a b) (h : encR a = encR b) : a = b := by simp [encR, zA] at h; simp [Prod.ext_iff, h]
noncomputable def Q (args : LA) (hin : LO) : Option YD := ofC encA (un2 F) (args, hin)
theorem wrap : F = fun y1 y2 => Q [vl y1, .fn 128 [.p 0 0]] [.box [ci y2]] := by funext y1 y2; exact Eq.symm (zD ZA _ (y1, y2))
noncomputable abbrev O (Q0 : LA → Option Bool) : Orc := mkO [qE 128 false impl_idAt_1_s0fda.encR Q0] [] []
noncomputable def c0 : Code := loopC (atomN [] 0 (zB Tryz.f127) 0)
def ct0 : Cut := ⟨[0, 1, 7, 8], []⟩
def lv0 : Exit → Cut
  | .exit 0 => ⟨[], []⟩
  | .ret => ⟨[4], []⟩
  | _ => ⟨[], []⟩
def k0_0 {ρ : Type} (K : Exit → St → Option ρ) (z1 : Int) : Option ρ := K (.exit 0) (mkS 19 (lv0 (.exit 0)).live [] [.box [ci z1]] [true])
def k0_r {ρ : Type} (K : Exit → St → Option ρ) (z1 : Int) (z2 : Int) : Option ρ := K .ret (mkS 19 (lv0 .ret).live [vi z1] [.box [ci z2]] [true])
noncomputable def L (W0 : (ρ : Type) → LA → LO → (Int → Option ρ) → (Int → Int → Option ρ) → Option ρ) : Lor := fun ρ j st K => sel (Nat.beq j 0) (cutO Tryz.prog 19 ct0.live 1 [true] ct0.cmds st fun avs obs => W0 ρ avs obs (k0_0 K) (k0_r K)) (Option.none)
theorem step0 {Q0 W0} {ρ : Type} {K : Exit → St → Option ρ} {W : LA → LO → Option ρ} {v1 v2 v3 v4} : exC Tryz.prog (O Q0) (L W0) [] 1 c0 (mkS 19 ct0.live [vl v1, .fn 128 [.p 0 0], vi v2, vi v3] [.box [ci v4]] [true]) (bodyK Tryz.prog 19 1 [true] ct0 W lv0 K) =
    B0 (fun y1 y2 y3 y4 => Q0 [.a [cs y1, ci y2, ci y3], .ra [.v (.int .i64 y4)]]) v1 v2 v3 v4 (fun u1 u2 u3 u4 => W [vl u1, .fn 128 [.p 0 0], vi u2, vi u3] [.box [ci u4]]) (k0_0 K) (k0_r K) := by kernel_rfl
def enc0 (t : YVN × Int × Int × Int) : LA × LO := ([vl t.1, .fn 128 [.p 0 0], vi t.2.1, vi t.2.2.1], [.box [ci t.2.2.2]])
theorem enc0I (a b) (h : enc0 a = enc0 b) : a = b := by simp [enc0, zA] at h; simp [Prod.ext_iff, h]
noncomputable def V0 : (ρ : Type) → LA → LO → (Int → Option ρ) → (Int → Int → Option ρ) → Option ρ := fun ρ avs obs k0 kr => ofC enc0 (fun t => un4 (F0 fuelN) t k0 kr) (avs, obs)
theorem zG (ρ : Type) : F0 fuelN = fun w1 w2 w3 w4 k0 kr => V0 ρ [vl w1, .fn 128 [.p 0 0], vi w2, vi w3] [.box [ci w4]] k0 kr := by funext w1 w2 w3 w4 k0 kr; exact Eq.symm (zD enc0I _ (w1, w2, w3, w4))
theorem main {Q0 W0} {ρ : Type} {K : AV → LO → Option ρ} {a1 a2} : exC Tryz.prog (O Q0) (L W0) [] 0 (zB Tryz.f127) (entry 19 [vl a1, .fn 128 [.p 0 0]] [.box [ci a2]] [true]) (finO Tryz.prog Tryz.f127.results.toList 1 [true] [] K) =
    B (fun w1 w2 w3 w4 k0 kr => W0 ρ [vl w1, .fn 128 [.p 0 0], vi w2, vi w3] [.box [ci w4]] k0 kr) a1 a2 (fun x1 x2 => K (vi x1) [.box [ci x2]]) := by kernel_rfl
theorem Gok : (O impl_idAt_1_s0fda.Q).ok Tryz.prog := zH (by exact ⟨qE_ok impl_idAt_1_s0fda.ac, trivial⟩) (by exact trivial)
theorem ok0 : OkL Tryz.prog (L V0) 0 (.loop c0) := fun ρ st K r h => zJ (ct := ct0) (lv := lv0) (L := (L V0)) Gok hmT (by rw [show zE [] 1 c0 = [] by kernel_rfl]; exact Lor.zF _ _) enc0I (fun k t => un4 (F0 k) t (k0_0 K) (k0_r K)) (fun t => rfl) (fun k t => by refine step0.trans ?_; rw [← impl_idAt_1_s0fda.wrap]; exact congrFun (congrFun (congrArg (B0 _ _ _ _ _) (fx4 fun t => zD enc0I _ t)) _) _) (fun _ => fuelN) h
theorem e : zE [] 0 (zB Tryz.f127) = [(0, 0, .loop c0)] := by kernel_rfl
theorem acc : ∀ t x, un2 F t = some x → ACc Tryz.prog 127 (encA t).1 (encA t).2 true [true] fun rv obs => (rv, obs) = encR x := accT2 (T := YVN × Int) (F := un2 F) (L := (L V0)) (cmds := []) (body := (zB Tryz.f127)) 1 (fun _ => rfl) Gok hmT Tryz.func127 (by kernel_rfl) (by kernel_rfl) (by rw [e]; exact Lor.zI ok0 (Lor.zF _ _)) (fun t => by refine main.trans ?_; rw [← zG]; exact congrArg (B _ _ _) (fx2 fun t => zD ZB some t))
theorem ac : ∀ a h x, Q a h = some x → AC Tryz.prog 127 a h false [true] fun rv obs => (rv, obs) = encR x := acF2 (body := (zB Tryz.f127)) Tryz.func127 (by kernel_rfl) (by kernel_rfl) acc fun x => ⟨by simp [encR, AV.Flat, K.Flat, C.Flat], flc (by simp [Ob.Flat, C.Flat, N.Flat]) (fl0)⟩
end slices_IndexFunc_impl_Name_sf709
namespace impl_idAt
noncomputable def B {ρ : Type} (C0 : YVN → Int → Option YD) (a1 : Vec YN) (a2 : Int) (K : Int → Option ρ) : Option ρ :=
  (C0 a1 a2).bind fun r1 => K r1.1
noncomputable def F (a1 : Vec YN) (a2 : Int) : Option Int := B slices_IndexFunc_impl_Name_sf709.F a1 a2 (fun x1 => some (x1))
def encA (t : YVN × Int) : LA := [vl t.1, vi t.2]
def encR (x : Int) : AV × LO := (vi x, [])
theorem ZA (a b) (h : encA a = encA b) : a = b := by simp [encA, zA] at h; simp [Prod.ext_iff, h]
theorem ZB (a b) (h : encR a = encR b) : a = b := by simpa [encR, zA] using h
noncomputable def Q (args : LA) : Option Int := ofC encA (un2 F) args
theorem wrap : F = fun y1 y2 => Q [vl y1, vi y2] := by funext y1 y2; exact Eq.symm (zD ZA _ (y1, y2))
noncomputable abbrev O (Q0 : LA → LO → Option YD) : Orc := mkO [] [eE Tryz.prog 127 [false, true] false [true] slices_IndexFunc_impl_Name_sf709.encR Q0] []
noncomputable def L : Lor := fun _ _ _ _ => Option.none
theorem main {Q0} {ρ : Type} {K : AV → LO → Option ρ} {a1 a2} : exC Tryz.prog (O Q0) L [] 0 (zB Tryz.f65) (entry 8 [vl a1, vi a2] [] []) (finO Tryz.prog Tryz.f65.results.toList 0 [] [] K) =
    B (fun y1 y2 => Q0 [vl y1, .fn 128 [.p 0 0]] [.box [ci y2]]) a1 a2 (fun x1 => K (vi x1) []) := by kernel_rfl
theorem Gok : (O slices_IndexFunc_impl_Name_sf709.Q).ok Tryz.prog := zH (by exact trivial) (by exact ⟨eE_ok (fun h => by cases h) slices_IndexFunc_impl_Name_sf709.ac, trivial⟩)
theorem acc : ∀ t x, un2 F t = some x → ACc Tryz.prog 65 (encA t) [] true [] fun rv obs => (rv, obs) = encR x := accT (T := YVN × Int) (F := un2 F) (L := L) (cmds := []) (body := (zB Tryz.f65)) Gok hmT Tryz.func65 (by kernel_rfl) (by kernel_rfl) (by rw [show zE [] 0 (zB Tryz.f65) = [] by kernel_rfl]; exact Lor.zF _ _) (fun t => by refine main.trans ?_; rw [← slices_IndexFunc_impl_Name_sf709.wrap]; exact congrArg (B _ _ _) (fx1 fun t => zD ZB some t))
theorem ac : ∀ a x, Q a = some x → AC Tryz.prog 65 a [] false [] fun rv obs => (rv, obs) = encR x := acF (body := (zB Tryz.f65)) Tryz.func65 (by kernel_rfl) (by kernel_rfl) acc fun x => ⟨by simp [encR, AV.Flat, K.Flat, C.Flat], fl0⟩
end impl_idAt
namespace impl_NamesOk
noncomputable def B0 {ρ : Type} (C0 : ByteArray → Option Bool) (C1 : Int → Int → Int → Option Bool) (C2 : YVN → Int → Option Int) (v1 : Vec YN) (v2 : Vec YN) (v3 : Int) (v4 : Int) (W : YVN → YVN → Int → Int → Option ρ) (K0 : Unit → Option ρ) (Kr : Bool → Option ρ) : Option ρ :=
  sel (decide (v4 < v3)) (chk (decide (0 ≤ v4 ∧ v4 < (v2.n : Int))) ((C0 ((v2.g v4.toNat).1)).bind fun r1 => sel ((!r1)) (Kr false) ((C1 ((v2.g v4.toNat).2.1) (0 : Int) (11 : Int)).bind fun r2 => sel ((!r2)) (Kr false) ((C1 ((v2.g v4.toNat).2.2) (0 : Int) (39 : Int)).bind fun r3 => sel ((!r3)) (Kr false) (sel (decide ((0 : Int) < v4)) (chk (decide (0 ≤ (wr (v4 - (1 : Int))) ∧ (wr (v4 - (1 : Int))) < (v1.n : Int))) (sel ((!decide (((v1.g (wr (v4 - (1 : Int))).toNat).1).toList < ((v2.g v4.toNat).1).toList))) (Kr false) ((C2 v1 ((v2.g v4.toNat).2.1)).bind fun r4 => sel ((!decide (r4 = v4))) (Kr false) (W v1 v2 v3 (wr (v4 + (1 : Int))))))) ((C2 v1 ((v2.g v4.toNat).2.1)).bind fun r5 => sel ((!decide (r5 = v4))) (Kr false) (W v1 v2 v3 (wr (v4 + (1 : Int)))))))))) (K0 ())
noncomputable def F0 {ρ : Type} : Nat → YVN → YVN → Int → Int → (Unit → Option ρ) → (Bool → Option ρ) → Option ρ
  | 0, _, _, _, _, _, _ => none
  | k + 1, v1, v2, v3, v4, K0, Kr => B0 impl_PathOk.F impl_inRange.F impl_idAt.F v1 v2 v3 v4 (fun v1' v2' v3' v4' => F0 k v1' v2' v3' v4' K0 Kr) K0 Kr
noncomputable def B {ρ : Type} (L0 : YVN → YVN → Int → Int → (Unit → Option ρ) → (Bool → Option ρ) → Option ρ) (a1 : Vec YN) (K : Bool → Option ρ) : Option ρ :=
  sel (decide ((12 : Int) < (a1.n : Int))) (K false) (L0 a1 a1 (a1.n : Int) (0 : Int) (fun _ => K true) (fun x01 => K x01))
noncomputable def F (a1 : Vec YN) : Option Bool := B (F0 fuelN) a1 (fun x1 => some (x1))
def encA (t : Vec YN) : LA := [vl t]
def encR (x : Bool) : AV × LO := (vb x, [])
theorem ZA (a b) (h : encA a = encA b) : a = b := by simpa [encA, zA] using h
theorem ZB (a b) (h : encR a = encR b) : a = b := by simpa [encR, zA] using h
noncomputable def Q (args : LA) : Option Bool := ofC encA (un1 F) args
theorem wrap : F = fun y1 => Q [vl y1] := by funext y1; exact Eq.symm (zD ZA _ (y1))
noncomputable abbrev O (Q0 : LA → Option Bool) (Q1 : LA → Option Bool) (Q2 : LA → Option Int) : Orc := mkO [qE 210 false impl_PathOk.encR Q0, qE 126 false impl_inRange.encR Q1, qE 65 false impl_idAt.encR Q2] [] []
noncomputable def c0 : Code := loopC (atomN [] 0 (zB Tryz.f182) 0)
def ct0 : Cut := ⟨[0, 8, 9, 10], []⟩
def lv0 : Exit → Cut
  | .exit 0 => ⟨[], []⟩
  | .ret => ⟨[2], []⟩
  | _ => ⟨[], []⟩
def k0_0 {ρ : Type} (K : Exit → St → Option ρ) (_ : Unit) : Option ρ := K (.exit 0) (mkS 53 (lv0 (.exit 0)).live [] [] [])
def k0_r {ρ : Type} (K : Exit → St → Option ρ) (z1 : Bool) : Option ρ := K .ret (mkS 53 (lv0 .ret).live [vb z1] [] [])
noncomputable def L (W0 : (ρ : Type) → LA → LO → (Unit → Option ρ) → (Bool → Option ρ) → Option ρ) : Lor := fun ρ j st K => sel (Nat.beq j 0) (cutO Tryz.prog 53 ct0.live 0 [] ct0.cmds st fun avs obs => W0 ρ avs obs (k0_0 K) (k0_r K)) (Option.none)
theorem step0 {Q0 Q1 Q2 W0} {ρ : Type} {K : Exit → St → Option ρ} {W : LA → LO → Option ρ} {v1 v2 v3 v4} : exC Tryz.prog (O Q0 Q1 Q2) (L W0) [] 1 c0 (mkS 53 ct0.live [vl v1, vl v2, vi v3, vi v4] [] []) (bodyK Tryz.prog 53 0 [] ct0 W lv0 K) =
    B0 (fun y1 => Q0 [vs y1]) (fun y1 y2 y3 => Q1 [vi y1, vi y2, vi y3]) (fun y1 y2 => Q2 [vl y1, vi y2]) v1 v2 v3 v4 (fun u1 u2 u3 u4 => W [vl u1, vl u2, vi u3, vi u4] []) (k0_0 K) (k0_r K) := by kernel_rfl
def enc0 (t : YVN × YVN × Int × Int) : LA × LO := ([vl t.1, vl t.2.1, vi t.2.2.1, vi t.2.2.2], [])
theorem enc0I (a b) (h : enc0 a = enc0 b) : a = b := by simp [enc0, zA] at h; simp [Prod.ext_iff, h]
noncomputable def V0 : (ρ : Type) → LA → LO → (Unit → Option ρ) → (Bool → Option ρ) → Option ρ := fun ρ avs obs k0 kr => ofC enc0 (fun t => un4 (F0 fuelN) t k0 kr) (avs, obs)
theorem zG (ρ : Type) : F0 fuelN = fun w1 w2 w3 w4 k0 kr => V0 ρ [vl w1, vl w2, vi w3, vi w4] [] k0 kr := by funext w1 w2 w3 w4 k0 kr; exact Eq.symm (zD enc0I _ (w1, w2, w3, w4))
theorem main {Q0 Q1 Q2 W0} {ρ : Type} {K : AV → LO → Option ρ} {a1} : exC Tryz.prog (O Q0 Q1 Q2) (L W0) [] 0 (zB Tryz.f182) (entry 53 [vl a1] [] []) (finO Tryz.prog Tryz.f182.results.toList 0 [] [] K) =
    B (fun w1 w2 w3 w4 k0 kr => W0 ρ [vl w1, vl w2, vi w3, vi w4] [] k0 kr) a1 (fun x1 => K (vb x1) []) := by kernel_rfl
theorem Gok : (O impl_PathOk.Q impl_inRange.Q impl_idAt.Q).ok Tryz.prog := zH (by exact ⟨qE_ok impl_PathOk.ac, qE_ok impl_inRange.ac, qE_ok impl_idAt.ac, trivial⟩) (by exact trivial)
theorem ok0 : OkL Tryz.prog (L V0) 0 (.loop c0) := fun ρ st K r h => zJ (ct := ct0) (lv := lv0) (L := (L V0)) Gok hmT (by rw [show zE [] 1 c0 = [] by kernel_rfl]; exact Lor.zF _ _) enc0I (fun k t => un4 (F0 k) t (k0_0 K) (k0_r K)) (fun t => rfl) (fun k t => by refine step0.trans ?_; rw [← impl_PathOk.wrap, ← impl_inRange.wrap, ← impl_idAt.wrap]; exact congrFun (congrFun (congrArg (B0 _ _ _ _ _ _ _) (fx4 fun t => zD enc0I _ t)) _) _) (fun _ => fuelN) h
theorem e : zE [] 0 (zB Tryz.f182) = [(0, 0, .loop c0)] := by kernel_rfl
theorem acc : ∀ t x, un1 F t = some x → ACc Tryz.prog 182 (encA t) [] true [] fun rv obs => (rv, obs) = encR x := accT (T := Vec YN) (F := un1 F) (L := (L V0)) (cmds := []) (body := (zB Tryz.f182)) Gok hmT Tryz.func182 (by kernel_rfl) (by kernel_rfl) (by rw [e]; exact Lor.zI ok0 (Lor.zF _ _)) (fun t => by refine main.trans ?_; rw [← zG]; exact congrArg (B _ _) (fx1 fun t => zD ZB some t))
theorem ac : ∀ a x, Q a = some x → AC Tryz.prog 182 a [] false [] fun rv obs => (rv, obs) = encR x := acF (body := (zB Tryz.f182)) Tryz.func182 (by kernel_rfl) (by kernel_rfl) acc fun x => ⟨by simp [encR, AV.Flat, K.Flat, C.Flat], fl0⟩
end impl_NamesOk
end Go.Al
