import Derived.Test.YtahffnkphppgoaaGreatAlE
import Derived.Test.YtahffnkphppgoaaGreatSC
import Derived.Test.YtahffnkphppgoaaGreatGAt
set_option linter.unusedVariables false
set_option linter.unusedSimpArgs false
set_option linter.constructorNameAsVariable false
set_option linter.unusedSectionVars false
set_option maxRecDepth 100000
namespace Go.Al
open Go.Proofs
namespace spec_l13Id
noncomputable def B0 {ρ : Type} (v1 : Vec YN) (v2 : Int) (v3 : Int) (W : YVN → Int → Int → Option ρ) (K0 : Unit → Option ρ) (Kr : Int → Option ρ) : Option ρ :=
  sel (decide (v3 < (v1.n : Int))) (chk (decide (0 ≤ v3 ∧ v3 < (v1.n : Int))) (sel (decide ((v1.g v3.toNat).2.1 = v2)) (Kr v3) (W v1 v2 (wr (v3 + (1 : Int)))))) (K0 ())
noncomputable def F0 {ρ : Type} : Nat → YVN → Int → Int → (Unit → Option ρ) → (Int → Option ρ) → Option ρ
  | 0, _, _, _, _, _ => none
  | k + 1, v1, v2, v3, K0, Kr => B0 v1 v2 v3 (fun v1' v2' v3' => F0 k v1' v2' v3' K0 Kr) K0 Kr
noncomputable def B {ρ : Type} (L0 : YVN → Int → Int → (Unit → Option ρ) → (Int → Option ρ) → Option ρ) (a1 : Vec YN) (a2 : Int) (K : Int → Option ρ) : Option ρ :=
  L0 a1 a2 (0 : Int) (fun _ => K (-1 : Int)) (fun x01 => K x01)
noncomputable def F (a1 : Vec YN) (a2 : Int) : Option Int := B (F0 fuelN) a1 a2 (fun x1 => some (x1))
def encA (t : YVN × Int) : LA := [vl t.1, vi t.2]
def encR (x : Int) : AV × LO := (vi x, [])
theorem ZA (a b) (h : encA a = encA b) : a = b := by simp [encA, zA] at h; simp [Prod.ext_iff, h]
theorem ZB (a b) (h : encR a = encR b) : a = b := by simpa [encR, zA] using h
noncomputable def Q (args : LA) : Option Int := ofC encA (un2 F) args
theorem wrap : F = fun y1 y2 => Q [vl y1, vi y2] := by funext y1 y2; exact Eq.symm (zD ZA _ (y1, y2))
noncomputable abbrev O : Orc := mkO [] [] []
noncomputable def c0 : Code := loopC (atomN [] 0 (zB Tryz.f61) 0)
def ct0 : Cut := ⟨[0, 1, 5], []⟩
def lv0 : Exit → Cut
  | .exit 0 => ⟨[], []⟩
  | .ret => ⟨[4], []⟩
  | _ => ⟨[], []⟩
def k0_0 {ρ : Type} (K : Exit → St → Option ρ) (_ : Unit) : Option ρ := K (.exit 0) (mkS 20 (lv0 (.exit 0)).live [] [] [])
def k0_r {ρ : Type} (K : Exit → St → Option ρ) (z1 : Int) : Option ρ := K .ret (mkS 20 (lv0 .ret).live [vi z1] [] [])
noncomputable def L (W0 : (ρ : Type) → LA → LO → (Unit → Option ρ) → (Int → Option ρ) → Option ρ) : Lor := fun ρ j st K => sel (Nat.beq j 0) (cutO Tryz.prog 20 ct0.live 0 [] ct0.cmds st fun avs obs => W0 ρ avs obs (k0_0 K) (k0_r K)) (Option.none)
theorem step0 {W0} {ρ : Type} {K : Exit → St → Option ρ} {W : LA → LO → Option ρ} {v1 v2 v3} : exC Tryz.prog O (L W0) [] 1 c0 (mkS 20 ct0.live [vl v1, vi v2, vi v3] [] []) (bodyK Tryz.prog 20 0 [] ct0 W lv0 K) =
    B0 v1 v2 v3 (fun u1 u2 u3 => W [vl u1, vi u2, vi u3] []) (k0_0 K) (k0_r K) := by kernel_rfl
def enc0 (t : YVN × Int × Int) : LA × LO := ([vl t.1, vi t.2.1, vi t.2.2], [])
theorem enc0I (a b) (h : enc0 a = enc0 b) : a = b := by simp [enc0, zA] at h; simp [Prod.ext_iff, h]
noncomputable def V0 : (ρ : Type) → LA → LO → (Unit → Option ρ) → (Int → Option ρ) → Option ρ := fun ρ avs obs k0 kr => ofC enc0 (fun t => un3 (F0 fuelN) t k0 kr) (avs, obs)
theorem zG (ρ : Type) : F0 fuelN = fun w1 w2 w3 k0 kr => V0 ρ [vl w1, vi w2, vi w3] [] k0 kr := by funext w1 w2 w3 k0 kr; exact Eq.symm (zD enc0I _ (w1, w2, w3))
theorem main {W0} {ρ : Type} {K : AV → LO → Option ρ} {a1 a2} : exC Tryz.prog O (L W0) [] 0 (zB Tryz.f61) (entry 20 [vl a1, vi a2] [] []) (finO Tryz.prog Tryz.f61.results.toList 0 [] [] K) =
    B (fun w1 w2 w3 k0 kr => W0 ρ [vl w1, vi w2, vi w3] [] k0 kr) a1 a2 (fun x1 => K (vi x1) []) := by kernel_rfl
theorem Gok : O.ok Tryz.prog := zH (by exact trivial) (by exact trivial)
theorem ok0 : OkL Tryz.prog (L V0) 0 (.loop c0) := fun ρ st K r h => zJ (ct := ct0) (lv := lv0) (L := (L V0)) Gok hmT (by rw [show zE [] 1 c0 = [] by kernel_rfl]; exact Lor.zF _ _) enc0I (fun k t => un3 (F0 k) t (k0_0 K) (k0_r K)) (fun t => rfl) (fun k t => by refine step0.trans ?_; exact congrFun (congrFun (congrArg (B0 _ _ _) (fx3 fun t => zD enc0I _ t)) _) _) (fun _ => fuelN) h
theorem e : zE [] 0 (zB Tryz.f61) = [(0, 0, .loop c0)] := by kernel_rfl
theorem acc : ∀ t x, un2 F t = some x → ACc Tryz.prog 61 (encA t) [] true [] fun rv obs => (rv, obs) = encR x := accT (T := YVN × Int) (F := un2 F) (L := (L V0)) (cmds := []) (body := (zB Tryz.f61)) Gok hmT Tryz.func61 (by kernel_rfl) (by kernel_rfl) (by rw [e]; exact Lor.zI ok0 (Lor.zF _ _)) (fun t => by refine main.trans ?_; rw [← zG]; exact congrArg (B _ _ _) (fx1 fun t => zD ZB some t))
theorem ac : ∀ a x, Q a = some x → AC Tryz.prog 61 a [] false [] fun rv obs => (rv, obs) = encR x := acF (body := (zB Tryz.f61)) Tryz.func61 (by kernel_rfl) (by kernel_rfl) acc fun x => ⟨by simp [encR, AV.Flat, K.Flat, C.Flat], fl0⟩
end spec_l13Id
namespace spec_l06Has
noncomputable def B {ρ : Type} (C0 : Int → Int → Int → Option Bool) (a1 : Vec YI) (a2 : Vec YB) (a3 : Int) (K : Bool → Option ρ) : Option ρ :=
  (C0 a3 (0 : Int) (wr ((a1.n : Int) - (1 : Int)))).bind fun r1 => K r1
noncomputable def F (a1 : Vec YI) (a2 : Vec YB) (a3 : Int) : Option Bool := B spec_l01In.F a1 a2 a3 (fun x1 => some (x1))
def encA (t : Vec YI × YVB × Int) : LA := [.a [cl t.1, cl t.2.1], vi t.2.2]
def encR (x : Bool) : AV × LO := (vb x, [])
theorem ZA (a b) (h : encA a = encA b) : a = b := by simp [encA, zA] at h; simp [Prod.ext_iff, h]
theorem ZB (a b) (h : encR a = encR b) : a = b := by simpa [encR, zA] using h
noncomputable def Q (args : LA) : Option Bool := ofC encA (un3 F) args
theorem wrap : F = fun y1 y2 y3 => Q [.a [cl y1, cl y2], vi y3] := by funext y1 y2 y3; exact Eq.symm (zD ZA _ (y1, y2, y3))
noncomputable abbrev O (Q0 : LA → Option Bool) : Orc := mkO [qE 119 false spec_l01In.encR Q0] [] []
noncomputable def L : Lor := fun _ _ _ _ => Option.none
theorem main {Q0} {ρ : Type} {K : AV → LO → Option ρ} {a1 a2 a3} : exC Tryz.prog (O Q0) L [] 0 (zB Tryz.f106) (entry 11 [.a [cl a1, cl a2], vi a3] [] []) (finO Tryz.prog Tryz.f106.results.toList 0 [] [] K) =
    B (fun y1 y2 y3 => Q0 [vi y1, vi y2, vi y3]) a1 a2 a3 (fun x1 => K (vb x1) []) := by kernel_rfl
theorem Gok : (O spec_l01In.Q).ok Tryz.prog := zH (by exact ⟨qE_ok spec_l01In.ac, trivial⟩) (by exact trivial)
theorem acc : ∀ t x, un3 F t = some x → ACc Tryz.prog 106 (encA t) [] true [] fun rv obs => (rv, obs) = encR x := accT (T := Vec YI × YVB × Int) (F := un3 F) (L := L) (cmds := []) (body := (zB Tryz.f106)) Gok hmT Tryz.func106 (by kernel_rfl) (by kernel_rfl) (by rw [show zE [] 0 (zB Tryz.f106) = [] by kernel_rfl]; exact Lor.zF _ _) (fun t => by refine main.trans ?_; rw [← spec_l01In.wrap]; exact congrArg (B _ _ _ _) (fx1 fun t => zD ZB some t))
theorem ac : ∀ a x, Q a = some x → AC Tryz.prog 106 a [] false [] fun rv obs => (rv, obs) = encR x := acF (body := (zB Tryz.f106)) Tryz.func106 (by kernel_rfl) (by kernel_rfl) acc fun x => ⟨by simp [encR, AV.Flat, K.Flat, C.Flat], fl0⟩
end spec_l06Has
namespace spec_l09Note
noncomputable def B {ρ : Type} (a1 : ByteArray) (a2 : Int) (a3 : Int) (a4 : YI) (K : Int → Int → ByteArray → Option ρ) : Option ρ :=
  K a2 a3 a1
noncomputable def F (a1 : ByteArray) (a2 : Int) (a3 : Int) (a4 : YI) : Option YM := B a1 a2 a3 a4 (fun x1 x2 x3 => some (x1, x2, x3))
def encA (t : ByteArray × Int × Int × YI) : LA := [.a [cs t.1, ci t.2.1, ci t.2.2.1, cl t.2.2.2]]
def encR (x : YM) : AV × LO := (.a [ci x.1, ci x.2.1, cs x.2.2], [])
theorem ZA (a b) (h : encA a = encA b) : a = b := by simp [encA, zA] at h; simp [Prod.ext_iff, h]
theorem ZB (a b) (h : encR a = encR b) : a = b := by simp [encR, zA] at h; simp [Prod.ext_iff, h]
noncomputable def Q (args : LA) : Option YM := ofC encA (un4 F) args
theorem wrap : F = fun y1 y2 y3 y4 => Q [.a [cs y1, ci y2, ci y3, cl y4]] := by funext y1 y2 y3 y4; exact Eq.symm (zD ZA _ (y1, y2, y3, y4))
noncomputable abbrev O : Orc := mkO [] [] []
noncomputable def L : Lor := fun _ _ _ _ => Option.none
theorem main {ρ : Type} {K : AV → LO → Option ρ} {a1 a2 a3 a4} : exC Tryz.prog O L [] 0 (zB Tryz.f109) (entry 10 [.a [cs a1, ci a2, ci a3, cl a4]] [] []) (finO Tryz.prog Tryz.f109.results.toList 0 [] [] K) =
    B a1 a2 a3 a4 (fun x1 x2 x3 => K (.a [ci x1, ci x2, cs x3]) []) := by kernel_rfl
theorem Gok : O.ok Tryz.prog := zH (by exact trivial) (by exact trivial)
theorem acc : ∀ t x, un4 F t = some x → ACc Tryz.prog 109 (encA t) [] true [] fun rv obs => (rv, obs) = encR x := accT (T := ByteArray × Int × Int × YI) (F := un4 F) (L := L) (cmds := []) (body := (zB Tryz.f109)) Gok hmT Tryz.func109 (by kernel_rfl) (by kernel_rfl) (by rw [show zE [] 0 (zB Tryz.f109) = [] by kernel_rfl]; exact Lor.zF _ _) (fun t => by refine main.trans ?_; exact congrArg (B _ _ _ _) (fx3 fun t => zD ZB some t))
theorem ac : ∀ a x, Q a = some x → AC Tryz.prog 109 a [] false [] fun rv obs => (rv, obs) = encR x := acF (body := (zB Tryz.f109)) Tryz.func109 (by kernel_rfl) (by kernel_rfl) acc fun x => ⟨by simp [encR, AV.Flat, K.Flat, C.Flat], fl0⟩
end spec_l09Note
namespace spec_Compare
noncomputable def B0 {ρ : Type} (C3 : ByteArray → Int → Int → YI → YX → Option Bool) (C4 : ByteArray → Int → Int → YI → Option YM) (v1 : Int) (v2 : Vec YI) (v3 : Vec YB) (v4 : Vec YP) (v5 : YX) (v6 : YX) (W : Int → YG → YVB → YVP → YX → YX → Option ρ) (K0 : YVP → Option ρ) : Option ρ :=
  sel (decide (v1 < (v3.n : Int))) (chk (decide (0 ≤ v1 ∧ v1 < (v3.n : Int))) ((C3 ((v3.g v1.toNat).1) ((v3.g v1.toNat).2.1) ((v3.g v1.toNat).2.2.1) ((v3.g v1.toNat).2.2.2) v5).bind fun r6 => chk (decide (0 ≤ v1 ∧ v1 < (v3.n : Int))) ((C3 ((v3.g v1.toNat).1) ((v3.g v1.toNat).2.1) ((v3.g v1.toNat).2.2.1) ((v3.g v1.toNat).2.2.2) v6).bind fun r7 => sel ((!r7)) (sel (r6) (chk (decide (0 ≤ v1 ∧ v1 < (v3.n : Int))) ((C4 ((v3.g v1.toNat).1) ((v3.g v1.toNat).2.1) ((v3.g v1.toNat).2.2.1) ((v3.g v1.toNat).2.2.2)).bind fun r8 => chk (decide ((v4.n + (Vec.lit [((2 : Int), r8.1, r8.2.1, r8.2.2)] : Vec YP).n) * 41 ≤ maxN)) (W (wr (v1 + (1 : Int))) v2 v3 (Vec.app v4 (Vec.lit [((2 : Int), r8.1, r8.2.1, r8.2.2)] : Vec YP)) v5 v6))) (sel (r7) (chk (decide (0 ≤ v1 ∧ v1 < (v3.n : Int))) ((C4 ((v3.g v1.toNat).1) ((v3.g v1.toNat).2.1) ((v3.g v1.toNat).2.2.1) ((v3.g v1.toNat).2.2.2)).bind fun r9 => chk (decide ((v4.n + (Vec.lit [((2 : Int), r9.1, r9.2.1, r9.2.2)] : Vec YP).n) * 41 ≤ maxN)) (W (wr (v1 + (1 : Int))) v2 v3 (Vec.app v4 (Vec.lit [((2 : Int), r9.1, r9.2.1, r9.2.2)] : Vec YP)) v5 v6))) (W (wr (v1 + (1 : Int))) v2 v3 v4 v5 v6))) (sel ((!r6)) (sel (r6) (chk (decide (0 ≤ v1 ∧ v1 < (v3.n : Int))) ((C4 ((v3.g v1.toNat).1) ((v3.g v1.toNat).2.1) ((v3.g v1.toNat).2.2.1) ((v3.g v1.toNat).2.2.2)).bind fun r10 => chk (decide ((v4.n + (Vec.lit [((3 : Int), r10.1, r10.2.1, r10.2.2)] : Vec YP).n) * 41 ≤ maxN)) (W (wr (v1 + (1 : Int))) v2 v3 (Vec.app v4 (Vec.lit [((3 : Int), r10.1, r10.2.1, r10.2.2)] : Vec YP)) v5 v6))) (sel (r7) (chk (decide (0 ≤ v1 ∧ v1 < (v3.n : Int))) ((C4 ((v3.g v1.toNat).1) ((v3.g v1.toNat).2.1) ((v3.g v1.toNat).2.2.1) ((v3.g v1.toNat).2.2.2)).bind fun r11 => chk (decide ((v4.n + (Vec.lit [((3 : Int), r11.1, r11.2.1, r11.2.2)] : Vec YP).n) * 41 ≤ maxN)) (W (wr (v1 + (1 : Int))) v2 v3 (Vec.app v4 (Vec.lit [((3 : Int), r11.1, r11.2.1, r11.2.2)] : Vec YP)) v5 v6))) (W (wr (v1 + (1 : Int))) v2 v3 v4 v5 v6))) (sel (r6) (chk (decide (0 ≤ v1 ∧ v1 < (v3.n : Int))) ((C4 ((v3.g v1.toNat).1) ((v3.g v1.toNat).2.1) ((v3.g v1.toNat).2.2.1) ((v3.g v1.toNat).2.2.2)).bind fun r12 => chk (decide ((v4.n + (Vec.lit [((1 : Int), r12.1, r12.2.1, r12.2.2)] : Vec YP).n) * 41 ≤ maxN)) (W (wr (v1 + (1 : Int))) v2 v3 (Vec.app v4 (Vec.lit [((1 : Int), r12.1, r12.2.1, r12.2.2)] : Vec YP)) v5 v6))) (sel (r7) (chk (decide (0 ≤ v1 ∧ v1 < (v3.n : Int))) ((C4 ((v3.g v1.toNat).1) ((v3.g v1.toNat).2.1) ((v3.g v1.toNat).2.2.1) ((v3.g v1.toNat).2.2.2)).bind fun r13 => chk (decide ((v4.n + (Vec.lit [((1 : Int), r13.1, r13.2.1, r13.2.2)] : Vec YP).n) * 41 ≤ maxN)) (W (wr (v1 + (1 : Int))) v2 v3 (Vec.app v4 (Vec.lit [((1 : Int), r13.1, r13.2.1, r13.2.2)] : Vec YP)) v5 v6))) (W (wr (v1 + (1 : Int))) v2 v3 v4 v5 v6))))))) (K0 v4)
noncomputable def F0 {ρ : Type} : Nat → Int → YG → YVB → YVP → YX → YX → (YVP → Option ρ) → Option ρ
  | 0, _, _, _, _, _, _, _ => none
  | k + 1, v1, v2, v3, v4, v5, v6, K0 => B0 spec_l06Live.F spec_l09Note.F v1 v2 v3 v4 v5 v6 (fun v1' v2' v3' v4' v5' v6' => F0 k v1' v2' v3' v4' v5' v6' K0) K0
noncomputable def B {ρ : Type} (C0 : YG → YVB → Option Bool) (C1 : YG → YVB → Int → Option Bool) (C2 : YG → YVB → Int → Option YX) (L0 : Int → YG → YVB → YVP → YX → YX → (YVP → Option ρ) → Option ρ) (a1 : Vec YI) (a2 : Vec YB) (a3 : Int) (a4 : Int) (K : Int → YVP → Option ρ) : Option ρ :=
  (C0 a1 a2).bind fun r1 => sel ((!r1)) (K (1 : Int) (Vec.nil : Vec YP)) ((C1 a1 a2 a3).bind fun r2 => sel ((!r2)) (K (2 : Int) (Vec.nil : Vec YP)) ((C1 a1 a2 a4).bind fun r3 => sel ((!r3)) (K (2 : Int) (Vec.nil : Vec YP)) ((C2 a1 a2 a3).bind fun r4 => (C2 a1 a2 a4).bind fun r5 => L0 (0 : Int) a1 a2 (Vec.nil : Vec YP) r4 r5 (fun e01 => K (0 : Int) e01))))
noncomputable def F (a1 : Vec YI) (a2 : Vec YB) (a3 : Int) (a4 : Int) : Option (Int × YVP) := B spec_WeaveOk.F spec_l06Has.F spec_l06Closure.F (F0 fuelN) a1 a2 a3 a4 (fun x1 x2 => some (x1, x2))
def encA (t : Vec YI × YVB × Int × Int) : LA := [.a [cl t.1, cl t.2.1], vi t.2.2.1, vi t.2.2.2]
def encR (x : Int × YVP) : AV × LO := (.tup [.c (.h 0), .c (ci x.1)], [ro x.2])
theorem ZA (a b) (h : encA a = encA b) : a = b := by simp [encA, zA] at h; simp [Prod.ext_iff, h]
theorem ZB (a b) (h : encR a = encR b) : a = b := by simp [encR, zA] at h; simp [Prod.ext_iff, h]
noncomputable def Q (args : LA) : Option (Int × YVP) := ofC encA (un4 F) args
theorem wrap : F = fun y1 y2 y3 y4 => Q [.a [cl y1, cl y2], vi y3, vi y4] := by funext y1 y2 y3 y4; exact Eq.symm (zD ZA _ (y1, y2, y3, y4))
noncomputable abbrev O (Q0 : LA → Option Bool) (Q1 : LA → Option Bool) (Q2 : LA → Option YX) (Q3 : LA → Option Bool) (Q4 : LA → Option YM) : Orc := mkO [qE 105 false spec_WeaveOk.encR Q0, qE 106 false spec_l06Has.encR Q1, qE 108 false spec_l06Closure.encR Q2, qE 155 false spec_l06Live.encR Q3, qE 109 false spec_l09Note.encR Q4] [] []
noncomputable def c0 : Code := loopC (atomN [] 0 (zB Tryz.f178) 0)
def ct0 : Cut := ⟨[3, 8, 9, 10, 11], [.ad (.s 8) 219]⟩
def lv0 : Exit → Cut
  | .exit 0 => ⟨[8], []⟩
  | _ => ⟨[], []⟩
def k0_0 {ρ : Type} (K : Exit → St → Option ρ) (z1 : Vec YP) : Option ρ := K (.exit 0) (mkS 78 (lv0 (.exit 0)).live [.c (.h 0)] [ro z1] [])
noncomputable def L (W0 : (ρ : Type) → LA → LO → (YVP → Option ρ) → Option ρ) : Lor := fun ρ j st K => sel (Nat.beq j 0) (cutO Tryz.prog 78 ct0.live 0 [] ct0.cmds st fun avs obs => W0 ρ avs obs (k0_0 K)) (Option.none)
theorem step0 {Q0 Q1 Q2 Q3 Q4 W0} {ρ : Type} {K : Exit → St → Option ρ} {W : LA → LO → Option ρ} {v1 v2 v3 v4 v5 v6} : exC Tryz.prog (O Q0 Q1 Q2 Q3 Q4) (L W0) [] 1 c0 (mkS 78 ct0.live [.c (.p 0 0), .c (.h 1), .c (.h 2), .c (.h 3), vi v1] [.box [cl v2, cl v3], ro v4, ro v5, ro v6] []) (bodyK Tryz.prog 78 0 [] ct0 W lv0 K) =
    B0 (fun y1 y2 y3 y4 y5 => Q3 [.a [cs y1, ci y2, ci y3, cl y4], vl y5]) (fun y1 y2 y3 y4 => Q4 [.a [cs y1, ci y2, ci y3, cl y4]]) v1 v2 v3 v4 v5 v6 (fun u1 u2 u3 u4 u5 u6 => W [.c (.p 0 0), .c (.h 1), .c (.h 2), .c (.h 3), vi u1] [.box [cl u2, cl u3], ro u4, ro u5, ro u6]) (k0_0 K) := by kernel_rfl
def enc0 (t : Int × Vec YI × YVB × YVP × Vec Bool × Vec Bool) : LA × LO := ([.c (.p 0 0), .c (.h 1), .c (.h 2), .c (.h 3), vi t.1], [.box [cl t.2.1, cl t.2.2.1], ro t.2.2.2.1, ro t.2.2.2.2.1, ro t.2.2.2.2.2])
theorem enc0I (a b) (h : enc0 a = enc0 b) : a = b := by simp [enc0, zA] at h; simp [Prod.ext_iff, h]
noncomputable def V0 : (ρ : Type) → LA → LO → (YVP → Option ρ) → Option ρ := fun ρ avs obs k0 => ofC enc0 (fun t => un6 (F0 fuelN) t k0) (avs, obs)
theorem zG (ρ : Type) : F0 fuelN = fun w1 w2 w3 w4 w5 w6 k0 => V0 ρ [.c (.p 0 0), .c (.h 1), .c (.h 2), .c (.h 3), vi w1] [.box [cl w2, cl w3], ro w4, ro w5, ro w6] k0 := by funext w1 w2 w3 w4 w5 w6 k0; exact Eq.symm (zD enc0I _ (w1, w2, w3, w4, w5, w6))
theorem main {Q0 Q1 Q2 Q3 Q4 W0} {ρ : Type} {K : AV → LO → Option ρ} {a1 a2 a3 a4} : exC Tryz.prog (O Q0 Q1 Q2 Q3 Q4) (L W0) [] 0 (zB Tryz.f178) (entry 78 [.a [cl a1, cl a2], vi a3, vi a4] [] []) (finO Tryz.prog Tryz.f178.results.toList 0 [] [.ad (.s 6) 219] K) =
    B (fun y1 y2 => Q0 [.a [cl y1, cl y2]]) (fun y1 y2 y3 => Q1 [.a [cl y1, cl y2], vi y3]) (fun y1 y2 y3 => Q2 [.a [cl y1, cl y2], vi y3]) (fun w1 w2 w3 w4 w5 w6 k0 => W0 ρ [.c (.p 0 0), .c (.h 1), .c (.h 2), .c (.h 3), vi w1] [.box [cl w2, cl w3], ro w4, ro w5, ro w6] k0) a1 a2 a3 a4 (fun x1 x2 => K (.tup [.c (.h 0), .c (ci x1)]) [ro x2]) := by kernel_rfl
theorem Gok : (O spec_WeaveOk.Q spec_l06Has.Q spec_l06Closure.Q spec_l06Live.Q spec_l09Note.Q).ok Tryz.prog := zH (by exact ⟨qE_ok spec_WeaveOk.ac, qE_ok spec_l06Has.ac, qE_ok spec_l06Closure.ac, qE_ok spec_l06Live.ac, qE_ok spec_l09Note.ac, trivial⟩) (by exact trivial)
theorem ok0 : OkL Tryz.prog (L V0) 0 (.loop c0) := fun ρ st K r h => zJ (ct := ct0) (lv := lv0) (L := (L V0)) Gok hmT (by rw [show zE [] 1 c0 = [] by kernel_rfl]; exact Lor.zF _ _) enc0I (fun k t => un6 (F0 k) t (k0_0 K)) (fun t => rfl) (fun k t => by refine step0.trans ?_; rw [← spec_l06Live.wrap, ← spec_l09Note.wrap]; exact congrFun (congrArg (B0 _ _ _ _ _ _ _ _) (fx6 fun t => zD enc0I _ t)) _) (fun _ => fuelN) h
theorem e : zE [] 0 (zB Tryz.f178) = [(0, 0, .loop c0)] := by kernel_rfl
theorem acc : ∀ t x, un4 F t = some x → ACc Tryz.prog 178 (encA t) [] true [] fun rv obs => (rv, obs) = encR x := accT (T := Vec YI × YVB × Int × Int) (F := un4 F) (L := (L V0)) (cmds := [.ad (.s 6) 219]) (body := (zB Tryz.f178)) Gok hmT Tryz.func178 (by kernel_rfl) (by kernel_rfl) (by rw [e]; exact Lor.zI ok0 (Lor.zF _ _)) (fun t => by refine main.trans ?_; rw [← spec_WeaveOk.wrap, ← spec_l06Has.wrap, ← spec_l06Closure.wrap, ← zG]; exact congrArg (B _ _ _ _ _ _ _ _) (fx2 fun t => zD ZB some t))
theorem ac : ∀ a x, Q a = some x → AC Tryz.prog 178 a [] false [] fun rv obs => (rv, obs) = encR x := acF (body := (zB Tryz.f178)) Tryz.func178 (by kernel_rfl) (by kernel_rfl) acc fun x => ⟨by simp [encR, AV.Flat, K.Flat, C.Flat], flc (zN rfl _) (fl0)⟩
end spec_Compare
namespace spec_MarksOf
noncomputable def B0 {ρ : Type} (v1 : Int) (v2 : Vec YP) (v3 : Vec YP) (v4 : YX) (v5 : YX) (W : Int → YVP → YVP → YX → YX → Option ρ) (K0 : YVP → Option ρ) : Option ρ :=
  sel (decide (v1 < (v2.n : Int))) (chk (decide (0 ≤ v1 ∧ v1 < (v2.n : Int))) (chk (decide (v1.toNat < v2.n)) (chk (decide (0 ≤ v1 ∧ v1 < (v2.n : Int))) (chk (decide (v1.toNat < v2.n)) (sel (decide ((v2.g v1.toNat).1 = (2 : Int))) (chk (decide (0 ≤ (v2.g v1.toNat).2.1 ∧ (v2.g v1.toNat).2.1 < (v5.n : Int))) (chk (decide (((v2.g v1.toNat).2.1).toNat < v5.n)) (sel ((v5.g (((v2.g v1.toNat).2.1).toNat))) (chk (decide ((v3.n + (Vec.lit [((5 : Int), (v2.g v1.toNat).2.1, (v2.g v1.toNat).2.2.1, (v2.g v1.toNat).2.2.2)] : Vec YP).n) * 41 ≤ maxN)) (W (wr (v1 + (1 : Int))) v2 (Vec.app v3 (Vec.lit [((5 : Int), (v2.g v1.toNat).2.1, (v2.g v1.toNat).2.2.1, (v2.g v1.toNat).2.2.2)] : Vec YP)) v4 v5)) (chk (decide ((v3.n + (Vec.lit [((2 : Int), (v2.g v1.toNat).2.1, (v2.g v1.toNat).2.2.1, (v2.g v1.toNat).2.2.2)] : Vec YP).n) * 41 ≤ maxN)) (W (wr (v1 + (1 : Int))) v2 (Vec.app v3 (Vec.lit [((2 : Int), (v2.g v1.toNat).2.1, (v2.g v1.toNat).2.2.1, (v2.g v1.toNat).2.2.2)] : Vec YP)) v4 v5))))) (sel (decide ((v2.g v1.toNat).1 = (3 : Int))) (chk (decide (0 ≤ (v2.g v1.toNat).2.1 ∧ (v2.g v1.toNat).2.1 < (v4.n : Int))) (chk (decide (((v2.g v1.toNat).2.1).toNat < v4.n)) (sel ((v4.g (((v2.g v1.toNat).2.1).toNat))) (chk (decide ((v3.n + (Vec.lit [((4 : Int), (v2.g v1.toNat).2.1, (v2.g v1.toNat).2.2.1, (v2.g v1.toNat).2.2.2)] : Vec YP).n) * 41 ≤ maxN)) (W (wr (v1 + (1 : Int))) v2 (Vec.app v3 (Vec.lit [((4 : Int), (v2.g v1.toNat).2.1, (v2.g v1.toNat).2.2.1, (v2.g v1.toNat).2.2.2)] : Vec YP)) v4 v5)) (chk (decide ((v3.n + (Vec.lit [((3 : Int), (v2.g v1.toNat).2.1, (v2.g v1.toNat).2.2.1, (v2.g v1.toNat).2.2.2)] : Vec YP).n) * 41 ≤ maxN)) (W (wr (v1 + (1 : Int))) v2 (Vec.app v3 (Vec.lit [((3 : Int), (v2.g v1.toNat).2.1, (v2.g v1.toNat).2.2.1, (v2.g v1.toNat).2.2.2)] : Vec YP)) v4 v5))))) (chk (decide ((v3.n + (Vec.lit [((1 : Int), (v2.g v1.toNat).2.1, (v2.g v1.toNat).2.2.1, (v2.g v1.toNat).2.2.2)] : Vec YP).n) * 41 ≤ maxN)) (W (wr (v1 + (1 : Int))) v2 (Vec.app v3 (Vec.lit [((1 : Int), (v2.g v1.toNat).2.1, (v2.g v1.toNat).2.2.1, (v2.g v1.toNat).2.2.2)] : Vec YP)) v4 v5)))))))) (K0 v3)
noncomputable def F0 {ρ : Type} : Nat → Int → YVP → YVP → YX → YX → (YVP → Option ρ) → Option ρ
  | 0, _, _, _, _, _, _ => none
  | k + 1, v1, v2, v3, v4, v5, K0 => B0 v1 v2 v3 v4 v5 (fun v1' v2' v3' v4' v5' => F0 k v1' v2' v3' v4' v5' K0) K0
noncomputable def B {ρ : Type} (C0 : YG → YVB → Int → Int → Option (Int × YVP)) (C1 : YG → YVB → Int → Option YX) (L0 : Int → YVP → YVP → YX → YX → (YVP → Option ρ) → Option ρ) (a1 : Vec YI) (a2 : Vec YB) (a3 : Int) (a4 : Int) (K : Int → YVP → Option ρ) : Option ρ :=
  (C0 a1 a2 a3 a4).bind fun r1 => sel ((!decide (r1.1 = (0 : Int)))) (K r1.1 (Vec.nil : Vec YP)) ((C1 a1 a2 a3).bind fun r2 => (C1 a1 a2 a4).bind fun r3 => L0 (0 : Int) r1.2 (Vec.nil : Vec YP) r2 r3 (fun e01 => K (0 : Int) e01))
noncomputable def F (a1 : Vec YI) (a2 : Vec YB) (a3 : Int) (a4 : Int) : Option (Int × YVP) := B spec_Compare.F spec_l06Closure.F (F0 fuelN) a1 a2 a3 a4 (fun x1 x2 => some (x1, x2))
def encA (t : Vec YI × YVB × Int × Int) : LA := [.a [cl t.1, cl t.2.1], vi t.2.2.1, vi t.2.2.2]
def encR (x : Int × YVP) : AV × LO := (.tup [.c (.h 0), .c (ci x.1)], [ro x.2])
theorem ZA (a b) (h : encA a = encA b) : a = b := by simp [encA, zA] at h; simp [Prod.ext_iff, h]
theorem ZB (a b) (h : encR a = encR b) : a = b := by simp [encR, zA] at h; simp [Prod.ext_iff, h]
noncomputable def Q (args : LA) : Option (Int × YVP) := ofC encA (un4 F) args
theorem wrap : F = fun y1 y2 y3 y4 => Q [.a [cl y1, cl y2], vi y3, vi y4] := by funext y1 y2 y3 y4; exact Eq.symm (zD ZA _ (y1, y2, y3, y4))
noncomputable abbrev O (Q0 : LA → Option (Int × YVP)) (Q1 : LA → Option YX) : Orc := mkO [qE 178 false spec_Compare.encR Q0, qE 108 false spec_l06Closure.encR Q1] [] []
noncomputable def c0 : Code := loopC (atomN [] 0 (zB Tryz.f120) 0)
def ct0 : Cut := ⟨[8, 10, 11, 12, 13], [.ad (.s 10) 168]⟩
def lv0 : Exit → Cut
  | .exit 0 => ⟨[10], []⟩
  | _ => ⟨[], []⟩
def k0_0 {ρ : Type} (K : Exit → St → Option ρ) (z1 : Vec YP) : Option ρ := K (.exit 0) (mkS 75 (lv0 (.exit 0)).live [.c (.h 0)] [ro z1] [])
noncomputable def L (W0 : (ρ : Type) → LA → LO → (YVP → Option ρ) → Option ρ) : Lor := fun ρ j st K => sel (Nat.beq j 0) (cutO Tryz.prog 75 ct0.live 0 [] ct0.cmds st fun avs obs => W0 ρ avs obs (k0_0 K)) (Option.none)
theorem step0 {Q0 Q1 W0} {ρ : Type} {K : Exit → St → Option ρ} {W : LA → LO → Option ρ} {v1 v2 v3 v4 v5} : exC Tryz.prog (O Q0 Q1) (L W0) [] 1 c0 (mkS 75 ct0.live [.c (.h 0), .c (.h 1), .c (.h 2), .c (.h 3), vi v1] [ro v2, ro v3, ro v4, ro v5] []) (bodyK Tryz.prog 75 0 [] ct0 W lv0 K) =
    B0 v1 v2 v3 v4 v5 (fun u1 u2 u3 u4 u5 => W [.c (.h 0), .c (.h 1), .c (.h 2), .c (.h 3), vi u1] [ro u2, ro u3, ro u4, ro u5]) (k0_0 K) := by kernel_rfl
def enc0 (t : Int × YVP × YVP × Vec Bool × Vec Bool) : LA × LO := ([.c (.h 0), .c (.h 1), .c (.h 2), .c (.h 3), vi t.1], [ro t.2.1, ro t.2.2.1, ro t.2.2.2.1, ro t.2.2.2.2])
theorem enc0I (a b) (h : enc0 a = enc0 b) : a = b := by simp [enc0, zA] at h; simp [Prod.ext_iff, h]
noncomputable def V0 : (ρ : Type) → LA → LO → (YVP → Option ρ) → Option ρ := fun ρ avs obs k0 => ofC enc0 (fun t => un5 (F0 fuelN) t k0) (avs, obs)
theorem zG (ρ : Type) : F0 fuelN = fun w1 w2 w3 w4 w5 k0 => V0 ρ [.c (.h 0), .c (.h 1), .c (.h 2), .c (.h 3), vi w1] [ro w2, ro w3, ro w4, ro w5] k0 := by funext w1 w2 w3 w4 w5 k0; exact Eq.symm (zD enc0I _ (w1, w2, w3, w4, w5))
theorem main {Q0 Q1 W0} {ρ : Type} {K : AV → LO → Option ρ} {a1 a2 a3 a4} : exC Tryz.prog (O Q0 Q1) (L W0) [] 0 (zB Tryz.f120) (entry 75 [.a [cl a1, cl a2], vi a3, vi a4] [] []) (finO Tryz.prog Tryz.f120.results.toList 0 [] [.ad (.s 6) 168] K) =
    B (fun y1 y2 y3 y4 => Q0 [.a [cl y1, cl y2], vi y3, vi y4]) (fun y1 y2 y3 => Q1 [.a [cl y1, cl y2], vi y3]) (fun w1 w2 w3 w4 w5 k0 => W0 ρ [.c (.h 0), .c (.h 1), .c (.h 2), .c (.h 3), vi w1] [ro w2, ro w3, ro w4, ro w5] k0) a1 a2 a3 a4 (fun x1 x2 => K (.tup [.c (.h 0), .c (ci x1)]) [ro x2]) := by kernel_rfl
theorem Gok : (O spec_Compare.Q spec_l06Closure.Q).ok Tryz.prog := zH (by exact ⟨qE_ok spec_Compare.ac, qE_ok spec_l06Closure.ac, trivial⟩) (by exact trivial)
theorem ok0 : OkL Tryz.prog (L V0) 0 (.loop c0) := fun ρ st K r h => zJ (ct := ct0) (lv := lv0) (L := (L V0)) Gok hmT (by rw [show zE [] 1 c0 = [] by kernel_rfl]; exact Lor.zF _ _) enc0I (fun k t => un5 (F0 k) t (k0_0 K)) (fun t => rfl) (fun k t => by refine step0.trans ?_; exact congrFun (congrArg (B0 _ _ _ _ _) (fx5 fun t => zD enc0I _ t)) _) (fun _ => fuelN) h
theorem e : zE [] 0 (zB Tryz.f120) = [(0, 0, .loop c0)] := by kernel_rfl
theorem acc : ∀ t x, un4 F t = some x → ACc Tryz.prog 120 (encA t) [] true [] fun rv obs => (rv, obs) = encR x := accT (T := Vec YI × YVB × Int × Int) (F := un4 F) (L := (L V0)) (cmds := [.ad (.s 6) 168]) (body := (zB Tryz.f120)) Gok hmT Tryz.func120 (by kernel_rfl) (by kernel_rfl) (by rw [e]; exact Lor.zI ok0 (Lor.zF _ _)) (fun t => by refine main.trans ?_; rw [← spec_Compare.wrap, ← spec_l06Closure.wrap, ← zG]; exact congrArg (B _ _ _ _ _ _ _) (fx2 fun t => zD ZB some t))
theorem ac : ∀ a x, Q a = some x → AC Tryz.prog 120 a [] false [] fun rv obs => (rv, obs) = encR x := acF (body := (zB Tryz.f120)) Tryz.func120 (by kernel_rfl) (by kernel_rfl) acc fun x => ⟨by simp [encR, AV.Flat, K.Flat, C.Flat], flc (zN rfl _) (fl0)⟩
end spec_MarksOf
namespace spec_l11Region
noncomputable def B0 {ρ : Type} (v1 : Vec YP) (v2 : Bool) (v3 : Bool) (v4 : Int) (v5 : Bool) (v6 : Bool) (v7 : YS) (v8 : YS) (v9 : YS) (W : YVP → Bool → Bool → Int → Bool → Bool → YS → YS → YS → Option ρ) (K0 : Bool → Bool → Bool → Bool → YS → YS → YS → Option ρ) : Option ρ :=
  let d1 := (Vec.lit [(v1.g v4.toNat).2.2.2] : YS)
  let d2 := (decide ((v7.n + d1.n) * 17 ≤ maxN))
  let d3 := (wr (v4 + (1 : Int)))
  let d4 := (decide ((v1.g v4.toNat).1 = (2 : Int)))
  let d5 := (decide ((v1.g v4.toNat).1 = (5 : Int)))
  let d6 := (decide ((v1.g v4.toNat).1 = (3 : Int)))
  let d7 := (decide ((v1.g v4.toNat).1 = (4 : Int)))
  let d8 := (decide ((v8.n + d1.n) * 17 ≤ maxN))
  let d9 := (decide ((v9.n + d1.n) * 17 ≤ maxN))
  sel (decide (v4 < (v1.n : Int))) (chk (decide (0 ≤ v4 ∧ v4 < (v1.n : Int))) (chk (decide (0 ≤ v4 ∧ v4 < (v1.n : Int))) (sel (v2) (sel (v3) (sel d4 (chk d8 (sel d4 (chk d2 (W v1 true true d3 v5 v6 (Vec.app v7 d1) (Vec.app v8 d1) v9)) (sel d6 (chk d2 (W v1 true true d3 v5 v6 (Vec.app v7 d1) (Vec.app v8 d1) v9)) (W v1 true true d3 v5 v6 v7 (Vec.app v8 d1) v9)))) (sel d5 (chk d8 (sel d4 (chk d2 (W v1 true true d3 v5 v6 (Vec.app v7 d1) (Vec.app v8 d1) v9)) (sel d6 (chk d2 (W v1 true true d3 v5 v6 (Vec.app v7 d1) (Vec.app v8 d1) v9)) (W v1 true true d3 v5 v6 v7 (Vec.app v8 d1) v9)))) (chk d9 (sel d4 (chk d2 (W v1 true true d3 v5 v6 (Vec.app v7 d1) v8 (Vec.app v9 d1))) (sel d6 (chk d2 (W v1 true true d3 v5 v6 (Vec.app v7 d1) v8 (Vec.app v9 d1))) (W v1 true true d3 v5 v6 v7 v8 (Vec.app v9 d1))))))) (sel d6 (sel d4 (chk d8 (sel d4 (chk d2 (W v1 true true d3 v5 v6 (Vec.app v7 d1) (Vec.app v8 d1) v9)) (sel d6 (chk d2 (W v1 true true d3 v5 v6 (Vec.app v7 d1) (Vec.app v8 d1) v9)) (W v1 true true d3 v5 v6 v7 (Vec.app v8 d1) v9)))) (sel d5 (chk d8 (sel d4 (chk d2 (W v1 true true d3 v5 v6 (Vec.app v7 d1) (Vec.app v8 d1) v9)) (sel d6 (chk d2 (W v1 true true d3 v5 v6 (Vec.app v7 d1) (Vec.app v8 d1) v9)) (W v1 true true d3 v5 v6 v7 (Vec.app v8 d1) v9)))) (chk d9 (sel d4 (chk d2 (W v1 true true d3 v5 v6 (Vec.app v7 d1) v8 (Vec.app v9 d1))) (sel d6 (chk d2 (W v1 true true d3 v5 v6 (Vec.app v7 d1) v8 (Vec.app v9 d1))) (W v1 true true d3 v5 v6 v7 v8 (Vec.app v9 d1))))))) (sel d4 (chk d8 (sel d4 (chk d2 (W v1 true d5 d3 v5 v6 (Vec.app v7 d1) (Vec.app v8 d1) v9)) (sel d6 (chk d2 (W v1 true d5 d3 v5 v6 (Vec.app v7 d1) (Vec.app v8 d1) v9)) (W v1 true d5 d3 v5 v6 v7 (Vec.app v8 d1) v9)))) (sel d5 (chk d8 (sel d4 (chk d2 (W v1 true d5 d3 v5 v6 (Vec.app v7 d1) (Vec.app v8 d1) v9)) (sel d6 (chk d2 (W v1 true d5 d3 v5 v6 (Vec.app v7 d1) (Vec.app v8 d1) v9)) (W v1 true d5 d3 v5 v6 v7 (Vec.app v8 d1) v9)))) (chk d9 (sel d4 (chk d2 (W v1 true d5 d3 v5 v6 (Vec.app v7 d1) v8 (Vec.app v9 d1))) (sel d6 (chk d2 (W v1 true d5 d3 v5 v6 (Vec.app v7 d1) v8 (Vec.app v9 d1))) (W v1 true d5 d3 v5 v6 v7 v8 (Vec.app v9 d1))))))))) (sel d4 (sel (v3) (sel d4 (chk d8 (sel d4 (chk d2 (W v1 true true d3 v5 v6 (Vec.app v7 d1) (Vec.app v8 d1) v9)) (sel d6 (chk d2 (W v1 true true d3 v5 v6 (Vec.app v7 d1) (Vec.app v8 d1) v9)) (W v1 true true d3 v5 v6 v7 (Vec.app v8 d1) v9)))) (sel d5 (chk d8 (sel d4 (chk d2 (W v1 true true d3 v5 v6 (Vec.app v7 d1) (Vec.app v8 d1) v9)) (sel d6 (chk d2 (W v1 true true d3 v5 v6 (Vec.app v7 d1) (Vec.app v8 d1) v9)) (W v1 true true d3 v5 v6 v7 (Vec.app v8 d1) v9)))) (chk d9 (sel d4 (chk d2 (W v1 true true d3 v5 v6 (Vec.app v7 d1) v8 (Vec.app v9 d1))) (sel d6 (chk d2 (W v1 true true d3 v5 v6 (Vec.app v7 d1) v8 (Vec.app v9 d1))) (W v1 true true d3 v5 v6 v7 v8 (Vec.app v9 d1))))))) (sel d6 (sel d4 (chk d8 (sel d4 (chk d2 (W v1 true true d3 v5 v6 (Vec.app v7 d1) (Vec.app v8 d1) v9)) (sel d6 (chk d2 (W v1 true true d3 v5 v6 (Vec.app v7 d1) (Vec.app v8 d1) v9)) (W v1 true true d3 v5 v6 v7 (Vec.app v8 d1) v9)))) (sel d5 (chk d8 (sel d4 (chk d2 (W v1 true true d3 v5 v6 (Vec.app v7 d1) (Vec.app v8 d1) v9)) (sel d6 (chk d2 (W v1 true true d3 v5 v6 (Vec.app v7 d1) (Vec.app v8 d1) v9)) (W v1 true true d3 v5 v6 v7 (Vec.app v8 d1) v9)))) (chk d9 (sel d4 (chk d2 (W v1 true true d3 v5 v6 (Vec.app v7 d1) v8 (Vec.app v9 d1))) (sel d6 (chk d2 (W v1 true true d3 v5 v6 (Vec.app v7 d1) v8 (Vec.app v9 d1))) (W v1 true true d3 v5 v6 v7 v8 (Vec.app v9 d1))))))) (sel d4 (chk d8 (sel d4 (chk d2 (W v1 true d5 d3 v5 v6 (Vec.app v7 d1) (Vec.app v8 d1) v9)) (sel d6 (chk d2 (W v1 true d5 d3 v5 v6 (Vec.app v7 d1) (Vec.app v8 d1) v9)) (W v1 true d5 d3 v5 v6 v7 (Vec.app v8 d1) v9)))) (sel d5 (chk d8 (sel d4 (chk d2 (W v1 true d5 d3 v5 v6 (Vec.app v7 d1) (Vec.app v8 d1) v9)) (sel d6 (chk d2 (W v1 true d5 d3 v5 v6 (Vec.app v7 d1) (Vec.app v8 d1) v9)) (W v1 true d5 d3 v5 v6 v7 (Vec.app v8 d1) v9)))) (chk d9 (sel d4 (chk d2 (W v1 true d5 d3 v5 v6 (Vec.app v7 d1) v8 (Vec.app v9 d1))) (sel d6 (chk d2 (W v1 true d5 d3 v5 v6 (Vec.app v7 d1) v8 (Vec.app v9 d1))) (W v1 true d5 d3 v5 v6 v7 v8 (Vec.app v9 d1))))))))) (sel (v3) (sel d4 (chk d8 (sel d4 (chk d2 (W v1 d7 true d3 v5 v6 (Vec.app v7 d1) (Vec.app v8 d1) v9)) (sel d6 (chk d2 (W v1 d7 true d3 v5 v6 (Vec.app v7 d1) (Vec.app v8 d1) v9)) (W v1 d7 true d3 v5 v6 v7 (Vec.app v8 d1) v9)))) (sel d5 (chk d8 (sel d4 (chk d2 (W v1 d7 true d3 v5 v6 (Vec.app v7 d1) (Vec.app v8 d1) v9)) (sel d6 (chk d2 (W v1 d7 true d3 v5 v6 (Vec.app v7 d1) (Vec.app v8 d1) v9)) (W v1 d7 true d3 v5 v6 v7 (Vec.app v8 d1) v9)))) (chk d9 (sel d4 (chk d2 (W v1 d7 true d3 v5 v6 (Vec.app v7 d1) v8 (Vec.app v9 d1))) (sel d6 (chk d2 (W v1 d7 true d3 v5 v6 (Vec.app v7 d1) v8 (Vec.app v9 d1))) (W v1 d7 true d3 v5 v6 v7 v8 (Vec.app v9 d1))))))) (sel d6 (sel d4 (chk d8 (sel d4 (chk d2 (W v1 d7 true d3 v5 v6 (Vec.app v7 d1) (Vec.app v8 d1) v9)) (sel d6 (chk d2 (W v1 d7 true d3 v5 v6 (Vec.app v7 d1) (Vec.app v8 d1) v9)) (W v1 d7 true d3 v5 v6 v7 (Vec.app v8 d1) v9)))) (sel d5 (chk d8 (sel d4 (chk d2 (W v1 d7 true d3 v5 v6 (Vec.app v7 d1) (Vec.app v8 d1) v9)) (sel d6 (chk d2 (W v1 d7 true d3 v5 v6 (Vec.app v7 d1) (Vec.app v8 d1) v9)) (W v1 d7 true d3 v5 v6 v7 (Vec.app v8 d1) v9)))) (chk d9 (sel d4 (chk d2 (W v1 d7 true d3 v5 v6 (Vec.app v7 d1) v8 (Vec.app v9 d1))) (sel d6 (chk d2 (W v1 d7 true d3 v5 v6 (Vec.app v7 d1) v8 (Vec.app v9 d1))) (W v1 d7 true d3 v5 v6 v7 v8 (Vec.app v9 d1))))))) (sel d4 (chk d8 (sel d4 (chk d2 (W v1 d7 d5 d3 v5 v6 (Vec.app v7 d1) (Vec.app v8 d1) v9)) (sel d6 (chk d2 (W v1 d7 d5 d3 v5 v6 (Vec.app v7 d1) (Vec.app v8 d1) v9)) (W v1 d7 d5 d3 v5 v6 v7 (Vec.app v8 d1) v9)))) (sel d5 (chk d8 (sel d4 (chk d2 (W v1 d7 d5 d3 v5 v6 (Vec.app v7 d1) (Vec.app v8 d1) v9)) (sel d6 (chk d2 (W v1 d7 d5 d3 v5 v6 (Vec.app v7 d1) (Vec.app v8 d1) v9)) (W v1 d7 d5 d3 v5 v6 v7 (Vec.app v8 d1) v9)))) (chk d9 (sel d4 (chk d2 (W v1 d7 d5 d3 v5 v6 (Vec.app v7 d1) v8 (Vec.app v9 d1))) (sel d6 (chk d2 (W v1 d7 d5 d3 v5 v6 (Vec.app v7 d1) v8 (Vec.app v9 d1))) (W v1 d7 d5 d3 v5 v6 v7 v8 (Vec.app v9 d1))))))))))))) (K0 v2 v3 v5 v6 v7 v8 v9)
noncomputable def F0 {ρ : Type} : Nat → YVP → Bool → Bool → Int → Bool → Bool → YS → YS → YS → (Bool → Bool → Bool → Bool → YS → YS → YS → Option ρ) → Option ρ
  | 0, _, _, _, _, _, _, _, _, _, _ => none
  | k + 1, v1, v2, v3, v4, v5, v6, v7, v8, v9, K0 => B0 v1 v2 v3 v4 v5 v6 v7 v8 v9 (fun v1' v2' v3' v4' v5' v6' v7' v8' v9' => F0 k v1' v2' v3' v4' v5' v6' v7' v8' v9' K0) K0
noncomputable def B {ρ : Type} (L0 : YVP → Bool → Bool → Int → Bool → Bool → YS → YS → YS → (Bool → Bool → Bool → Bool → YS → YS → YS → Option ρ) → Option ρ) (a1 : Vec YP) (K : Bool → YS → YS → YS → Option ρ) : Option ρ :=
  L0 a1 false false (0 : Int) false false (Vec.nil : YS) (Vec.nil : YS) (Vec.nil : YS) (fun e01 e02 e03 e04 e05 e06 e07 => sel (e01) (sel ((!e02)) (K e02 e05 e06 e07) (K e02 (Vec.nil : YS) e06 e07)) (K false e05 e06 e07))
noncomputable def F (a1 : Vec YP) : Option (Bool × YS × YS × YS) := B (F0 fuelN) a1 (fun x1 x2 x3 x4 => some (x1, x2, x3, x4))
def encA (t : Vec YP) : LA := [vl t]
def encR (x : Bool × YS × YS × YS) : AV × LO := (.a [cb x.1, .h 0, .h 1, .h 2], [ro x.2.1, ro x.2.2.1, ro x.2.2.2])
theorem ZA (a b) (h : encA a = encA b) : a = b := by simpa [encA, zA] using h
theorem ZB (a b) (h : encR a = encR b) : a = b := by simp [encR, zA] at h; simp [Prod.ext_iff, h]
noncomputable def Q (args : LA) : Option (Bool × YS × YS × YS) := ofC encA (un1 F) args
theorem wrap : F = fun y1 => Q [vl y1] := by funext y1; exact Eq.symm (zD ZA _ (y1))
noncomputable abbrev O : Orc := mkO [] [] []
noncomputable def c0 : Code := loopC (atomN [] 0 (zB Tryz.f121) 0)
def ct0 : Cut := ⟨[0, 2, 3, 4, 5, 6, 7], [.ad (.s 6) 69, .ad (.p 3 2) 69, .ad (.p 3 3) 69]⟩
def lv0 : Exit → Cut
  | .exit 0 => ⟨[2, 3, 4, 5, 6], []⟩
  | _ => ⟨[], []⟩
def k0_0 {ρ : Type} (K : Exit → St → Option ρ) (z1 : Bool) (z2 : Bool) (z3 : Bool) (z4 : Bool) (z5 : YS) (z6 : YS) (z7 : YS) : Option ρ := K (.exit 0) (mkS 86 (lv0 (.exit 0)).live [.c (.p 0 0), .c (.p 1 0), vb z1, vb z2, .c (.h 2)] [.box [cb z3, .z, .z, .z], .box [cb z4, .z, .h 3, .h 4], ro z5, ro z6, ro z7] [])
noncomputable def L (W0 : (ρ : Type) → LA → LO → (Bool → Bool → Bool → Bool → YS → YS → YS → Option ρ) → Option ρ) : Lor := fun ρ j st K => sel (Nat.beq j 0) (cutO Tryz.prog 86 ct0.live 0 [] ct0.cmds st fun avs obs => W0 ρ avs obs (k0_0 K)) (Option.none)
theorem step0 {W0} {ρ : Type} {K : Exit → St → Option ρ} {W : LA → LO → Option ρ} {v1 v2 v3 v4 v5 v6 v7 v8 v9} : exC Tryz.prog O (L W0) [] 1 c0 (mkS 86 ct0.live [vl v1, .c (.p 0 0), .c (.p 1 0), vb v2, vb v3, .c (.h 2), vi v4] [.box [cb v5, .z, .z, .z], .box [cb v6, .z, .h 3, .h 4], ro v7, ro v8, ro v9] []) (bodyK Tryz.prog 86 0 [] ct0 W lv0 K) =
    B0 v1 v2 v3 v4 v5 v6 v7 v8 v9 (fun u1 u2 u3 u4 u5 u6 u7 u8 u9 => W [vl u1, .c (.p 0 0), .c (.p 1 0), vb u2, vb u3, .c (.h 2), vi u4] [.box [cb u5, .z, .z, .z], .box [cb u6, .z, .h 3, .h 4], ro u7, ro u8, ro u9]) (k0_0 K) := by kernel_rfl
def enc0 (t : YVP × Bool × Bool × Int × Bool × Bool × YS × YS × YS) : LA × LO := ([vl t.1, .c (.p 0 0), .c (.p 1 0), vb t.2.1, vb t.2.2.1, .c (.h 2), vi t.2.2.2.1], [.box [cb t.2.2.2.2.1, .z, .z, .z], .box [cb t.2.2.2.2.2.1, .z, .h 3, .h 4], ro t.2.2.2.2.2.2.1, ro t.2.2.2.2.2.2.2.1, ro t.2.2.2.2.2.2.2.2])
theorem enc0I (a b) (h : enc0 a = enc0 b) : a = b := by simp [enc0, zA] at h; simp [Prod.ext_iff, h]
noncomputable def V0 : (ρ : Type) → LA → LO → (Bool → Bool → Bool → Bool → YS → YS → YS → Option ρ) → Option ρ := fun ρ avs obs k0 => ofC enc0 (fun t => un9 (F0 fuelN) t k0) (avs, obs)
theorem zG (ρ : Type) : F0 fuelN = fun w1 w2 w3 w4 w5 w6 w7 w8 w9 k0 => V0 ρ [vl w1, .c (.p 0 0), .c (.p 1 0), vb w2, vb w3, .c (.h 2), vi w4] [.box [cb w5, .z, .z, .z], .box [cb w6, .z, .h 3, .h 4], ro w7, ro w8, ro w9] k0 := by funext w1 w2 w3 w4 w5 w6 w7 w8 w9 k0; exact Eq.symm (zD enc0I _ (w1, w2, w3, w4, w5, w6, w7, w8, w9))
theorem main {W0} {ρ : Type} {K : AV → LO → Option ρ} {a1} : exC Tryz.prog O (L W0) [] 0 (zB Tryz.f121) (entry 86 [vl a1] [] []) (finO Tryz.prog Tryz.f121.results.toList 0 [] [.ad (.p 2 1) 69] K) =
    B (fun w1 w2 w3 w4 w5 w6 w7 w8 w9 k0 => W0 ρ [vl w1, .c (.p 0 0), .c (.p 1 0), vb w2, vb w3, .c (.h 2), vi w4] [.box [cb w5, .z, .z, .z], .box [cb w6, .z, .h 3, .h 4], ro w7, ro w8, ro w9] k0) a1 (fun x1 x2 x3 x4 => K (.a [cb x1, .h 0, .h 1, .h 2]) [ro x2, ro x3, ro x4]) := by kernel_rfl
theorem Gok : O.ok Tryz.prog := zH (by exact trivial) (by exact trivial)
theorem ok0 : OkL Tryz.prog (L V0) 0 (.loop c0) := fun ρ st K r h => zJ (ct := ct0) (lv := lv0) (L := (L V0)) Gok hmT (by rw [show zE [] 1 c0 = [] by kernel_rfl]; exact Lor.zF _ _) enc0I (fun k t => un9 (F0 k) t (k0_0 K)) (fun t => rfl) (fun k t => by refine step0.trans ?_; exact congrFun (congrArg (B0 _ _ _ _ _ _ _ _ _) (fx9 fun t => zD enc0I _ t)) _) (fun _ => fuelN) h
theorem e : zE [] 0 (zB Tryz.f121) = [(0, 0, .loop c0)] := by kernel_rfl
theorem acc : ∀ t x, un1 F t = some x → ACc Tryz.prog 121 (encA t) [] true [] fun rv obs => (rv, obs) = encR x := accT (T := Vec YP) (F := un1 F) (L := (L V0)) (cmds := [.ad (.p 2 1) 69]) (body := (zB Tryz.f121)) Gok hmT Tryz.func121 (by kernel_rfl) (by kernel_rfl) (by rw [e]; exact Lor.zI ok0 (Lor.zF _ _)) (fun t => by refine main.trans ?_; rw [← zG]; exact congrArg (B _ _) (fx4 fun t => zD ZB some t))
theorem ac : ∀ a x, Q a = some x → AC Tryz.prog 121 a [] false [] fun rv obs => (rv, obs) = encR x := acF (body := (zB Tryz.f121)) Tryz.func121 (by kernel_rfl) (by kernel_rfl) acc fun x => ⟨by simp [encR, AV.Flat, K.Flat, C.Flat], flc (zN rfl _) (flc (zN rfl _) (flc (zN rfl _) (fl0)))⟩
end spec_l11Region
namespace spec_RegionsOf
noncomputable def B0 {ρ : Type} (C1 : YVP → Option (Bool × YS × YS × YS)) (v1 : Int) (v2 : Int) (v3 : Vec YP) (v4 : Vec YA) (v5 : Vec YP) (W : Int → Int → YVP → YVA → YVP → Option ρ) (K0 : Int → YVA → Option ρ) : Option ρ :=
  sel (decide (v2 ≤ (v3.n : Int))) (sel (decide (v1 = (0 : Int))) (sel (decide (v2 < (v3.n : Int))) (chk (decide (0 ≤ v2 ∧ v2 < (v3.n : Int))) (chk (decide (v2.toNat < v3.n)) (sel ((!decide ((v3.g v2.toNat).1 = (1 : Int)))) (chk (decide (0 ≤ v2 ∧ v2 < (v3.n : Int))) (chk (decide (v2.toNat < v3.n)) (chk (decide ((v5.n + (Vec.lit [((v3.g v2.toNat).1, (v3.g v2.toNat).2.1, (v3.g v2.toNat).2.2.1, (v3.g v2.toNat).2.2.2)] : Vec YP).n) * 41 ≤ maxN)) (W v1 (wr (v2 + (1 : Int))) v3 v4 (Vec.app v5 (Vec.lit [((v3.g v2.toNat).1, (v3.g v2.toNat).2.1, (v3.g v2.toNat).2.2.1, (v3.g v2.toNat).2.2.2)] : Vec YP)))))) (sel (decide ((0 : Int) < (v5.n : Int))) ((C1 v5).bind fun r2 => chk (decide ((v4.n + (Vec.lit [(r2.1, r2.2.1, r2.2.2.1, r2.2.2.2)] : Vec YA).n) * 81 ≤ maxN)) (sel (decide (v2 < (v3.n : Int))) (chk (decide (0 ≤ v2 ∧ v2 < (v3.n : Int))) (chk (decide (v2.toNat < v3.n)) (chk (decide (((Vec.app v4 (Vec.lit [(r2.1, r2.2.1, r2.2.2.1, r2.2.2.2)] : Vec YA)).n + (Vec.lit [(false, (Vec.lit [(v3.g v2.toNat).2.2.2] : YS), (Vec.nil : YS), (Vec.nil : YS))] : Vec YA).n) * 81 ≤ maxN)) (W v1 (wr (v2 + (1 : Int))) v3 (Vec.app (Vec.app v4 (Vec.lit [(r2.1, r2.2.1, r2.2.2.1, r2.2.2.2)] : Vec YA)) (Vec.lit [(false, (Vec.lit [(v3.g v2.toNat).2.2.2] : YS), (Vec.nil : YS), (Vec.nil : YS))] : Vec YA)) (Vec.nil : Vec YP))))) (W v1 (wr (v2 + (1 : Int))) v3 (Vec.app v4 (Vec.lit [(r2.1, r2.2.1, r2.2.2.1, r2.2.2.2)] : Vec YA)) (Vec.nil : Vec YP)))) (sel (decide (v2 < (v3.n : Int))) (chk (decide (0 ≤ v2 ∧ v2 < (v3.n : Int))) (chk (decide (v2.toNat < v3.n)) (chk (decide ((v4.n + (Vec.lit [(false, (Vec.lit [(v3.g v2.toNat).2.2.2] : YS), (Vec.nil : YS), (Vec.nil : YS))] : Vec YA).n) * 81 ≤ maxN)) (W v1 (wr (v2 + (1 : Int))) v3 (Vec.app v4 (Vec.lit [(false, (Vec.lit [(v3.g v2.toNat).2.2.2] : YS), (Vec.nil : YS), (Vec.nil : YS))] : Vec YA)) (Vec.nil : Vec YP))))) (W v1 (wr (v2 + (1 : Int))) v3 v4 (Vec.nil : Vec YP))))))) (sel (decide ((0 : Int) < (v5.n : Int))) ((C1 v5).bind fun r3 => chk (decide ((v4.n + (Vec.lit [(r3.1, r3.2.1, r3.2.2.1, r3.2.2.2)] : Vec YA).n) * 81 ≤ maxN)) (sel (decide (v2 < (v3.n : Int))) (chk (decide (0 ≤ v2 ∧ v2 < (v3.n : Int))) (chk (decide (v2.toNat < v3.n)) (chk (decide (((Vec.app v4 (Vec.lit [(r3.1, r3.2.1, r3.2.2.1, r3.2.2.2)] : Vec YA)).n + (Vec.lit [(false, (Vec.lit [(v3.g v2.toNat).2.2.2] : YS), (Vec.nil : YS), (Vec.nil : YS))] : Vec YA).n) * 81 ≤ maxN)) (W v1 (wr (v2 + (1 : Int))) v3 (Vec.app (Vec.app v4 (Vec.lit [(r3.1, r3.2.1, r3.2.2.1, r3.2.2.2)] : Vec YA)) (Vec.lit [(false, (Vec.lit [(v3.g v2.toNat).2.2.2] : YS), (Vec.nil : YS), (Vec.nil : YS))] : Vec YA)) (Vec.nil : Vec YP))))) (W v1 (wr (v2 + (1 : Int))) v3 (Vec.app v4 (Vec.lit [(r3.1, r3.2.1, r3.2.2.1, r3.2.2.2)] : Vec YA)) (Vec.nil : Vec YP)))) (sel (decide (v2 < (v3.n : Int))) (chk (decide (0 ≤ v2 ∧ v2 < (v3.n : Int))) (chk (decide (v2.toNat < v3.n)) (chk (decide ((v4.n + (Vec.lit [(false, (Vec.lit [(v3.g v2.toNat).2.2.2] : YS), (Vec.nil : YS), (Vec.nil : YS))] : Vec YA).n) * 81 ≤ maxN)) (W v1 (wr (v2 + (1 : Int))) v3 (Vec.app v4 (Vec.lit [(false, (Vec.lit [(v3.g v2.toNat).2.2.2] : YS), (Vec.nil : YS), (Vec.nil : YS))] : Vec YA)) (Vec.nil : Vec YP))))) (W v1 (wr (v2 + (1 : Int))) v3 v4 (Vec.nil : Vec YP))))) (K0 v1 v4)) (K0 v1 v4)
noncomputable def F0 {ρ : Type} : Nat → Int → Int → YVP → YVA → YVP → (Int → YVA → Option ρ) → Option ρ
  | 0, _, _, _, _, _, _ => none
  | k + 1, v1, v2, v3, v4, v5, K0 => B0 spec_l11Region.F v1 v2 v3 v4 v5 (fun v1' v2' v3' v4' v5' => F0 k v1' v2' v3' v4' v5' K0) K0
noncomputable def B {ρ : Type} (C0 : YG → YVB → Int → Int → Option (Int × YVP)) (L0 : Int → Int → YVP → YVA → YVP → (Int → YVA → Option ρ) → Option ρ) (a1 : Vec YI) (a2 : Vec YB) (a3 : Int) (a4 : Int) (K : Int → YVA → Option ρ) : Option ρ :=
  (C0 a1 a2 a3 a4).bind fun r1 => L0 r1.1 (0 : Int) r1.2 (Vec.nil : Vec YA) (Vec.nil : Vec YP) (fun e01 e02 => K e01 e02)
noncomputable def F (a1 : Vec YI) (a2 : Vec YB) (a3 : Int) (a4 : Int) : Option (Int × YVA) := B spec_MarksOf.F (F0 fuelN) a1 a2 a3 a4 (fun x1 x2 => some (x1, x2))
def encA (t : Vec YI × YVB × Int × Int) : LA := [.a [cl t.1, cl t.2.1], vi t.2.2.1, vi t.2.2.2]
def encR (x : Int × YVA) : AV × LO := (.tup [.c (.h 0), .c (ci x.1)], [ro x.2])
theorem ZA (a b) (h : encA a = encA b) : a = b := by simp [encA, zA] at h; simp [Prod.ext_iff, h]
theorem ZB (a b) (h : encR a = encR b) : a = b := by simp [encR, zA] at h; simp [Prod.ext_iff, h]
noncomputable def Q (args : LA) : Option (Int × YVA) := ofC encA (un4 F) args
theorem wrap : F = fun y1 y2 y3 y4 => Q [.a [cl y1, cl y2], vi y3, vi y4] := by funext y1 y2 y3 y4; exact Eq.symm (zD ZA _ (y1, y2, y3, y4))
noncomputable abbrev O (Q0 : LA → Option (Int × YVP)) (Q1 : LA → Option (Bool × YS × YS × YS)) : Orc := mkO [qE 120 false spec_MarksOf.encR Q0, qE 121 false spec_l11Region.encR Q1] [] []
noncomputable def c0 : Code := loopC (atomN [] 0 (zB Tryz.f62) 0)
def ct0 : Cut := ⟨[8, 9, 10, 11, 12], [.ad (.s 10) 40, .ad (.s 11) 168]⟩
def lv0 : Exit → Cut
  | .exit 0 => ⟨[9, 10], []⟩
  | _ => ⟨[], []⟩
def k0_0 {ρ : Type} (K : Exit → St → Option ρ) (z1 : Int) (z2 : Vec YA) : Option ρ := K (.exit 0) (mkS 77 (lv0 (.exit 0)).live [vi z1, .c (.h 0)] [ro z2] [])
noncomputable def L (W0 : (ρ : Type) → LA → LO → (Int → YVA → Option ρ) → Option ρ) : Lor := fun ρ j st K => sel (Nat.beq j 0) (cutO Tryz.prog 77 ct0.live 0 [] ct0.cmds st fun avs obs => W0 ρ avs obs (k0_0 K)) (Option.none)
theorem step0 {Q0 Q1 W0} {ρ : Type} {K : Exit → St → Option ρ} {W : LA → LO → Option ρ} {v1 v2 v3 v4 v5} : exC Tryz.prog (O Q0 Q1) (L W0) [] 1 c0 (mkS 77 ct0.live [.c (.h 0), vi v1, .c (.h 1), .c (.h 2), vi v2] [ro v3, ro v4, ro v5] []) (bodyK Tryz.prog 77 0 [] ct0 W lv0 K) =
    B0 (fun y1 => Q1 [vl y1]) v1 v2 v3 v4 v5 (fun u1 u2 u3 u4 u5 => W [.c (.h 0), vi u1, .c (.h 1), .c (.h 2), vi u2] [ro u3, ro u4, ro u5]) (k0_0 K) := by kernel_rfl
def enc0 (t : Int × Int × YVP × YVA × YVP) : LA × LO := ([.c (.h 0), vi t.1, .c (.h 1), .c (.h 2), vi t.2.1], [ro t.2.2.1, ro t.2.2.2.1, ro t.2.2.2.2])
theorem enc0I (a b) (h : enc0 a = enc0 b) : a = b := by simp [enc0, zA] at h; simp [Prod.ext_iff, h]
noncomputable def V0 : (ρ : Type) → LA → LO → (Int → YVA → Option ρ) → Option ρ := fun ρ avs obs k0 => ofC enc0 (fun t => un5 (F0 fuelN) t k0) (avs, obs)
theorem zG (ρ : Type) : F0 fuelN = fun w1 w2 w3 w4 w5 k0 => V0 ρ [.c (.h 0), vi w1, .c (.h 1), .c (.h 2), vi w2] [ro w3, ro w4, ro w5] k0 := by funext w1 w2 w3 w4 w5 k0; exact Eq.symm (zD enc0I _ (w1, w2, w3, w4, w5))
theorem main {Q0 Q1 W0} {ρ : Type} {K : AV → LO → Option ρ} {a1 a2 a3 a4} : exC Tryz.prog (O Q0 Q1) (L W0) [] 0 (zB Tryz.f62) (entry 77 [.a [cl a1, cl a2], vi a3, vi a4] [] []) (finO Tryz.prog Tryz.f62.results.toList 0 [] [] K) =
    B (fun y1 y2 y3 y4 => Q0 [.a [cl y1, cl y2], vi y3, vi y4]) (fun w1 w2 w3 w4 w5 k0 => W0 ρ [.c (.h 0), vi w1, .c (.h 1), .c (.h 2), vi w2] [ro w3, ro w4, ro w5] k0) a1 a2 a3 a4 (fun x1 x2 => K (.tup [.c (.h 0), .c (ci x1)]) [ro x2]) := by kernel_rfl
theorem Gok : (O spec_MarksOf.Q spec_l11Region.Q).ok Tryz.prog := zH (by exact ⟨qE_ok spec_MarksOf.ac, qE_ok spec_l11Region.ac, trivial⟩) (by exact trivial)
theorem ok0 : OkL Tryz.prog (L V0) 0 (.loop c0) := fun ρ st K r h => zJ (ct := ct0) (lv := lv0) (L := (L V0)) Gok hmT (by rw [show zE [] 1 c0 = [] by kernel_rfl]; exact Lor.zF _ _) enc0I (fun k t => un5 (F0 k) t (k0_0 K)) (fun t => rfl) (fun k t => by refine step0.trans ?_; rw [← spec_l11Region.wrap]; exact congrFun (congrArg (B0 _ _ _ _ _ _) (fx5 fun t => zD enc0I _ t)) _) (fun _ => fuelN) h
theorem e : zE [] 0 (zB Tryz.f62) = [(0, 0, .loop c0)] := by kernel_rfl
theorem acc : ∀ t x, un4 F t = some x → ACc Tryz.prog 62 (encA t) [] true [] fun rv obs => (rv, obs) = encR x := accT (T := Vec YI × YVB × Int × Int) (F := un4 F) (L := (L V0)) (cmds := []) (body := (zB Tryz.f62)) Gok hmT Tryz.func62 (by kernel_rfl) (by kernel_rfl) (by rw [e]; exact Lor.zI ok0 (Lor.zF _ _)) (fun t => by refine main.trans ?_; rw [← spec_MarksOf.wrap, ← zG]; exact congrArg (B _ _ _ _ _ _) (fx2 fun t => zD ZB some t))
theorem ac : ∀ a x, Q a = some x → AC Tryz.prog 62 a [] false [] fun rv obs => (rv, obs) = encR x := acF (body := (zB Tryz.f62)) Tryz.func62 (by kernel_rfl) (by kernel_rfl) acc fun x => ⟨by simp [encR, AV.Flat, K.Flat, C.Flat], flc (zN rfl _) (fl0)⟩
end spec_RegionsOf
namespace spec_MergeAt
noncomputable def B {ρ : Type} (C0 : YVC → YVW → Option Bool) (C1 : YVC → YVW → Int → Option Bool) (C2 : YVC → YVW → Int → ByteArray → Option (ByteArray × Int × Int × Int)) (C3 : YVN → Int → Option Int) (C4 : YG → YVB → Int → Int → Option (Int × YVA)) (a1 : Vec YC) (a2 : Vec YW) (a3 : Int) (a4 : Int) (a5 : ByteArray) (K : Int → YVA → Option ρ) : Option ρ :=
  (C0 a1 a2).bind fun r1 => sel ((!r1)) (K (1 : Int) (Vec.nil : Vec YA)) ((C1 a1 a2 a3).bind fun r2 => sel ((!r2)) (K (2 : Int) (Vec.nil : Vec YA)) ((C1 a1 a2 a4).bind fun r3 => sel ((!r3)) (K (2 : Int) (Vec.nil : Vec YA)) ((C2 a1 a2 a3 a5).bind fun r4 => sel ((!decide (r4.2.2.2 = (0 : Int)))) (K r4.2.2.2 (Vec.nil : Vec YA)) (chk (decide (0 ≤ a4 ∧ a4 < (a1.n : Int))) ((C3 ((a1.g a4.toNat).2.2) r4.2.1).bind fun r5 => sel (decide (r5 < (0 : Int))) (K (4 : Int) (Vec.nil : Vec YA)) (chk (decide (0 ≤ r4.2.1 ∧ r4.2.1 < (a2.n : Int))) (chk (decide (0 ≤ a4 ∧ a4 < (a1.n : Int))) (chk (decide (0 ≤ r5 ∧ r5 < (((a1.g a4.toNat).2.2).n : Int))) ((C4 ((a2.g (r4.2.1).toNat).1) ((a2.g (r4.2.1).toNat).2) r4.2.2.1 ((((a1.g a4.toNat).2.2).g r5.toNat).2.2)).bind fun r6 => K r6.1 r6.2)))))))))
noncomputable def F (a1 : Vec YC) (a2 : Vec YW) (a3 : Int) (a4 : Int) (a5 : ByteArray) : Option (Int × YVA) := B spec_StoreOk.F spec_l15Has.F spec_l15Find.F spec_l13Id.F spec_RegionsOf.F a1 a2 a3 a4 a5 (fun x1 x2 => some (x1, x2))
def encA (t : YVC × YVW × Int × Int × ByteArray) : LA := [.a [cl t.1, cl t.2.1], vi t.2.2.1, vi t.2.2.2.1, vs t.2.2.2.2]
def encR (x : Int × YVA) : AV × LO := (.tup [.c (.h 0), .c (ci x.1)], [ro x.2])
theorem ZA (a b) (h : encA a = encA b) : a = b := by simp [encA, zA] at h; simp [Prod.ext_iff, h]
theorem ZB (a b) (h : encR a = encR b) : a = b := by simp [encR, zA] at h; simp [Prod.ext_iff, h]
noncomputable def Q (args : LA) : Option (Int × YVA) := ofC encA (un5 F) args
theorem wrap : F = fun y1 y2 y3 y4 y5 => Q [.a [cl y1, cl y2], vi y3, vi y4, vs y5] := by funext y1 y2 y3 y4 y5; exact Eq.symm (zD ZA _ (y1, y2, y3, y4, y5))
noncomputable abbrev O (Q0 : LA → Option Bool) (Q1 : LA → Option Bool) (Q2 : LA → Option (ByteArray × Int × Int × Int)) (Q3 : LA → Option Int) (Q4 : LA → Option (Int × YVA)) : Orc := mkO [qE 59 false spec_StoreOk.encR Q0, qE 60 false spec_l15Has.encR Q1, qE 50 false spec_l15Find.encR Q2, qE 61 false spec_l13Id.encR Q3, qE 62 false spec_RegionsOf.encR Q4] [] []
noncomputable def L : Lor := fun _ _ _ _ => Option.none
theorem main {Q0 Q1 Q2 Q3 Q4} {ρ : Type} {K : AV → LO → Option ρ} {a1 a2 a3 a4 a5} : exC Tryz.prog (O Q0 Q1 Q2 Q3 Q4) L [] 0 (zB Tryz.f16) (entry 72 [.a [cl a1, cl a2], vi a3, vi a4, vs a5] [] []) (finO Tryz.prog Tryz.f16.results.toList 0 [] [.ad (.s 8) 40] K) =
    B (fun y1 y2 => Q0 [.a [cl y1, cl y2]]) (fun y1 y2 y3 => Q1 [.a [cl y1, cl y2], vi y3]) (fun y1 y2 y3 y4 => Q2 [.a [cl y1, cl y2], vi y3, vs y4]) (fun y1 y2 => Q3 [vl y1, vi y2]) (fun y1 y2 y3 y4 => Q4 [.a [cl y1, cl y2], vi y3, vi y4]) a1 a2 a3 a4 a5 (fun x1 x2 => K (.tup [.c (.h 0), .c (ci x1)]) [ro x2]) := by kernel_rfl
theorem Gok : (O spec_StoreOk.Q spec_l15Has.Q spec_l15Find.Q spec_l13Id.Q spec_RegionsOf.Q).ok Tryz.prog := zH (by exact ⟨qE_ok spec_StoreOk.ac, qE_ok spec_l15Has.ac, qE_ok spec_l15Find.ac, qE_ok spec_l13Id.ac, qE_ok spec_RegionsOf.ac, trivial⟩) (by exact trivial)
theorem acc : ∀ t x, un5 F t = some x → ACc Tryz.prog 16 (encA t) [] true [] fun rv obs => (rv, obs) = encR x := accT (T := YVC × YVW × Int × Int × ByteArray) (F := un5 F) (L := L) (cmds := [.ad (.s 8) 40]) (body := (zB Tryz.f16)) Gok hmT Tryz.func16 (by kernel_rfl) (by kernel_rfl) (by rw [show zE [] 0 (zB Tryz.f16) = [] by kernel_rfl]; exact Lor.zF _ _) (fun t => by refine main.trans ?_; rw [← spec_StoreOk.wrap, ← spec_l15Has.wrap, ← spec_l15Find.wrap, ← spec_l13Id.wrap, ← spec_RegionsOf.wrap]; exact congrArg (B _ _ _ _ _ _ _ _ _ _) (fx2 fun t => zD ZB some t))
theorem ac : ∀ a x, Q a = some x → AC Tryz.prog 16 a [] false [] fun rv obs => (rv, obs) = encR x := acF (body := (zB Tryz.f16)) Tryz.func16 (by kernel_rfl) (by kernel_rfl) acc fun x => ⟨by simp [encR, AV.Flat, K.Flat, C.Flat], flc (zN rfl _) (fl0)⟩
end spec_MergeAt
namespace impl_Body_note
noncomputable def B {ρ : Type} (a1 : ByteArray) (a2 : Int) (a3 : Int) (a4 : YI) (K : Int → Int → ByteArray → Option ρ) : Option ρ :=
  K a2 a3 a1
noncomputable def F (a1 : ByteArray) (a2 : Int) (a3 : Int) (a4 : YI) : Option YM := B a1 a2 a3 a4 (fun x1 x2 x3 => some (x1, x2, x3))
def encA (t : ByteArray × Int × Int × YI) : LA := [.a [cs t.1, ci t.2.1, ci t.2.2.1, cl t.2.2.2]]
def encR (x : YM) : AV × LO := (.a [ci x.1, ci x.2.1, cs x.2.2], [])
theorem ZA (a b) (h : encA a = encA b) : a = b := by simp [encA, zA] at h; simp [Prod.ext_iff, h]
theorem ZB (a b) (h : encR a = encR b) : a = b := by simp [encR, zA] at h; simp [Prod.ext_iff, h]
noncomputable def Q (args : LA) : Option YM := ofC encA (un4 F) args
theorem wrap : F = fun y1 y2 y3 y4 => Q [.a [cs y1, ci y2, ci y3, cl y4]] := by funext y1 y2 y3 y4; exact Eq.symm (zD ZA _ (y1, y2, y3, y4))
noncomputable abbrev O : Orc := mkO [] [] []
noncomputable def L : Lor := fun _ _ _ _ => Option.none
theorem main {ρ : Type} {K : AV → LO → Option ρ} {a1 a2 a3 a4} : exC Tryz.prog O L [] 0 (zB Tryz.f115) (entry 10 [.a [cs a1, ci a2, ci a3, cl a4]] [] []) (finO Tryz.prog Tryz.f115.results.toList 0 [] [] K) =
    B a1 a2 a3 a4 (fun x1 x2 x3 => K (.a [ci x1, ci x2, cs x3]) []) := by kernel_rfl
theorem Gok : O.ok Tryz.prog := zH (by exact trivial) (by exact trivial)
theorem acc : ∀ t x, un4 F t = some x → ACc Tryz.prog 115 (encA t) [] true [] fun rv obs => (rv, obs) = encR x := accT (T := ByteArray × Int × Int × YI) (F := un4 F) (L := L) (cmds := []) (body := (zB Tryz.f115)) Gok hmT Tryz.func115 (by kernel_rfl) (by kernel_rfl) (by rw [show zE [] 0 (zB Tryz.f115) = [] by kernel_rfl]; exact Lor.zF _ _) (fun t => by refine main.trans ?_; exact congrArg (B _ _ _ _) (fx3 fun t => zD ZB some t))
theorem ac : ∀ a x, Q a = some x → AC Tryz.prog 115 a [] false [] fun rv obs => (rv, obs) = encR x := acF (body := (zB Tryz.f115)) Tryz.func115 (by kernel_rfl) (by kernel_rfl) acc fun x => ⟨by simp [encR, AV.Flat, K.Flat, C.Flat], fl0⟩
end impl_Body_note
namespace impl_Weave_compare
noncomputable def B0 {ρ : Type} (C1 : ByteArray → Int → Int → YI → Int → Option Bool) (C2 : ByteArray → Int → Int → YI → Option YM) (v1 : Int) (v2 : Int) (v3 : Vec YB) (v4 : Int) (v5 : Int) (v6 : YK) (v7 : Vec YP) (W : Int → Int → YVB → Int → Int → YK → YVP → Option ρ) (K0 : YVP → Option ρ) : Option ρ :=
  sel (decide (v5 < v4)) (chk (decide (0 ≤ v5 ∧ v5 < (v3.n : Int))) (chk (decide (0 ≤ v1 ∧ v1 < (v6.n : Int))) (chk (decide (v1.toNat < v6.n)) ((C1 ((v3.g v5.toNat).1) ((v3.g v5.toNat).2.1) ((v3.g v5.toNat).2.2.1) ((v3.g v5.toNat).2.2.2) ((v6.g v1.toNat).v)).bind fun r2 => chk (decide (0 ≤ v2 ∧ v2 < (v6.n : Int))) (chk (decide (v2.toNat < v6.n)) ((C1 ((v3.g v5.toNat).1) ((v3.g v5.toNat).2.1) ((v3.g v5.toNat).2.2.1) ((v3.g v5.toNat).2.2.2) ((v6.g v2.toNat).v)).bind fun r3 => (C2 ((v3.g v5.toNat).1) ((v3.g v5.toNat).2.1) ((v3.g v5.toNat).2.2.1) ((v3.g v5.toNat).2.2.2)).bind fun r4 => sel (r2) (sel (r3) (chk (decide ((v7.n + (Vec.lit [((1 : Int), r4.1, r4.2.1, r4.2.2)] : Vec YP).n) * 41 ≤ maxN)) (W v1 v2 v3 v4 (wr (v5 + (1 : Int))) v6 (Vec.app v7 (Vec.lit [((1 : Int), r4.1, r4.2.1, r4.2.2)] : Vec YP)))) (sel (r2) (chk (decide ((v7.n + (Vec.lit [((2 : Int), r4.1, r4.2.1, r4.2.2)] : Vec YP).n) * 41 ≤ maxN)) (W v1 v2 v3 v4 (wr (v5 + (1 : Int))) v6 (Vec.app v7 (Vec.lit [((2 : Int), r4.1, r4.2.1, r4.2.2)] : Vec YP)))) (sel (r3) (chk (decide ((v7.n + (Vec.lit [((3 : Int), r4.1, r4.2.1, r4.2.2)] : Vec YP).n) * 41 ≤ maxN)) (W v1 v2 v3 v4 (wr (v5 + (1 : Int))) v6 (Vec.app v7 (Vec.lit [((3 : Int), r4.1, r4.2.1, r4.2.2)] : Vec YP)))) (W v1 v2 v3 v4 (wr (v5 + (1 : Int))) v6 v7)))) (sel (r2) (chk (decide ((v7.n + (Vec.lit [((2 : Int), r4.1, r4.2.1, r4.2.2)] : Vec YP).n) * 41 ≤ maxN)) (W v1 v2 v3 v4 (wr (v5 + (1 : Int))) v6 (Vec.app v7 (Vec.lit [((2 : Int), r4.1, r4.2.1, r4.2.2)] : Vec YP)))) (sel (r3) (chk (decide ((v7.n + (Vec.lit [((3 : Int), r4.1, r4.2.1, r4.2.2)] : Vec YP).n) * 41 ≤ maxN)) (W v1 v2 v3 v4 (wr (v5 + (1 : Int))) v6 (Vec.app v7 (Vec.lit [((3 : Int), r4.1, r4.2.1, r4.2.2)] : Vec YP)))) (W v1 v2 v3 v4 (wr (v5 + (1 : Int))) v6 v7))))))))) (K0 v7)
noncomputable def F0 {ρ : Type} : Nat → Int → Int → YVB → Int → Int → YK → YVP → (YVP → Option ρ) → Option ρ
  | 0, _, _, _, _, _, _, _, _ => none
  | k + 1, v1, v2, v3, v4, v5, v6, v7, K0 => B0 impl_Body_isLive.F impl_Body_note.F v1 v2 v3 v4 v5 v6 v7 (fun v1' v2' v3' v4' v5' v6' v7' => F0 k v1' v2' v3' v4' v5' v6' v7' K0) K0
noncomputable def B {ρ : Type} (C0 : YG → Option YK) (L0 : Int → Int → YVB → Int → Int → YK → YVP → (YVP → Option ρ) → Option ρ) (a1 : Vec YI) (a2 : Vec YB) (a3 : Int) (a4 : Int) (K : YVP → Option ρ) : Option ρ :=
  (C0 a1).bind fun r1 => L0 a3 a4 a2 (a2.n : Int) (0 : Int) r1 (Vec.nil : Vec YP) (fun e01 => K e01)
noncomputable def F (a1 : Vec YI) (a2 : Vec YB) (a3 : Int) (a4 : Int) : Option YVP := B impl_closures.F (F0 fuelN) a1 a2 a3 a4 (fun x1 => some (x1))
def encA (t : Vec YI × YVB × Int × Int) : LA := [.ra [nl t.1, nl t.2.1], vi t.2.2.1, vi t.2.2.2]
def encR (x : Vec YP) : AV × LO := (.c (.h 0), [ro x])
theorem ZA (a b) (h : encA a = encA b) : a = b := by simp [encA, zA] at h; simp [Prod.ext_iff, h]
theorem ZB (a b) (h : encR a = encR b) : a = b := by simpa [encR, zA] using h
noncomputable def Q (args : LA) : Option YVP := ofC encA (un4 F) args
theorem wrap : F = fun y1 y2 y3 y4 => Q [.ra [nl y1, nl y2], vi y3, vi y4] := by funext y1 y2 y3 y4; exact Eq.symm (zD ZA _ (y1, y2, y3, y4))
noncomputable abbrev O (Q0 : LA → Option YK) (Q1 : LA → Option Bool) (Q2 : LA → Option YM) : Orc := mkO [qE 114 false impl_closures.encR Q0, qE 175 false impl_Body_isLive.encR Q1, qE 115 false impl_Body_note.encR Q2] [] []
noncomputable def c0 : Code := loopC (atomN [] 0 (zB Tryz.f183) 0)
def ct0 : Cut := ⟨[1, 2, 7, 8, 22, 23, 24], [.ad (.s 8) 219]⟩
def lv0 : Exit → Cut
  | .exit 0 => ⟨[8], []⟩
  | _ => ⟨[], []⟩
def k0_0 {ρ : Type} (K : Exit → St → Option ρ) (z1 : Vec YP) : Option ρ := K (.exit 0) (mkS 61 (lv0 (.exit 0)).live [.c (.h 0)] [ro z1] [])
noncomputable def L (W0 : (ρ : Type) → LA → LO → (YVP → Option ρ) → Option ρ) : Lor := fun ρ j st K => sel (Nat.beq j 0) (cutO Tryz.prog 61 ct0.live 0 [] ct0.cmds st fun avs obs => W0 ρ avs obs (k0_0 K)) (Option.none)
theorem step0 {Q0 Q1 Q2 W0} {ρ : Type} {K : Exit → St → Option ρ} {W : LA → LO → Option ρ} {v1 v2 v3 v4 v5 v6 v7} : exC Tryz.prog (O Q0 Q1 Q2) (L W0) [] 1 c0 (mkS 61 ct0.live [vi v1, vi v2, .c (.h 0), .c (.h 1), vl v3, vi v4, vi v5] [ro v6, ro v7] []) (bodyK Tryz.prog 61 0 [] ct0 W lv0 K) =
    B0 (fun y1 y2 y3 y4 y5 => Q1 [.a [cs y1, ci y2, ci y3, cl y4], vk .u64 y5]) (fun y1 y2 y3 y4 => Q2 [.a [cs y1, ci y2, ci y3, cl y4]]) v1 v2 v3 v4 v5 v6 v7 (fun u1 u2 u3 u4 u5 u6 u7 => W [vi u1, vi u2, .c (.h 0), .c (.h 1), vl u3, vi u4, vi u5] [ro u6, ro u7]) (k0_0 K) := by kernel_rfl
def enc0 (t : Int × Int × YVB × Int × Int × Vec (IK .u64) × YVP) : LA × LO := ([vi t.1, vi t.2.1, .c (.h 0), .c (.h 1), vl t.2.2.1, vi t.2.2.2.1, vi t.2.2.2.2.1], [ro t.2.2.2.2.2.1, ro t.2.2.2.2.2.2])
theorem enc0I (a b) (h : enc0 a = enc0 b) : a = b := by simp [enc0, zA] at h; simp [Prod.ext_iff, h]
noncomputable def V0 : (ρ : Type) → LA → LO → (YVP → Option ρ) → Option ρ := fun ρ avs obs k0 => ofC enc0 (fun t => un7 (F0 fuelN) t k0) (avs, obs)
theorem zG (ρ : Type) : F0 fuelN = fun w1 w2 w3 w4 w5 w6 w7 k0 => V0 ρ [vi w1, vi w2, .c (.h 0), .c (.h 1), vl w3, vi w4, vi w5] [ro w6, ro w7] k0 := by funext w1 w2 w3 w4 w5 w6 w7 k0; exact Eq.symm (zD enc0I _ (w1, w2, w3, w4, w5, w6, w7))
theorem main {Q0 Q1 Q2 W0} {ρ : Type} {K : AV → LO → Option ρ} {a1 a2 a3 a4} : exC Tryz.prog (O Q0 Q1 Q2) (L W0) [] 0 (zB Tryz.f183) (entry 61 [.ra [nl a1, nl a2], vi a3, vi a4] [] []) (finO Tryz.prog Tryz.f183.results.toList 0 [] [] K) =
    B (fun y1 => Q0 [vl y1]) (fun w1 w2 w3 w4 w5 w6 w7 k0 => W0 ρ [vi w1, vi w2, .c (.h 0), .c (.h 1), vl w3, vi w4, vi w5] [ro w6, ro w7] k0) a1 a2 a3 a4 (fun x1 => K (.c (.h 0)) [ro x1]) := by kernel_rfl
theorem Gok : (O impl_closures.Q impl_Body_isLive.Q impl_Body_note.Q).ok Tryz.prog := zH (by exact ⟨qE_ok impl_closures.ac, qE_ok impl_Body_isLive.ac, qE_ok impl_Body_note.ac, trivial⟩) (by exact trivial)
theorem ok0 : OkL Tryz.prog (L V0) 0 (.loop c0) := fun ρ st K r h => zJ (ct := ct0) (lv := lv0) (L := (L V0)) Gok hmT (by rw [show zE [] 1 c0 = [] by kernel_rfl]; exact Lor.zF _ _) enc0I (fun k t => un7 (F0 k) t (k0_0 K)) (fun t => rfl) (fun k t => by refine step0.trans ?_; rw [← impl_Body_isLive.wrap, ← impl_Body_note.wrap]; exact congrFun (congrArg (B0 _ _ _ _ _ _ _ _ _) (fx7 fun t => zD enc0I _ t)) _) (fun _ => fuelN) h
theorem e : zE [] 0 (zB Tryz.f183) = [(0, 0, .loop c0)] := by kernel_rfl
theorem acc : ∀ t x, un4 F t = some x → ACc Tryz.prog 183 (encA t) [] true [] fun rv obs => (rv, obs) = encR x := accT (T := Vec YI × YVB × Int × Int) (F := un4 F) (L := (L V0)) (cmds := []) (body := (zB Tryz.f183)) Gok hmT Tryz.func183 (by kernel_rfl) (by kernel_rfl) (by rw [e]; exact Lor.zI ok0 (Lor.zF _ _)) (fun t => by refine main.trans ?_; rw [← impl_closures.wrap, ← zG]; exact congrArg (B _ _ _ _ _ _) (fx1 fun t => zD ZB some t))
theorem ac : ∀ a x, Q a = some x → AC Tryz.prog 183 a [] false [] fun rv obs => (rv, obs) = encR x := acF (body := (zB Tryz.f183)) Tryz.func183 (by kernel_rfl) (by kernel_rfl) acc fun x => ⟨by simp [encR, AV.Flat, K.Flat, C.Flat], flc (zN rfl _) (fl0)⟩
end impl_Weave_compare
namespace impl_Weave_marksOf
noncomputable def B0 {ρ : Type} (C2 : Int → Int → Option Bool) (v1 : Int) (v2 : Int) (v3 : Int) (v4 : Int) (v5 : YK) (v6 : Vec YP) (v7 : Vec YP) (W : Int → Int → Int → Int → YK → YVP → YVP → Option ρ) (K0 : YVP → Option ρ) : Option ρ :=
  sel (decide (v4 < v3)) (chk (decide (0 ≤ v4 ∧ v4 < (v7.n : Int))) (chk (decide (v4.toNat < v7.n)) (sel (decide ((v7.g v4.toNat).1 = (2 : Int))) (chk (decide (0 ≤ v2 ∧ v2 < (v5.n : Int))) (chk (decide (v2.toNat < v5.n)) ((C2 ((v5.g v2.toNat).v) ((v7.g v4.toNat).2.1)).bind fun r3 => sel (r3) (chk (decide ((v6.n + (Vec.lit [((5 : Int), (v7.g v4.toNat).2.1, (v7.g v4.toNat).2.2.1, (v7.g v4.toNat).2.2.2)] : Vec YP).n) * 41 ≤ maxN)) (W v1 v2 v3 (wr (v4 + (1 : Int))) v5 (Vec.app v6 (Vec.lit [((5 : Int), (v7.g v4.toNat).2.1, (v7.g v4.toNat).2.2.1, (v7.g v4.toNat).2.2.2)] : Vec YP)) v7)) (chk (decide ((v6.n + (Vec.lit [((2 : Int), (v7.g v4.toNat).2.1, (v7.g v4.toNat).2.2.1, (v7.g v4.toNat).2.2.2)] : Vec YP).n) * 41 ≤ maxN)) (W v1 v2 v3 (wr (v4 + (1 : Int))) v5 (Vec.app v6 (Vec.lit [((2 : Int), (v7.g v4.toNat).2.1, (v7.g v4.toNat).2.2.1, (v7.g v4.toNat).2.2.2)] : Vec YP)) v7))))) (sel (decide ((v7.g v4.toNat).1 = (3 : Int))) (chk (decide (0 ≤ v1 ∧ v1 < (v5.n : Int))) (chk (decide (v1.toNat < v5.n)) ((C2 ((v5.g v1.toNat).v) ((v7.g v4.toNat).2.1)).bind fun r4 => sel (r4) (chk (decide ((v6.n + (Vec.lit [((4 : Int), (v7.g v4.toNat).2.1, (v7.g v4.toNat).2.2.1, (v7.g v4.toNat).2.2.2)] : Vec YP).n) * 41 ≤ maxN)) (W v1 v2 v3 (wr (v4 + (1 : Int))) v5 (Vec.app v6 (Vec.lit [((4 : Int), (v7.g v4.toNat).2.1, (v7.g v4.toNat).2.2.1, (v7.g v4.toNat).2.2.2)] : Vec YP)) v7)) (chk (decide ((v6.n + (Vec.lit [((3 : Int), (v7.g v4.toNat).2.1, (v7.g v4.toNat).2.2.1, (v7.g v4.toNat).2.2.2)] : Vec YP).n) * 41 ≤ maxN)) (W v1 v2 v3 (wr (v4 + (1 : Int))) v5 (Vec.app v6 (Vec.lit [((3 : Int), (v7.g v4.toNat).2.1, (v7.g v4.toNat).2.2.1, (v7.g v4.toNat).2.2.2)] : Vec YP)) v7))))) (chk (decide ((v6.n + (Vec.lit [((1 : Int), (v7.g v4.toNat).2.1, (v7.g v4.toNat).2.2.1, (v7.g v4.toNat).2.2.2)] : Vec YP).n) * 41 ≤ maxN)) (W v1 v2 v3 (wr (v4 + (1 : Int))) v5 (Vec.app v6 (Vec.lit [((1 : Int), (v7.g v4.toNat).2.1, (v7.g v4.toNat).2.2.1, (v7.g v4.toNat).2.2.2)] : Vec YP)) v7)))))) (K0 v6)
noncomputable def F0 {ρ : Type} : Nat → Int → Int → Int → Int → YK → YVP → YVP → (YVP → Option ρ) → Option ρ
  | 0, _, _, _, _, _, _, _, _ => none
  | k + 1, v1, v2, v3, v4, v5, v6, v7, K0 => B0 impl_set_has.F v1 v2 v3 v4 v5 v6 v7 (fun v1' v2' v3' v4' v5' v6' v7' => F0 k v1' v2' v3' v4' v5' v6' v7' K0) K0
noncomputable def B {ρ : Type} (C0 : YG → Option YK) (C1 : YG → YVB → Int → Int → Option YVP) (L0 : Int → Int → Int → Int → YK → YVP → YVP → (YVP → Option ρ) → Option ρ) (a1 : Vec YI) (a2 : Vec YB) (a3 : Int) (a4 : Int) (K : YVP → Option ρ) : Option ρ :=
  (C0 a1).bind fun r1 => (C1 a1 a2 a3 a4).bind fun r2 => L0 a3 a4 (r2.n : Int) (0 : Int) r1 (Vec.nil : Vec YP) r2 (fun e01 => K e01)
noncomputable def F (a1 : Vec YI) (a2 : Vec YB) (a3 : Int) (a4 : Int) : Option YVP := B impl_closures.F impl_Weave_compare.F (F0 fuelN) a1 a2 a3 a4 (fun x1 => some (x1))
def encA (t : Vec YI × YVB × Int × Int) : LA := [.ra [nl t.1, nl t.2.1], vi t.2.2.1, vi t.2.2.2]
def encR (x : Vec YP) : AV × LO := (.c (.h 0), [ro x])
theorem ZA (a b) (h : encA a = encA b) : a = b := by simp [encA, zA] at h; simp [Prod.ext_iff, h]
theorem ZB (a b) (h : encR a = encR b) : a = b := by simpa [encR, zA] using h
noncomputable def Q (args : LA) : Option YVP := ofC encA (un4 F) args
theorem wrap : F = fun y1 y2 y3 y4 => Q [.ra [nl y1, nl y2], vi y3, vi y4] := by funext y1 y2 y3 y4; exact Eq.symm (zD ZA _ (y1, y2, y3, y4))
noncomputable abbrev O (Q0 : LA → Option YK) (Q1 : LA → Option YVP) (Q2 : LA → Option Bool) : Orc := mkO [qE 114 false impl_closures.encR Q0, qE 183 false impl_Weave_compare.encR Q1, qE 184 false impl_set_has.encR Q2] [] []
noncomputable def c0 : Code := loopC (atomN [] 0 (zB Tryz.f131) 0)
def ct0 : Cut := ⟨[1, 2, 7, 8, 20, 21, 22], [.ad (.s 8) 168]⟩
def lv0 : Exit → Cut
  | .exit 0 => ⟨[8], []⟩
  | _ => ⟨[], []⟩
def k0_0 {ρ : Type} (K : Exit → St → Option ρ) (z1 : Vec YP) : Option ρ := K (.exit 0) (mkS 61 (lv0 (.exit 0)).live [.c (.h 0)] [ro z1] [])
noncomputable def L (W0 : (ρ : Type) → LA → LO → (YVP → Option ρ) → Option ρ) : Lor := fun ρ j st K => sel (Nat.beq j 0) (cutO Tryz.prog 61 ct0.live 0 [] ct0.cmds st fun avs obs => W0 ρ avs obs (k0_0 K)) (Option.none)
theorem step0 {Q0 Q1 Q2 W0} {ρ : Type} {K : Exit → St → Option ρ} {W : LA → LO → Option ρ} {v1 v2 v3 v4 v5 v6 v7} : exC Tryz.prog (O Q0 Q1 Q2) (L W0) [] 1 c0 (mkS 61 ct0.live [vi v1, vi v2, .c (.h 0), .c (.h 1), .c (.h 2), vi v3, vi v4] [ro v5, ro v6, ro v7] []) (bodyK Tryz.prog 61 0 [] ct0 W lv0 K) =
    B0 (fun y1 y2 => Q2 [vk .u64 y1, vi y2]) v1 v2 v3 v4 v5 v6 v7 (fun u1 u2 u3 u4 u5 u6 u7 => W [vi u1, vi u2, .c (.h 0), .c (.h 1), .c (.h 2), vi u3, vi u4] [ro u5, ro u6, ro u7]) (k0_0 K) := by kernel_rfl
def enc0 (t : Int × Int × Int × Int × Vec (IK .u64) × YVP × YVP) : LA × LO := ([vi t.1, vi t.2.1, .c (.h 0), .c (.h 1), .c (.h 2), vi t.2.2.1, vi t.2.2.2.1], [ro t.2.2.2.2.1, ro t.2.2.2.2.2.1, ro t.2.2.2.2.2.2])
theorem enc0I (a b) (h : enc0 a = enc0 b) : a = b := by simp [enc0, zA] at h; simp [Prod.ext_iff, h]
noncomputable def V0 : (ρ : Type) → LA → LO → (YVP → Option ρ) → Option ρ := fun ρ avs obs k0 => ofC enc0 (fun t => un7 (F0 fuelN) t k0) (avs, obs)
theorem zG (ρ : Type) : F0 fuelN = fun w1 w2 w3 w4 w5 w6 w7 k0 => V0 ρ [vi w1, vi w2, .c (.h 0), .c (.h 1), .c (.h 2), vi w3, vi w4] [ro w5, ro w6, ro w7] k0 := by funext w1 w2 w3 w4 w5 w6 w7 k0; exact Eq.symm (zD enc0I _ (w1, w2, w3, w4, w5, w6, w7))
theorem main {Q0 Q1 Q2 W0} {ρ : Type} {K : AV → LO → Option ρ} {a1 a2 a3 a4} : exC Tryz.prog (O Q0 Q1 Q2) (L W0) [] 0 (zB Tryz.f131) (entry 61 [.ra [nl a1, nl a2], vi a3, vi a4] [] []) (finO Tryz.prog Tryz.f131.results.toList 0 [] [] K) =
    B (fun y1 => Q0 [vl y1]) (fun y1 y2 y3 y4 => Q1 [.ra [nl y1, nl y2], vi y3, vi y4]) (fun w1 w2 w3 w4 w5 w6 w7 k0 => W0 ρ [vi w1, vi w2, .c (.h 0), .c (.h 1), .c (.h 2), vi w3, vi w4] [ro w5, ro w6, ro w7] k0) a1 a2 a3 a4 (fun x1 => K (.c (.h 0)) [ro x1]) := by kernel_rfl
theorem Gok : (O impl_closures.Q impl_Weave_compare.Q impl_set_has.Q).ok Tryz.prog := zH (by exact ⟨qE_ok impl_closures.ac, qE_ok impl_Weave_compare.ac, qE_ok impl_set_has.ac, trivial⟩) (by exact trivial)
theorem ok0 : OkL Tryz.prog (L V0) 0 (.loop c0) := fun ρ st K r h => zJ (ct := ct0) (lv := lv0) (L := (L V0)) Gok hmT (by rw [show zE [] 1 c0 = [] by kernel_rfl]; exact Lor.zF _ _) enc0I (fun k t => un7 (F0 k) t (k0_0 K)) (fun t => rfl) (fun k t => by refine step0.trans ?_; rw [← impl_set_has.wrap]; exact congrFun (congrArg (B0 _ _ _ _ _ _ _ _) (fx7 fun t => zD enc0I _ t)) _) (fun _ => fuelN) h
theorem e : zE [] 0 (zB Tryz.f131) = [(0, 0, .loop c0)] := by kernel_rfl
theorem acc : ∀ t x, un4 F t = some x → ACc Tryz.prog 131 (encA t) [] true [] fun rv obs => (rv, obs) = encR x := accT (T := Vec YI × YVB × Int × Int) (F := un4 F) (L := (L V0)) (cmds := []) (body := (zB Tryz.f131)) Gok hmT Tryz.func131 (by kernel_rfl) (by kernel_rfl) (by rw [e]; exact Lor.zI ok0 (Lor.zF _ _)) (fun t => by refine main.trans ?_; rw [← impl_closures.wrap, ← impl_Weave_compare.wrap, ← zG]; exact congrArg (B _ _ _ _ _ _ _) (fx1 fun t => zD ZB some t))
theorem ac : ∀ a x, Q a = some x → AC Tryz.prog 131 a [] false [] fun rv obs => (rv, obs) = encR x := acF (body := (zB Tryz.f131)) Tryz.func131 (by kernel_rfl) (by kernel_rfl) acc fun x => ⟨by simp [encR, AV.Flat, K.Flat, C.Flat], flc (zN rfl _) (fl0)⟩
end impl_Weave_marksOf
namespace impl_regionOf
noncomputable def B0 {ρ : Type} (v1 : Bool) (v2 : Bool) (v3 : Vec YP) (v4 : Int) (v5 : Int) (v6 : Bool) (v7 : Bool) (v8 : YS) (v9 : YS) (v10 : YS) (W : Bool → Bool → YVP → Int → Int → Bool → Bool → YS → YS → YS → Option ρ) (K0 : Bool → Bool → Bool → Bool → YS → YS → YS → Option ρ) : Option ρ :=
  let d1 := (Vec.lit [(v3.g v5.toNat).2.2.2] : YS)
  let d2 := (decide ((v3.g v5.toNat).1 = (5 : Int)))
  let d3 := (decide ((v9.n + d1.n) * 17 ≤ maxN))
  let d4 := (wr (v5 + (1 : Int)))
  let d5 := (decide ((v3.g v5.toNat).1 = (2 : Int)))
  let d6 := (decide ((v3.g v5.toNat).1 = (4 : Int)))
  let d7 := (decide ((v10.n + d1.n) * 17 ≤ maxN))
  let d8 := (decide ((v8.n + d1.n) * 17 ≤ maxN))
  let d9 := (decide ((v3.g v5.toNat).1 = (3 : Int)))
  sel (decide (v5 < v4)) (chk (decide (0 ≤ v5 ∧ v5 < (v3.n : Int))) (sel (v1) (sel (v2) (sel d5 (chk d8 (sel d5 (chk d3 (W true true v3 v4 d4 v6 v7 (Vec.app v8 d1) (Vec.app v9 d1) v10)) (sel d2 (chk d3 (W true true v3 v4 d4 v6 v7 (Vec.app v8 d1) (Vec.app v9 d1) v10)) (chk d7 (W true true v3 v4 d4 v6 v7 (Vec.app v8 d1) v9 (Vec.app v10 d1)))))) (sel d9 (chk d8 (sel d5 (chk d3 (W true true v3 v4 d4 v6 v7 (Vec.app v8 d1) (Vec.app v9 d1) v10)) (sel d2 (chk d3 (W true true v3 v4 d4 v6 v7 (Vec.app v8 d1) (Vec.app v9 d1) v10)) (chk d7 (W true true v3 v4 d4 v6 v7 (Vec.app v8 d1) v9 (Vec.app v10 d1)))))) (sel d5 (chk d3 (W true true v3 v4 d4 v6 v7 v8 (Vec.app v9 d1) v10)) (sel d2 (chk d3 (W true true v3 v4 d4 v6 v7 v8 (Vec.app v9 d1) v10)) (chk d7 (W true true v3 v4 d4 v6 v7 v8 v9 (Vec.app v10 d1))))))) (sel d9 (sel d5 (chk d8 (sel d5 (chk d3 (W true true v3 v4 d4 v6 v7 (Vec.app v8 d1) (Vec.app v9 d1) v10)) (sel d2 (chk d3 (W true true v3 v4 d4 v6 v7 (Vec.app v8 d1) (Vec.app v9 d1) v10)) (chk d7 (W true true v3 v4 d4 v6 v7 (Vec.app v8 d1) v9 (Vec.app v10 d1)))))) (sel d9 (chk d8 (sel d5 (chk d3 (W true true v3 v4 d4 v6 v7 (Vec.app v8 d1) (Vec.app v9 d1) v10)) (sel d2 (chk d3 (W true true v3 v4 d4 v6 v7 (Vec.app v8 d1) (Vec.app v9 d1) v10)) (chk d7 (W true true v3 v4 d4 v6 v7 (Vec.app v8 d1) v9 (Vec.app v10 d1)))))) (sel d5 (chk d3 (W true true v3 v4 d4 v6 v7 v8 (Vec.app v9 d1) v10)) (sel d2 (chk d3 (W true true v3 v4 d4 v6 v7 v8 (Vec.app v9 d1) v10)) (chk d7 (W true true v3 v4 d4 v6 v7 v8 v9 (Vec.app v10 d1))))))) (sel d5 (chk d8 (sel d5 (chk d3 (W true d2 v3 v4 d4 v6 v7 (Vec.app v8 d1) (Vec.app v9 d1) v10)) (sel d2 (chk d3 (W true d2 v3 v4 d4 v6 v7 (Vec.app v8 d1) (Vec.app v9 d1) v10)) (chk d7 (W true d2 v3 v4 d4 v6 v7 (Vec.app v8 d1) v9 (Vec.app v10 d1)))))) (sel d9 (chk d8 (sel d5 (chk d3 (W true d2 v3 v4 d4 v6 v7 (Vec.app v8 d1) (Vec.app v9 d1) v10)) (sel d2 (chk d3 (W true d2 v3 v4 d4 v6 v7 (Vec.app v8 d1) (Vec.app v9 d1) v10)) (chk d7 (W true d2 v3 v4 d4 v6 v7 (Vec.app v8 d1) v9 (Vec.app v10 d1)))))) (sel d5 (chk d3 (W true d2 v3 v4 d4 v6 v7 v8 (Vec.app v9 d1) v10)) (sel d2 (chk d3 (W true d2 v3 v4 d4 v6 v7 v8 (Vec.app v9 d1) v10)) (chk d7 (W true d2 v3 v4 d4 v6 v7 v8 v9 (Vec.app v10 d1))))))))) (sel d5 (sel (v2) (sel d5 (chk d8 (sel d5 (chk d3 (W true true v3 v4 d4 v6 v7 (Vec.app v8 d1) (Vec.app v9 d1) v10)) (sel d2 (chk d3 (W true true v3 v4 d4 v6 v7 (Vec.app v8 d1) (Vec.app v9 d1) v10)) (chk d7 (W true true v3 v4 d4 v6 v7 (Vec.app v8 d1) v9 (Vec.app v10 d1)))))) (sel d9 (chk d8 (sel d5 (chk d3 (W true true v3 v4 d4 v6 v7 (Vec.app v8 d1) (Vec.app v9 d1) v10)) (sel d2 (chk d3 (W true true v3 v4 d4 v6 v7 (Vec.app v8 d1) (Vec.app v9 d1) v10)) (chk d7 (W true true v3 v4 d4 v6 v7 (Vec.app v8 d1) v9 (Vec.app v10 d1)))))) (sel d5 (chk d3 (W true true v3 v4 d4 v6 v7 v8 (Vec.app v9 d1) v10)) (sel d2 (chk d3 (W true true v3 v4 d4 v6 v7 v8 (Vec.app v9 d1) v10)) (chk d7 (W true true v3 v4 d4 v6 v7 v8 v9 (Vec.app v10 d1))))))) (sel d9 (sel d5 (chk d8 (sel d5 (chk d3 (W true true v3 v4 d4 v6 v7 (Vec.app v8 d1) (Vec.app v9 d1) v10)) (sel d2 (chk d3 (W true true v3 v4 d4 v6 v7 (Vec.app v8 d1) (Vec.app v9 d1) v10)) (chk d7 (W true true v3 v4 d4 v6 v7 (Vec.app v8 d1) v9 (Vec.app v10 d1)))))) (sel d9 (chk d8 (sel d5 (chk d3 (W true true v3 v4 d4 v6 v7 (Vec.app v8 d1) (Vec.app v9 d1) v10)) (sel d2 (chk d3 (W true true v3 v4 d4 v6 v7 (Vec.app v8 d1) (Vec.app v9 d1) v10)) (chk d7 (W true true v3 v4 d4 v6 v7 (Vec.app v8 d1) v9 (Vec.app v10 d1)))))) (sel d5 (chk d3 (W true true v3 v4 d4 v6 v7 v8 (Vec.app v9 d1) v10)) (sel d2 (chk d3 (W true true v3 v4 d4 v6 v7 v8 (Vec.app v9 d1) v10)) (chk d7 (W true true v3 v4 d4 v6 v7 v8 v9 (Vec.app v10 d1))))))) (sel d5 (chk d8 (sel d5 (chk d3 (W true d2 v3 v4 d4 v6 v7 (Vec.app v8 d1) (Vec.app v9 d1) v10)) (sel d2 (chk d3 (W true d2 v3 v4 d4 v6 v7 (Vec.app v8 d1) (Vec.app v9 d1) v10)) (chk d7 (W true d2 v3 v4 d4 v6 v7 (Vec.app v8 d1) v9 (Vec.app v10 d1)))))) (sel d9 (chk d8 (sel d5 (chk d3 (W true d2 v3 v4 d4 v6 v7 (Vec.app v8 d1) (Vec.app v9 d1) v10)) (sel d2 (chk d3 (W true d2 v3 v4 d4 v6 v7 (Vec.app v8 d1) (Vec.app v9 d1) v10)) (chk d7 (W true d2 v3 v4 d4 v6 v7 (Vec.app v8 d1) v9 (Vec.app v10 d1)))))) (sel d5 (chk d3 (W true d2 v3 v4 d4 v6 v7 v8 (Vec.app v9 d1) v10)) (sel d2 (chk d3 (W true d2 v3 v4 d4 v6 v7 v8 (Vec.app v9 d1) v10)) (chk d7 (W true d2 v3 v4 d4 v6 v7 v8 v9 (Vec.app v10 d1))))))))) (sel (v2) (sel d5 (chk d8 (sel d5 (chk d3 (W d6 true v3 v4 d4 v6 v7 (Vec.app v8 d1) (Vec.app v9 d1) v10)) (sel d2 (chk d3 (W d6 true v3 v4 d4 v6 v7 (Vec.app v8 d1) (Vec.app v9 d1) v10)) (chk d7 (W d6 true v3 v4 d4 v6 v7 (Vec.app v8 d1) v9 (Vec.app v10 d1)))))) (sel d9 (chk d8 (sel d5 (chk d3 (W d6 true v3 v4 d4 v6 v7 (Vec.app v8 d1) (Vec.app v9 d1) v10)) (sel d2 (chk d3 (W d6 true v3 v4 d4 v6 v7 (Vec.app v8 d1) (Vec.app v9 d1) v10)) (chk d7 (W d6 true v3 v4 d4 v6 v7 (Vec.app v8 d1) v9 (Vec.app v10 d1)))))) (sel d5 (chk d3 (W d6 true v3 v4 d4 v6 v7 v8 (Vec.app v9 d1) v10)) (sel d2 (chk d3 (W d6 true v3 v4 d4 v6 v7 v8 (Vec.app v9 d1) v10)) (chk d7 (W d6 true v3 v4 d4 v6 v7 v8 v9 (Vec.app v10 d1))))))) (sel d9 (sel d5 (chk d8 (sel d5 (chk d3 (W d6 true v3 v4 d4 v6 v7 (Vec.app v8 d1) (Vec.app v9 d1) v10)) (sel d2 (chk d3 (W d6 true v3 v4 d4 v6 v7 (Vec.app v8 d1) (Vec.app v9 d1) v10)) (chk d7 (W d6 true v3 v4 d4 v6 v7 (Vec.app v8 d1) v9 (Vec.app v10 d1)))))) (sel d9 (chk d8 (sel d5 (chk d3 (W d6 true v3 v4 d4 v6 v7 (Vec.app v8 d1) (Vec.app v9 d1) v10)) (sel d2 (chk d3 (W d6 true v3 v4 d4 v6 v7 (Vec.app v8 d1) (Vec.app v9 d1) v10)) (chk d7 (W d6 true v3 v4 d4 v6 v7 (Vec.app v8 d1) v9 (Vec.app v10 d1)))))) (sel d5 (chk d3 (W d6 true v3 v4 d4 v6 v7 v8 (Vec.app v9 d1) v10)) (sel d2 (chk d3 (W d6 true v3 v4 d4 v6 v7 v8 (Vec.app v9 d1) v10)) (chk d7 (W d6 true v3 v4 d4 v6 v7 v8 v9 (Vec.app v10 d1))))))) (sel d5 (chk d8 (sel d5 (chk d3 (W d6 d2 v3 v4 d4 v6 v7 (Vec.app v8 d1) (Vec.app v9 d1) v10)) (sel d2 (chk d3 (W d6 d2 v3 v4 d4 v6 v7 (Vec.app v8 d1) (Vec.app v9 d1) v10)) (chk d7 (W d6 d2 v3 v4 d4 v6 v7 (Vec.app v8 d1) v9 (Vec.app v10 d1)))))) (sel d9 (chk d8 (sel d5 (chk d3 (W d6 d2 v3 v4 d4 v6 v7 (Vec.app v8 d1) (Vec.app v9 d1) v10)) (sel d2 (chk d3 (W d6 d2 v3 v4 d4 v6 v7 (Vec.app v8 d1) (Vec.app v9 d1) v10)) (chk d7 (W d6 d2 v3 v4 d4 v6 v7 (Vec.app v8 d1) v9 (Vec.app v10 d1)))))) (sel d5 (chk d3 (W d6 d2 v3 v4 d4 v6 v7 v8 (Vec.app v9 d1) v10)) (sel d2 (chk d3 (W d6 d2 v3 v4 d4 v6 v7 v8 (Vec.app v9 d1) v10)) (chk d7 (W d6 d2 v3 v4 d4 v6 v7 v8 v9 (Vec.app v10 d1)))))))))))) (K0 v1 v2 v6 v7 v8 v9 v10)
noncomputable def F0 {ρ : Type} : Nat → Bool → Bool → YVP → Int → Int → Bool → Bool → YS → YS → YS → (Bool → Bool → Bool → Bool → YS → YS → YS → Option ρ) → Option ρ
  | 0, _, _, _, _, _, _, _, _, _, _, _ => none
  | k + 1, v1, v2, v3, v4, v5, v6, v7, v8, v9, v10, K0 => B0 v1 v2 v3 v4 v5 v6 v7 v8 v9 v10 (fun v1' v2' v3' v4' v5' v6' v7' v8' v9' v10' => F0 k v1' v2' v3' v4' v5' v6' v7' v8' v9' v10' K0) K0
noncomputable def B {ρ : Type} (L0 : Bool → Bool → YVP → Int → Int → Bool → Bool → YS → YS → YS → (Bool → Bool → Bool → Bool → YS → YS → YS → Option ρ) → Option ρ) (a1 : Vec YP) (K : Bool → YS → YS → YS → Option ρ) : Option ρ :=
  L0 false false a1 (a1.n : Int) (0 : Int) false false (Vec.nil : YS) (Vec.nil : YS) (Vec.nil : YS) (fun e01 e02 e03 e04 e05 e06 e07 => sel (e01) (sel (e02) (K true (Vec.nil : YS) e06 e07) (K e04 e05 e06 e07)) (K e04 e05 e06 e07))
noncomputable def F (a1 : Vec YP) : Option (Bool × YS × YS × YS) := B (F0 fuelN) a1 (fun x1 x2 x3 x4 => some (x1, x2, x3, x4))
def encA (t : Vec YP) : LA := [vl t]
def encR (x : Bool × YS × YS × YS) : AV × LO := (.a [cb x.1, .h 0, .h 1, .h 2], [ro x.2.1, ro x.2.2.1, ro x.2.2.2])
theorem ZA (a b) (h : encA a = encA b) : a = b := by simpa [encA, zA] using h
theorem ZB (a b) (h : encR a = encR b) : a = b := by simp [encR, zA] at h; simp [Prod.ext_iff, h]
noncomputable def Q (args : LA) : Option (Bool × YS × YS × YS) := ofC encA (un1 F) args
theorem wrap : F = fun y1 => Q [vl y1] := by funext y1; exact Eq.symm (zD ZA _ (y1))
noncomputable abbrev O : Orc := mkO [] [] []
noncomputable def c0 : Code := loopC (atomN [] 0 (zB Tryz.f130) 0)
def ct0 : Cut := ⟨[2, 3, 4, 5, 9, 10, 11], [.ad (.p 3 1) 69, .ad (.p 3 2) 69, .ad (.p 3 3) 69]⟩
def lv0 : Exit → Cut
  | .exit 0 => ⟨[2, 3, 4, 5], []⟩
  | _ => ⟨[], []⟩
def k0_0 {ρ : Type} (K : Exit → St → Option ρ) (z1 : Bool) (z2 : Bool) (z3 : Bool) (z4 : Bool) (z5 : YS) (z6 : YS) (z7 : YS) : Option ρ := K (.exit 0) (mkS 82 (lv0 (.exit 0)).live [.c (.p 0 0), .c (.p 1 0), vb z1, vb z2] [.box [cb z3, .z, .z, .z], .box [cb z4, .h 2, .h 3, .h 4], ro z5, ro z6, ro z7] [])
noncomputable def L (W0 : (ρ : Type) → LA → LO → (Bool → Bool → Bool → Bool → YS → YS → YS → Option ρ) → Option ρ) : Lor := fun ρ j st K => sel (Nat.beq j 0) (cutO Tryz.prog 82 ct0.live 0 [] ct0.cmds st fun avs obs => W0 ρ avs obs (k0_0 K)) (Option.none)
theorem step0 {W0} {ρ : Type} {K : Exit → St → Option ρ} {W : LA → LO → Option ρ} {v1 v2 v3 v4 v5 v6 v7 v8 v9 v10} : exC Tryz.prog O (L W0) [] 1 c0 (mkS 82 ct0.live [.c (.p 0 0), .c (.p 1 0), vb v1, vb v2, vl v3, vi v4, vi v5] [.box [cb v6, .z, .z, .z], .box [cb v7, .h 2, .h 3, .h 4], ro v8, ro v9, ro v10] []) (bodyK Tryz.prog 82 0 [] ct0 W lv0 K) =
    B0 v1 v2 v3 v4 v5 v6 v7 v8 v9 v10 (fun u1 u2 u3 u4 u5 u6 u7 u8 u9 u10 => W [.c (.p 0 0), .c (.p 1 0), vb u1, vb u2, vl u3, vi u4, vi u5] [.box [cb u6, .z, .z, .z], .box [cb u7, .h 2, .h 3, .h 4], ro u8, ro u9, ro u10]) (k0_0 K) := by kernel_rfl
def enc0 (t : Bool × Bool × YVP × Int × Int × Bool × Bool × YS × YS × YS) : LA × LO := ([.c (.p 0 0), .c (.p 1 0), vb t.1, vb t.2.1, vl t.2.2.1, vi t.2.2.2.1, vi t.2.2.2.2.1], [.box [cb t.2.2.2.2.2.1, .z, .z, .z], .box [cb t.2.2.2.2.2.2.1, .h 2, .h 3, .h 4], ro t.2.2.2.2.2.2.2.1, ro t.2.2.2.2.2.2.2.2.1, ro t.2.2.2.2.2.2.2.2.2])
theorem enc0I (a b) (h : enc0 a = enc0 b) : a = b := by simp [enc0, zA] at h; simp [Prod.ext_iff, h]
noncomputable def V0 : (ρ : Type) → LA → LO → (Bool → Bool → Bool → Bool → YS → YS → YS → Option ρ) → Option ρ := fun ρ avs obs k0 => ofC enc0 (fun t => un10 (F0 fuelN) t k0) (avs, obs)
theorem zG (ρ : Type) : F0 fuelN = fun w1 w2 w3 w4 w5 w6 w7 w8 w9 w10 k0 => V0 ρ [.c (.p 0 0), .c (.p 1 0), vb w1, vb w2, vl w3, vi w4, vi w5] [.box [cb w6, .z, .z, .z], .box [cb w7, .h 2, .h 3, .h 4], ro w8, ro w9, ro w10] k0 := by funext w1 w2 w3 w4 w5 w6 w7 w8 w9 w10 k0; exact Eq.symm (zD enc0I _ (w1, w2, w3, w4, w5, w6, w7, w8, w9, w10))
theorem main {W0} {ρ : Type} {K : AV → LO → Option ρ} {a1} : exC Tryz.prog O (L W0) [] 0 (zB Tryz.f130) (entry 82 [vl a1] [] []) (finO Tryz.prog Tryz.f130.results.toList 0 [] [.ad (.p 2 1) 69] K) =
    B (fun w1 w2 w3 w4 w5 w6 w7 w8 w9 w10 k0 => W0 ρ [.c (.p 0 0), .c (.p 1 0), vb w1, vb w2, vl w3, vi w4, vi w5] [.box [cb w6, .z, .z, .z], .box [cb w7, .h 2, .h 3, .h 4], ro w8, ro w9, ro w10] k0) a1 (fun x1 x2 x3 x4 => K (.a [cb x1, .h 0, .h 1, .h 2]) [ro x2, ro x3, ro x4]) := by kernel_rfl
theorem Gok : O.ok Tryz.prog := zH (by exact trivial) (by exact trivial)
theorem ok0 : OkL Tryz.prog (L V0) 0 (.loop c0) := fun ρ st K r h => zJ (ct := ct0) (lv := lv0) (L := (L V0)) Gok hmT (by rw [show zE [] 1 c0 = [] by kernel_rfl]; exact Lor.zF _ _) enc0I (fun k t => un10 (F0 k) t (k0_0 K)) (fun t => rfl) (fun k t => by refine step0.trans ?_; exact congrFun (congrArg (B0 _ _ _ _ _ _ _ _ _ _) (fx10 fun t => zD enc0I _ t)) _) (fun _ => fuelN) h
theorem e : zE [] 0 (zB Tryz.f130) = [(0, 0, .loop c0)] := by kernel_rfl
theorem acc : ∀ t x, un1 F t = some x → ACc Tryz.prog 130 (encA t) [] true [] fun rv obs => (rv, obs) = encR x := accT (T := Vec YP) (F := un1 F) (L := (L V0)) (cmds := [.ad (.p 2 1) 69]) (body := (zB Tryz.f130)) Gok hmT Tryz.func130 (by kernel_rfl) (by kernel_rfl) (by rw [e]; exact Lor.zI ok0 (Lor.zF _ _)) (fun t => by refine main.trans ?_; rw [← zG]; exact congrArg (B _ _) (fx4 fun t => zD ZB some t))
theorem ac : ∀ a x, Q a = some x → AC Tryz.prog 130 a [] false [] fun rv obs => (rv, obs) = encR x := acF (body := (zB Tryz.f130)) Tryz.func130 (by kernel_rfl) (by kernel_rfl) acc fun x => ⟨by simp [encR, AV.Flat, K.Flat, C.Flat], flc (zN rfl _) (flc (zN rfl _) (flc (zN rfl _) (fl0)))⟩
end impl_regionOf
namespace impl_Weave_regionsOf_1_sfaa7
noncomputable def B {ρ : Type} (C0 : YVP → Option (Bool × YS × YS × YS)) (a1 : Vec YP) (a2 : Vec YA) (K : YVP → YVA → Option ρ) : Option ρ :=
  sel (decide ((0 : Int) < (a1.n : Int))) (both ((C0 a1).bind fun r1 => chk (decide ((a2.n + (Vec.lit [(r1.1, r1.2.1, r1.2.2.1, r1.2.2.2)] : Vec YA).n) * 81 ≤ maxN)) (K a1 (Vec.app a2 (Vec.lit [(r1.1, r1.2.1, r1.2.2.1, r1.2.2.2)] : Vec YA)))) (both ((C0 a1).bind fun r2 => chk (decide ((a2.n + (Vec.lit [(r2.1, r2.2.1, r2.2.2.1, r2.2.2.2)] : Vec YA).n) * 81 ≤ maxN)) (K a1 (Vec.app a2 (Vec.lit [(r2.1, r2.2.1, r2.2.2.1, r2.2.2.2)] : Vec YA)))) ((C0 a1).bind fun r3 => both (chk (decide ((a2.n + (Vec.lit [(r3.1, r3.2.1, r3.2.2.1, r3.2.2.2)] : Vec YA).n) * 81 ≤ maxN)) (K a1 (Vec.app a2 (Vec.lit [(r3.1, r3.2.1, r3.2.2.1, r3.2.2.2)] : Vec YA)))) (chk (decide ((a2.n + (Vec.lit [(r3.1, r3.2.1, r3.2.2.1, r3.2.2.2)] : Vec YA).n) * 81 ≤ maxN)) (K a1 (Vec.app a2 (Vec.lit [(r3.1, r3.2.1, r3.2.2.1, r3.2.2.2)] : Vec YA))))))) (K a1 a2)
noncomputable def F (a1 : Vec YP) (a2 : Vec YA) : Option (YVP × YVA) := B impl_regionOf.F a1 a2 (fun x1 x2 => some (x1, x2))
def encA (t : YVP × YVA) : LA × LO := ([.c (.p 0 0), .c (.p 1 0)], [.box [.h 2], .box [.h 3], ro t.1, ro t.2])
def encR (x : YVP × YVA) : AV × LO := (.tup [], [.box [.z], .box [.h 3], ro x.1, ro x.2])
theorem ZA (a b) (h : encA a = encA b) : a = b := by simp [encA, zA] at h; simp [Prod.ext_iff, h]
theorem ZB (a b) (h : encR a = encR b) : a = b := by simp [encR, zA] at h; simp [Prod.ext_iff, h]
noncomputable def Q (args : LA) (hin : LO) : Option (YVP × YVA) := ofC encA (un2 F) (args, hin)
theorem wrap : F = fun y1 y2 => Q [.c (.p 0 0), .c (.p 1 0)] [.box [.h 2], .box [.h 3], ro y1, ro y2] := by funext y1 y2; exact Eq.symm (zD ZA _ (y1, y2))
noncomputable abbrev O (Q0 : LA → Option (Bool × YS × YS × YS)) : Orc := mkO [qE 130 false impl_regionOf.encR Q0] [] []
noncomputable def L : Lor := fun _ _ _ _ => Option.none
theorem main {Q0} {ρ : Type} {K : AV → LO → Option ρ} {a1 a2} : exC Tryz.prog (O Q0) L [] 0 (zB Tryz.f129) (entry 10 [.c (.p 0 0), .c (.p 1 0)] [.box [.h 2], .box [.h 3], ro a1, ro a2] [true, true, true, false]) (finO Tryz.prog Tryz.f129.results.toList 4 [true, true, true, false] [] K) =
    B (fun y1 => Q0 [vl y1]) a1 a2 (fun x1 x2 => K (.tup []) [.box [.z], .box [.h 3], ro x1, ro x2]) := by kernel_rfl
theorem Gok : (O impl_regionOf.Q).ok Tryz.prog := zH (by exact ⟨qE_ok impl_regionOf.ac, trivial⟩) (by exact trivial)
theorem acc : ∀ t x, un2 F t = some x → ACc Tryz.prog 129 (encA t).1 (encA t).2 true [true, true, true, false] fun rv obs => (rv, obs) = encR x := accT2 (T := YVP × YVA) (F := un2 F) (L := L) (cmds := []) (body := (zB Tryz.f129)) 4 (fun _ => rfl) Gok hmT Tryz.func129 (by kernel_rfl) (by kernel_rfl) (by rw [show zE [] 0 (zB Tryz.f129) = [] by kernel_rfl]; exact Lor.zF _ _) (fun t => by refine main.trans ?_; rw [← impl_regionOf.wrap]; exact congrArg (B _ _ _) (fx2 fun t => zD ZB some t))
theorem ac : ∀ a h x, Q a h = some x → AC Tryz.prog 129 a h false [true, true, true, false] fun rv obs => (rv, obs) = encR x := acF2 (body := (zB Tryz.f129)) Tryz.func129 (by kernel_rfl) (by kernel_rfl) acc fun x => ⟨by simp [encR, AV.Flat, K.Flat, C.Flat], flc (by simp [Ob.Flat, C.Flat, N.Flat]) (flc (by simp [Ob.Flat, C.Flat, N.Flat]) (flc (zN rfl _) (flc (zN rfl _) (fl0))))⟩
end impl_Weave_regionsOf_1_sfaa7
namespace impl_Weave_regionsOf
noncomputable def B0 {ρ : Type} (C1 : YVP → YVA → Option (YVP × YVA)) (v1 : Int) (v2 : Int) (v3 : Vec YP) (v4 : Vec YA) (v5 : Vec YP) (W : Int → Int → YVP → YVA → YVP → Option ρ) (K0 : YVA → YVP → Option ρ) : Option ρ :=
  sel (decide (v2 < v1)) (chk (decide (0 ≤ v2 ∧ v2 < (v3.n : Int))) (chk (decide (v2.toNat < v3.n)) (sel ((!decide ((v3.g v2.toNat).1 = (1 : Int)))) (chk (decide ((v5.n + (Vec.lit [((v3.g v2.toNat).1, (v3.g v2.toNat).2.1, (v3.g v2.toNat).2.2.1, (v3.g v2.toNat).2.2.2)] : Vec YP).n) * 41 ≤ maxN)) (W v1 (wr (v2 + (1 : Int))) v3 v4 (Vec.app v5 (Vec.lit [((v3.g v2.toNat).1, (v3.g v2.toNat).2.1, (v3.g v2.toNat).2.2.1, (v3.g v2.toNat).2.2.2)] : Vec YP)))) ((C1 v5 v4).bind fun r3 => chk (decide ((r3.2.n + (Vec.lit [(false, (Vec.lit [(v3.g v2.toNat).2.2.2] : YS), (Vec.nil : YS), (Vec.nil : YS))] : Vec YA).n) * 81 ≤ maxN)) (W v1 (wr (v2 + (1 : Int))) v3 (Vec.app r3.2 (Vec.lit [(false, (Vec.lit [(v3.g v2.toNat).2.2.2] : YS), (Vec.nil : YS), (Vec.nil : YS))] : Vec YA)) (Vec.nil : Vec YP)))))) (K0 v4 v5)
noncomputable def F0 {ρ : Type} : Nat → Int → Int → YVP → YVA → YVP → (YVA → YVP → Option ρ) → Option ρ
  | 0, _, _, _, _, _, _ => none
  | k + 1, v1, v2, v3, v4, v5, K0 => B0 impl_Weave_regionsOf_1_sfaa7.F v1 v2 v3 v4 v5 (fun v1' v2' v3' v4' v5' => F0 k v1' v2' v3' v4' v5' K0) K0
noncomputable def B {ρ : Type} (C0 : YG → YVB → Int → Int → Option YVP) (C1 : YVP → YVA → Option (YVP × YVA)) (L0 : Int → Int → YVP → YVA → YVP → (YVA → YVP → Option ρ) → Option ρ) (a1 : Vec YI) (a2 : Vec YB) (a3 : Int) (a4 : Int) (K : YVA → Option ρ) : Option ρ :=
  (C0 a1 a2 a3 a4).bind fun r1 => L0 (r1.n : Int) (0 : Int) r1 (Vec.nil : Vec YA) (Vec.nil : Vec YP) (fun e01 e02 => (C1 e02 e01).bind fun r2 => K r2.2)
noncomputable def F (a1 : Vec YI) (a2 : Vec YB) (a3 : Int) (a4 : Int) : Option YVA := B impl_Weave_marksOf.F impl_Weave_regionsOf_1_sfaa7.F (F0 fuelN) a1 a2 a3 a4 (fun x1 => some (x1))
def encA (t : Vec YI × YVB × Int × Int) : LA := [.ra [nl t.1, nl t.2.1], vi t.2.2.1, vi t.2.2.2]
def encR (x : Vec YA) : AV × LO := (.c (.h 0), [ro x])
theorem ZA (a b) (h : encA a = encA b) : a = b := by simp [encA, zA] at h; simp [Prod.ext_iff, h]
theorem ZB (a b) (h : encR a = encR b) : a = b := by simpa [encR, zA] using h
noncomputable def Q (args : LA) : Option YVA := ofC encA (un4 F) args
theorem wrap : F = fun y1 y2 y3 y4 => Q [.ra [nl y1, nl y2], vi y3, vi y4] := by funext y1 y2 y3 y4; exact Eq.symm (zD ZA _ (y1, y2, y3, y4))
noncomputable abbrev O (Q0 : LA → Option YVP) (Q1 : LA → LO → Option (YVP × YVA)) : Orc := mkO [qE 131 false impl_Weave_marksOf.encR Q0] [eE Tryz.prog 129 [true, true] false [true, true, true, false] impl_Weave_regionsOf_1_sfaa7.encR Q1] []
noncomputable def c0 : Code := loopC (atomN [] 0 (zB Tryz.f66) 0)
def ct0 : Cut := ⟨[7, 8, 9, 16, 17, 18], [.ad (.p 7 0) 40, .ad (.p 8 0) 168]⟩
def lv0 : Exit → Cut
  | .exit 0 => ⟨[7, 9], []⟩
  | _ => ⟨[], []⟩
def k0_0 {ρ : Type} (K : Exit → St → Option ρ) (z1 : Vec YA) (z2 : Vec YP) : Option ρ := K (.exit 0) (mkS 43 (lv0 (.exit 0)).live [.c (.p 0 0), .fn 129 [.p 1 0, .p 0 0]] [.box [.h 2], .box [.h 3], ro z1, ro z2] [])
noncomputable def L (W0 : (ρ : Type) → LA → LO → (YVA → YVP → Option ρ) → Option ρ) : Lor := fun ρ j st K => sel (Nat.beq j 0) (cutO Tryz.prog 43 ct0.live 0 [] ct0.cmds st fun avs obs => W0 ρ avs obs (k0_0 K)) (Option.none)
theorem step0 {Q0 Q1 W0} {ρ : Type} {K : Exit → St → Option ρ} {W : LA → LO → Option ρ} {v1 v2 v3 v4 v5} : exC Tryz.prog (O Q0 Q1) (L W0) [] 1 c0 (mkS 43 ct0.live [.c (.p 0 0), .c (.p 1 0), .fn 129 [.p 1 0, .p 0 0], .c (.h 2), vi v1, vi v2] [.box [.h 3], .box [.h 4], ro v3, ro v4, ro v5] []) (bodyK Tryz.prog 43 0 [] ct0 W lv0 K) =
    B0 (fun y1 y2 => Q1 [.c (.p 0 0), .c (.p 1 0)] [.box [.h 2], .box [.h 3], ro y1, ro y2]) v1 v2 v3 v4 v5 (fun u1 u2 u3 u4 u5 => W [.c (.p 0 0), .c (.p 1 0), .fn 129 [.p 1 0, .p 0 0], .c (.h 2), vi u1, vi u2] [.box [.h 3], .box [.h 4], ro u3, ro u4, ro u5]) (k0_0 K) := by kernel_rfl
def enc0 (t : Int × Int × YVP × YVA × YVP) : LA × LO := ([.c (.p 0 0), .c (.p 1 0), .fn 129 [.p 1 0, .p 0 0], .c (.h 2), vi t.1, vi t.2.1], [.box [.h 3], .box [.h 4], ro t.2.2.1, ro t.2.2.2.1, ro t.2.2.2.2])
theorem enc0I (a b) (h : enc0 a = enc0 b) : a = b := by simp [enc0, zA] at h; simp [Prod.ext_iff, h]
noncomputable def V0 : (ρ : Type) → LA → LO → (YVA → YVP → Option ρ) → Option ρ := fun ρ avs obs k0 => ofC enc0 (fun t => un5 (F0 fuelN) t k0) (avs, obs)
theorem zG (ρ : Type) : F0 fuelN = fun w1 w2 w3 w4 w5 k0 => V0 ρ [.c (.p 0 0), .c (.p 1 0), .fn 129 [.p 1 0, .p 0 0], .c (.h 2), vi w1, vi w2] [.box [.h 3], .box [.h 4], ro w3, ro w4, ro w5] k0 := by funext w1 w2 w3 w4 w5 k0; exact Eq.symm (zD enc0I _ (w1, w2, w3, w4, w5))
theorem main {Q0 Q1 W0} {ρ : Type} {K : AV → LO → Option ρ} {a1 a2 a3 a4} : exC Tryz.prog (O Q0 Q1) (L W0) [] 0 (zB Tryz.f66) (entry 43 [.ra [nl a1, nl a2], vi a3, vi a4] [] []) (finO Tryz.prog Tryz.f66.results.toList 0 [] [] K) =
    B (fun y1 y2 y3 y4 => Q0 [.ra [nl y1, nl y2], vi y3, vi y4]) (fun y1 y2 => Q1 [.c (.p 0 0), .c (.p 1 0)] [.box [.h 2], .box [.h 3], ro y1, ro y2]) (fun w1 w2 w3 w4 w5 k0 => W0 ρ [.c (.p 0 0), .c (.p 1 0), .fn 129 [.p 1 0, .p 0 0], .c (.h 2), vi w1, vi w2] [.box [.h 3], .box [.h 4], ro w3, ro w4, ro w5] k0) a1 a2 a3 a4 (fun x1 => K (.c (.h 0)) [ro x1]) := by kernel_rfl
theorem Gok : (O impl_Weave_marksOf.Q impl_Weave_regionsOf_1_sfaa7.Q).ok Tryz.prog := zH (by exact ⟨qE_ok impl_Weave_marksOf.ac, trivial⟩) (by exact ⟨eE_ok (fun h => by cases h) impl_Weave_regionsOf_1_sfaa7.ac, trivial⟩)
theorem ok0 : OkL Tryz.prog (L V0) 0 (.loop c0) := fun ρ st K r h => zJ (ct := ct0) (lv := lv0) (L := (L V0)) Gok hmT (by rw [show zE [] 1 c0 = [] by kernel_rfl]; exact Lor.zF _ _) enc0I (fun k t => un5 (F0 k) t (k0_0 K)) (fun t => rfl) (fun k t => by refine step0.trans ?_; rw [← impl_Weave_regionsOf_1_sfaa7.wrap]; exact congrFun (congrArg (B0 _ _ _ _ _ _) (fx5 fun t => zD enc0I _ t)) _) (fun _ => fuelN) h
theorem e : zE [] 0 (zB Tryz.f66) = [(0, 0, .loop c0)] := by kernel_rfl
theorem acc : ∀ t x, un4 F t = some x → ACc Tryz.prog 66 (encA t) [] true [] fun rv obs => (rv, obs) = encR x := accT (T := Vec YI × YVB × Int × Int) (F := un4 F) (L := (L V0)) (cmds := []) (body := (zB Tryz.f66)) Gok hmT Tryz.func66 (by kernel_rfl) (by kernel_rfl) (by rw [e]; exact Lor.zI ok0 (Lor.zF _ _)) (fun t => by refine main.trans ?_; rw [← impl_Weave_marksOf.wrap, ← impl_Weave_regionsOf_1_sfaa7.wrap, ← zG]; exact congrArg (B _ _ _ _ _ _ _) (fx1 fun t => zD ZB some t))
theorem ac : ∀ a x, Q a = some x → AC Tryz.prog 66 a [] false [] fun rv obs => (rv, obs) = encR x := acF (body := (zB Tryz.f66)) Tryz.func66 (by kernel_rfl) (by kernel_rfl) acc fun x => ⟨by simp [encR, AV.Flat, K.Flat, C.Flat], flc (zN rfl _) (fl0)⟩
end impl_Weave_regionsOf
namespace impl_MergeAt
noncomputable def B {ρ : Type} (C0 : YVC → YVW → Option Bool) (C1 : Int → Int → Option Bool) (C2 : YVC → YVW → Int → ByteArray → Option (ByteArray × Int × Int × Int)) (C3 : YVN → Int → Option Int) (C4 : YG → YVB → Int → Int → Option YVA) (a1 : Vec YC) (a2 : Vec YW) (a3 : Int) (a4 : Int) (a5 : ByteArray) (K : Int → YVA → Option ρ) : Option ρ :=
  (C0 a1 a2).bind fun r1 => sel ((!r1)) (K (1 : Int) (Vec.nil : Vec YA)) ((C1 a3 (a1.n : Int)).bind fun r2 => sel ((!r2)) (K (2 : Int) (Vec.nil : Vec YA)) ((C1 a4 (a1.n : Int)).bind fun r3 => sel ((!r3)) (K (2 : Int) (Vec.nil : Vec YA)) ((C2 a1 a2 a3 a5).bind fun r4 => sel ((!decide (r4.2.2.2 = (0 : Int)))) (K r4.2.2.2 (Vec.nil : Vec YA)) (chk (decide (0 ≤ a4 ∧ a4 < (a1.n : Int))) ((C3 ((a1.g a4.toNat).2.2) r4.2.1).bind fun r5 => sel (decide (r5 < (0 : Int))) (K (4 : Int) (Vec.nil : Vec YA)) (chk (decide (0 ≤ r4.2.1 ∧ r4.2.1 < (a2.n : Int))) (chk (decide (0 ≤ a4 ∧ a4 < (a1.n : Int))) (chk (decide (0 ≤ r5 ∧ r5 < (((a1.g a4.toNat).2.2).n : Int))) ((C4 ((a2.g (r4.2.1).toNat).1) ((a2.g (r4.2.1).toNat).2) r4.2.2.1 ((((a1.g a4.toNat).2.2).g r5.toNat).2.2)).bind fun r6 => K (0 : Int) r6)))))))))
noncomputable def F (a1 : Vec YC) (a2 : Vec YW) (a3 : Int) (a4 : Int) (a5 : ByteArray) : Option (Int × YVA) := B impl_StoreOk.F impl_isPlace.F impl_nameAt.F impl_idAt.F impl_Weave_regionsOf.F a1 a2 a3 a4 a5 (fun x1 x2 => some (x1, x2))
def encA (t : YVC × YVW × Int × Int × ByteArray) : LA := [.a [cl t.1, cl t.2.1], vi t.2.2.1, vi t.2.2.2.1, vs t.2.2.2.2]
def encR (x : Int × YVA) : AV × LO := (.tup [.c (.h 0), .c (ci x.1)], [ro x.2])
theorem ZA (a b) (h : encA a = encA b) : a = b := by simp [encA, zA] at h; simp [Prod.ext_iff, h]
theorem ZB (a b) (h : encR a = encR b) : a = b := by simp [encR, zA] at h; simp [Prod.ext_iff, h]
noncomputable def Q (args : LA) : Option (Int × YVA) := ofC encA (un5 F) args
theorem wrap : F = fun y1 y2 y3 y4 y5 => Q [.a [cl y1, cl y2], vi y3, vi y4, vs y5] := by funext y1 y2 y3 y4 y5; exact Eq.symm (zD ZA _ (y1, y2, y3, y4, y5))
noncomputable abbrev O (Q0 : LA → Option Bool) (Q1 : LA → Option Bool) (Q2 : LA → Option (ByteArray × Int × Int × Int)) (Q3 : LA → Option Int) (Q4 : LA → Option YVA) : Orc := mkO [qE 63 false impl_StoreOk.encR Q0, qE 64 false impl_isPlace.encR Q1, qE 53 false impl_nameAt.encR Q2, qE 65 false impl_idAt.encR Q3, qE 66 false impl_Weave_regionsOf.encR Q4] [] []
noncomputable def L : Lor := fun _ _ _ _ => Option.none
theorem main {Q0 Q1 Q2 Q3 Q4} {ρ : Type} {K : AV → LO → Option ρ} {a1 a2 a3 a4 a5} : exC Tryz.prog (O Q0 Q1 Q2 Q3 Q4) L [] 0 (zB Tryz.f17) (entry 71 [.a [cl a1, cl a2], vi a3, vi a4, vs a5] [] []) (finO Tryz.prog Tryz.f17.results.toList 0 [] [.ad (.s 8) 40] K) =
    B (fun y1 y2 => Q0 [.a [cl y1, cl y2]]) (fun y1 y2 => Q1 [vi y1, vi y2]) (fun y1 y2 y3 y4 => Q2 [.a [cl y1, cl y2], vi y3, vs y4]) (fun y1 y2 => Q3 [vl y1, vi y2]) (fun y1 y2 y3 y4 => Q4 [.ra [nl y1, nl y2], vi y3, vi y4]) a1 a2 a3 a4 a5 (fun x1 x2 => K (.tup [.c (.h 0), .c (ci x1)]) [ro x2]) := by kernel_rfl
theorem Gok : (O impl_StoreOk.Q impl_isPlace.Q impl_nameAt.Q impl_idAt.Q impl_Weave_regionsOf.Q).ok Tryz.prog := zH (by exact ⟨qE_ok impl_StoreOk.ac, qE_ok impl_isPlace.ac, qE_ok impl_nameAt.ac, qE_ok impl_idAt.ac, qE_ok impl_Weave_regionsOf.ac, trivial⟩) (by exact trivial)
theorem acc : ∀ t x, un5 F t = some x → ACc Tryz.prog 17 (encA t) [] true [] fun rv obs => (rv, obs) = encR x := accT (T := YVC × YVW × Int × Int × ByteArray) (F := un5 F) (L := L) (cmds := [.ad (.s 8) 40]) (body := (zB Tryz.f17)) Gok hmT Tryz.func17 (by kernel_rfl) (by kernel_rfl) (by rw [show zE [] 0 (zB Tryz.f17) = [] by kernel_rfl]; exact Lor.zF _ _) (fun t => by refine main.trans ?_; rw [← impl_StoreOk.wrap, ← impl_isPlace.wrap, ← impl_nameAt.wrap, ← impl_idAt.wrap, ← impl_Weave_regionsOf.wrap]; exact congrArg (B _ _ _ _ _ _ _ _ _ _) (fx2 fun t => zD ZB some t))
theorem ac : ∀ a x, Q a = some x → AC Tryz.prog 17 a [] false [] fun rv obs => (rv, obs) = encR x := acF (body := (zB Tryz.f17)) Tryz.func17 (by kernel_rfl) (by kernel_rfl) acc fun x => ⟨by simp [encR, AV.Flat, K.Flat, C.Flat], flc (zN rfl _) (fl0)⟩
end impl_MergeAt
namespace laws_eqStringS
noncomputable def B0 {ρ : Type} (v1 : YS) (v2 : YS) (v3 : Int) (W : YS → YS → Int → Option ρ) (K0 : Unit → Option ρ) (Kr : Bool → Option ρ) : Option ρ :=
  sel (decide (v3 < (v1.n : Int))) (chk (decide (0 ≤ v3 ∧ v3 < (v1.n : Int))) (chk (decide (0 ≤ v3 ∧ v3 < (v2.n : Int))) (sel ((!decide ((v1.g v3.toNat) = (v2.g v3.toNat)))) (Kr false) (W v1 v2 (wr (v3 + (1 : Int))))))) (K0 ())
noncomputable def F0 {ρ : Type} : Nat → YS → YS → Int → (Unit → Option ρ) → (Bool → Option ρ) → Option ρ
  | 0, _, _, _, _, _ => none
  | k + 1, v1, v2, v3, K0, Kr => B0 v1 v2 v3 (fun v1' v2' v3' => F0 k v1' v2' v3' K0 Kr) K0 Kr
noncomputable def B {ρ : Type} (L0 : YS → YS → Int → (Unit → Option ρ) → (Bool → Option ρ) → Option ρ) (a1 : YS) (a2 : YS) (K : Bool → Option ρ) : Option ρ :=
  sel ((!decide ((a1.n : Int) = (a2.n : Int)))) (K false) (L0 a1 a2 (0 : Int) (fun _ => K true) (fun x01 => K x01))
noncomputable def F (a1 : YS) (a2 : YS) : Option Bool := B (F0 fuelN) a1 a2 (fun x1 => some (x1))
def encA (t : YS × YS) : LA := [vl t.1, vl t.2]
def encR (x : Bool) : AV × LO := (vb x, [])
theorem ZA (a b) (h : encA a = encA b) : a = b := by simp [encA, zA] at h; simp [Prod.ext_iff, h]
theorem ZB (a b) (h : encR a = encR b) : a = b := by simpa [encR, zA] using h
noncomputable def Q (args : LA) : Option Bool := ofC encA (un2 F) args
theorem wrap : F = fun y1 y2 => Q [vl y1, vl y2] := by funext y1 y2; exact Eq.symm (zD ZA _ (y1, y2))
noncomputable abbrev O : Orc := mkO [] [] []
noncomputable def c0 : Code := loopC (atomN [] 0 (zB Tryz.f45) 0)
def ct0 : Cut := ⟨[0, 1, 5], []⟩
def lv0 : Exit → Cut
  | .exit 0 => ⟨[], []⟩
  | .ret => ⟨[4], []⟩
  | _ => ⟨[], []⟩
def k0_0 {ρ : Type} (K : Exit → St → Option ρ) (_ : Unit) : Option ρ := K (.exit 0) (mkS 26 (lv0 (.exit 0)).live [] [] [])
def k0_r {ρ : Type} (K : Exit → St → Option ρ) (z1 : Bool) : Option ρ := K .ret (mkS 26 (lv0 .ret).live [vb z1] [] [])
noncomputable def L (W0 : (ρ : Type) → LA → LO → (Unit → Option ρ) → (Bool → Option ρ) → Option ρ) : Lor := fun ρ j st K => sel (Nat.beq j 0) (cutO Tryz.prog 26 ct0.live 0 [] ct0.cmds st fun avs obs => W0 ρ avs obs (k0_0 K) (k0_r K)) (Option.none)
theorem step0 {W0} {ρ : Type} {K : Exit → St → Option ρ} {W : LA → LO → Option ρ} {v1 v2 v3} : exC Tryz.prog O (L W0) [] 1 c0 (mkS 26 ct0.live [vl v1, vl v2, vi v3] [] []) (bodyK Tryz.prog 26 0 [] ct0 W lv0 K) =
    B0 v1 v2 v3 (fun u1 u2 u3 => W [vl u1, vl u2, vi u3] []) (k0_0 K) (k0_r K) := by kernel_rfl
def enc0 (t : YS × YS × Int) : LA × LO := ([vl t.1, vl t.2.1, vi t.2.2], [])
theorem enc0I (a b) (h : enc0 a = enc0 b) : a = b := by simp [enc0, zA] at h; simp [Prod.ext_iff, h]
noncomputable def V0 : (ρ : Type) → LA → LO → (Unit → Option ρ) → (Bool → Option ρ) → Option ρ := fun ρ avs obs k0 kr => ofC enc0 (fun t => un3 (F0 fuelN) t k0 kr) (avs, obs)
theorem zG (ρ : Type) : F0 fuelN = fun w1 w2 w3 k0 kr => V0 ρ [vl w1, vl w2, vi w3] [] k0 kr := by funext w1 w2 w3 k0 kr; exact Eq.symm (zD enc0I _ (w1, w2, w3))
theorem main {W0} {ρ : Type} {K : AV → LO → Option ρ} {a1 a2} : exC Tryz.prog O (L W0) [] 0 (zB Tryz.f45) (entry 26 [vl a1, vl a2] [] []) (finO Tryz.prog Tryz.f45.results.toList 0 [] [] K) =
    B (fun w1 w2 w3 k0 kr => W0 ρ [vl w1, vl w2, vi w3] [] k0 kr) a1 a2 (fun x1 => K (vb x1) []) := by kernel_rfl
theorem Gok : O.ok Tryz.prog := zH (by exact trivial) (by exact trivial)
theorem ok0 : OkL Tryz.prog (L V0) 0 (.loop c0) := fun ρ st K r h => zJ (ct := ct0) (lv := lv0) (L := (L V0)) Gok hmT (by rw [show zE [] 1 c0 = [] by kernel_rfl]; exact Lor.zF _ _) enc0I (fun k t => un3 (F0 k) t (k0_0 K) (k0_r K)) (fun t => rfl) (fun k t => by refine step0.trans ?_; exact congrFun (congrFun (congrArg (B0 _ _ _) (fx3 fun t => zD enc0I _ t)) _) _) (fun _ => fuelN) h
theorem e : zE [] 0 (zB Tryz.f45) = [(0, 0, .loop c0)] := by kernel_rfl
theorem acc : ∀ t x, un2 F t = some x → ACc Tryz.prog 45 (encA t) [] true [] fun rv obs => (rv, obs) = encR x := accT (T := YS × YS) (F := un2 F) (L := (L V0)) (cmds := []) (body := (zB Tryz.f45)) Gok hmT Tryz.func45 (by kernel_rfl) (by kernel_rfl) (by rw [e]; exact Lor.zI ok0 (Lor.zF _ _)) (fun t => by refine main.trans ?_; rw [← zG]; exact congrArg (B _ _ _) (fx1 fun t => zD ZB some t))
theorem ac : ∀ a x, Q a = some x → AC Tryz.prog 45 a [] false [] fun rv obs => (rv, obs) = encR x := acF (body := (zB Tryz.f45)) Tryz.func45 (by kernel_rfl) (by kernel_rfl) acc fun x => ⟨by simp [encR, AV.Flat, K.Flat, C.Flat], fl0⟩
end laws_eqStringS
namespace laws_eqRegion
noncomputable def B {ρ : Type} (C0 : YS → YS → Option Bool) (a1 : Bool) (a2 : YS) (a3 : YS) (a4 : YS) (a5 : Bool) (a6 : YS) (a7 : YS) (a8 : YS) (K : Bool → Option ρ) : Option ρ :=
  sel ((!(a1 == a5))) (K false) ((C0 a2 a6).bind fun r1 => sel ((!r1)) (K false) ((C0 a3 a7).bind fun r2 => sel ((!r2)) (K false) ((C0 a4 a8).bind fun r3 => sel ((!r3)) (K false) (K true))))
noncomputable def F (a1 : Bool) (a2 : YS) (a3 : YS) (a4 : YS) (a5 : Bool) (a6 : YS) (a7 : YS) (a8 : YS) : Option Bool := B laws_eqStringS.F a1 a2 a3 a4 a5 a6 a7 a8 (fun x1 => some (x1))
def encA (t : Bool × YS × YS × YS × Bool × YS × YS × YS) : LA := [.a [cb t.1, cl t.2.1, cl t.2.2.1, cl t.2.2.2.1], .a [cb t.2.2.2.2.1, cl t.2.2.2.2.2.1, cl t.2.2.2.2.2.2.1, cl t.2.2.2.2.2.2.2]]
def encR (x : Bool) : AV × LO := (vb x, [])
theorem ZA (a b) (h : encA a = encA b) : a = b := by simp [encA, zA] at h; simp [Prod.ext_iff, h]
theorem ZB (a b) (h : encR a = encR b) : a = b := by simpa [encR, zA] using h
noncomputable def Q (args : LA) : Option Bool := ofC encA (un8 F) args
theorem wrap : F = fun y1 y2 y3 y4 y5 y6 y7 y8 => Q [.a [cb y1, cl y2, cl y3, cl y4], .a [cb y5, cl y6, cl y7, cl y8]] := by funext y1 y2 y3 y4 y5 y6 y7 y8; exact Eq.symm (zD ZA _ (y1, y2, y3, y4, y5, y6, y7, y8))
noncomputable abbrev O (Q0 : LA → Option Bool) : Orc := mkO [qE 45 false laws_eqStringS.encR Q0] [] []
noncomputable def L : Lor := fun _ _ _ _ => Option.none
theorem main {Q0} {ρ : Type} {K : AV → LO → Option ρ} {a1 a2 a3 a4 a5 a6 a7 a8} : exC Tryz.prog (O Q0) L [] 0 (zB Tryz.f67) (entry 28 [.a [cb a1, cl a2, cl a3, cl a4], .a [cb a5, cl a6, cl a7, cl a8]] [] []) (finO Tryz.prog Tryz.f67.results.toList 0 [] [] K) =
    B (fun y1 y2 => Q0 [vl y1, vl y2]) a1 a2 a3 a4 a5 a6 a7 a8 (fun x1 => K (vb x1) []) := by kernel_rfl
theorem Gok : (O laws_eqStringS.Q).ok Tryz.prog := zH (by exact ⟨qE_ok laws_eqStringS.ac, trivial⟩) (by exact trivial)
theorem acc : ∀ t x, un8 F t = some x → ACc Tryz.prog 67 (encA t) [] true [] fun rv obs => (rv, obs) = encR x := accT (T := Bool × YS × YS × YS × Bool × YS × YS × YS) (F := un8 F) (L := L) (cmds := []) (body := (zB Tryz.f67)) Gok hmT Tryz.func67 (by kernel_rfl) (by kernel_rfl) (by rw [show zE [] 0 (zB Tryz.f67) = [] by kernel_rfl]; exact Lor.zF _ _) (fun t => by refine main.trans ?_; rw [← laws_eqStringS.wrap]; exact congrArg (B _ _ _ _ _ _ _ _ _) (fx1 fun t => zD ZB some t))
theorem ac : ∀ a x, Q a = some x → AC Tryz.prog 67 a [] false [] fun rv obs => (rv, obs) = encR x := acF (body := (zB Tryz.f67)) Tryz.func67 (by kernel_rfl) (by kernel_rfl) acc fun x => ⟨by simp [encR, AV.Flat, K.Flat, C.Flat], fl0⟩
end laws_eqRegion
namespace laws_eqRegionS
noncomputable def B0 {ρ : Type} (C0 : Bool → YS → YS → YS → Bool → YS → YS → YS → Option Bool) (v1 : Vec YA) (v2 : Vec YA) (v3 : Int) (W : YVA → YVA → Int → Option ρ) (K0 : Unit → Option ρ) (Kr : Bool → Option ρ) : Option ρ :=
  sel (decide (v3 < (v1.n : Int))) (chk (decide (0 ≤ v3 ∧ v3 < (v1.n : Int))) (chk (decide (0 ≤ v3 ∧ v3 < (v2.n : Int))) ((C0 ((v1.g v3.toNat).1) ((v1.g v3.toNat).2.1) ((v1.g v3.toNat).2.2.1) ((v1.g v3.toNat).2.2.2) ((v2.g v3.toNat).1) ((v2.g v3.toNat).2.1) ((v2.g v3.toNat).2.2.1) ((v2.g v3.toNat).2.2.2)).bind fun r1 => sel ((!r1)) (Kr false) (W v1 v2 (wr (v3 + (1 : Int))))))) (K0 ())
noncomputable def F0 {ρ : Type} : Nat → YVA → YVA → Int → (Unit → Option ρ) → (Bool → Option ρ) → Option ρ
  | 0, _, _, _, _, _ => none
  | k + 1, v1, v2, v3, K0, Kr => B0 laws_eqRegion.F v1 v2 v3 (fun v1' v2' v3' => F0 k v1' v2' v3' K0 Kr) K0 Kr
noncomputable def B {ρ : Type} (L0 : YVA → YVA → Int → (Unit → Option ρ) → (Bool → Option ρ) → Option ρ) (a1 : Vec YA) (a2 : Vec YA) (K : Bool → Option ρ) : Option ρ :=
  sel ((!decide ((a1.n : Int) = (a2.n : Int)))) (K false) (L0 a1 a2 (0 : Int) (fun _ => K true) (fun x01 => K x01))
noncomputable def F (a1 : Vec YA) (a2 : Vec YA) : Option Bool := B (F0 fuelN) a1 a2 (fun x1 => some (x1))
def encA (t : YVA × YVA) : LA := [vl t.1, vl t.2]
def encR (x : Bool) : AV × LO := (vb x, [])
theorem ZA (a b) (h : encA a = encA b) : a = b := by simp [encA, zA] at h; simp [Prod.ext_iff, h]
theorem ZB (a b) (h : encR a = encR b) : a = b := by simpa [encR, zA] using h
noncomputable def Q (args : LA) : Option Bool := ofC encA (un2 F) args
theorem wrap : F = fun y1 y2 => Q [vl y1, vl y2] := by funext y1 y2; exact Eq.symm (zD ZA _ (y1, y2))
noncomputable abbrev O (Q0 : LA → Option Bool) : Orc := mkO [qE 67 false laws_eqRegion.encR Q0] [] []
noncomputable def c0 : Code := loopC (atomN [] 0 (zB Tryz.f18) 0)
def ct0 : Cut := ⟨[0, 1, 5], []⟩
def lv0 : Exit → Cut
  | .exit 0 => ⟨[], []⟩
  | .ret => ⟨[4], []⟩
  | _ => ⟨[], []⟩
def k0_0 {ρ : Type} (K : Exit → St → Option ρ) (_ : Unit) : Option ρ := K (.exit 0) (mkS 27 (lv0 (.exit 0)).live [] [] [])
def k0_r {ρ : Type} (K : Exit → St → Option ρ) (z1 : Bool) : Option ρ := K .ret (mkS 27 (lv0 .ret).live [vb z1] [] [])
noncomputable def L (W0 : (ρ : Type) → LA → LO → (Unit → Option ρ) → (Bool → Option ρ) → Option ρ) : Lor := fun ρ j st K => sel (Nat.beq j 0) (cutO Tryz.prog 27 ct0.live 0 [] ct0.cmds st fun avs obs => W0 ρ avs obs (k0_0 K) (k0_r K)) (Option.none)
theorem step0 {Q0 W0} {ρ : Type} {K : Exit → St → Option ρ} {W : LA → LO → Option ρ} {v1 v2 v3} : exC Tryz.prog (O Q0) (L W0) [] 1 c0 (mkS 27 ct0.live [vl v1, vl v2, vi v3] [] []) (bodyK Tryz.prog 27 0 [] ct0 W lv0 K) =
    B0 (fun y1 y2 y3 y4 y5 y6 y7 y8 => Q0 [.a [cb y1, cl y2, cl y3, cl y4], .a [cb y5, cl y6, cl y7, cl y8]]) v1 v2 v3 (fun u1 u2 u3 => W [vl u1, vl u2, vi u3] []) (k0_0 K) (k0_r K) := by kernel_rfl
def enc0 (t : YVA × YVA × Int) : LA × LO := ([vl t.1, vl t.2.1, vi t.2.2], [])
theorem enc0I (a b) (h : enc0 a = enc0 b) : a = b := by simp [enc0, zA] at h; simp [Prod.ext_iff, h]
noncomputable def V0 : (ρ : Type) → LA → LO → (Unit → Option ρ) → (Bool → Option ρ) → Option ρ := fun ρ avs obs k0 kr => ofC enc0 (fun t => un3 (F0 fuelN) t k0 kr) (avs, obs)
theorem zG (ρ : Type) : F0 fuelN = fun w1 w2 w3 k0 kr => V0 ρ [vl w1, vl w2, vi w3] [] k0 kr := by funext w1 w2 w3 k0 kr; exact Eq.symm (zD enc0I _ (w1, w2, w3))
theorem main {Q0 W0} {ρ : Type} {K : AV → LO → Option ρ} {a1 a2} : exC Tryz.prog (O Q0) (L W0) [] 0 (zB Tryz.f18) (entry 27 [vl a1, vl a2] [] []) (finO Tryz.prog Tryz.f18.results.toList 0 [] [] K) =
    B (fun w1 w2 w3 k0 kr => W0 ρ [vl w1, vl w2, vi w3] [] k0 kr) a1 a2 (fun x1 => K (vb x1) []) := by kernel_rfl
theorem Gok : (O laws_eqRegion.Q).ok Tryz.prog := zH (by exact ⟨qE_ok laws_eqRegion.ac, trivial⟩) (by exact trivial)
theorem ok0 : OkL Tryz.prog (L V0) 0 (.loop c0) := fun ρ st K r h => zJ (ct := ct0) (lv := lv0) (L := (L V0)) Gok hmT (by rw [show zE [] 1 c0 = [] by kernel_rfl]; exact Lor.zF _ _) enc0I (fun k t => un3 (F0 k) t (k0_0 K) (k0_r K)) (fun t => rfl) (fun k t => by refine step0.trans ?_; rw [← laws_eqRegion.wrap]; exact congrFun (congrFun (congrArg (B0 _ _ _ _) (fx3 fun t => zD enc0I _ t)) _) _) (fun _ => fuelN) h
theorem e : zE [] 0 (zB Tryz.f18) = [(0, 0, .loop c0)] := by kernel_rfl
theorem acc : ∀ t x, un2 F t = some x → ACc Tryz.prog 18 (encA t) [] true [] fun rv obs => (rv, obs) = encR x := accT (T := YVA × YVA) (F := un2 F) (L := (L V0)) (cmds := []) (body := (zB Tryz.f18)) Gok hmT Tryz.func18 (by kernel_rfl) (by kernel_rfl) (by rw [e]; exact Lor.zI ok0 (Lor.zF _ _)) (fun t => by refine main.trans ?_; rw [← zG]; exact congrArg (B _ _ _) (fx1 fun t => zD ZB some t))
theorem ac : ∀ a x, Q a = some x → AC Tryz.prog 18 a [] false [] fun rv obs => (rv, obs) = encR x := acF (body := (zB Tryz.f18)) Tryz.func18 (by kernel_rfl) (by kernel_rfl) acc fun x => ⟨by simp [encR, AV.Flat, K.Flat, C.Flat], fl0⟩
end laws_eqRegionS
namespace laws_markIntS_s68b2
noncomputable def B0 {ρ : Type} (v1 : Int) (v2 : Int) (v3 : YI) (W : Int → Int → YI → Option ρ) (K0 : Int → YI → Option ρ) : Option ρ :=
  sel (decide (v2 < (v3.n : Int))) (chk (decide (0 ≤ v2 ∧ v2 < (v3.n : Int))) (chk (decide (v2.toNat < v3.n)) (W (wr (v1 + (1 : Int))) (wr (v2 + (1 : Int))) (Vec.set v3 v2.toNat v1)))) (K0 v1 v3)
noncomputable def F0 {ρ : Type} : Nat → Int → Int → YI → (Int → YI → Option ρ) → Option ρ
  | 0, _, _, _, _ => none
  | k + 1, v1, v2, v3, K0 => B0 v1 v2 v3 (fun v1' v2' v3' => F0 k v1' v2' v3' K0) K0
noncomputable def B {ρ : Type} (L0 : Int → Int → YI → (Int → YI → Option ρ) → Option ρ) (a1 : Int) (a2 : YI) (K : Int → YI → Option ρ) : Option ρ :=
  L0 a1 (0 : Int) a2 (fun e01 e02 => K e01 e02)
noncomputable def F (a1 : Int) (a2 : YI) : Option (Int × YI) := B (F0 fuelN) a1 a2 (fun x1 x2 => some (x1, x2))
def encA (t : Int × YI) : LA × LO := ([.c (.h 0), vi t.1], [ro t.2])
def encR (x : Int × YI) : AV × LO := (vi x.1, [ro x.2])
theorem ZA (a b) (h : encA a = encA b) : a = b := by simp [encA, zA] at h; simp [Prod.ext_iff, h]
theorem ZB (a b) (h : encR a = encR b) : a = b := by simp [encR, zA] at h; simp [Prod.ext_iff, h]
noncomputable def Q (args : LA) (hin : LO) : Option (Int × YI) := ofC encA (un2 F) (args, hin)
theorem wrap : F = fun y1 y2 => Q [.c (.h 0), vi y1] [ro y2] := by funext y1 y2; exact Eq.symm (zD ZA _ (y1, y2))
noncomputable abbrev O : Orc := mkO [] [] []
noncomputable def c0 : Code := loopC (atomN [] 0 (zB Tryz.f34) 0)
def ct0 : Cut := ⟨[0, 1, 5], []⟩
def lv0 : Exit → Cut
  | .exit 0 => ⟨[1], []⟩
  | _ => ⟨[], []⟩
def k0_0 {ρ : Type} (K : Exit → St → Option ρ) (z1 : Int) (z2 : YI) : Option ρ := K (.exit 0) (mkS 19 (lv0 (.exit 0)).live [vi z1] [ro z2] [true])
noncomputable def L (W0 : (ρ : Type) → LA → LO → (Int → YI → Option ρ) → Option ρ) : Lor := fun ρ j st K => sel (Nat.beq j 0) (cutO Tryz.prog 19 ct0.live 1 [true] ct0.cmds st fun avs obs => W0 ρ avs obs (k0_0 K)) (Option.none)
theorem step0 {W0} {ρ : Type} {K : Exit → St → Option ρ} {W : LA → LO → Option ρ} {v1 v2 v3} : exC Tryz.prog O (L W0) [] 1 c0 (mkS 19 ct0.live [.c (.h 0), vi v1, vi v2] [ro v3] [true]) (bodyK Tryz.prog 19 1 [true] ct0 W lv0 K) =
    B0 v1 v2 v3 (fun u1 u2 u3 => W [.c (.h 0), vi u1, vi u2] [ro u3]) (k0_0 K) := by kernel_rfl
def enc0 (t : Int × Int × YI) : LA × LO := ([.c (.h 0), vi t.1, vi t.2.1], [ro t.2.2])
theorem enc0I (a b) (h : enc0 a = enc0 b) : a = b := by simp [enc0, zA] at h; simp [Prod.ext_iff, h]
noncomputable def V0 : (ρ : Type) → LA → LO → (Int → YI → Option ρ) → Option ρ := fun ρ avs obs k0 => ofC enc0 (fun t => un3 (F0 fuelN) t k0) (avs, obs)
theorem zG (ρ : Type) : F0 fuelN = fun w1 w2 w3 k0 => V0 ρ [.c (.h 0), vi w1, vi w2] [ro w3] k0 := by funext w1 w2 w3 k0; exact Eq.symm (zD enc0I _ (w1, w2, w3))
theorem main {W0} {ρ : Type} {K : AV → LO → Option ρ} {a1 a2} : exC Tryz.prog O (L W0) [] 0 (zB Tryz.f34) (entry 19 [.c (.h 0), vi a1] [ro a2] [true]) (finO Tryz.prog Tryz.f34.results.toList 1 [true] [] K) =
    B (fun w1 w2 w3 k0 => W0 ρ [.c (.h 0), vi w1, vi w2] [ro w3] k0) a1 a2 (fun x1 x2 => K (vi x1) [ro x2]) := by kernel_rfl
theorem Gok : O.ok Tryz.prog := zH (by exact trivial) (by exact trivial)
theorem ok0 : OkL Tryz.prog (L V0) 0 (.loop c0) := fun ρ st K r h => zJ (ct := ct0) (lv := lv0) (L := (L V0)) Gok hmT (by rw [show zE [] 1 c0 = [] by kernel_rfl]; exact Lor.zF _ _) enc0I (fun k t => un3 (F0 k) t (k0_0 K)) (fun t => rfl) (fun k t => by refine step0.trans ?_; exact congrFun (congrArg (B0 _ _ _) (fx3 fun t => zD enc0I _ t)) _) (fun _ => fuelN) h
theorem e : zE [] 0 (zB Tryz.f34) = [(0, 0, .loop c0)] := by kernel_rfl
theorem acc : ∀ t x, un2 F t = some x → ACc Tryz.prog 34 (encA t).1 (encA t).2 true [true] fun rv obs => (rv, obs) = encR x := accT2 (T := Int × YI) (F := un2 F) (L := (L V0)) (cmds := []) (body := (zB Tryz.f34)) 1 (fun _ => rfl) Gok hmT Tryz.func34 (by kernel_rfl) (by kernel_rfl) (by rw [e]; exact Lor.zI ok0 (Lor.zF _ _)) (fun t => by refine main.trans ?_; rw [← zG]; exact congrArg (B _ _ _) (fx2 fun t => zD ZB some t))
theorem ac : ∀ a h x, Q a h = some x → AC Tryz.prog 34 a h false [true] fun rv obs => (rv, obs) = encR x := acF2 (body := (zB Tryz.f34)) Tryz.func34 (by kernel_rfl) (by kernel_rfl) acc fun x => ⟨by simp [encR, AV.Flat, K.Flat, C.Flat], flc (zN rfl _) (fl0)⟩
end laws_markIntS_s68b2
namespace laws_markText
noncomputable def B0 {ρ : Type} (v1 : Int) (v2 : ByteArray) (W : Int → ByteArray → Option ρ) (K0 : ByteArray → Option ρ) : Option ρ :=
  sel (decide ((0 : Int) < v1)) (chk (okBytes (Vec.lit [⟨(IntKind.wrap .u8 (wr ((48 : Int) + (Int.tmod v1 (10 : Int)))))⟩] : YU)) (chk (decide ((toBytes (Vec.lit [⟨(IntKind.wrap .u8 (wr ((48 : Int) + (Int.tmod v1 (10 : Int)))))⟩] : YU)).size + v2.size ≤ maxN)) (W (wr (Int.tdiv v1 (10 : Int))) ((toBytes (Vec.lit [⟨(IntKind.wrap .u8 (wr ((48 : Int) + (Int.tmod v1 (10 : Int)))))⟩] : YU)) ++ v2)))) (K0 v2)
noncomputable def F0 {ρ : Type} : Nat → Int → ByteArray → (ByteArray → Option ρ) → Option ρ
  | 0, _, _, _ => none
  | k + 1, v1, v2, K0 => B0 v1 v2 (fun v1' v2' => F0 k v1' v2' K0) K0
noncomputable def B {ρ : Type} (L0 : Int → ByteArray → (ByteArray → Option ρ) → Option ρ) (a1 : Int) (K : ByteArray → Option ρ) : Option ρ :=
  sel (decide (a1 ≤ (0 : Int))) (K (ByteArray.mk #[109, 48])) (L0 a1 ByteArray.empty (fun e01 => chk (decide ((ByteArray.mk #[109]).size + e01.size ≤ maxN)) (K ((ByteArray.mk #[109]) ++ e01))))
noncomputable def F (a1 : Int) : Option ByteArray := B (F0 fuelN) a1 (fun x1 => some (x1))
def encA (t : Int) : LA := [vi t]
def encR (x : ByteArray) : AV × LO := (vs x, [])
theorem ZA (a b) (h : encA a = encA b) : a = b := by simpa [encA, zA] using h
theorem ZB (a b) (h : encR a = encR b) : a = b := by simpa [encR, zA] using h
noncomputable def Q (args : LA) : Option ByteArray := ofC encA (un1 F) args
theorem wrap : F = fun y1 => Q [vi y1] := by funext y1; exact Eq.symm (zD ZA _ (y1))
noncomputable abbrev O : Orc := mkO [] [] []
noncomputable def c0 : Code := loopC (atomN [] 0 (zB Tryz.f58) 0)
def ct0 : Cut := ⟨[0, 3], []⟩
def lv0 : Exit → Cut
  | .exit 0 => ⟨[3], []⟩
  | _ => ⟨[], []⟩
def k0_0 {ρ : Type} (K : Exit → St → Option ρ) (z1 : ByteArray) : Option ρ := K (.exit 0) (mkS 20 (lv0 (.exit 0)).live [vs z1] [] [])
noncomputable def L (W0 : (ρ : Type) → LA → LO → (ByteArray → Option ρ) → Option ρ) : Lor := fun ρ j st K => sel (Nat.beq j 0) (cutO Tryz.prog 20 ct0.live 0 [] ct0.cmds st fun avs obs => W0 ρ avs obs (k0_0 K)) (Option.none)
theorem step0 {W0} {ρ : Type} {K : Exit → St → Option ρ} {W : LA → LO → Option ρ} {v1 v2} : exC Tryz.prog O (L W0) [] 1 c0 (mkS 20 ct0.live [vi v1, vs v2] [] []) (bodyK Tryz.prog 20 0 [] ct0 W lv0 K) =
    B0 v1 v2 (fun u1 u2 => W [vi u1, vs u2] []) (k0_0 K) := by kernel_rfl
def enc0 (t : YE) : LA × LO := ([vi t.1, vs t.2], [])
theorem enc0I (a b) (h : enc0 a = enc0 b) : a = b := by simp [enc0, zA] at h; simp [Prod.ext_iff, h]
noncomputable def V0 : (ρ : Type) → LA → LO → (ByteArray → Option ρ) → Option ρ := fun ρ avs obs k0 => ofC enc0 (fun t => un2 (F0 fuelN) t k0) (avs, obs)
theorem zG (ρ : Type) : F0 fuelN = fun w1 w2 k0 => V0 ρ [vi w1, vs w2] [] k0 := by funext w1 w2 k0; exact Eq.symm (zD enc0I _ (w1, w2))
theorem main {W0} {ρ : Type} {K : AV → LO → Option ρ} {a1} : exC Tryz.prog O (L W0) [] 0 (zB Tryz.f58) (entry 20 [vi a1] [] []) (finO Tryz.prog Tryz.f58.results.toList 0 [] [] K) =
    B (fun w1 w2 k0 => W0 ρ [vi w1, vs w2] [] k0) a1 (fun x1 => K (vs x1) []) := by kernel_rfl
theorem Gok : O.ok Tryz.prog := zH (by exact trivial) (by exact trivial)
theorem ok0 : OkL Tryz.prog (L V0) 0 (.loop c0) := fun ρ st K r h => zJ (ct := ct0) (lv := lv0) (L := (L V0)) Gok hmT (by rw [show zE [] 1 c0 = [] by kernel_rfl]; exact Lor.zF _ _) enc0I (fun k t => un2 (F0 k) t (k0_0 K)) (fun t => rfl) (fun k t => by refine step0.trans ?_; exact congrFun (congrArg (B0 _ _) (fx2 fun t => zD enc0I _ t)) _) (fun _ => fuelN) h
theorem e : zE [] 0 (zB Tryz.f58) = [(0, 0, .loop c0)] := by kernel_rfl
theorem acc : ∀ t x, un1 F t = some x → ACc Tryz.prog 58 (encA t) [] true [] fun rv obs => (rv, obs) = encR x := accT (T := Int) (F := un1 F) (L := (L V0)) (cmds := []) (body := (zB Tryz.f58)) Gok hmT Tryz.func58 (by kernel_rfl) (by kernel_rfl) (by rw [e]; exact Lor.zI ok0 (Lor.zF _ _)) (fun t => by refine main.trans ?_; rw [← zG]; exact congrArg (B _ _) (fx1 fun t => zD ZB some t))
theorem ac : ∀ a x, Q a = some x → AC Tryz.prog 58 a [] false [] fun rv obs => (rv, obs) = encR x := acF (body := (zB Tryz.f58)) Tryz.func58 (by kernel_rfl) (by kernel_rfl) acc fun x => ⟨by simp [encR, AV.Flat, K.Flat, C.Flat], fl0⟩
end laws_markText
namespace laws_markNameS_s0773
noncomputable def B0 {ρ : Type} (C0 : Int → Option ByteArray) (v1 : Int) (v2 : Int) (v3 : Vec YN) (W : Int → Int → YVN → Option ρ) (K0 : Int → YVN → Option ρ) : Option ρ :=
  sel (decide (v2 < (v3.n : Int))) ((C0 v1).bind fun r1 => chk (decide (0 ≤ v2 ∧ v2 < (v3.n : Int))) (chk (decide (v2.toNat < v3.n)) (chk (decide (0 ≤ v2 ∧ v2 < ((Vec.set v3 v2.toNat (r1, (v3.g v2.toNat).2.1, (v3.g v2.toNat).2.2)).n : Int))) (chk (decide (v2.toNat < (Vec.set v3 v2.toNat (r1, (v3.g v2.toNat).2.1, (v3.g v2.toNat).2.2)).n)) (chk (decide (0 ≤ v2 ∧ v2 < ((Vec.set (Vec.set v3 v2.toNat (r1, (v3.g v2.toNat).2.1, (v3.g v2.toNat).2.2)) v2.toNat (((Vec.set v3 v2.toNat (r1, (v3.g v2.toNat).2.1, (v3.g v2.toNat).2.2)).g v2.toNat).1, (wr (v1 + (1 : Int))), ((Vec.set v3 v2.toNat (r1, (v3.g v2.toNat).2.1, (v3.g v2.toNat).2.2)).g v2.toNat).2.2)).n : Int))) (chk (decide (v2.toNat < (Vec.set (Vec.set v3 v2.toNat (r1, (v3.g v2.toNat).2.1, (v3.g v2.toNat).2.2)) v2.toNat (((Vec.set v3 v2.toNat (r1, (v3.g v2.toNat).2.1, (v3.g v2.toNat).2.2)).g v2.toNat).1, (wr (v1 + (1 : Int))), ((Vec.set v3 v2.toNat (r1, (v3.g v2.toNat).2.1, (v3.g v2.toNat).2.2)).g v2.toNat).2.2)).n)) (W (wr ((wr ((wr (v1 + (1 : Int))) + (1 : Int))) + (1 : Int))) (wr (v2 + (1 : Int))) (Vec.set (Vec.set (Vec.set v3 v2.toNat (r1, (v3.g v2.toNat).2.1, (v3.g v2.toNat).2.2)) v2.toNat (((Vec.set v3 v2.toNat (r1, (v3.g v2.toNat).2.1, (v3.g v2.toNat).2.2)).g v2.toNat).1, (wr (v1 + (1 : Int))), ((Vec.set v3 v2.toNat (r1, (v3.g v2.toNat).2.1, (v3.g v2.toNat).2.2)).g v2.toNat).2.2)) v2.toNat (((Vec.set (Vec.set v3 v2.toNat (r1, (v3.g v2.toNat).2.1, (v3.g v2.toNat).2.2)) v2.toNat (((Vec.set v3 v2.toNat (r1, (v3.g v2.toNat).2.1, (v3.g v2.toNat).2.2)).g v2.toNat).1, (wr (v1 + (1 : Int))), ((Vec.set v3 v2.toNat (r1, (v3.g v2.toNat).2.1, (v3.g v2.toNat).2.2)).g v2.toNat).2.2)).g v2.toNat).1, ((Vec.set (Vec.set v3 v2.toNat (r1, (v3.g v2.toNat).2.1, (v3.g v2.toNat).2.2)) v2.toNat (((Vec.set v3 v2.toNat (r1, (v3.g v2.toNat).2.1, (v3.g v2.toNat).2.2)).g v2.toNat).1, (wr (v1 + (1 : Int))), ((Vec.set v3 v2.toNat (r1, (v3.g v2.toNat).2.1, (v3.g v2.toNat).2.2)).g v2.toNat).2.2)).g v2.toNat).2.1, (wr ((wr (v1 + (1 : Int))) + (1 : Int)))))))))))) (K0 v1 v3)
noncomputable def F0 {ρ : Type} : Nat → Int → Int → YVN → (Int → YVN → Option ρ) → Option ρ
  | 0, _, _, _, _ => none
  | k + 1, v1, v2, v3, K0 => B0 laws_markText.F v1 v2 v3 (fun v1' v2' v3' => F0 k v1' v2' v3' K0) K0
noncomputable def B {ρ : Type} (L0 : Int → Int → YVN → (Int → YVN → Option ρ) → Option ρ) (a1 : Int) (a2 : Vec YN) (K : Int → YVN → Option ρ) : Option ρ :=
  L0 a1 (0 : Int) a2 (fun e01 e02 => K e01 e02)
noncomputable def F (a1 : Int) (a2 : Vec YN) : Option (Int × YVN) := B (F0 fuelN) a1 a2 (fun x1 x2 => some (x1, x2))
def encA (t : Int × YVN) : LA × LO := ([.c (.h 0), vi t.1], [ro t.2])
def encR (x : Int × YVN) : AV × LO := (vi x.1, [ro x.2])
theorem ZA (a b) (h : encA a = encA b) : a = b := by simp [encA, zA] at h; simp [Prod.ext_iff, h]
theorem ZB (a b) (h : encR a = encR b) : a = b := by simp [encR, zA] at h; simp [Prod.ext_iff, h]
noncomputable def Q (args : LA) (hin : LO) : Option (Int × YVN) := ofC encA (un2 F) (args, hin)
theorem wrap : F = fun y1 y2 => Q [.c (.h 0), vi y1] [ro y2] := by funext y1 y2; exact Eq.symm (zD ZA _ (y1, y2))
noncomputable abbrev O (Q0 : LA → Option ByteArray) : Orc := mkO [qE 58 false laws_markText.encR Q0] [] []
noncomputable def c0 : Code := loopC (atomN [] 0 (zB Tryz.f35) 0)
def ct0 : Cut := ⟨[0, 1, 5], []⟩
def lv0 : Exit → Cut
  | .exit 0 => ⟨[1], []⟩
  | _ => ⟨[], []⟩
def k0_0 {ρ : Type} (K : Exit → St → Option ρ) (z1 : Int) (z2 : Vec YN) : Option ρ := K (.exit 0) (mkS 35 (lv0 (.exit 0)).live [vi z1] [ro z2] [true])
noncomputable def L (W0 : (ρ : Type) → LA → LO → (Int → YVN → Option ρ) → Option ρ) : Lor := fun ρ j st K => sel (Nat.beq j 0) (cutO Tryz.prog 35 ct0.live 1 [true] ct0.cmds st fun avs obs => W0 ρ avs obs (k0_0 K)) (Option.none)
theorem step0 {Q0 W0} {ρ : Type} {K : Exit → St → Option ρ} {W : LA → LO → Option ρ} {v1 v2 v3} : exC Tryz.prog (O Q0) (L W0) [] 1 c0 (mkS 35 ct0.live [.c (.h 0), vi v1, vi v2] [ro v3] [true]) (bodyK Tryz.prog 35 1 [true] ct0 W lv0 K) =
    B0 (fun y1 => Q0 [vi y1]) v1 v2 v3 (fun u1 u2 u3 => W [.c (.h 0), vi u1, vi u2] [ro u3]) (k0_0 K) := by kernel_rfl
def enc0 (t : Int × Int × YVN) : LA × LO := ([.c (.h 0), vi t.1, vi t.2.1], [ro t.2.2])
theorem enc0I (a b) (h : enc0 a = enc0 b) : a = b := by simp [enc0, zA] at h; simp [Prod.ext_iff, h]
noncomputable def V0 : (ρ : Type) → LA → LO → (Int → YVN → Option ρ) → Option ρ := fun ρ avs obs k0 => ofC enc0 (fun t => un3 (F0 fuelN) t k0) (avs, obs)
theorem zG (ρ : Type) : F0 fuelN = fun w1 w2 w3 k0 => V0 ρ [.c (.h 0), vi w1, vi w2] [ro w3] k0 := by funext w1 w2 w3 k0; exact Eq.symm (zD enc0I _ (w1, w2, w3))
theorem main {Q0 W0} {ρ : Type} {K : AV → LO → Option ρ} {a1 a2} : exC Tryz.prog (O Q0) (L W0) [] 0 (zB Tryz.f35) (entry 35 [.c (.h 0), vi a1] [ro a2] [true]) (finO Tryz.prog Tryz.f35.results.toList 1 [true] [] K) =
    B (fun w1 w2 w3 k0 => W0 ρ [.c (.h 0), vi w1, vi w2] [ro w3] k0) a1 a2 (fun x1 x2 => K (vi x1) [ro x2]) := by kernel_rfl
theorem Gok : (O laws_markText.Q).ok Tryz.prog := zH (by exact ⟨qE_ok laws_markText.ac, trivial⟩) (by exact trivial)
theorem ok0 : OkL Tryz.prog (L V0) 0 (.loop c0) := fun ρ st K r h => zJ (ct := ct0) (lv := lv0) (L := (L V0)) Gok hmT (by rw [show zE [] 1 c0 = [] by kernel_rfl]; exact Lor.zF _ _) enc0I (fun k t => un3 (F0 k) t (k0_0 K)) (fun t => rfl) (fun k t => by refine step0.trans ?_; rw [← laws_markText.wrap]; exact congrFun (congrArg (B0 _ _ _ _) (fx3 fun t => zD enc0I _ t)) _) (fun _ => fuelN) h
theorem e : zE [] 0 (zB Tryz.f35) = [(0, 0, .loop c0)] := by kernel_rfl
theorem acc : ∀ t x, un2 F t = some x → ACc Tryz.prog 35 (encA t).1 (encA t).2 true [true] fun rv obs => (rv, obs) = encR x := accT2 (T := Int × YVN) (F := un2 F) (L := (L V0)) (cmds := []) (body := (zB Tryz.f35)) 1 (fun _ => rfl) Gok hmT Tryz.func35 (by kernel_rfl) (by kernel_rfl) (by rw [e]; exact Lor.zI ok0 (Lor.zF _ _)) (fun t => by refine main.trans ?_; rw [← zG]; exact congrArg (B _ _ _) (fx2 fun t => zD ZB some t))
theorem ac : ∀ a h x, Q a h = some x → AC Tryz.prog 35 a h false [true] fun rv obs => (rv, obs) = encR x := acF2 (body := (zB Tryz.f35)) Tryz.func35 (by kernel_rfl) (by kernel_rfl) acc fun x => ⟨by simp [encR, AV.Flat, K.Flat, C.Flat], flc (zN rfl _) (fl0)⟩
end laws_markNameS_s0773
namespace laws_markCommitS_sffd8
noncomputable def B0 {ρ : Type} (C0 : Int → YI → Option (Int × YI)) (C1 : Int → Option ByteArray) (C2 : Int → YVN → Option (Int × YVN)) (v1 : Int) (v2 : Int) (v3 : Vec YC) (W : Int → Int → YVC → Option ρ) (K0 : Int → YVC → Option ρ) : Option ρ :=
  sel (decide (v2 < (v3.n : Int))) (chk (decide (0 ≤ v2 ∧ v2 < (v3.n : Int))) (chk (decide (v2.toNat < v3.n)) ((C0 v1 ((v3.g v2.toNat).1)).bind fun r1 => (C1 r1.1).bind fun r2 => chk (decide (0 ≤ v2 ∧ v2 < ((Vec.set v3 v2.toNat (r1.2, (v3.g v2.toNat).2.1, (v3.g v2.toNat).2.2)).n : Int))) (chk (decide (v2.toNat < (Vec.set v3 v2.toNat (r1.2, (v3.g v2.toNat).2.1, (v3.g v2.toNat).2.2)).n)) (chk (decide (0 ≤ v2 ∧ v2 < ((Vec.set (Vec.set v3 v2.toNat (r1.2, (v3.g v2.toNat).2.1, (v3.g v2.toNat).2.2)) v2.toNat (((Vec.set v3 v2.toNat (r1.2, (v3.g v2.toNat).2.1, (v3.g v2.toNat).2.2)).g v2.toNat).1, r2, ((Vec.set v3 v2.toNat (r1.2, (v3.g v2.toNat).2.1, (v3.g v2.toNat).2.2)).g v2.toNat).2.2)).n : Int))) (chk (decide (v2.toNat < (Vec.set (Vec.set v3 v2.toNat (r1.2, (v3.g v2.toNat).2.1, (v3.g v2.toNat).2.2)) v2.toNat (((Vec.set v3 v2.toNat (r1.2, (v3.g v2.toNat).2.1, (v3.g v2.toNat).2.2)).g v2.toNat).1, r2, ((Vec.set v3 v2.toNat (r1.2, (v3.g v2.toNat).2.1, (v3.g v2.toNat).2.2)).g v2.toNat).2.2)).n)) ((C2 (wr (r1.1 + (1 : Int))) (((Vec.set (Vec.set v3 v2.toNat (r1.2, (v3.g v2.toNat).2.1, (v3.g v2.toNat).2.2)) v2.toNat (((Vec.set v3 v2.toNat (r1.2, (v3.g v2.toNat).2.1, (v3.g v2.toNat).2.2)).g v2.toNat).1, r2, ((Vec.set v3 v2.toNat (r1.2, (v3.g v2.toNat).2.1, (v3.g v2.toNat).2.2)).g v2.toNat).2.2)).g v2.toNat).2.2)).bind fun r3 => W r3.1 (wr (v2 + (1 : Int))) (Vec.set (Vec.set (Vec.set v3 v2.toNat (r1.2, (v3.g v2.toNat).2.1, (v3.g v2.toNat).2.2)) v2.toNat (((Vec.set v3 v2.toNat (r1.2, (v3.g v2.toNat).2.1, (v3.g v2.toNat).2.2)).g v2.toNat).1, r2, ((Vec.set v3 v2.toNat (r1.2, (v3.g v2.toNat).2.1, (v3.g v2.toNat).2.2)).g v2.toNat).2.2)) v2.toNat (((Vec.set (Vec.set v3 v2.toNat (r1.2, (v3.g v2.toNat).2.1, (v3.g v2.toNat).2.2)) v2.toNat (((Vec.set v3 v2.toNat (r1.2, (v3.g v2.toNat).2.1, (v3.g v2.toNat).2.2)).g v2.toNat).1, r2, ((Vec.set v3 v2.toNat (r1.2, (v3.g v2.toNat).2.1, (v3.g v2.toNat).2.2)).g v2.toNat).2.2)).g v2.toNat).1, ((Vec.set (Vec.set v3 v2.toNat (r1.2, (v3.g v2.toNat).2.1, (v3.g v2.toNat).2.2)) v2.toNat (((Vec.set v3 v2.toNat (r1.2, (v3.g v2.toNat).2.1, (v3.g v2.toNat).2.2)).g v2.toNat).1, r2, ((Vec.set v3 v2.toNat (r1.2, (v3.g v2.toNat).2.1, (v3.g v2.toNat).2.2)).g v2.toNat).2.2)).g v2.toNat).2.1, r3.2))))))))) (K0 v1 v3)
noncomputable def F0 {ρ : Type} : Nat → Int → Int → YVC → (Int → YVC → Option ρ) → Option ρ
  | 0, _, _, _, _ => none
  | k + 1, v1, v2, v3, K0 => B0 laws_markIntS_s68b2.F laws_markText.F laws_markNameS_s0773.F v1 v2 v3 (fun v1' v2' v3' => F0 k v1' v2' v3' K0) K0
noncomputable def B {ρ : Type} (L0 : Int → Int → YVC → (Int → YVC → Option ρ) → Option ρ) (a1 : Int) (a2 : Vec YC) (K : Int → YVC → Option ρ) : Option ρ :=
  L0 a1 (0 : Int) a2 (fun e01 e02 => K e01 e02)
noncomputable def F (a1 : Int) (a2 : Vec YC) : Option (Int × YVC) := B (F0 fuelN) a1 a2 (fun x1 x2 => some (x1, x2))
def encA (t : Int × YVC) : LA × LO := ([.c (.h 0), vi t.1], [ro t.2])
def encR (x : Int × YVC) : AV × LO := (vi x.1, [ro x.2])
theorem ZA (a b) (h : encA a = encA b) : a = b := by simp [encA, zA] at h; simp [Prod.ext_iff, h]
theorem ZB (a b) (h : encR a = encR b) : a = b := by simp [encR, zA] at h; simp [Prod.ext_iff, h]
noncomputable def Q (args : LA) (hin : LO) : Option (Int × YVC) := ofC encA (un2 F) (args, hin)
theorem wrap : F = fun y1 y2 => Q [.c (.h 0), vi y1] [ro y2] := by funext y1 y2; exact Eq.symm (zD ZA _ (y1, y2))
noncomputable abbrev O (Q1 : LA → Option ByteArray) (Q0 : LA → LO → Option (Int × YI)) (Q2 : LA → LO → Option (Int × YVN)) : Orc := mkO [qE 58 false laws_markText.encR Q1] [eE Tryz.prog 34 [true, false] false [true] laws_markIntS_s68b2.encR Q0, eE Tryz.prog 35 [true, false] false [true] laws_markNameS_s0773.encR Q2] [16, 31]
noncomputable def c0 : Code := loopC (atomN [] 0 (zB Tryz.f32) 0)
def ct0 : Cut := ⟨[0, 1, 5], []⟩
def lv0 : Exit → Cut
  | .exit 0 => ⟨[1], []⟩
  | _ => ⟨[], []⟩
def k0_0 {ρ : Type} (K : Exit → St → Option ρ) (z1 : Int) (z2 : Vec YC) : Option ρ := K (.exit 0) (mkS 35 (lv0 (.exit 0)).live [vi z1] [ro z2] [true])
noncomputable def L (W0 : (ρ : Type) → LA → LO → (Int → YVC → Option ρ) → Option ρ) : Lor := fun ρ j st K => sel (Nat.beq j 0) (cutO Tryz.prog 35 ct0.live 1 [true] ct0.cmds st fun avs obs => W0 ρ avs obs (k0_0 K)) (Option.none)
theorem step0 {Q0 Q1 Q2 W0} {ρ : Type} {K : Exit → St → Option ρ} {W : LA → LO → Option ρ} {v1 v2 v3} : exC Tryz.prog (O Q1 Q0 Q2) (L W0) [] 1 c0 (mkS 35 ct0.live [.c (.h 0), vi v1, vi v2] [ro v3] [true]) (bodyK Tryz.prog 35 1 [true] ct0 W lv0 K) =
    B0 (fun y1 y2 => Q0 [.c (.h 0), vi y1] [ro y2]) (fun y1 => Q1 [vi y1]) (fun y1 y2 => Q2 [.c (.h 0), vi y1] [ro y2]) v1 v2 v3 (fun u1 u2 u3 => W [.c (.h 0), vi u1, vi u2] [ro u3]) (k0_0 K) := by kernel_rfl
def enc0 (t : Int × Int × YVC) : LA × LO := ([.c (.h 0), vi t.1, vi t.2.1], [ro t.2.2])
theorem enc0I (a b) (h : enc0 a = enc0 b) : a = b := by simp [enc0, zA] at h; simp [Prod.ext_iff, h]
noncomputable def V0 : (ρ : Type) → LA → LO → (Int → YVC → Option ρ) → Option ρ := fun ρ avs obs k0 => ofC enc0 (fun t => un3 (F0 fuelN) t k0) (avs, obs)
theorem zG (ρ : Type) : F0 fuelN = fun w1 w2 w3 k0 => V0 ρ [.c (.h 0), vi w1, vi w2] [ro w3] k0 := by funext w1 w2 w3 k0; exact Eq.symm (zD enc0I _ (w1, w2, w3))
theorem main {Q0 Q1 Q2 W0} {ρ : Type} {K : AV → LO → Option ρ} {a1 a2} : exC Tryz.prog (O Q1 Q0 Q2) (L W0) [] 0 (zB Tryz.f32) (entry 35 [.c (.h 0), vi a1] [ro a2] [true]) (finO Tryz.prog Tryz.f32.results.toList 1 [true] [] K) =
    B (fun w1 w2 w3 k0 => W0 ρ [.c (.h 0), vi w1, vi w2] [ro w3] k0) a1 a2 (fun x1 x2 => K (vi x1) [ro x2]) := by kernel_rfl
theorem Gok : (O laws_markText.Q laws_markIntS_s68b2.Q laws_markNameS_s0773.Q).ok Tryz.prog := zH (by exact ⟨qE_ok laws_markText.ac, trivial⟩) (by exact ⟨eE_ok (fun h => by cases h) laws_markIntS_s68b2.ac, eE_ok (fun h => by cases h) laws_markNameS_s0773.ac, trivial⟩)
theorem ok0 : OkL Tryz.prog (L V0) 0 (.loop c0) := fun ρ st K r h => zJ (ct := ct0) (lv := lv0) (L := (L V0)) Gok hmT (by rw [show zE [] 1 c0 = [] by kernel_rfl]; exact Lor.zF _ _) enc0I (fun k t => un3 (F0 k) t (k0_0 K)) (fun t => rfl) (fun k t => by refine step0.trans ?_; rw [← laws_markIntS_s68b2.wrap, ← laws_markText.wrap, ← laws_markNameS_s0773.wrap]; exact congrFun (congrArg (B0 _ _ _ _ _ _) (fx3 fun t => zD enc0I _ t)) _) (fun _ => fuelN) h
theorem e : zE [] 0 (zB Tryz.f32) = [(0, 0, .loop c0)] := by kernel_rfl
theorem acc : ∀ t x, un2 F t = some x → ACc Tryz.prog 32 (encA t).1 (encA t).2 true [true] fun rv obs => (rv, obs) = encR x := accT2 (T := Int × YVC) (F := un2 F) (L := (L V0)) (cmds := []) (body := (zB Tryz.f32)) 1 (fun _ => rfl) Gok hmT Tryz.func32 (by kernel_rfl) (by kernel_rfl) (by rw [e]; exact Lor.zI ok0 (Lor.zF _ _)) (fun t => by refine main.trans ?_; rw [← zG]; exact congrArg (B _ _ _) (fx2 fun t => zD ZB some t))
theorem ac : ∀ a h x, Q a h = some x → AC Tryz.prog 32 a h false [true] fun rv obs => (rv, obs) = encR x := acF2 (body := (zB Tryz.f32)) Tryz.func32 (by kernel_rfl) (by kernel_rfl) acc fun x => ⟨by simp [encR, AV.Flat, K.Flat, C.Flat], flc (zN rfl _) (fl0)⟩
end laws_markCommitS_sffd8
namespace laws_markIntSS_s45a1
noncomputable def B0 {ρ : Type} (C0 : Int → YI → Option (Int × YI)) (v1 : Int) (v2 : Int) (v3 : Vec YI) (W : Int → Int → YG → Option ρ) (K0 : Int → YG → Option ρ) : Option ρ :=
  sel (decide (v2 < (v3.n : Int))) (chk (decide (0 ≤ v2 ∧ v2 < (v3.n : Int))) (chk (decide (v2.toNat < v3.n)) ((C0 v1 (v3.g v2.toNat)).bind fun r1 => W r1.1 (wr (v2 + (1 : Int))) (Vec.set v3 v2.toNat r1.2)))) (K0 v1 v3)
noncomputable def F0 {ρ : Type} : Nat → Int → Int → YG → (Int → YG → Option ρ) → Option ρ
  | 0, _, _, _, _ => none
  | k + 1, v1, v2, v3, K0 => B0 laws_markIntS_s68b2.F v1 v2 v3 (fun v1' v2' v3' => F0 k v1' v2' v3' K0) K0
noncomputable def B {ρ : Type} (L0 : Int → Int → YG → (Int → YG → Option ρ) → Option ρ) (a1 : Int) (a2 : Vec YI) (K : Int → YG → Option ρ) : Option ρ :=
  L0 a1 (0 : Int) a2 (fun e01 e02 => K e01 e02)
noncomputable def F (a1 : Int) (a2 : Vec YI) : Option (Int × Vec YI) := B (F0 fuelN) a1 a2 (fun x1 x2 => some (x1, x2))
def encA (t : Int × Vec YI) : LA × LO := ([.c (.h 0), vi t.1], [ro t.2])
def encR (x : Int × Vec YI) : AV × LO := (vi x.1, [ro x.2])
theorem ZA (a b) (h : encA a = encA b) : a = b := by simp [encA, zA] at h; simp [Prod.ext_iff, h]
theorem ZB (a b) (h : encR a = encR b) : a = b := by simp [encR, zA] at h; simp [Prod.ext_iff, h]
noncomputable def Q (args : LA) (hin : LO) : Option (Int × Vec YI) := ofC encA (un2 F) (args, hin)
theorem wrap : F = fun y1 y2 => Q [.c (.h 0), vi y1] [ro y2] := by funext y1 y2; exact Eq.symm (zD ZA _ (y1, y2))
noncomputable abbrev O (Q0 : LA → LO → Option (Int × YI)) : Orc := mkO [] [eE Tryz.prog 34 [true, false] false [true] laws_markIntS_s68b2.encR Q0] [15]
noncomputable def c0 : Code := loopC (atomN [] 0 (zB Tryz.f83) 0)
def ct0 : Cut := ⟨[0, 1, 5], []⟩
def lv0 : Exit → Cut
  | .exit 0 => ⟨[1], []⟩
  | _ => ⟨[], []⟩
def k0_0 {ρ : Type} (K : Exit → St → Option ρ) (z1 : Int) (z2 : Vec YI) : Option ρ := K (.exit 0) (mkS 19 (lv0 (.exit 0)).live [vi z1] [ro z2] [true])
noncomputable def L (W0 : (ρ : Type) → LA → LO → (Int → YG → Option ρ) → Option ρ) : Lor := fun ρ j st K => sel (Nat.beq j 0) (cutO Tryz.prog 19 ct0.live 1 [true] ct0.cmds st fun avs obs => W0 ρ avs obs (k0_0 K)) (Option.none)
theorem step0 {Q0 W0} {ρ : Type} {K : Exit → St → Option ρ} {W : LA → LO → Option ρ} {v1 v2 v3} : exC Tryz.prog (O Q0) (L W0) [] 1 c0 (mkS 19 ct0.live [.c (.h 0), vi v1, vi v2] [ro v3] [true]) (bodyK Tryz.prog 19 1 [true] ct0 W lv0 K) =
    B0 (fun y1 y2 => Q0 [.c (.h 0), vi y1] [ro y2]) v1 v2 v3 (fun u1 u2 u3 => W [.c (.h 0), vi u1, vi u2] [ro u3]) (k0_0 K) := by kernel_rfl
def enc0 (t : Int × Int × Vec YI) : LA × LO := ([.c (.h 0), vi t.1, vi t.2.1], [ro t.2.2])
theorem enc0I (a b) (h : enc0 a = enc0 b) : a = b := by simp [enc0, zA] at h; simp [Prod.ext_iff, h]
noncomputable def V0 : (ρ : Type) → LA → LO → (Int → YG → Option ρ) → Option ρ := fun ρ avs obs k0 => ofC enc0 (fun t => un3 (F0 fuelN) t k0) (avs, obs)
theorem zG (ρ : Type) : F0 fuelN = fun w1 w2 w3 k0 => V0 ρ [.c (.h 0), vi w1, vi w2] [ro w3] k0 := by funext w1 w2 w3 k0; exact Eq.symm (zD enc0I _ (w1, w2, w3))
theorem main {Q0 W0} {ρ : Type} {K : AV → LO → Option ρ} {a1 a2} : exC Tryz.prog (O Q0) (L W0) [] 0 (zB Tryz.f83) (entry 19 [.c (.h 0), vi a1] [ro a2] [true]) (finO Tryz.prog Tryz.f83.results.toList 1 [true] [] K) =
    B (fun w1 w2 w3 k0 => W0 ρ [.c (.h 0), vi w1, vi w2] [ro w3] k0) a1 a2 (fun x1 x2 => K (vi x1) [ro x2]) := by kernel_rfl
theorem Gok : (O laws_markIntS_s68b2.Q).ok Tryz.prog := zH (by exact trivial) (by exact ⟨eE_ok (fun h => by cases h) laws_markIntS_s68b2.ac, trivial⟩)
theorem ok0 : OkL Tryz.prog (L V0) 0 (.loop c0) := fun ρ st K r h => zJ (ct := ct0) (lv := lv0) (L := (L V0)) Gok hmT (by rw [show zE [] 1 c0 = [] by kernel_rfl]; exact Lor.zF _ _) enc0I (fun k t => un3 (F0 k) t (k0_0 K)) (fun t => rfl) (fun k t => by refine step0.trans ?_; rw [← laws_markIntS_s68b2.wrap]; exact congrFun (congrArg (B0 _ _ _ _) (fx3 fun t => zD enc0I _ t)) _) (fun _ => fuelN) h
theorem e : zE [] 0 (zB Tryz.f83) = [(0, 0, .loop c0)] := by kernel_rfl
theorem acc : ∀ t x, un2 F t = some x → ACc Tryz.prog 83 (encA t).1 (encA t).2 true [true] fun rv obs => (rv, obs) = encR x := accT2 (T := Int × Vec YI) (F := un2 F) (L := (L V0)) (cmds := []) (body := (zB Tryz.f83)) 1 (fun _ => rfl) Gok hmT Tryz.func83 (by kernel_rfl) (by kernel_rfl) (by rw [e]; exact Lor.zI ok0 (Lor.zF _ _)) (fun t => by refine main.trans ?_; rw [← zG]; exact congrArg (B _ _ _) (fx2 fun t => zD ZB some t))
theorem ac : ∀ a h x, Q a h = some x → AC Tryz.prog 83 a h false [true] fun rv obs => (rv, obs) = encR x := acF2 (body := (zB Tryz.f83)) Tryz.func83 (by kernel_rfl) (by kernel_rfl) acc fun x => ⟨by simp [encR, AV.Flat, K.Flat, C.Flat], flc (zN rfl _) (fl0)⟩
end laws_markIntSS_s45a1
namespace laws_markBodyS_s669a
noncomputable def B0 {ρ : Type} (C0 : Int → Option ByteArray) (C1 : Int → YI → Option (Int × YI)) (v1 : Int) (v2 : Int) (v3 : Vec YB) (W : Int → Int → YVB → Option ρ) (K0 : Int → YVB → Option ρ) : Option ρ :=
  let d1 := (wr (v1 + (1 : Int)))
  sel (decide (v2 < (v3.n : Int))) ((C0 v1).bind fun r1 => chk (decide (0 ≤ v2 ∧ v2 < (v3.n : Int))) (chk (decide (v2.toNat < v3.n)) (chk (decide (0 ≤ v2 ∧ v2 < ((Vec.set v3 v2.toNat (r1, (v3.g v2.toNat).2.1, (v3.g v2.toNat).2.2.1, (v3.g v2.toNat).2.2.2)).n : Int))) (chk (decide (v2.toNat < (Vec.set v3 v2.toNat (r1, (v3.g v2.toNat).2.1, (v3.g v2.toNat).2.2.1, (v3.g v2.toNat).2.2.2)).n)) (chk (decide (0 ≤ v2 ∧ v2 < ((Vec.set (Vec.set v3 v2.toNat (r1, (v3.g v2.toNat).2.1, (v3.g v2.toNat).2.2.1, (v3.g v2.toNat).2.2.2)) v2.toNat (((Vec.set v3 v2.toNat (r1, (v3.g v2.toNat).2.1, (v3.g v2.toNat).2.2.1, (v3.g v2.toNat).2.2.2)).g v2.toNat).1, d1, ((Vec.set v3 v2.toNat (r1, (v3.g v2.toNat).2.1, (v3.g v2.toNat).2.2.1, (v3.g v2.toNat).2.2.2)).g v2.toNat).2.2.1, ((Vec.set v3 v2.toNat (r1, (v3.g v2.toNat).2.1, (v3.g v2.toNat).2.2.1, (v3.g v2.toNat).2.2.2)).g v2.toNat).2.2.2)).n : Int))) (chk (decide (v2.toNat < (Vec.set (Vec.set v3 v2.toNat (r1, (v3.g v2.toNat).2.1, (v3.g v2.toNat).2.2.1, (v3.g v2.toNat).2.2.2)) v2.toNat (((Vec.set v3 v2.toNat (r1, (v3.g v2.toNat).2.1, (v3.g v2.toNat).2.2.1, (v3.g v2.toNat).2.2.2)).g v2.toNat).1, d1, ((Vec.set v3 v2.toNat (r1, (v3.g v2.toNat).2.1, (v3.g v2.toNat).2.2.1, (v3.g v2.toNat).2.2.2)).g v2.toNat).2.2.1, ((Vec.set v3 v2.toNat (r1, (v3.g v2.toNat).2.1, (v3.g v2.toNat).2.2.1, (v3.g v2.toNat).2.2.2)).g v2.toNat).2.2.2)).n)) (chk (decide (0 ≤ v2 ∧ v2 < ((Vec.set (Vec.set (Vec.set v3 v2.toNat (r1, (v3.g v2.toNat).2.1, (v3.g v2.toNat).2.2.1, (v3.g v2.toNat).2.2.2)) v2.toNat (((Vec.set v3 v2.toNat (r1, (v3.g v2.toNat).2.1, (v3.g v2.toNat).2.2.1, (v3.g v2.toNat).2.2.2)).g v2.toNat).1, d1, ((Vec.set v3 v2.toNat (r1, (v3.g v2.toNat).2.1, (v3.g v2.toNat).2.2.1, (v3.g v2.toNat).2.2.2)).g v2.toNat).2.2.1, ((Vec.set v3 v2.toNat (r1, (v3.g v2.toNat).2.1, (v3.g v2.toNat).2.2.1, (v3.g v2.toNat).2.2.2)).g v2.toNat).2.2.2)) v2.toNat (((Vec.set (Vec.set v3 v2.toNat (r1, (v3.g v2.toNat).2.1, (v3.g v2.toNat).2.2.1, (v3.g v2.toNat).2.2.2)) v2.toNat (((Vec.set v3 v2.toNat (r1, (v3.g v2.toNat).2.1, (v3.g v2.toNat).2.2.1, (v3.g v2.toNat).2.2.2)).g v2.toNat).1, d1, ((Vec.set v3 v2.toNat (r1, (v3.g v2.toNat).2.1, (v3.g v2.toNat).2.2.1, (v3.g v2.toNat).2.2.2)).g v2.toNat).2.2.1, ((Vec.set v3 v2.toNat (r1, (v3.g v2.toNat).2.1, (v3.g v2.toNat).2.2.1, (v3.g v2.toNat).2.2.2)).g v2.toNat).2.2.2)).g v2.toNat).1, ((Vec.set (Vec.set v3 v2.toNat (r1, (v3.g v2.toNat).2.1, (v3.g v2.toNat).2.2.1, (v3.g v2.toNat).2.2.2)) v2.toNat (((Vec.set v3 v2.toNat (r1, (v3.g v2.toNat).2.1, (v3.g v2.toNat).2.2.1, (v3.g v2.toNat).2.2.2)).g v2.toNat).1, d1, ((Vec.set v3 v2.toNat (r1, (v3.g v2.toNat).2.1, (v3.g v2.toNat).2.2.1, (v3.g v2.toNat).2.2.2)).g v2.toNat).2.2.1, ((Vec.set v3 v2.toNat (r1, (v3.g v2.toNat).2.1, (v3.g v2.toNat).2.2.1, (v3.g v2.toNat).2.2.2)).g v2.toNat).2.2.2)).g v2.toNat).2.1, (wr (d1 + (1 : Int))), ((Vec.set (Vec.set v3 v2.toNat (r1, (v3.g v2.toNat).2.1, (v3.g v2.toNat).2.2.1, (v3.g v2.toNat).2.2.2)) v2.toNat (((Vec.set v3 v2.toNat (r1, (v3.g v2.toNat).2.1, (v3.g v2.toNat).2.2.1, (v3.g v2.toNat).2.2.2)).g v2.toNat).1, d1, ((Vec.set v3 v2.toNat (r1, (v3.g v2.toNat).2.1, (v3.g v2.toNat).2.2.1, (v3.g v2.toNat).2.2.2)).g v2.toNat).2.2.1, ((Vec.set v3 v2.toNat (r1, (v3.g v2.toNat).2.1, (v3.g v2.toNat).2.2.1, (v3.g v2.toNat).2.2.2)).g v2.toNat).2.2.2)).g v2.toNat).2.2.2)).n : Int))) (chk (decide (v2.toNat < (Vec.set (Vec.set (Vec.set v3 v2.toNat (r1, (v3.g v2.toNat).2.1, (v3.g v2.toNat).2.2.1, (v3.g v2.toNat).2.2.2)) v2.toNat (((Vec.set v3 v2.toNat (r1, (v3.g v2.toNat).2.1, (v3.g v2.toNat).2.2.1, (v3.g v2.toNat).2.2.2)).g v2.toNat).1, d1, ((Vec.set v3 v2.toNat (r1, (v3.g v2.toNat).2.1, (v3.g v2.toNat).2.2.1, (v3.g v2.toNat).2.2.2)).g v2.toNat).2.2.1, ((Vec.set v3 v2.toNat (r1, (v3.g v2.toNat).2.1, (v3.g v2.toNat).2.2.1, (v3.g v2.toNat).2.2.2)).g v2.toNat).2.2.2)) v2.toNat (((Vec.set (Vec.set v3 v2.toNat (r1, (v3.g v2.toNat).2.1, (v3.g v2.toNat).2.2.1, (v3.g v2.toNat).2.2.2)) v2.toNat (((Vec.set v3 v2.toNat (r1, (v3.g v2.toNat).2.1, (v3.g v2.toNat).2.2.1, (v3.g v2.toNat).2.2.2)).g v2.toNat).1, d1, ((Vec.set v3 v2.toNat (r1, (v3.g v2.toNat).2.1, (v3.g v2.toNat).2.2.1, (v3.g v2.toNat).2.2.2)).g v2.toNat).2.2.1, ((Vec.set v3 v2.toNat (r1, (v3.g v2.toNat).2.1, (v3.g v2.toNat).2.2.1, (v3.g v2.toNat).2.2.2)).g v2.toNat).2.2.2)).g v2.toNat).1, ((Vec.set (Vec.set v3 v2.toNat (r1, (v3.g v2.toNat).2.1, (v3.g v2.toNat).2.2.1, (v3.g v2.toNat).2.2.2)) v2.toNat (((Vec.set v3 v2.toNat (r1, (v3.g v2.toNat).2.1, (v3.g v2.toNat).2.2.1, (v3.g v2.toNat).2.2.2)).g v2.toNat).1, d1, ((Vec.set v3 v2.toNat (r1, (v3.g v2.toNat).2.1, (v3.g v2.toNat).2.2.1, (v3.g v2.toNat).2.2.2)).g v2.toNat).2.2.1, ((Vec.set v3 v2.toNat (r1, (v3.g v2.toNat).2.1, (v3.g v2.toNat).2.2.1, (v3.g v2.toNat).2.2.2)).g v2.toNat).2.2.2)).g v2.toNat).2.1, (wr (d1 + (1 : Int))), ((Vec.set (Vec.set v3 v2.toNat (r1, (v3.g v2.toNat).2.1, (v3.g v2.toNat).2.2.1, (v3.g v2.toNat).2.2.2)) v2.toNat (((Vec.set v3 v2.toNat (r1, (v3.g v2.toNat).2.1, (v3.g v2.toNat).2.2.1, (v3.g v2.toNat).2.2.2)).g v2.toNat).1, d1, ((Vec.set v3 v2.toNat (r1, (v3.g v2.toNat).2.1, (v3.g v2.toNat).2.2.1, (v3.g v2.toNat).2.2.2)).g v2.toNat).2.2.1, ((Vec.set v3 v2.toNat (r1, (v3.g v2.toNat).2.1, (v3.g v2.toNat).2.2.1, (v3.g v2.toNat).2.2.2)).g v2.toNat).2.2.2)).g v2.toNat).2.2.2)).n)) ((C1 (wr ((wr (d1 + (1 : Int))) + (1 : Int))) (((Vec.set (Vec.set (Vec.set v3 v2.toNat (r1, (v3.g v2.toNat).2.1, (v3.g v2.toNat).2.2.1, (v3.g v2.toNat).2.2.2)) v2.toNat (((Vec.set v3 v2.toNat (r1, (v3.g v2.toNat).2.1, (v3.g v2.toNat).2.2.1, (v3.g v2.toNat).2.2.2)).g v2.toNat).1, d1, ((Vec.set v3 v2.toNat (r1, (v3.g v2.toNat).2.1, (v3.g v2.toNat).2.2.1, (v3.g v2.toNat).2.2.2)).g v2.toNat).2.2.1, ((Vec.set v3 v2.toNat (r1, (v3.g v2.toNat).2.1, (v3.g v2.toNat).2.2.1, (v3.g v2.toNat).2.2.2)).g v2.toNat).2.2.2)) v2.toNat (((Vec.set (Vec.set v3 v2.toNat (r1, (v3.g v2.toNat).2.1, (v3.g v2.toNat).2.2.1, (v3.g v2.toNat).2.2.2)) v2.toNat (((Vec.set v3 v2.toNat (r1, (v3.g v2.toNat).2.1, (v3.g v2.toNat).2.2.1, (v3.g v2.toNat).2.2.2)).g v2.toNat).1, d1, ((Vec.set v3 v2.toNat (r1, (v3.g v2.toNat).2.1, (v3.g v2.toNat).2.2.1, (v3.g v2.toNat).2.2.2)).g v2.toNat).2.2.1, ((Vec.set v3 v2.toNat (r1, (v3.g v2.toNat).2.1, (v3.g v2.toNat).2.2.1, (v3.g v2.toNat).2.2.2)).g v2.toNat).2.2.2)).g v2.toNat).1, ((Vec.set (Vec.set v3 v2.toNat (r1, (v3.g v2.toNat).2.1, (v3.g v2.toNat).2.2.1, (v3.g v2.toNat).2.2.2)) v2.toNat (((Vec.set v3 v2.toNat (r1, (v3.g v2.toNat).2.1, (v3.g v2.toNat).2.2.1, (v3.g v2.toNat).2.2.2)).g v2.toNat).1, d1, ((Vec.set v3 v2.toNat (r1, (v3.g v2.toNat).2.1, (v3.g v2.toNat).2.2.1, (v3.g v2.toNat).2.2.2)).g v2.toNat).2.2.1, ((Vec.set v3 v2.toNat (r1, (v3.g v2.toNat).2.1, (v3.g v2.toNat).2.2.1, (v3.g v2.toNat).2.2.2)).g v2.toNat).2.2.2)).g v2.toNat).2.1, (wr (d1 + (1 : Int))), ((Vec.set (Vec.set v3 v2.toNat (r1, (v3.g v2.toNat).2.1, (v3.g v2.toNat).2.2.1, (v3.g v2.toNat).2.2.2)) v2.toNat (((Vec.set v3 v2.toNat (r1, (v3.g v2.toNat).2.1, (v3.g v2.toNat).2.2.1, (v3.g v2.toNat).2.2.2)).g v2.toNat).1, d1, ((Vec.set v3 v2.toNat (r1, (v3.g v2.toNat).2.1, (v3.g v2.toNat).2.2.1, (v3.g v2.toNat).2.2.2)).g v2.toNat).2.2.1, ((Vec.set v3 v2.toNat (r1, (v3.g v2.toNat).2.1, (v3.g v2.toNat).2.2.1, (v3.g v2.toNat).2.2.2)).g v2.toNat).2.2.2)).g v2.toNat).2.2.2)).g v2.toNat).2.2.2)).bind fun r2 => W r2.1 (wr (v2 + (1 : Int))) (Vec.set (Vec.set (Vec.set (Vec.set v3 v2.toNat (r1, (v3.g v2.toNat).2.1, (v3.g v2.toNat).2.2.1, (v3.g v2.toNat).2.2.2)) v2.toNat (((Vec.set v3 v2.toNat (r1, (v3.g v2.toNat).2.1, (v3.g v2.toNat).2.2.1, (v3.g v2.toNat).2.2.2)).g v2.toNat).1, d1, ((Vec.set v3 v2.toNat (r1, (v3.g v2.toNat).2.1, (v3.g v2.toNat).2.2.1, (v3.g v2.toNat).2.2.2)).g v2.toNat).2.2.1, ((Vec.set v3 v2.toNat (r1, (v3.g v2.toNat).2.1, (v3.g v2.toNat).2.2.1, (v3.g v2.toNat).2.2.2)).g v2.toNat).2.2.2)) v2.toNat (((Vec.set (Vec.set v3 v2.toNat (r1, (v3.g v2.toNat).2.1, (v3.g v2.toNat).2.2.1, (v3.g v2.toNat).2.2.2)) v2.toNat (((Vec.set v3 v2.toNat (r1, (v3.g v2.toNat).2.1, (v3.g v2.toNat).2.2.1, (v3.g v2.toNat).2.2.2)).g v2.toNat).1, d1, ((Vec.set v3 v2.toNat (r1, (v3.g v2.toNat).2.1, (v3.g v2.toNat).2.2.1, (v3.g v2.toNat).2.2.2)).g v2.toNat).2.2.1, ((Vec.set v3 v2.toNat (r1, (v3.g v2.toNat).2.1, (v3.g v2.toNat).2.2.1, (v3.g v2.toNat).2.2.2)).g v2.toNat).2.2.2)).g v2.toNat).1, ((Vec.set (Vec.set v3 v2.toNat (r1, (v3.g v2.toNat).2.1, (v3.g v2.toNat).2.2.1, (v3.g v2.toNat).2.2.2)) v2.toNat (((Vec.set v3 v2.toNat (r1, (v3.g v2.toNat).2.1, (v3.g v2.toNat).2.2.1, (v3.g v2.toNat).2.2.2)).g v2.toNat).1, d1, ((Vec.set v3 v2.toNat (r1, (v3.g v2.toNat).2.1, (v3.g v2.toNat).2.2.1, (v3.g v2.toNat).2.2.2)).g v2.toNat).2.2.1, ((Vec.set v3 v2.toNat (r1, (v3.g v2.toNat).2.1, (v3.g v2.toNat).2.2.1, (v3.g v2.toNat).2.2.2)).g v2.toNat).2.2.2)).g v2.toNat).2.1, (wr (d1 + (1 : Int))), ((Vec.set (Vec.set v3 v2.toNat (r1, (v3.g v2.toNat).2.1, (v3.g v2.toNat).2.2.1, (v3.g v2.toNat).2.2.2)) v2.toNat (((Vec.set v3 v2.toNat (r1, (v3.g v2.toNat).2.1, (v3.g v2.toNat).2.2.1, (v3.g v2.toNat).2.2.2)).g v2.toNat).1, d1, ((Vec.set v3 v2.toNat (r1, (v3.g v2.toNat).2.1, (v3.g v2.toNat).2.2.1, (v3.g v2.toNat).2.2.2)).g v2.toNat).2.2.1, ((Vec.set v3 v2.toNat (r1, (v3.g v2.toNat).2.1, (v3.g v2.toNat).2.2.1, (v3.g v2.toNat).2.2.2)).g v2.toNat).2.2.2)).g v2.toNat).2.2.2)) v2.toNat (((Vec.set (Vec.set (Vec.set v3 v2.toNat (r1, (v3.g v2.toNat).2.1, (v3.g v2.toNat).2.2.1, (v3.g v2.toNat).2.2.2)) v2.toNat (((Vec.set v3 v2.toNat (r1, (v3.g v2.toNat).2.1, (v3.g v2.toNat).2.2.1, (v3.g v2.toNat).2.2.2)).g v2.toNat).1, d1, ((Vec.set v3 v2.toNat (r1, (v3.g v2.toNat).2.1, (v3.g v2.toNat).2.2.1, (v3.g v2.toNat).2.2.2)).g v2.toNat).2.2.1, ((Vec.set v3 v2.toNat (r1, (v3.g v2.toNat).2.1, (v3.g v2.toNat).2.2.1, (v3.g v2.toNat).2.2.2)).g v2.toNat).2.2.2)) v2.toNat (((Vec.set (Vec.set v3 v2.toNat (r1, (v3.g v2.toNat).2.1, (v3.g v2.toNat).2.2.1, (v3.g v2.toNat).2.2.2)) v2.toNat (((Vec.set v3 v2.toNat (r1, (v3.g v2.toNat).2.1, (v3.g v2.toNat).2.2.1, (v3.g v2.toNat).2.2.2)).g v2.toNat).1, d1, ((Vec.set v3 v2.toNat (r1, (v3.g v2.toNat).2.1, (v3.g v2.toNat).2.2.1, (v3.g v2.toNat).2.2.2)).g v2.toNat).2.2.1, ((Vec.set v3 v2.toNat (r1, (v3.g v2.toNat).2.1, (v3.g v2.toNat).2.2.1, (v3.g v2.toNat).2.2.2)).g v2.toNat).2.2.2)).g v2.toNat).1, ((Vec.set (Vec.set v3 v2.toNat (r1, (v3.g v2.toNat).2.1, (v3.g v2.toNat).2.2.1, (v3.g v2.toNat).2.2.2)) v2.toNat (((Vec.set v3 v2.toNat (r1, (v3.g v2.toNat).2.1, (v3.g v2.toNat).2.2.1, (v3.g v2.toNat).2.2.2)).g v2.toNat).1, d1, ((Vec.set v3 v2.toNat (r1, (v3.g v2.toNat).2.1, (v3.g v2.toNat).2.2.1, (v3.g v2.toNat).2.2.2)).g v2.toNat).2.2.1, ((Vec.set v3 v2.toNat (r1, (v3.g v2.toNat).2.1, (v3.g v2.toNat).2.2.1, (v3.g v2.toNat).2.2.2)).g v2.toNat).2.2.2)).g v2.toNat).2.1, (wr (d1 + (1 : Int))), ((Vec.set (Vec.set v3 v2.toNat (r1, (v3.g v2.toNat).2.1, (v3.g v2.toNat).2.2.1, (v3.g v2.toNat).2.2.2)) v2.toNat (((Vec.set v3 v2.toNat (r1, (v3.g v2.toNat).2.1, (v3.g v2.toNat).2.2.1, (v3.g v2.toNat).2.2.2)).g v2.toNat).1, d1, ((Vec.set v3 v2.toNat (r1, (v3.g v2.toNat).2.1, (v3.g v2.toNat).2.2.1, (v3.g v2.toNat).2.2.2)).g v2.toNat).2.2.1, ((Vec.set v3 v2.toNat (r1, (v3.g v2.toNat).2.1, (v3.g v2.toNat).2.2.1, (v3.g v2.toNat).2.2.2)).g v2.toNat).2.2.2)).g v2.toNat).2.2.2)).g v2.toNat).1, ((Vec.set (Vec.set (Vec.set v3 v2.toNat (r1, (v3.g v2.toNat).2.1, (v3.g v2.toNat).2.2.1, (v3.g v2.toNat).2.2.2)) v2.toNat (((Vec.set v3 v2.toNat (r1, (v3.g v2.toNat).2.1, (v3.g v2.toNat).2.2.1, (v3.g v2.toNat).2.2.2)).g v2.toNat).1, d1, ((Vec.set v3 v2.toNat (r1, (v3.g v2.toNat).2.1, (v3.g v2.toNat).2.2.1, (v3.g v2.toNat).2.2.2)).g v2.toNat).2.2.1, ((Vec.set v3 v2.toNat (r1, (v3.g v2.toNat).2.1, (v3.g v2.toNat).2.2.1, (v3.g v2.toNat).2.2.2)).g v2.toNat).2.2.2)) v2.toNat (((Vec.set (Vec.set v3 v2.toNat (r1, (v3.g v2.toNat).2.1, (v3.g v2.toNat).2.2.1, (v3.g v2.toNat).2.2.2)) v2.toNat (((Vec.set v3 v2.toNat (r1, (v3.g v2.toNat).2.1, (v3.g v2.toNat).2.2.1, (v3.g v2.toNat).2.2.2)).g v2.toNat).1, d1, ((Vec.set v3 v2.toNat (r1, (v3.g v2.toNat).2.1, (v3.g v2.toNat).2.2.1, (v3.g v2.toNat).2.2.2)).g v2.toNat).2.2.1, ((Vec.set v3 v2.toNat (r1, (v3.g v2.toNat).2.1, (v3.g v2.toNat).2.2.1, (v3.g v2.toNat).2.2.2)).g v2.toNat).2.2.2)).g v2.toNat).1, ((Vec.set (Vec.set v3 v2.toNat (r1, (v3.g v2.toNat).2.1, (v3.g v2.toNat).2.2.1, (v3.g v2.toNat).2.2.2)) v2.toNat (((Vec.set v3 v2.toNat (r1, (v3.g v2.toNat).2.1, (v3.g v2.toNat).2.2.1, (v3.g v2.toNat).2.2.2)).g v2.toNat).1, d1, ((Vec.set v3 v2.toNat (r1, (v3.g v2.toNat).2.1, (v3.g v2.toNat).2.2.1, (v3.g v2.toNat).2.2.2)).g v2.toNat).2.2.1, ((Vec.set v3 v2.toNat (r1, (v3.g v2.toNat).2.1, (v3.g v2.toNat).2.2.1, (v3.g v2.toNat).2.2.2)).g v2.toNat).2.2.2)).g v2.toNat).2.1, (wr (d1 + (1 : Int))), ((Vec.set (Vec.set v3 v2.toNat (r1, (v3.g v2.toNat).2.1, (v3.g v2.toNat).2.2.1, (v3.g v2.toNat).2.2.2)) v2.toNat (((Vec.set v3 v2.toNat (r1, (v3.g v2.toNat).2.1, (v3.g v2.toNat).2.2.1, (v3.g v2.toNat).2.2.2)).g v2.toNat).1, d1, ((Vec.set v3 v2.toNat (r1, (v3.g v2.toNat).2.1, (v3.g v2.toNat).2.2.1, (v3.g v2.toNat).2.2.2)).g v2.toNat).2.2.1, ((Vec.set v3 v2.toNat (r1, (v3.g v2.toNat).2.1, (v3.g v2.toNat).2.2.1, (v3.g v2.toNat).2.2.2)).g v2.toNat).2.2.2)).g v2.toNat).2.2.2)).g v2.toNat).2.1, ((Vec.set (Vec.set (Vec.set v3 v2.toNat (r1, (v3.g v2.toNat).2.1, (v3.g v2.toNat).2.2.1, (v3.g v2.toNat).2.2.2)) v2.toNat (((Vec.set v3 v2.toNat (r1, (v3.g v2.toNat).2.1, (v3.g v2.toNat).2.2.1, (v3.g v2.toNat).2.2.2)).g v2.toNat).1, d1, ((Vec.set v3 v2.toNat (r1, (v3.g v2.toNat).2.1, (v3.g v2.toNat).2.2.1, (v3.g v2.toNat).2.2.2)).g v2.toNat).2.2.1, ((Vec.set v3 v2.toNat (r1, (v3.g v2.toNat).2.1, (v3.g v2.toNat).2.2.1, (v3.g v2.toNat).2.2.2)).g v2.toNat).2.2.2)) v2.toNat (((Vec.set (Vec.set v3 v2.toNat (r1, (v3.g v2.toNat).2.1, (v3.g v2.toNat).2.2.1, (v3.g v2.toNat).2.2.2)) v2.toNat (((Vec.set v3 v2.toNat (r1, (v3.g v2.toNat).2.1, (v3.g v2.toNat).2.2.1, (v3.g v2.toNat).2.2.2)).g v2.toNat).1, d1, ((Vec.set v3 v2.toNat (r1, (v3.g v2.toNat).2.1, (v3.g v2.toNat).2.2.1, (v3.g v2.toNat).2.2.2)).g v2.toNat).2.2.1, ((Vec.set v3 v2.toNat (r1, (v3.g v2.toNat).2.1, (v3.g v2.toNat).2.2.1, (v3.g v2.toNat).2.2.2)).g v2.toNat).2.2.2)).g v2.toNat).1, ((Vec.set (Vec.set v3 v2.toNat (r1, (v3.g v2.toNat).2.1, (v3.g v2.toNat).2.2.1, (v3.g v2.toNat).2.2.2)) v2.toNat (((Vec.set v3 v2.toNat (r1, (v3.g v2.toNat).2.1, (v3.g v2.toNat).2.2.1, (v3.g v2.toNat).2.2.2)).g v2.toNat).1, d1, ((Vec.set v3 v2.toNat (r1, (v3.g v2.toNat).2.1, (v3.g v2.toNat).2.2.1, (v3.g v2.toNat).2.2.2)).g v2.toNat).2.2.1, ((Vec.set v3 v2.toNat (r1, (v3.g v2.toNat).2.1, (v3.g v2.toNat).2.2.1, (v3.g v2.toNat).2.2.2)).g v2.toNat).2.2.2)).g v2.toNat).2.1, (wr (d1 + (1 : Int))), ((Vec.set (Vec.set v3 v2.toNat (r1, (v3.g v2.toNat).2.1, (v3.g v2.toNat).2.2.1, (v3.g v2.toNat).2.2.2)) v2.toNat (((Vec.set v3 v2.toNat (r1, (v3.g v2.toNat).2.1, (v3.g v2.toNat).2.2.1, (v3.g v2.toNat).2.2.2)).g v2.toNat).1, d1, ((Vec.set v3 v2.toNat (r1, (v3.g v2.toNat).2.1, (v3.g v2.toNat).2.2.1, (v3.g v2.toNat).2.2.2)).g v2.toNat).2.2.1, ((Vec.set v3 v2.toNat (r1, (v3.g v2.toNat).2.1, (v3.g v2.toNat).2.2.1, (v3.g v2.toNat).2.2.2)).g v2.toNat).2.2.2)).g v2.toNat).2.2.2)).g v2.toNat).2.2.1, r2.2))))))))))) (K0 v1 v3)
noncomputable def F0 {ρ : Type} : Nat → Int → Int → YVB → (Int → YVB → Option ρ) → Option ρ
  | 0, _, _, _, _ => none
  | k + 1, v1, v2, v3, K0 => B0 laws_markText.F laws_markIntS_s68b2.F v1 v2 v3 (fun v1' v2' v3' => F0 k v1' v2' v3' K0) K0
noncomputable def B {ρ : Type} (L0 : Int → Int → YVB → (Int → YVB → Option ρ) → Option ρ) (a1 : Int) (a2 : Vec YB) (K : Int → YVB → Option ρ) : Option ρ :=
  L0 a1 (0 : Int) a2 (fun e01 e02 => K e01 e02)
noncomputable def F (a1 : Int) (a2 : Vec YB) : Option (Int × YVB) := B (F0 fuelN) a1 a2 (fun x1 x2 => some (x1, x2))
def encA (t : Int × YVB) : LA × LO := ([.c (.h 0), vi t.1], [ro t.2])
def encR (x : Int × YVB) : AV × LO := (vi x.1, [ro x.2])
theorem ZA (a b) (h : encA a = encA b) : a = b := by simp [encA, zA] at h; simp [Prod.ext_iff, h]
theorem ZB (a b) (h : encR a = encR b) : a = b := by simp [encR, zA] at h; simp [Prod.ext_iff, h]
noncomputable def Q (args : LA) (hin : LO) : Option (Int × YVB) := ofC encA (un2 F) (args, hin)
theorem wrap : F = fun y1 y2 => Q [.c (.h 0), vi y1] [ro y2] := by funext y1 y2; exact Eq.symm (zD ZA _ (y1, y2))
noncomputable abbrev O (Q0 : LA → Option ByteArray) (Q1 : LA → LO → Option (Int × YI)) : Orc := mkO [qE 58 false laws_markText.encR Q0] [eE Tryz.prog 34 [true, false] false [true] laws_markIntS_s68b2.encR Q1] [38]
noncomputable def c0 : Code := loopC (atomN [] 0 (zB Tryz.f117) 0)
def ct0 : Cut := ⟨[0, 1, 5], []⟩
def lv0 : Exit → Cut
  | .exit 0 => ⟨[1], []⟩
  | _ => ⟨[], []⟩
def k0_0 {ρ : Type} (K : Exit → St → Option ρ) (z1 : Int) (z2 : Vec YB) : Option ρ := K (.exit 0) (mkS 42 (lv0 (.exit 0)).live [vi z1] [ro z2] [true])
noncomputable def L (W0 : (ρ : Type) → LA → LO → (Int → YVB → Option ρ) → Option ρ) : Lor := fun ρ j st K => sel (Nat.beq j 0) (cutO Tryz.prog 42 ct0.live 1 [true] ct0.cmds st fun avs obs => W0 ρ avs obs (k0_0 K)) (Option.none)
theorem step0 {Q0 Q1 W0} {ρ : Type} {K : Exit → St → Option ρ} {W : LA → LO → Option ρ} {v1 v2 v3} : exC Tryz.prog (O Q0 Q1) (L W0) [] 1 c0 (mkS 42 ct0.live [.c (.h 0), vi v1, vi v2] [ro v3] [true]) (bodyK Tryz.prog 42 1 [true] ct0 W lv0 K) =
    B0 (fun y1 => Q0 [vi y1]) (fun y1 y2 => Q1 [.c (.h 0), vi y1] [ro y2]) v1 v2 v3 (fun u1 u2 u3 => W [.c (.h 0), vi u1, vi u2] [ro u3]) (k0_0 K) := by kernel_rfl
def enc0 (t : Int × Int × YVB) : LA × LO := ([.c (.h 0), vi t.1, vi t.2.1], [ro t.2.2])
theorem enc0I (a b) (h : enc0 a = enc0 b) : a = b := by simp [enc0, zA] at h; simp [Prod.ext_iff, h]
noncomputable def V0 : (ρ : Type) → LA → LO → (Int → YVB → Option ρ) → Option ρ := fun ρ avs obs k0 => ofC enc0 (fun t => un3 (F0 fuelN) t k0) (avs, obs)
theorem zG (ρ : Type) : F0 fuelN = fun w1 w2 w3 k0 => V0 ρ [.c (.h 0), vi w1, vi w2] [ro w3] k0 := by funext w1 w2 w3 k0; exact Eq.symm (zD enc0I _ (w1, w2, w3))
theorem main {Q0 Q1 W0} {ρ : Type} {K : AV → LO → Option ρ} {a1 a2} : exC Tryz.prog (O Q0 Q1) (L W0) [] 0 (zB Tryz.f117) (entry 42 [.c (.h 0), vi a1] [ro a2] [true]) (finO Tryz.prog Tryz.f117.results.toList 1 [true] [] K) =
    B (fun w1 w2 w3 k0 => W0 ρ [.c (.h 0), vi w1, vi w2] [ro w3] k0) a1 a2 (fun x1 x2 => K (vi x1) [ro x2]) := by kernel_rfl
theorem Gok : (O laws_markText.Q laws_markIntS_s68b2.Q).ok Tryz.prog := zH (by exact ⟨qE_ok laws_markText.ac, trivial⟩) (by exact ⟨eE_ok (fun h => by cases h) laws_markIntS_s68b2.ac, trivial⟩)
theorem ok0 : OkL Tryz.prog (L V0) 0 (.loop c0) := fun ρ st K r h => zJ (ct := ct0) (lv := lv0) (L := (L V0)) Gok hmT (by rw [show zE [] 1 c0 = [] by kernel_rfl]; exact Lor.zF _ _) enc0I (fun k t => un3 (F0 k) t (k0_0 K)) (fun t => rfl) (fun k t => by refine step0.trans ?_; rw [← laws_markText.wrap, ← laws_markIntS_s68b2.wrap]; exact congrFun (congrArg (B0 _ _ _ _ _) (fx3 fun t => zD enc0I _ t)) _) (fun _ => fuelN) h
theorem e : zE [] 0 (zB Tryz.f117) = [(0, 0, .loop c0)] := by kernel_rfl
theorem acc : ∀ t x, un2 F t = some x → ACc Tryz.prog 117 (encA t).1 (encA t).2 true [true] fun rv obs => (rv, obs) = encR x := accT2 (T := Int × YVB) (F := un2 F) (L := (L V0)) (cmds := []) (body := (zB Tryz.f117)) 1 (fun _ => rfl) Gok hmT Tryz.func117 (by kernel_rfl) (by kernel_rfl) (by rw [e]; exact Lor.zI ok0 (Lor.zF _ _)) (fun t => by refine main.trans ?_; rw [← zG]; exact congrArg (B _ _ _) (fx2 fun t => zD ZB some t))
theorem ac : ∀ a h x, Q a h = some x → AC Tryz.prog 117 a h false [true] fun rv obs => (rv, obs) = encR x := acF2 (body := (zB Tryz.f117)) Tryz.func117 (by kernel_rfl) (by kernel_rfl) acc fun x => ⟨by simp [encR, AV.Flat, K.Flat, C.Flat], flc (zN rfl _) (fl0)⟩
end laws_markBodyS_s669a
namespace laws_markWeaveS_s5cec
noncomputable def B0 {ρ : Type} (C0 : Int → YG → Option (Int × Vec YI)) (C1 : Int → YVB → Option (Int × YVB)) (v1 : Int) (v2 : Int) (v3 : Vec YW) (W : Int → Int → YVW → Option ρ) (K0 : Int → YVW → Option ρ) : Option ρ :=
  sel (decide (v2 < (v3.n : Int))) (chk (decide (0 ≤ v2 ∧ v2 < (v3.n : Int))) (chk (decide (v2.toNat < v3.n)) ((C0 v1 ((v3.g v2.toNat).1)).bind fun r1 => chk (decide (0 ≤ v2 ∧ v2 < ((Vec.set v3 v2.toNat (r1.2, (v3.g v2.toNat).2)).n : Int))) (chk (decide (v2.toNat < (Vec.set v3 v2.toNat (r1.2, (v3.g v2.toNat).2)).n)) ((C1 r1.1 (((Vec.set v3 v2.toNat (r1.2, (v3.g v2.toNat).2)).g v2.toNat).2)).bind fun r2 => W r2.1 (wr (v2 + (1 : Int))) (Vec.set (Vec.set v3 v2.toNat (r1.2, (v3.g v2.toNat).2)) v2.toNat (((Vec.set v3 v2.toNat (r1.2, (v3.g v2.toNat).2)).g v2.toNat).1, r2.2))))))) (K0 v1 v3)
noncomputable def F0 {ρ : Type} : Nat → Int → Int → YVW → (Int → YVW → Option ρ) → Option ρ
  | 0, _, _, _, _ => none
  | k + 1, v1, v2, v3, K0 => B0 laws_markIntSS_s45a1.F laws_markBodyS_s669a.F v1 v2 v3 (fun v1' v2' v3' => F0 k v1' v2' v3' K0) K0
noncomputable def B {ρ : Type} (L0 : Int → Int → YVW → (Int → YVW → Option ρ) → Option ρ) (a1 : Int) (a2 : Vec YW) (K : Int → YVW → Option ρ) : Option ρ :=
  L0 a1 (0 : Int) a2 (fun e01 e02 => K e01 e02)
noncomputable def F (a1 : Int) (a2 : Vec YW) : Option (Int × YVW) := B (F0 fuelN) a1 a2 (fun x1 x2 => some (x1, x2))
def encA (t : Int × YVW) : LA × LO := ([.c (.h 0), vi t.1], [ro t.2])
def encR (x : Int × YVW) : AV × LO := (vi x.1, [ro x.2])
theorem ZA (a b) (h : encA a = encA b) : a = b := by simp [encA, zA] at h; simp [Prod.ext_iff, h]
theorem ZB (a b) (h : encR a = encR b) : a = b := by simp [encR, zA] at h; simp [Prod.ext_iff, h]
noncomputable def Q (args : LA) (hin : LO) : Option (Int × YVW) := ofC encA (un2 F) (args, hin)
theorem wrap : F = fun y1 y2 => Q [.c (.h 0), vi y1] [ro y2] := by funext y1 y2; exact Eq.symm (zD ZA _ (y1, y2))
noncomputable abbrev O (Q0 : LA → LO → Option (Int × Vec YI)) (Q1 : LA → LO → Option (Int × YVB)) : Orc := mkO [] [eE Tryz.prog 83 [true, false] false [true] laws_markIntSS_s45a1.encR Q0, eE Tryz.prog 117 [true, false] false [true] laws_markBodyS_s669a.encR Q1] [16, 23]
noncomputable def c0 : Code := loopC (atomN [] 0 (zB Tryz.f57) 0)
def ct0 : Cut := ⟨[0, 1, 5], []⟩
def lv0 : Exit → Cut
  | .exit 0 => ⟨[1], []⟩
  | _ => ⟨[], []⟩
def k0_0 {ρ : Type} (K : Exit → St → Option ρ) (z1 : Int) (z2 : Vec YW) : Option ρ := K (.exit 0) (mkS 27 (lv0 (.exit 0)).live [vi z1] [ro z2] [true])
noncomputable def L (W0 : (ρ : Type) → LA → LO → (Int → YVW → Option ρ) → Option ρ) : Lor := fun ρ j st K => sel (Nat.beq j 0) (cutO Tryz.prog 27 ct0.live 1 [true] ct0.cmds st fun avs obs => W0 ρ avs obs (k0_0 K)) (Option.none)
theorem step0 {Q0 Q1 W0} {ρ : Type} {K : Exit → St → Option ρ} {W : LA → LO → Option ρ} {v1 v2 v3} : exC Tryz.prog (O Q0 Q1) (L W0) [] 1 c0 (mkS 27 ct0.live [.c (.h 0), vi v1, vi v2] [ro v3] [true]) (bodyK Tryz.prog 27 1 [true] ct0 W lv0 K) =
    B0 (fun y1 y2 => Q0 [.c (.h 0), vi y1] [ro y2]) (fun y1 y2 => Q1 [.c (.h 0), vi y1] [ro y2]) v1 v2 v3 (fun u1 u2 u3 => W [.c (.h 0), vi u1, vi u2] [ro u3]) (k0_0 K) := by kernel_rfl
def enc0 (t : Int × Int × YVW) : LA × LO := ([.c (.h 0), vi t.1, vi t.2.1], [ro t.2.2])
theorem enc0I (a b) (h : enc0 a = enc0 b) : a = b := by simp [enc0, zA] at h; simp [Prod.ext_iff, h]
noncomputable def V0 : (ρ : Type) → LA → LO → (Int → YVW → Option ρ) → Option ρ := fun ρ avs obs k0 => ofC enc0 (fun t => un3 (F0 fuelN) t k0) (avs, obs)
theorem zG (ρ : Type) : F0 fuelN = fun w1 w2 w3 k0 => V0 ρ [.c (.h 0), vi w1, vi w2] [ro w3] k0 := by funext w1 w2 w3 k0; exact Eq.symm (zD enc0I _ (w1, w2, w3))
theorem main {Q0 Q1 W0} {ρ : Type} {K : AV → LO → Option ρ} {a1 a2} : exC Tryz.prog (O Q0 Q1) (L W0) [] 0 (zB Tryz.f57) (entry 27 [.c (.h 0), vi a1] [ro a2] [true]) (finO Tryz.prog Tryz.f57.results.toList 1 [true] [] K) =
    B (fun w1 w2 w3 k0 => W0 ρ [.c (.h 0), vi w1, vi w2] [ro w3] k0) a1 a2 (fun x1 x2 => K (vi x1) [ro x2]) := by kernel_rfl
theorem Gok : (O laws_markIntSS_s45a1.Q laws_markBodyS_s669a.Q).ok Tryz.prog := zH (by exact trivial) (by exact ⟨eE_ok (fun h => by cases h) laws_markIntSS_s45a1.ac, eE_ok (fun h => by cases h) laws_markBodyS_s669a.ac, trivial⟩)
theorem ok0 : OkL Tryz.prog (L V0) 0 (.loop c0) := fun ρ st K r h => zJ (ct := ct0) (lv := lv0) (L := (L V0)) Gok hmT (by rw [show zE [] 1 c0 = [] by kernel_rfl]; exact Lor.zF _ _) enc0I (fun k t => un3 (F0 k) t (k0_0 K)) (fun t => rfl) (fun k t => by refine step0.trans ?_; rw [← laws_markIntSS_s45a1.wrap, ← laws_markBodyS_s669a.wrap]; exact congrFun (congrArg (B0 _ _ _ _ _) (fx3 fun t => zD enc0I _ t)) _) (fun _ => fuelN) h
theorem e : zE [] 0 (zB Tryz.f57) = [(0, 0, .loop c0)] := by kernel_rfl
theorem acc : ∀ t x, un2 F t = some x → ACc Tryz.prog 57 (encA t).1 (encA t).2 true [true] fun rv obs => (rv, obs) = encR x := accT2 (T := Int × YVW) (F := un2 F) (L := (L V0)) (cmds := []) (body := (zB Tryz.f57)) 1 (fun _ => rfl) Gok hmT Tryz.func57 (by kernel_rfl) (by kernel_rfl) (by rw [e]; exact Lor.zI ok0 (Lor.zF _ _)) (fun t => by refine main.trans ?_; rw [← zG]; exact congrArg (B _ _ _) (fx2 fun t => zD ZB some t))
theorem ac : ∀ a h x, Q a h = some x → AC Tryz.prog 57 a h false [true] fun rv obs => (rv, obs) = encR x := acF2 (body := (zB Tryz.f57)) Tryz.func57 (by kernel_rfl) (by kernel_rfl) acc fun x => ⟨by simp [encR, AV.Flat, K.Flat, C.Flat], flc (zN rfl _) (fl0)⟩
end laws_markWeaveS_s5cec
namespace laws_markStore_sd1d9
noncomputable def B {ρ : Type} (C0 : Int → YVC → Option (Int × YVC)) (C1 : Int → YVW → Option (Int × YVW)) (a1 : Int) (a2 : Vec YC) (a3 : Vec YW) (K : Int → YVC → YVW → Option ρ) : Option ρ :=
  (C0 a1 a2).bind fun r1 => (C1 r1.1 a3).bind fun r2 => K r2.1 r1.2 r2.2
noncomputable def F (a1 : Int) (a2 : Vec YC) (a3 : Vec YW) : Option (Int × YVC × YVW) := B laws_markCommitS_sffd8.F laws_markWeaveS_s5cec.F a1 a2 a3 (fun x1 x2 x3 => some (x1, x2, x3))
def encA (t : Int × YVC × YVW) : LA × LO := ([.a [.h 0, .h 1], vi t.1], [ro t.2.1, ro t.2.2])
def encR (x : Int × YVC × YVW) : AV × LO := (vi x.1, [ro x.2.1, ro x.2.2])
theorem ZA (a b) (h : encA a = encA b) : a = b := by simp [encA, zA] at h; simp [Prod.ext_iff, h]
theorem ZB (a b) (h : encR a = encR b) : a = b := by simp [encR, zA] at h; simp [Prod.ext_iff, h]
noncomputable def Q (args : LA) (hin : LO) : Option (Int × YVC × YVW) := ofC encA (un3 F) (args, hin)
theorem wrap : F = fun y1 y2 y3 => Q [.a [.h 0, .h 1], vi y1] [ro y2, ro y3] := by funext y1 y2 y3; exact Eq.symm (zD ZA _ (y1, y2, y3))
noncomputable abbrev O (Q0 : LA → LO → Option (Int × YVC)) (Q1 : LA → LO → Option (Int × YVW)) : Orc := mkO [] [eE Tryz.prog 32 [true, false] false [true] laws_markCommitS_sffd8.encR Q0, eE Tryz.prog 57 [true, false] false [true] laws_markWeaveS_s5cec.encR Q1] []
noncomputable def L : Lor := fun _ _ _ _ => Option.none
theorem main {Q0 Q1} {ρ : Type} {K : AV → LO → Option ρ} {a1 a2 a3} : exC Tryz.prog (O Q0 Q1) L [] 0 (zB Tryz.f13) (entry 14 [.a [.h 0, .h 1], vi a1] [ro a2, ro a3] [true, true]) (finO Tryz.prog Tryz.f13.results.toList 2 [true, true] [] K) =
    B (fun y1 y2 => Q0 [.c (.h 0), vi y1] [ro y2]) (fun y1 y2 => Q1 [.c (.h 0), vi y1] [ro y2]) a1 a2 a3 (fun x1 x2 x3 => K (vi x1) [ro x2, ro x3]) := by kernel_rfl
theorem Gok : (O laws_markCommitS_sffd8.Q laws_markWeaveS_s5cec.Q).ok Tryz.prog := zH (by exact trivial) (by exact ⟨eE_ok (fun h => by cases h) laws_markCommitS_sffd8.ac, eE_ok (fun h => by cases h) laws_markWeaveS_s5cec.ac, trivial⟩)
theorem acc : ∀ t x, un3 F t = some x → ACc Tryz.prog 13 (encA t).1 (encA t).2 true [true, true] fun rv obs => (rv, obs) = encR x := accT2 (T := Int × YVC × YVW) (F := un3 F) (L := L) (cmds := []) (body := (zB Tryz.f13)) 2 (fun _ => rfl) Gok hmT Tryz.func13 (by kernel_rfl) (by kernel_rfl) (by rw [show zE [] 0 (zB Tryz.f13) = [] by kernel_rfl]; exact Lor.zF _ _) (fun t => by refine main.trans ?_; rw [← laws_markCommitS_sffd8.wrap, ← laws_markWeaveS_s5cec.wrap]; exact congrArg (B _ _ _ _ _) (fx3 fun t => zD ZB some t))
theorem ac : ∀ a h x, Q a h = some x → AC Tryz.prog 13 a h false [true, true] fun rv obs => (rv, obs) = encR x := acF2 (body := (zB Tryz.f13)) Tryz.func13 (by kernel_rfl) (by kernel_rfl) acc fun x => ⟨by simp [encR, AV.Flat, K.Flat, C.Flat], flc (zN rfl _) (flc (zN rfl _) (fl0))⟩
end laws_markStore_sd1d9
namespace laws_markStringS_s1401
noncomputable def B0 {ρ : Type} (C0 : Int → Option ByteArray) (v1 : Int) (v2 : Int) (v3 : YS) (W : Int → Int → YS → Option ρ) (K0 : Int → YS → Option ρ) : Option ρ :=
  sel (decide (v2 < (v3.n : Int))) ((C0 v1).bind fun r1 => chk (decide (0 ≤ v2 ∧ v2 < (v3.n : Int))) (chk (decide (v2.toNat < v3.n)) (W (wr (v1 + (1 : Int))) (wr (v2 + (1 : Int))) (Vec.set v3 v2.toNat r1)))) (K0 v1 v3)
noncomputable def F0 {ρ : Type} : Nat → Int → Int → YS → (Int → YS → Option ρ) → Option ρ
  | 0, _, _, _, _ => none
  | k + 1, v1, v2, v3, K0 => B0 laws_markText.F v1 v2 v3 (fun v1' v2' v3' => F0 k v1' v2' v3' K0) K0
noncomputable def B {ρ : Type} (L0 : Int → Int → YS → (Int → YS → Option ρ) → Option ρ) (a1 : Int) (a2 : YS) (K : Int → YS → Option ρ) : Option ρ :=
  L0 a1 (0 : Int) a2 (fun e01 e02 => K e01 e02)
noncomputable def F (a1 : Int) (a2 : YS) : Option (Int × YS) := B (F0 fuelN) a1 a2 (fun x1 x2 => some (x1, x2))
def encA (t : Int × YS) : LA × LO := ([.c (.h 0), vi t.1], [ro t.2])
def encR (x : Int × YS) : AV × LO := (vi x.1, [ro x.2])
theorem ZA (a b) (h : encA a = encA b) : a = b := by simp [encA, zA] at h; simp [Prod.ext_iff, h]
theorem ZB (a b) (h : encR a = encR b) : a = b := by simp [encR, zA] at h; simp [Prod.ext_iff, h]
noncomputable def Q (args : LA) (hin : LO) : Option (Int × YS) := ofC encA (un2 F) (args, hin)
theorem wrap : F = fun y1 y2 => Q [.c (.h 0), vi y1] [ro y2] := by funext y1 y2; exact Eq.symm (zD ZA _ (y1, y2))
noncomputable abbrev O (Q0 : LA → Option ByteArray) : Orc := mkO [qE 58 false laws_markText.encR Q0] [] []
noncomputable def c0 : Code := loopC (atomN [] 0 (zB Tryz.f47) 0)
def ct0 : Cut := ⟨[0, 1, 5], []⟩
def lv0 : Exit → Cut
  | .exit 0 => ⟨[1], []⟩
  | _ => ⟨[], []⟩
def k0_0 {ρ : Type} (K : Exit → St → Option ρ) (z1 : Int) (z2 : YS) : Option ρ := K (.exit 0) (mkS 20 (lv0 (.exit 0)).live [vi z1] [ro z2] [true])
noncomputable def L (W0 : (ρ : Type) → LA → LO → (Int → YS → Option ρ) → Option ρ) : Lor := fun ρ j st K => sel (Nat.beq j 0) (cutO Tryz.prog 20 ct0.live 1 [true] ct0.cmds st fun avs obs => W0 ρ avs obs (k0_0 K)) (Option.none)
theorem step0 {Q0 W0} {ρ : Type} {K : Exit → St → Option ρ} {W : LA → LO → Option ρ} {v1 v2 v3} : exC Tryz.prog (O Q0) (L W0) [] 1 c0 (mkS 20 ct0.live [.c (.h 0), vi v1, vi v2] [ro v3] [true]) (bodyK Tryz.prog 20 1 [true] ct0 W lv0 K) =
    B0 (fun y1 => Q0 [vi y1]) v1 v2 v3 (fun u1 u2 u3 => W [.c (.h 0), vi u1, vi u2] [ro u3]) (k0_0 K) := by kernel_rfl
def enc0 (t : Int × Int × YS) : LA × LO := ([.c (.h 0), vi t.1, vi t.2.1], [ro t.2.2])
theorem enc0I (a b) (h : enc0 a = enc0 b) : a = b := by simp [enc0, zA] at h; simp [Prod.ext_iff, h]
noncomputable def V0 : (ρ : Type) → LA → LO → (Int → YS → Option ρ) → Option ρ := fun ρ avs obs k0 => ofC enc0 (fun t => un3 (F0 fuelN) t k0) (avs, obs)
theorem zG (ρ : Type) : F0 fuelN = fun w1 w2 w3 k0 => V0 ρ [.c (.h 0), vi w1, vi w2] [ro w3] k0 := by funext w1 w2 w3 k0; exact Eq.symm (zD enc0I _ (w1, w2, w3))
theorem main {Q0 W0} {ρ : Type} {K : AV → LO → Option ρ} {a1 a2} : exC Tryz.prog (O Q0) (L W0) [] 0 (zB Tryz.f47) (entry 20 [.c (.h 0), vi a1] [ro a2] [true]) (finO Tryz.prog Tryz.f47.results.toList 1 [true] [] K) =
    B (fun w1 w2 w3 k0 => W0 ρ [.c (.h 0), vi w1, vi w2] [ro w3] k0) a1 a2 (fun x1 x2 => K (vi x1) [ro x2]) := by kernel_rfl
theorem Gok : (O laws_markText.Q).ok Tryz.prog := zH (by exact ⟨qE_ok laws_markText.ac, trivial⟩) (by exact trivial)
theorem ok0 : OkL Tryz.prog (L V0) 0 (.loop c0) := fun ρ st K r h => zJ (ct := ct0) (lv := lv0) (L := (L V0)) Gok hmT (by rw [show zE [] 1 c0 = [] by kernel_rfl]; exact Lor.zF _ _) enc0I (fun k t => un3 (F0 k) t (k0_0 K)) (fun t => rfl) (fun k t => by refine step0.trans ?_; rw [← laws_markText.wrap]; exact congrFun (congrArg (B0 _ _ _ _) (fx3 fun t => zD enc0I _ t)) _) (fun _ => fuelN) h
theorem e : zE [] 0 (zB Tryz.f47) = [(0, 0, .loop c0)] := by kernel_rfl
theorem acc : ∀ t x, un2 F t = some x → ACc Tryz.prog 47 (encA t).1 (encA t).2 true [true] fun rv obs => (rv, obs) = encR x := accT2 (T := Int × YS) (F := un2 F) (L := (L V0)) (cmds := []) (body := (zB Tryz.f47)) 1 (fun _ => rfl) Gok hmT Tryz.func47 (by kernel_rfl) (by kernel_rfl) (by rw [e]; exact Lor.zI ok0 (Lor.zF _ _)) (fun t => by refine main.trans ?_; rw [← zG]; exact congrArg (B _ _ _) (fx2 fun t => zD ZB some t))
theorem ac : ∀ a h x, Q a h = some x → AC Tryz.prog 47 a h false [true] fun rv obs => (rv, obs) = encR x := acF2 (body := (zB Tryz.f47)) Tryz.func47 (by kernel_rfl) (by kernel_rfl) acc fun x => ⟨by simp [encR, AV.Flat, K.Flat, C.Flat], flc (zN rfl _) (fl0)⟩
end laws_markStringS_s1401
namespace laws_markRegionS_s11cf
noncomputable def B0 {ρ : Type} (C0 : Int → YS → Option (Int × YS)) (v1 : Int) (v2 : Int) (v3 : Vec YA) (W : Int → Int → YVA → Option ρ) (K0 : Int → YVA → Option ρ) : Option ρ :=
  let d1 := (Vec.set v3 v2.toNat (decide ((Int.tmod v1 (3 : Int)) = (0 : Int)), (v3.g v2.toNat).2.1, (v3.g v2.toNat).2.2.1, (v3.g v2.toNat).2.2.2))
  sel (decide (v2 < (v3.n : Int))) (chk (decide (0 ≤ v2 ∧ v2 < (v3.n : Int))) (chk (decide (v2.toNat < v3.n)) (chk (decide (0 ≤ v2 ∧ v2 < (d1.n : Int))) (chk (decide (v2.toNat < d1.n)) ((C0 (wr (v1 + (1 : Int))) ((d1.g v2.toNat).2.1)).bind fun r1 => chk (decide (0 ≤ v2 ∧ v2 < ((Vec.set d1 v2.toNat ((d1.g v2.toNat).1, r1.2, (d1.g v2.toNat).2.2.1, (d1.g v2.toNat).2.2.2)).n : Int))) (chk (decide (v2.toNat < (Vec.set d1 v2.toNat ((d1.g v2.toNat).1, r1.2, (d1.g v2.toNat).2.2.1, (d1.g v2.toNat).2.2.2)).n)) ((C0 r1.1 (((Vec.set d1 v2.toNat ((d1.g v2.toNat).1, r1.2, (d1.g v2.toNat).2.2.1, (d1.g v2.toNat).2.2.2)).g v2.toNat).2.2.1)).bind fun r2 => chk (decide (0 ≤ v2 ∧ v2 < ((Vec.set (Vec.set d1 v2.toNat ((d1.g v2.toNat).1, r1.2, (d1.g v2.toNat).2.2.1, (d1.g v2.toNat).2.2.2)) v2.toNat (((Vec.set d1 v2.toNat ((d1.g v2.toNat).1, r1.2, (d1.g v2.toNat).2.2.1, (d1.g v2.toNat).2.2.2)).g v2.toNat).1, ((Vec.set d1 v2.toNat ((d1.g v2.toNat).1, r1.2, (d1.g v2.toNat).2.2.1, (d1.g v2.toNat).2.2.2)).g v2.toNat).2.1, r2.2, ((Vec.set d1 v2.toNat ((d1.g v2.toNat).1, r1.2, (d1.g v2.toNat).2.2.1, (d1.g v2.toNat).2.2.2)).g v2.toNat).2.2.2)).n : Int))) (chk (decide (v2.toNat < (Vec.set (Vec.set d1 v2.toNat ((d1.g v2.toNat).1, r1.2, (d1.g v2.toNat).2.2.1, (d1.g v2.toNat).2.2.2)) v2.toNat (((Vec.set d1 v2.toNat ((d1.g v2.toNat).1, r1.2, (d1.g v2.toNat).2.2.1, (d1.g v2.toNat).2.2.2)).g v2.toNat).1, ((Vec.set d1 v2.toNat ((d1.g v2.toNat).1, r1.2, (d1.g v2.toNat).2.2.1, (d1.g v2.toNat).2.2.2)).g v2.toNat).2.1, r2.2, ((Vec.set d1 v2.toNat ((d1.g v2.toNat).1, r1.2, (d1.g v2.toNat).2.2.1, (d1.g v2.toNat).2.2.2)).g v2.toNat).2.2.2)).n)) ((C0 r2.1 (((Vec.set (Vec.set d1 v2.toNat ((d1.g v2.toNat).1, r1.2, (d1.g v2.toNat).2.2.1, (d1.g v2.toNat).2.2.2)) v2.toNat (((Vec.set d1 v2.toNat ((d1.g v2.toNat).1, r1.2, (d1.g v2.toNat).2.2.1, (d1.g v2.toNat).2.2.2)).g v2.toNat).1, ((Vec.set d1 v2.toNat ((d1.g v2.toNat).1, r1.2, (d1.g v2.toNat).2.2.1, (d1.g v2.toNat).2.2.2)).g v2.toNat).2.1, r2.2, ((Vec.set d1 v2.toNat ((d1.g v2.toNat).1, r1.2, (d1.g v2.toNat).2.2.1, (d1.g v2.toNat).2.2.2)).g v2.toNat).2.2.2)).g v2.toNat).2.2.2)).bind fun r3 => W r3.1 (wr (v2 + (1 : Int))) (Vec.set (Vec.set (Vec.set d1 v2.toNat ((d1.g v2.toNat).1, r1.2, (d1.g v2.toNat).2.2.1, (d1.g v2.toNat).2.2.2)) v2.toNat (((Vec.set d1 v2.toNat ((d1.g v2.toNat).1, r1.2, (d1.g v2.toNat).2.2.1, (d1.g v2.toNat).2.2.2)).g v2.toNat).1, ((Vec.set d1 v2.toNat ((d1.g v2.toNat).1, r1.2, (d1.g v2.toNat).2.2.1, (d1.g v2.toNat).2.2.2)).g v2.toNat).2.1, r2.2, ((Vec.set d1 v2.toNat ((d1.g v2.toNat).1, r1.2, (d1.g v2.toNat).2.2.1, (d1.g v2.toNat).2.2.2)).g v2.toNat).2.2.2)) v2.toNat (((Vec.set (Vec.set d1 v2.toNat ((d1.g v2.toNat).1, r1.2, (d1.g v2.toNat).2.2.1, (d1.g v2.toNat).2.2.2)) v2.toNat (((Vec.set d1 v2.toNat ((d1.g v2.toNat).1, r1.2, (d1.g v2.toNat).2.2.1, (d1.g v2.toNat).2.2.2)).g v2.toNat).1, ((Vec.set d1 v2.toNat ((d1.g v2.toNat).1, r1.2, (d1.g v2.toNat).2.2.1, (d1.g v2.toNat).2.2.2)).g v2.toNat).2.1, r2.2, ((Vec.set d1 v2.toNat ((d1.g v2.toNat).1, r1.2, (d1.g v2.toNat).2.2.1, (d1.g v2.toNat).2.2.2)).g v2.toNat).2.2.2)).g v2.toNat).1, ((Vec.set (Vec.set d1 v2.toNat ((d1.g v2.toNat).1, r1.2, (d1.g v2.toNat).2.2.1, (d1.g v2.toNat).2.2.2)) v2.toNat (((Vec.set d1 v2.toNat ((d1.g v2.toNat).1, r1.2, (d1.g v2.toNat).2.2.1, (d1.g v2.toNat).2.2.2)).g v2.toNat).1, ((Vec.set d1 v2.toNat ((d1.g v2.toNat).1, r1.2, (d1.g v2.toNat).2.2.1, (d1.g v2.toNat).2.2.2)).g v2.toNat).2.1, r2.2, ((Vec.set d1 v2.toNat ((d1.g v2.toNat).1, r1.2, (d1.g v2.toNat).2.2.1, (d1.g v2.toNat).2.2.2)).g v2.toNat).2.2.2)).g v2.toNat).2.1, ((Vec.set (Vec.set d1 v2.toNat ((d1.g v2.toNat).1, r1.2, (d1.g v2.toNat).2.2.1, (d1.g v2.toNat).2.2.2)) v2.toNat (((Vec.set d1 v2.toNat ((d1.g v2.toNat).1, r1.2, (d1.g v2.toNat).2.2.1, (d1.g v2.toNat).2.2.2)).g v2.toNat).1, ((Vec.set d1 v2.toNat ((d1.g v2.toNat).1, r1.2, (d1.g v2.toNat).2.2.1, (d1.g v2.toNat).2.2.2)).g v2.toNat).2.1, r2.2, ((Vec.set d1 v2.toNat ((d1.g v2.toNat).1, r1.2, (d1.g v2.toNat).2.2.1, (d1.g v2.toNat).2.2.2)).g v2.toNat).2.2.2)).g v2.toNat).2.2.1, r3.2))))))))))) (K0 v1 v3)
noncomputable def F0 {ρ : Type} : Nat → Int → Int → YVA → (Int → YVA → Option ρ) → Option ρ
  | 0, _, _, _, _ => none
  | k + 1, v1, v2, v3, K0 => B0 laws_markStringS_s1401.F v1 v2 v3 (fun v1' v2' v3' => F0 k v1' v2' v3' K0) K0
noncomputable def B {ρ : Type} (L0 : Int → Int → YVA → (Int → YVA → Option ρ) → Option ρ) (a1 : Int) (a2 : Vec YA) (K : Int → YVA → Option ρ) : Option ρ :=
  L0 a1 (0 : Int) a2 (fun e01 e02 => K e01 e02)
noncomputable def F (a1 : Int) (a2 : Vec YA) : Option (Int × YVA) := B (F0 fuelN) a1 a2 (fun x1 x2 => some (x1, x2))
def encA (t : Int × YVA) : LA × LO := ([.c (.h 0), vi t.1], [ro t.2])
def encR (x : Int × YVA) : AV × LO := (vi x.1, [ro x.2])
theorem ZA (a b) (h : encA a = encA b) : a = b := by simp [encA, zA] at h; simp [Prod.ext_iff, h]
theorem ZB (a b) (h : encR a = encR b) : a = b := by simp [encR, zA] at h; simp [Prod.ext_iff, h]
noncomputable def Q (args : LA) (hin : LO) : Option (Int × YVA) := ofC encA (un2 F) (args, hin)
theorem wrap : F = fun y1 y2 => Q [.c (.h 0), vi y1] [ro y2] := by funext y1 y2; exact Eq.symm (zD ZA _ (y1, y2))
noncomputable abbrev O (Q0 : LA → LO → Option (Int × YS)) : Orc := mkO [] [eE Tryz.prog 47 [true, false] false [true] laws_markStringS_s1401.encR Q0] [25, 32, 39]
noncomputable def c0 : Code := loopC (atomN [] 0 (zB Tryz.f19) 0)
def ct0 : Cut := ⟨[0, 1, 5], []⟩
def lv0 : Exit → Cut
  | .exit 0 => ⟨[1], []⟩
  | _ => ⟨[], []⟩
def k0_0 {ρ : Type} (K : Exit → St → Option ρ) (z1 : Int) (z2 : Vec YA) : Option ρ := K (.exit 0) (mkS 43 (lv0 (.exit 0)).live [vi z1] [ro z2] [true])
noncomputable def L (W0 : (ρ : Type) → LA → LO → (Int → YVA → Option ρ) → Option ρ) : Lor := fun ρ j st K => sel (Nat.beq j 0) (cutO Tryz.prog 43 ct0.live 1 [true] ct0.cmds st fun avs obs => W0 ρ avs obs (k0_0 K)) (Option.none)
theorem step0 {Q0 W0} {ρ : Type} {K : Exit → St → Option ρ} {W : LA → LO → Option ρ} {v1 v2 v3} : exC Tryz.prog (O Q0) (L W0) [] 1 c0 (mkS 43 ct0.live [.c (.h 0), vi v1, vi v2] [ro v3] [true]) (bodyK Tryz.prog 43 1 [true] ct0 W lv0 K) =
    B0 (fun y1 y2 => Q0 [.c (.h 0), vi y1] [ro y2]) v1 v2 v3 (fun u1 u2 u3 => W [.c (.h 0), vi u1, vi u2] [ro u3]) (k0_0 K) := by kernel_rfl
def enc0 (t : Int × Int × YVA) : LA × LO := ([.c (.h 0), vi t.1, vi t.2.1], [ro t.2.2])
theorem enc0I (a b) (h : enc0 a = enc0 b) : a = b := by simp [enc0, zA] at h; simp [Prod.ext_iff, h]
noncomputable def V0 : (ρ : Type) → LA → LO → (Int → YVA → Option ρ) → Option ρ := fun ρ avs obs k0 => ofC enc0 (fun t => un3 (F0 fuelN) t k0) (avs, obs)
theorem zG (ρ : Type) : F0 fuelN = fun w1 w2 w3 k0 => V0 ρ [.c (.h 0), vi w1, vi w2] [ro w3] k0 := by funext w1 w2 w3 k0; exact Eq.symm (zD enc0I _ (w1, w2, w3))
theorem main {Q0 W0} {ρ : Type} {K : AV → LO → Option ρ} {a1 a2} : exC Tryz.prog (O Q0) (L W0) [] 0 (zB Tryz.f19) (entry 43 [.c (.h 0), vi a1] [ro a2] [true]) (finO Tryz.prog Tryz.f19.results.toList 1 [true] [] K) =
    B (fun w1 w2 w3 k0 => W0 ρ [.c (.h 0), vi w1, vi w2] [ro w3] k0) a1 a2 (fun x1 x2 => K (vi x1) [ro x2]) := by kernel_rfl
theorem Gok : (O laws_markStringS_s1401.Q).ok Tryz.prog := zH (by exact trivial) (by exact ⟨eE_ok (fun h => by cases h) laws_markStringS_s1401.ac, trivial⟩)
theorem ok0 : OkL Tryz.prog (L V0) 0 (.loop c0) := fun ρ st K r h => zJ (ct := ct0) (lv := lv0) (L := (L V0)) Gok hmT (by rw [show zE [] 1 c0 = [] by kernel_rfl]; exact Lor.zF _ _) enc0I (fun k t => un3 (F0 k) t (k0_0 K)) (fun t => rfl) (fun k t => by refine step0.trans ?_; rw [← laws_markStringS_s1401.wrap]; exact congrFun (congrArg (B0 _ _ _ _) (fx3 fun t => zD enc0I _ t)) _) (fun _ => fuelN) h
theorem e : zE [] 0 (zB Tryz.f19) = [(0, 0, .loop c0)] := by kernel_rfl
theorem acc : ∀ t x, un2 F t = some x → ACc Tryz.prog 19 (encA t).1 (encA t).2 true [true] fun rv obs => (rv, obs) = encR x := accT2 (T := Int × YVA) (F := un2 F) (L := (L V0)) (cmds := []) (body := (zB Tryz.f19)) 1 (fun _ => rfl) Gok hmT Tryz.func19 (by kernel_rfl) (by kernel_rfl) (by rw [e]; exact Lor.zI ok0 (Lor.zF _ _)) (fun t => by refine main.trans ?_; rw [← zG]; exact congrArg (B _ _ _) (fx2 fun t => zD ZB some t))
theorem ac : ∀ a h x, Q a h = some x → AC Tryz.prog 19 a h false [true] fun rv obs => (rv, obs) = encR x := acF2 (body := (zB Tryz.f19)) Tryz.func19 (by kernel_rfl) (by kernel_rfl) acc fun x => ⟨by simp [encR, AV.Flat, K.Flat, C.Flat], flc (zN rfl _) (fl0)⟩
end laws_markRegionS_s11cf
namespace laws_heldStringS
noncomputable def B0 {ρ : Type} (C0 : Int → Option ByteArray) (v1 : YS) (v2 : Int) (v3 : Int) (W : YS → Int → Int → Option ρ) (K0 : Int → Option ρ) (Kr : Int → Option ρ) : Option ρ :=
  sel (decide (v3 < (v1.n : Int))) (chk (decide (0 ≤ v3 ∧ v3 < (v1.n : Int))) ((C0 v2).bind fun r1 => sel ((!decide ((v1.g v3.toNat) = r1))) (Kr (-1 : Int)) (W v1 (wr (v2 + (1 : Int))) (wr (v3 + (1 : Int)))))) (K0 v2)
noncomputable def F0 {ρ : Type} : Nat → YS → Int → Int → (Int → Option ρ) → (Int → Option ρ) → Option ρ
  | 0, _, _, _, _, _ => none
  | k + 1, v1, v2, v3, K0, Kr => B0 laws_markText.F v1 v2 v3 (fun v1' v2' v3' => F0 k v1' v2' v3' K0 Kr) K0 Kr
noncomputable def B {ρ : Type} (L0 : YS → Int → Int → (Int → Option ρ) → (Int → Option ρ) → Option ρ) (a1 : YS) (a2 : Int) (K : Int → Option ρ) : Option ρ :=
  L0 a1 a2 (0 : Int) (fun e01 => K e01) (fun x01 => K x01)
noncomputable def F (a1 : YS) (a2 : Int) : Option Int := B (F0 fuelN) a1 a2 (fun x1 => some (x1))
def encA (t : YS × Int) : LA := [vl t.1, vi t.2]
def encR (x : Int) : AV × LO := (vi x, [])
theorem ZA (a b) (h : encA a = encA b) : a = b := by simp [encA, zA] at h; simp [Prod.ext_iff, h]
theorem ZB (a b) (h : encR a = encR b) : a = b := by simpa [encR, zA] using h
noncomputable def Q (args : LA) : Option Int := ofC encA (un2 F) args
theorem wrap : F = fun y1 y2 => Q [vl y1, vi y2] := by funext y1 y2; exact Eq.symm (zD ZA _ (y1, y2))
noncomputable abbrev O (Q0 : LA → Option ByteArray) : Orc := mkO [qE 58 false laws_markText.encR Q0] [] []
noncomputable def c0 : Code := loopC (atomN [] 0 (zB Tryz.f68) 0)
def ct0 : Cut := ⟨[0, 1, 5], []⟩
def lv0 : Exit → Cut
  | .exit 0 => ⟨[1], []⟩
  | .ret => ⟨[4], []⟩
  | _ => ⟨[], []⟩
def k0_0 {ρ : Type} (K : Exit → St → Option ρ) (z1 : Int) : Option ρ := K (.exit 0) (mkS 22 (lv0 (.exit 0)).live [vi z1] [] [])
def k0_r {ρ : Type} (K : Exit → St → Option ρ) (z1 : Int) : Option ρ := K .ret (mkS 22 (lv0 .ret).live [vi z1] [] [])
noncomputable def L (W0 : (ρ : Type) → LA → LO → (Int → Option ρ) → (Int → Option ρ) → Option ρ) : Lor := fun ρ j st K => sel (Nat.beq j 0) (cutO Tryz.prog 22 ct0.live 0 [] ct0.cmds st fun avs obs => W0 ρ avs obs (k0_0 K) (k0_r K)) (Option.none)
theorem step0 {Q0 W0} {ρ : Type} {K : Exit → St → Option ρ} {W : LA → LO → Option ρ} {v1 v2 v3} : exC Tryz.prog (O Q0) (L W0) [] 1 c0 (mkS 22 ct0.live [vl v1, vi v2, vi v3] [] []) (bodyK Tryz.prog 22 0 [] ct0 W lv0 K) =
    B0 (fun y1 => Q0 [vi y1]) v1 v2 v3 (fun u1 u2 u3 => W [vl u1, vi u2, vi u3] []) (k0_0 K) (k0_r K) := by kernel_rfl
def enc0 (t : YS × Int × Int) : LA × LO := ([vl t.1, vi t.2.1, vi t.2.2], [])
theorem enc0I (a b) (h : enc0 a = enc0 b) : a = b := by simp [enc0, zA] at h; simp [Prod.ext_iff, h]
noncomputable def V0 : (ρ : Type) → LA → LO → (Int → Option ρ) → (Int → Option ρ) → Option ρ := fun ρ avs obs k0 kr => ofC enc0 (fun t => un3 (F0 fuelN) t k0 kr) (avs, obs)
theorem zG (ρ : Type) : F0 fuelN = fun w1 w2 w3 k0 kr => V0 ρ [vl w1, vi w2, vi w3] [] k0 kr := by funext w1 w2 w3 k0 kr; exact Eq.symm (zD enc0I _ (w1, w2, w3))
theorem main {Q0 W0} {ρ : Type} {K : AV → LO → Option ρ} {a1 a2} : exC Tryz.prog (O Q0) (L W0) [] 0 (zB Tryz.f68) (entry 22 [vl a1, vi a2] [] []) (finO Tryz.prog Tryz.f68.results.toList 0 [] [] K) =
    B (fun w1 w2 w3 k0 kr => W0 ρ [vl w1, vi w2, vi w3] [] k0 kr) a1 a2 (fun x1 => K (vi x1) []) := by kernel_rfl
theorem Gok : (O laws_markText.Q).ok Tryz.prog := zH (by exact ⟨qE_ok laws_markText.ac, trivial⟩) (by exact trivial)
theorem ok0 : OkL Tryz.prog (L V0) 0 (.loop c0) := fun ρ st K r h => zJ (ct := ct0) (lv := lv0) (L := (L V0)) Gok hmT (by rw [show zE [] 1 c0 = [] by kernel_rfl]; exact Lor.zF _ _) enc0I (fun k t => un3 (F0 k) t (k0_0 K) (k0_r K)) (fun t => rfl) (fun k t => by refine step0.trans ?_; rw [← laws_markText.wrap]; exact congrFun (congrFun (congrArg (B0 _ _ _ _) (fx3 fun t => zD enc0I _ t)) _) _) (fun _ => fuelN) h
theorem e : zE [] 0 (zB Tryz.f68) = [(0, 0, .loop c0)] := by kernel_rfl
theorem acc : ∀ t x, un2 F t = some x → ACc Tryz.prog 68 (encA t) [] true [] fun rv obs => (rv, obs) = encR x := accT (T := YS × Int) (F := un2 F) (L := (L V0)) (cmds := []) (body := (zB Tryz.f68)) Gok hmT Tryz.func68 (by kernel_rfl) (by kernel_rfl) (by rw [e]; exact Lor.zI ok0 (Lor.zF _ _)) (fun t => by refine main.trans ?_; rw [← zG]; exact congrArg (B _ _ _) (fx1 fun t => zD ZB some t))
theorem ac : ∀ a x, Q a = some x → AC Tryz.prog 68 a [] false [] fun rv obs => (rv, obs) = encR x := acF (body := (zB Tryz.f68)) Tryz.func68 (by kernel_rfl) (by kernel_rfl) acc fun x => ⟨by simp [encR, AV.Flat, K.Flat, C.Flat], fl0⟩
end laws_heldStringS
namespace laws_heldRegionS
noncomputable def B0 {ρ : Type} (C0 : YS → Int → Option Int) (v1 : Vec YA) (v2 : Int) (v3 : Int) (W : YVA → Int → Int → Option ρ) (K0 : Int → Option ρ) (Kr : Int → Option ρ) : Option ρ :=
  sel (decide (v3 < (v1.n : Int))) (chk (decide (0 ≤ v3 ∧ v3 < (v1.n : Int))) (sel ((!((v1.g v3.toNat).1 == decide ((Int.tmod v2 (3 : Int)) = (0 : Int))))) (Kr (-1 : Int)) (chk (decide (0 ≤ v3 ∧ v3 < (v1.n : Int))) ((C0 ((v1.g v3.toNat).2.1) (wr (v2 + (1 : Int)))).bind fun r1 => sel (decide (r1 < (0 : Int))) (Kr (-1 : Int)) (chk (decide (0 ≤ v3 ∧ v3 < (v1.n : Int))) ((C0 ((v1.g v3.toNat).2.2.1) r1).bind fun r2 => sel (decide (r2 < (0 : Int))) (Kr (-1 : Int)) (chk (decide (0 ≤ v3 ∧ v3 < (v1.n : Int))) ((C0 ((v1.g v3.toNat).2.2.2) r2).bind fun r3 => sel (decide (r3 < (0 : Int))) (Kr (-1 : Int)) (W v1 r3 (wr (v3 + (1 : Int)))))))))))) (K0 v2)
noncomputable def F0 {ρ : Type} : Nat → YVA → Int → Int → (Int → Option ρ) → (Int → Option ρ) → Option ρ
  | 0, _, _, _, _, _ => none
  | k + 1, v1, v2, v3, K0, Kr => B0 laws_heldStringS.F v1 v2 v3 (fun v1' v2' v3' => F0 k v1' v2' v3' K0 Kr) K0 Kr
noncomputable def B {ρ : Type} (L0 : YVA → Int → Int → (Int → Option ρ) → (Int → Option ρ) → Option ρ) (a1 : Vec YA) (a2 : Int) (K : Int → Option ρ) : Option ρ :=
  L0 a1 a2 (0 : Int) (fun e01 => K e01) (fun x01 => K x01)
noncomputable def F (a1 : Vec YA) (a2 : Int) : Option Int := B (F0 fuelN) a1 a2 (fun x1 => some (x1))
def encA (t : YVA × Int) : LA := [vl t.1, vi t.2]
def encR (x : Int) : AV × LO := (vi x, [])
theorem ZA (a b) (h : encA a = encA b) : a = b := by simp [encA, zA] at h; simp [Prod.ext_iff, h]
theorem ZB (a b) (h : encR a = encR b) : a = b := by simpa [encR, zA] using h
noncomputable def Q (args : LA) : Option Int := ofC encA (un2 F) args
theorem wrap : F = fun y1 y2 => Q [vl y1, vi y2] := by funext y1 y2; exact Eq.symm (zD ZA _ (y1, y2))
noncomputable abbrev O (Q0 : LA → Option Int) : Orc := mkO [qE 68 false laws_heldStringS.encR Q0] [] []
noncomputable def c0 : Code := loopC (atomN [] 0 (zB Tryz.f20) 0)
def ct0 : Cut := ⟨[0, 1, 5], []⟩
def lv0 : Exit → Cut
  | .exit 0 => ⟨[1], []⟩
  | .ret => ⟨[4], []⟩
  | _ => ⟨[], []⟩
def k0_0 {ρ : Type} (K : Exit → St → Option ρ) (z1 : Int) : Option ρ := K (.exit 0) (mkS 51 (lv0 (.exit 0)).live [vi z1] [] [])
def k0_r {ρ : Type} (K : Exit → St → Option ρ) (z1 : Int) : Option ρ := K .ret (mkS 51 (lv0 .ret).live [vi z1] [] [])
noncomputable def L (W0 : (ρ : Type) → LA → LO → (Int → Option ρ) → (Int → Option ρ) → Option ρ) : Lor := fun ρ j st K => sel (Nat.beq j 0) (cutO Tryz.prog 51 ct0.live 0 [] ct0.cmds st fun avs obs => W0 ρ avs obs (k0_0 K) (k0_r K)) (Option.none)
theorem step0 {Q0 W0} {ρ : Type} {K : Exit → St → Option ρ} {W : LA → LO → Option ρ} {v1 v2 v3} : exC Tryz.prog (O Q0) (L W0) [] 1 c0 (mkS 51 ct0.live [vl v1, vi v2, vi v3] [] []) (bodyK Tryz.prog 51 0 [] ct0 W lv0 K) =
    B0 (fun y1 y2 => Q0 [vl y1, vi y2]) v1 v2 v3 (fun u1 u2 u3 => W [vl u1, vi u2, vi u3] []) (k0_0 K) (k0_r K) := by kernel_rfl
def enc0 (t : YVA × Int × Int) : LA × LO := ([vl t.1, vi t.2.1, vi t.2.2], [])
theorem enc0I (a b) (h : enc0 a = enc0 b) : a = b := by simp [enc0, zA] at h; simp [Prod.ext_iff, h]
noncomputable def V0 : (ρ : Type) → LA → LO → (Int → Option ρ) → (Int → Option ρ) → Option ρ := fun ρ avs obs k0 kr => ofC enc0 (fun t => un3 (F0 fuelN) t k0 kr) (avs, obs)
theorem zG (ρ : Type) : F0 fuelN = fun w1 w2 w3 k0 kr => V0 ρ [vl w1, vi w2, vi w3] [] k0 kr := by funext w1 w2 w3 k0 kr; exact Eq.symm (zD enc0I _ (w1, w2, w3))
theorem main {Q0 W0} {ρ : Type} {K : AV → LO → Option ρ} {a1 a2} : exC Tryz.prog (O Q0) (L W0) [] 0 (zB Tryz.f20) (entry 51 [vl a1, vi a2] [] []) (finO Tryz.prog Tryz.f20.results.toList 0 [] [] K) =
    B (fun w1 w2 w3 k0 kr => W0 ρ [vl w1, vi w2, vi w3] [] k0 kr) a1 a2 (fun x1 => K (vi x1) []) := by kernel_rfl
theorem Gok : (O laws_heldStringS.Q).ok Tryz.prog := zH (by exact ⟨qE_ok laws_heldStringS.ac, trivial⟩) (by exact trivial)
theorem ok0 : OkL Tryz.prog (L V0) 0 (.loop c0) := fun ρ st K r h => zJ (ct := ct0) (lv := lv0) (L := (L V0)) Gok hmT (by rw [show zE [] 1 c0 = [] by kernel_rfl]; exact Lor.zF _ _) enc0I (fun k t => un3 (F0 k) t (k0_0 K) (k0_r K)) (fun t => rfl) (fun k t => by refine step0.trans ?_; rw [← laws_heldStringS.wrap]; exact congrFun (congrFun (congrArg (B0 _ _ _ _) (fx3 fun t => zD enc0I _ t)) _) _) (fun _ => fuelN) h
theorem e : zE [] 0 (zB Tryz.f20) = [(0, 0, .loop c0)] := by kernel_rfl
theorem acc : ∀ t x, un2 F t = some x → ACc Tryz.prog 20 (encA t) [] true [] fun rv obs => (rv, obs) = encR x := accT (T := YVA × Int) (F := un2 F) (L := (L V0)) (cmds := []) (body := (zB Tryz.f20)) Gok hmT Tryz.func20 (by kernel_rfl) (by kernel_rfl) (by rw [e]; exact Lor.zI ok0 (Lor.zF _ _)) (fun t => by refine main.trans ?_; rw [← zG]; exact congrArg (B _ _ _) (fx1 fun t => zD ZB some t))
theorem ac : ∀ a x, Q a = some x → AC Tryz.prog 20 a [] false [] fun rv obs => (rv, obs) = encR x := acF (body := (zB Tryz.f20)) Tryz.func20 (by kernel_rfl) (by kernel_rfl) acc fun x => ⟨by simp [encR, AV.Flat, K.Flat, C.Flat], fl0⟩
end laws_heldRegionS
namespace laws_FnExactMergeAt
noncomputable def B {ρ : Type} (C0 : YVC → YVW → Int → Option Int) (C1 : YVC → YVW → Option (YVC × YVW)) (C2 : YVC → YVW → Int → Int → ByteArray → Option (Int × YVA)) (C3 : YVC → YVW → Int → Int → ByteArray → Option (Int × YVA)) (C4 : YVA → YVA → Option Bool) (C5 : YVC → YVW → YVC → YVW → Option Bool) (C6 : Int → YVC → YVW → Option (Int × YVC × YVW)) (C7 : Int → YVA → Option (Int × YVA)) (C8 : YVA → Int → Option Int) (a1 : Vec YC) (a2 : Vec YW) (a3 : Int) (a4 : Int) (a5 : ByteArray) (K : Bool → Option ρ) : Option ρ :=
  sel (decide ((1048576 : Int) < (a5.size : Int))) (K true) ((C0 a1 a2 (1048576 : Int)).bind fun r1 => sel (decide (r1 < (0 : Int))) (K true) ((C1 a1 a2).bind fun r2 => (C2 r2.1 r2.2 a3 a4 a5).bind fun r3 => (C1 a1 a2).bind fun r4 => (C3 r4.1 r4.2 a3 a4 a5).bind fun r5 => (C4 r5.2 r3.2).bind fun r6 => sel ((!r6)) (K false) (sel ((!decide (r5.1 = r3.1))) (K false) ((C1 a1 a2).bind fun r7 => (C5 r4.1 r4.2 r7.1 r7.2).bind fun r8 => sel ((!r8)) (K false) ((C6 (1 : Int) r4.1 r4.2).bind fun r9 => sel (decide (r9.1 < (0 : Int))) (K false) ((C4 r5.2 r3.2).bind fun r10 => sel ((!r10)) (K false) (sel ((!decide (r5.1 = r3.1))) (K false) ((C7 (1 : Int) r5.2).bind fun r11 => (C8 r11.2 (1 : Int)).bind fun r12 => sel (decide (r12 < (0 : Int))) (K false) (sel ((!decide (r12 = r11.1))) (K false) ((C1 a1 a2).bind fun r13 => (C3 r13.1 r13.2 a3 a4 a5).bind fun r14 => (C4 r14.2 r3.2).bind fun r15 => sel ((!r15)) (K false) (sel ((!decide (r14.1 = r3.1))) (K false) ((C8 r11.2 (1 : Int)).bind fun r16 => sel (decide (r16 < (0 : Int))) (K false) (sel ((!decide (r16 = r11.1))) (K false) (K true))))))))))))))
noncomputable def F (a1 : Vec YC) (a2 : Vec YW) (a3 : Int) (a4 : Int) (a5 : ByteArray) : Option Bool := B laws_szStore.F laws_toStore.F spec_MergeAt.F impl_MergeAt.F laws_eqRegionS.F laws_eqStore.F laws_markStore_sd1d9.F laws_markRegionS_s11cf.F laws_heldRegionS.F a1 a2 a3 a4 a5 (fun x1 => some (x1))
def encA (t : YVC × YVW × Int × Int × ByteArray) : LA := [.a [cl t.1, cl t.2.1], vi t.2.2.1, vi t.2.2.2.1, vs t.2.2.2.2]
def encR (x : Bool) : AV × LO := (vb x, [])
theorem ZA (a b) (h : encA a = encA b) : a = b := by simp [encA, zA] at h; simp [Prod.ext_iff, h]
theorem ZB (a b) (h : encR a = encR b) : a = b := by simpa [encR, zA] using h
noncomputable def Q (args : LA) : Option Bool := ofC encA (un5 F) args
theorem wrap : F = fun y1 y2 y3 y4 y5 => Q [.a [cl y1, cl y2], vi y3, vi y4, vs y5] := by funext y1 y2 y3 y4 y5; exact Eq.symm (zD ZA _ (y1, y2, y3, y4, y5))
noncomputable abbrev O (Q0 : LA → Option Int) (Q1 : LA → Option (YVC × YVW)) (Q2 : LA → Option (Int × YVA)) (Q3 : LA → Option (Int × YVA)) (Q4 : LA → Option Bool) (Q5 : LA → Option Bool) (Q8 : LA → Option Int) (Q6 : LA → LO → Option (Int × YVC × YVW)) (Q7 : LA → LO → Option (Int × YVA)) : Orc := mkO [qE 7 false laws_szStore.encR Q0, qE 9 false laws_toStore.encR Q1, qE 16 false spec_MergeAt.encR Q2, qE 17 false impl_MergeAt.encR Q3, qE 18 false laws_eqRegionS.encR Q4, qE 12 false laws_eqStore.encR Q5, qE 20 false laws_heldRegionS.encR Q8] [eE Tryz.prog 13 [true, false] false [true, true] laws_markStore_sd1d9.encR Q6, eE Tryz.prog 19 [true, false] false [true] laws_markRegionS_s11cf.encR Q7] []
noncomputable def L : Lor := fun _ _ _ _ => Option.none
theorem main {Q0 Q1 Q2 Q3 Q4 Q5 Q6 Q7 Q8} {ρ : Type} {K : AV → LO → Option ρ} {a1 a2 a3 a4 a5} : exC Tryz.prog (O Q0 Q1 Q2 Q3 Q4 Q5 Q8 Q6 Q7) L [] 0 (zB Tryz.f4) (entry 114 [.a [cl a1, cl a2], vi a3, vi a4, vs a5] [] []) (finO Tryz.prog Tryz.f4.results.toList 0 [] [] K) =
    B (fun y1 y2 y3 => Q0 [.a [cl y1, cl y2], vi y3]) (fun y1 y2 => Q1 [.a [cl y1, cl y2]]) (fun y1 y2 y3 y4 y5 => Q2 [.a [cl y1, cl y2], vi y3, vi y4, vs y5]) (fun y1 y2 y3 y4 y5 => Q3 [.a [cl y1, cl y2], vi y3, vi y4, vs y5]) (fun y1 y2 => Q4 [vl y1, vl y2]) (fun y1 y2 y3 y4 => Q5 [.a [cl y1, cl y2], .a [cl y3, cl y4]]) (fun y1 y2 y3 => Q6 [.a [.h 0, .h 1], vi y1] [ro y2, ro y3]) (fun y1 y2 => Q7 [.c (.h 0), vi y1] [ro y2]) (fun y1 y2 => Q8 [vl y1, vi y2]) a1 a2 a3 a4 a5 (fun x1 => K (vb x1) []) := by kernel_rfl
theorem Gok : (O laws_szStore.Q laws_toStore.Q spec_MergeAt.Q impl_MergeAt.Q laws_eqRegionS.Q laws_eqStore.Q laws_heldRegionS.Q laws_markStore_sd1d9.Q laws_markRegionS_s11cf.Q).ok Tryz.prog := zH (by exact ⟨qE_ok laws_szStore.ac, qE_ok laws_toStore.ac, qE_ok spec_MergeAt.ac, qE_ok impl_MergeAt.ac, qE_ok laws_eqRegionS.ac, qE_ok laws_eqStore.ac, qE_ok laws_heldRegionS.ac, trivial⟩) (by exact ⟨eE_ok (fun h => by cases h) laws_markStore_sd1d9.ac, eE_ok (fun h => by cases h) laws_markRegionS_s11cf.ac, trivial⟩)
theorem acc : ∀ t x, un5 F t = some x → ACc Tryz.prog 4 (encA t) [] true [] fun rv obs => (rv, obs) = encR x := accT (T := YVC × YVW × Int × Int × ByteArray) (F := un5 F) (L := L) (cmds := []) (body := (zB Tryz.f4)) Gok hmT Tryz.func4 (by kernel_rfl) (by kernel_rfl) (by rw [show zE [] 0 (zB Tryz.f4) = [] by kernel_rfl]; exact Lor.zF _ _) (fun t => by refine main.trans ?_; rw [← laws_szStore.wrap, ← laws_toStore.wrap, ← spec_MergeAt.wrap, ← impl_MergeAt.wrap, ← laws_eqRegionS.wrap, ← laws_eqStore.wrap, ← laws_markStore_sd1d9.wrap, ← laws_markRegionS_s11cf.wrap, ← laws_heldRegionS.wrap]; exact congrArg (B _ _ _ _ _ _ _ _ _ _ _ _ _ _) (fx1 fun t => zD ZB some t))
theorem ac : ∀ a x, Q a = some x → AC Tryz.prog 4 a [] false [] fun rv obs => (rv, obs) = encR x := acF (body := (zB Tryz.f4)) Tryz.func4 (by kernel_rfl) (by kernel_rfl) acc fun x => ⟨by simp [encR, AV.Flat, K.Flat, C.Flat], fl0⟩
end laws_FnExactMergeAt
end Go.Al
