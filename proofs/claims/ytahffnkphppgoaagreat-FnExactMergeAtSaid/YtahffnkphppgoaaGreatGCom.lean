import Derived.Test.YtahffnkphppgoaaGreatAlE
import Derived.Test.YtahffnkphppgoaaGreatSC
import Derived.Test.YtahffnkphppgoaaGreatGNm
set_option linter.unusedVariables false
set_option linter.unusedSimpArgs false
set_option linter.constructorNameAsVariable false
set_option linter.unusedSectionVars false
set_option maxRecDepth 100000
namespace Go.Al
open Go.Proofs
namespace spec_l14Graph
noncomputable def B0 {ρ : Type} (v1 : Vec YC) (v2 : Int) (v3 : Vec (IVec Int)) (W : YVC → Int → (Vec (IVec Int)) → Option ρ) (K0 : (Vec (IVec Int)) → Option ρ) : Option ρ :=
  sel (decide (v2 < (v1.n : Int))) (chk (decide (0 ≤ v2 ∧ v2 < (v1.n : Int))) (chk (decide ((v3.n + (Vec.lit [⟨(v1.g v2.toNat).1⟩] : Vec (IVec Int)).n) * 25 ≤ maxN)) (W v1 (wr (v2 + (1 : Int))) (Vec.app v3 (Vec.lit [⟨(v1.g v2.toNat).1⟩] : Vec (IVec Int)))))) (K0 v3)
noncomputable def F0 {ρ : Type} : Nat → YVC → Int → (Vec (IVec Int)) → ((Vec (IVec Int)) → Option ρ) → Option ρ
  | 0, _, _, _, _ => none
  | k + 1, v1, v2, v3, K0 => B0 v1 v2 v3 (fun v1' v2' v3' => F0 k v1' v2' v3' K0) K0
noncomputable def B {ρ : Type} (L0 : YVC → Int → (Vec (IVec Int)) → ((Vec (IVec Int)) → Option ρ) → Option ρ) (a1 : Vec YC) (K : (Vec (IVec Int)) → Option ρ) : Option ρ :=
  L0 a1 (0 : Int) (Vec.nil : Vec (IVec Int)) (fun e01 => K e01)
noncomputable def F (a1 : Vec YC) : Option (Vec (IVec Int)) := B (F0 fuelN) a1 (fun x1 => some (x1))
def encA (t : Vec YC) : LA := [vl t]
def encR (x : Vec (IVec Int)) : AV × LO := (.c (.h 0), [ro x])
theorem ZA (a b) (h : encA a = encA b) : a = b := by simpa [encA, zA] using h
theorem ZB (a b) (h : encR a = encR b) : a = b := by simpa [encR, zA] using h
noncomputable def Q (args : LA) : Option (Vec (IVec Int)) := ofC encA (un1 F) args
theorem wrap : F = fun y1 => Q [vl y1] := by funext y1; exact Eq.symm (zD ZA _ (y1))
noncomputable abbrev O : Orc := mkO [] [] []
noncomputable def c0 : Code := loopC (atomN [] 0 (zB Tryz.f134) 0)
def ct0 : Cut := ⟨[0, 3, 4], [.ai (.s 3) 64 [true]]⟩
def lv0 : Exit → Cut
  | .exit 0 => ⟨[3], []⟩
  | _ => ⟨[], []⟩
def k0_0 {ρ : Type} (K : Exit → St → Option ρ) (z1 : Vec (IVec Int)) : Option ρ := K (.exit 0) (mkS 21 (lv0 (.exit 0)).live [.c (.h 0)] [ro z1] [])
noncomputable def L (W0 : (ρ : Type) → LA → LO → ((Vec (IVec Int)) → Option ρ) → Option ρ) : Lor := fun ρ j st K => sel (Nat.beq j 0) (cutO Tryz.prog 21 ct0.live 0 [] ct0.cmds st fun avs obs => W0 ρ avs obs (k0_0 K)) (Option.none)
theorem step0 {W0} {ρ : Type} {K : Exit → St → Option ρ} {W : LA → LO → Option ρ} {v1 v2 v3} : exC Tryz.prog O (L W0) [] 1 c0 (mkS 21 ct0.live [vl v1, .c (.h 0), vi v2] [ro v3] []) (bodyK Tryz.prog 21 0 [] ct0 W lv0 K) =
    B0 v1 v2 v3 (fun u1 u2 u3 => W [vl u1, .c (.h 0), vi u2] [ro u3]) (k0_0 K) := by kernel_rfl
def enc0 (t : YVC × Int × Vec (IVec Int)) : LA × LO := ([vl t.1, .c (.h 0), vi t.2.1], [ro t.2.2])
theorem enc0I (a b) (h : enc0 a = enc0 b) : a = b := by simp [enc0, zA] at h; simp [Prod.ext_iff, h]
noncomputable def V0 : (ρ : Type) → LA → LO → ((Vec (IVec Int)) → Option ρ) → Option ρ := fun ρ avs obs k0 => ofC enc0 (fun t => un3 (F0 fuelN) t k0) (avs, obs)
theorem zG (ρ : Type) : F0 fuelN = fun w1 w2 w3 k0 => V0 ρ [vl w1, .c (.h 0), vi w2] [ro w3] k0 := by funext w1 w2 w3 k0; exact Eq.symm (zD enc0I _ (w1, w2, w3))
theorem main {W0} {ρ : Type} {K : AV → LO → Option ρ} {a1} : exC Tryz.prog O (L W0) [] 0 (zB Tryz.f134) (entry 21 [vl a1] [] []) (finO Tryz.prog Tryz.f134.results.toList 0 [] [] K) =
    B (fun w1 w2 w3 k0 => W0 ρ [vl w1, .c (.h 0), vi w2] [ro w3] k0) a1 (fun x1 => K (.c (.h 0)) [ro x1]) := by kernel_rfl
theorem Gok : O.ok Tryz.prog := zH (by exact trivial) (by exact trivial)
theorem ok0 : OkL Tryz.prog (L V0) 0 (.loop c0) := fun ρ st K r h => zJ (ct := ct0) (lv := lv0) (L := (L V0)) Gok hmT (by rw [show zE [] 1 c0 = [] by kernel_rfl]; exact Lor.zF _ _) enc0I (fun k t => un3 (F0 k) t (k0_0 K)) (fun t => rfl) (fun k t => by refine step0.trans ?_; exact congrFun (congrArg (B0 _ _ _) (fx3 fun t => zD enc0I _ t)) _) (fun _ => fuelN) h
theorem e : zE [] 0 (zB Tryz.f134) = [(0, 0, .loop c0)] := by kernel_rfl
theorem acc : ∀ t x, un1 F t = some x → ACc Tryz.prog 134 (encA t) [] true [] fun rv obs => (rv, obs) = encR x := accT (T := Vec YC) (F := un1 F) (L := (L V0)) (cmds := []) (body := (zB Tryz.f134)) Gok hmT Tryz.func134 (by kernel_rfl) (by kernel_rfl) (by rw [e]; exact Lor.zI ok0 (Lor.zF _ _)) (fun t => by refine main.trans ?_; rw [← zG]; exact congrArg (B _ _) (fx1 fun t => zD ZB some t))
theorem ac : ∀ a x, Q a = some x → AC Tryz.prog 134 a [] true [] fun rv obs => (rv, obs) = encR x := acT (body := (zB Tryz.f134)) Tryz.func134 (by kernel_rfl) (by kernel_rfl) acc
end spec_l14Graph
namespace spec_GraphOk_s2a58
noncomputable def B0 {ρ : Type} (C0 : YI → Int → Option Bool) (v1 : Vec (IVec Int)) (v2 : Int) (W : (Vec (IVec Int)) → Int → Option ρ) (K0 : Unit → Option ρ) (Kr : Bool → Option ρ) : Option ρ :=
  sel (decide (v2 < (v1.n : Int))) (chk (decide (0 ≤ v2 ∧ v2 < (v1.n : Int))) (sel (decide ((4 : Int) < (((v1.g v2.toNat).v).n : Int))) (Kr false) (chk (decide (0 ≤ v2 ∧ v2 < (v1.n : Int))) ((C0 ((v1.g v2.toNat).v) v2).bind fun r1 => sel ((!r1)) (Kr false) (W v1 (wr (v2 + (1 : Int)))))))) (K0 ())
noncomputable def F0 {ρ : Type} : Nat → (Vec (IVec Int)) → Int → (Unit → Option ρ) → (Bool → Option ρ) → Option ρ
  | 0, _, _, _, _ => none
  | k + 1, v1, v2, K0, Kr => B0 spec_l05Rise.F v1 v2 (fun v1' v2' => F0 k v1' v2' K0 Kr) K0 Kr
noncomputable def B {ρ : Type} (L0 : (Vec (IVec Int)) → Int → (Unit → Option ρ) → (Bool → Option ρ) → Option ρ) (a1 : Vec (IVec Int)) (K : Bool → Option ρ) : Option ρ :=
  sel (decide ((40 : Int) < (a1.n : Int))) (K false) (L0 a1 (0 : Int) (fun _ => K true) (fun x01 => K x01))
noncomputable def F (a1 : Vec (IVec Int)) : Option Bool := B (F0 fuelN) a1 (fun x1 => some (x1))
def encA (t : Vec (IVec Int)) : LA := [vl t]
def encR (x : Bool) : AV × LO := (vb x, [])
theorem ZA (a b) (h : encA a = encA b) : a = b := by simpa [encA, zA] using h
theorem ZB (a b) (h : encR a = encR b) : a = b := by simpa [encR, zA] using h
noncomputable def Q (args : LA) : Option Bool := ofC encA (un1 F) args
theorem wrap : F = fun y1 => Q [vl y1] := by funext y1; exact Eq.symm (zD ZA _ (y1))
noncomputable abbrev O (Q0 : LA → Option Bool) : Orc := mkO [qE 73 false spec_l05Rise.encR Q0] [] []
noncomputable def c0 : Code := loopC (atomN [] 0 (zB Tryz.f71) 0)
def ct0 : Cut := ⟨[0, 3], []⟩
def lv0 : Exit → Cut
  | .exit 0 => ⟨[], []⟩
  | .ret => ⟨[2], []⟩
  | _ => ⟨[], []⟩
def k0_0 {ρ : Type} (K : Exit → St → Option ρ) (_ : Unit) : Option ρ := K (.exit 0) (mkS 28 (lv0 (.exit 0)).live [] [] [])
def k0_r {ρ : Type} (K : Exit → St → Option ρ) (z1 : Bool) : Option ρ := K .ret (mkS 28 (lv0 .ret).live [vb z1] [] [])
noncomputable def L (W0 : (ρ : Type) → LA → LO → (Unit → Option ρ) → (Bool → Option ρ) → Option ρ) : Lor := fun ρ j st K => sel (Nat.beq j 0) (cutO Tryz.prog 28 ct0.live 0 [] ct0.cmds st fun avs obs => W0 ρ avs obs (k0_0 K) (k0_r K)) (Option.none)
theorem step0 {Q0 W0} {ρ : Type} {K : Exit → St → Option ρ} {W : LA → LO → Option ρ} {v1 v2} : exC Tryz.prog (O Q0) (L W0) [] 1 c0 (mkS 28 ct0.live [vl v1, vi v2] [] []) (bodyK Tryz.prog 28 0 [] ct0 W lv0 K) =
    B0 (fun y1 y2 => Q0 [vl y1, vi y2]) v1 v2 (fun u1 u2 => W [vl u1, vi u2] []) (k0_0 K) (k0_r K) := by kernel_rfl
def enc0 (t : Vec (IVec Int) × Int) : LA × LO := ([vl t.1, vi t.2], [])
theorem enc0I (a b) (h : enc0 a = enc0 b) : a = b := by simp [enc0, zA] at h; simp [Prod.ext_iff, h]
noncomputable def V0 : (ρ : Type) → LA → LO → (Unit → Option ρ) → (Bool → Option ρ) → Option ρ := fun ρ avs obs k0 kr => ofC enc0 (fun t => un2 (F0 fuelN) t k0 kr) (avs, obs)
theorem zG (ρ : Type) : F0 fuelN = fun w1 w2 k0 kr => V0 ρ [vl w1, vi w2] [] k0 kr := by funext w1 w2 k0 kr; exact Eq.symm (zD enc0I _ (w1, w2))
theorem main {Q0 W0} {ρ : Type} {K : AV → LO → Option ρ} {a1} : exC Tryz.prog (O Q0) (L W0) [] 0 (zB Tryz.f71) (entry 28 [vl a1] [] []) (finO Tryz.prog Tryz.f71.results.toList 0 [] [] K) =
    B (fun w1 w2 k0 kr => W0 ρ [vl w1, vi w2] [] k0 kr) a1 (fun x1 => K (vb x1) []) := by kernel_rfl
theorem Gok : (O spec_l05Rise.Q).ok Tryz.prog := zH (by exact ⟨qE_ok spec_l05Rise.ac, trivial⟩) (by exact trivial)
theorem ok0 : OkL Tryz.prog (L V0) 0 (.loop c0) := fun ρ st K r h => zJ (ct := ct0) (lv := lv0) (L := (L V0)) Gok hmT (by rw [show zE [] 1 c0 = [] by kernel_rfl]; exact Lor.zF _ _) enc0I (fun k t => un2 (F0 k) t (k0_0 K) (k0_r K)) (fun t => rfl) (fun k t => by refine step0.trans ?_; rw [← spec_l05Rise.wrap]; exact congrFun (congrFun (congrArg (B0 _ _ _) (fx2 fun t => zD enc0I _ t)) _) _) (fun _ => fuelN) h
theorem e : zE [] 0 (zB Tryz.f71) = [(0, 0, .loop c0)] := by kernel_rfl
theorem acc : ∀ t x, un1 F t = some x → ACc Tryz.prog 71 (encA t) [] true [] fun rv obs => (rv, obs) = encR x := accT (T := Vec (IVec Int)) (F := un1 F) (L := (L V0)) (cmds := []) (body := (zB Tryz.f71)) Gok hmT Tryz.func71 (by kernel_rfl) (by kernel_rfl) (by rw [e]; exact Lor.zI ok0 (Lor.zF _ _)) (fun t => by refine main.trans ?_; rw [← zG]; exact congrArg (B _ _) (fx1 fun t => zD ZB some t))
theorem ac : ∀ a x, Q a = some x → AC Tryz.prog 71 a [] false [] fun rv obs => (rv, obs) = encR x := acF (body := (zB Tryz.f71)) Tryz.func71 (by kernel_rfl) (by kernel_rfl) acc fun x => ⟨by simp [encR, AV.Flat, K.Flat, C.Flat], fl0⟩
end spec_GraphOk_s2a58
namespace spec_NoteOk
noncomputable def B0 {ρ : Type} (v1 : ByteArray) (v2 : Int) (W : ByteArray → Int → Option ρ) (K0 : ByteArray → Option ρ) (Kr : Bool → Option ρ) : Option ρ :=
  sel (decide (v2 < (v1.size : Int))) (sel (decide ((v1.size : Int) ≤ (40 : Int))) (chk (decide (0 ≤ v2 ∧ v2 < (v1.size : Int))) (sel (decide ((byteAt v1 v2.toNat) < (32 : Int))) (Kr false) (chk (decide (0 ≤ v2 ∧ v2 < (v1.size : Int))) (sel (decide ((126 : Int) < (byteAt v1 v2.toNat))) (Kr false) (W v1 (wr (v2 + (1 : Int)))))))) (K0 v1)) (K0 v1)
noncomputable def F0 {ρ : Type} : Nat → ByteArray → Int → (ByteArray → Option ρ) → (Bool → Option ρ) → Option ρ
  | 0, _, _, _, _ => none
  | k + 1, v1, v2, K0, Kr => B0 v1 v2 (fun v1' v2' => F0 k v1' v2' K0 Kr) K0 Kr
noncomputable def B {ρ : Type} (L0 : ByteArray → Int → (ByteArray → Option ρ) → (Bool → Option ρ) → Option ρ) (a1 : ByteArray) (K : Bool → Option ρ) : Option ρ :=
  L0 a1 (0 : Int) (fun e01 => K (decide ((e01.size : Int) ≤ (40 : Int)))) (fun x01 => K x01)
noncomputable def F (a1 : ByteArray) : Option Bool := B (F0 fuelN) a1 (fun x1 => some (x1))
def encA (t : ByteArray) : LA := [vs t]
def encR (x : Bool) : AV × LO := (vb x, [])
theorem ZA (a b) (h : encA a = encA b) : a = b := by simpa [encA, zA] using h
theorem ZB (a b) (h : encR a = encR b) : a = b := by simpa [encR, zA] using h
noncomputable def Q (args : LA) : Option Bool := ofC encA (un1 F) args
theorem wrap : F = fun y1 => Q [vs y1] := by funext y1; exact Eq.symm (zD ZA _ (y1))
noncomputable abbrev O : Orc := mkO [] [] []
noncomputable def c0 : Code := loopC (atomN [] 0 (zB Tryz.f135) 0)
def ct0 : Cut := ⟨[0, 3], []⟩
def lv0 : Exit → Cut
  | .exit 0 => ⟨[0], []⟩
  | .ret => ⟨[2], []⟩
  | _ => ⟨[], []⟩
def k0_0 {ρ : Type} (K : Exit → St → Option ρ) (z1 : ByteArray) : Option ρ := K (.exit 0) (mkS 28 (lv0 (.exit 0)).live [vs z1] [] [])
def k0_r {ρ : Type} (K : Exit → St → Option ρ) (z1 : Bool) : Option ρ := K .ret (mkS 28 (lv0 .ret).live [vb z1] [] [])
noncomputable def L (W0 : (ρ : Type) → LA → LO → (ByteArray → Option ρ) → (Bool → Option ρ) → Option ρ) : Lor := fun ρ j st K => sel (Nat.beq j 0) (cutO Tryz.prog 28 ct0.live 0 [] ct0.cmds st fun avs obs => W0 ρ avs obs (k0_0 K) (k0_r K)) (Option.none)
theorem step0 {W0} {ρ : Type} {K : Exit → St → Option ρ} {W : LA → LO → Option ρ} {v1 v2} : exC Tryz.prog O (L W0) [] 1 c0 (mkS 28 ct0.live [vs v1, vi v2] [] []) (bodyK Tryz.prog 28 0 [] ct0 W lv0 K) =
    B0 v1 v2 (fun u1 u2 => W [vs u1, vi u2] []) (k0_0 K) (k0_r K) := by kernel_rfl
def enc0 (t : ByteArray × Int) : LA × LO := ([vs t.1, vi t.2], [])
theorem enc0I (a b) (h : enc0 a = enc0 b) : a = b := by simp [enc0, zA] at h; simp [Prod.ext_iff, h]
noncomputable def V0 : (ρ : Type) → LA → LO → (ByteArray → Option ρ) → (Bool → Option ρ) → Option ρ := fun ρ avs obs k0 kr => ofC enc0 (fun t => un2 (F0 fuelN) t k0 kr) (avs, obs)
theorem zG (ρ : Type) : F0 fuelN = fun w1 w2 k0 kr => V0 ρ [vs w1, vi w2] [] k0 kr := by funext w1 w2 k0 kr; exact Eq.symm (zD enc0I _ (w1, w2))
theorem main {W0} {ρ : Type} {K : AV → LO → Option ρ} {a1} : exC Tryz.prog O (L W0) [] 0 (zB Tryz.f135) (entry 28 [vs a1] [] []) (finO Tryz.prog Tryz.f135.results.toList 0 [] [] K) =
    B (fun w1 w2 k0 kr => W0 ρ [vs w1, vi w2] [] k0 kr) a1 (fun x1 => K (vb x1) []) := by kernel_rfl
theorem Gok : O.ok Tryz.prog := zH (by exact trivial) (by exact trivial)
theorem ok0 : OkL Tryz.prog (L V0) 0 (.loop c0) := fun ρ st K r h => zJ (ct := ct0) (lv := lv0) (L := (L V0)) Gok hmT (by rw [show zE [] 1 c0 = [] by kernel_rfl]; exact Lor.zF _ _) enc0I (fun k t => un2 (F0 k) t (k0_0 K) (k0_r K)) (fun t => rfl) (fun k t => by refine step0.trans ?_; exact congrFun (congrFun (congrArg (B0 _ _) (fx2 fun t => zD enc0I _ t)) _) _) (fun _ => fuelN) h
theorem e : zE [] 0 (zB Tryz.f135) = [(0, 0, .loop c0)] := by kernel_rfl
theorem acc : ∀ t x, un1 F t = some x → ACc Tryz.prog 135 (encA t) [] true [] fun rv obs => (rv, obs) = encR x := accT (T := ByteArray) (F := un1 F) (L := (L V0)) (cmds := []) (body := (zB Tryz.f135)) Gok hmT Tryz.func135 (by kernel_rfl) (by kernel_rfl) (by rw [e]; exact Lor.zI ok0 (Lor.zF _ _)) (fun t => by refine main.trans ?_; rw [← zG]; exact congrArg (B _ _) (fx1 fun t => zD ZB some t))
theorem ac : ∀ a x, Q a = some x → AC Tryz.prog 135 a [] false [] fun rv obs => (rv, obs) = encR x := acF (body := (zB Tryz.f135)) Tryz.func135 (by kernel_rfl) (by kernel_rfl) acc fun x => ⟨by simp [encR, AV.Flat, K.Flat, C.Flat], fl0⟩
end spec_NoteOk
namespace spec_CommitsOk
noncomputable def B2 {ρ : Type} (v1 : Vec YC) (v2 : YI) (v3 : Int) (v4 : Int) (W : YVC → YI → Int → Int → Option ρ) (K4 : YVC → YI → Int → Option ρ) (Kr : Bool → Option ρ) : Option ρ :=
  chk (decide (0 ≤ v3 ∧ v3 < (v1.n : Int))) (sel (decide (v4 < (((v1.g v3.toNat).2.2).n : Int))) (chk (decide (0 ≤ v3 ∧ v3 < (v1.n : Int))) (chk (decide (0 ≤ v4 ∧ v4 < (((v1.g v3.toNat).2.2).n : Int))) (sel (decide ((v2.n : Int) ≤ (((v1.g v3.toNat).2.2).g v4.toNat).2.1)) (Kr false) (chk (decide (0 ≤ (((v1.g v3.toNat).2.2).g v4.toNat).2.1 ∧ (((v1.g v3.toNat).2.2).g v4.toNat).2.1 < (v2.n : Int))) (sel (decide ((v2.g ((((v1.g v3.toNat).2.2).g v4.toNat).2.1).toNat) ≤ (((v1.g v3.toNat).2.2).g v4.toNat).2.2)) (Kr false) (W v1 v2 v3 (wr (v4 + (1 : Int))))))))) (K4 v1 v2 v3))
noncomputable def F2 {ρ : Type} : Nat → YVC → YI → Int → Int → (YVC → YI → Int → Option ρ) → (Bool → Option ρ) → Option ρ
  | 0, _, _, _, _, _, _ => none
  | k + 1, v1, v2, v3, v4, K4, Kr => B2 v1 v2 v3 v4 (fun v1' v2' v3' v4' => F2 k v1' v2' v3' v4' K4 Kr) K4 Kr
noncomputable def B1 {ρ : Type} (C3 : ByteArray → Option Bool) (C4 : YVN → Option Bool) (L2 : YVC → YI → Int → Int → (YVC → YI → Int → Option ρ) → (Bool → Option ρ) → Option ρ) (v1 : Vec YC) (v2 : YI) (v3 : Int) (W : YVC → YI → Int → Option ρ) (K2 : Unit → Option ρ) (Kr : Bool → Option ρ) : Option ρ :=
  sel (decide (v3 < (v1.n : Int))) (chk (decide (0 ≤ v3 ∧ v3 < (v1.n : Int))) ((C3 ((v1.g v3.toNat).2.1)).bind fun r4 => sel ((!r4)) (Kr false) (chk (decide (0 ≤ v3 ∧ v3 < (v1.n : Int))) ((C4 ((v1.g v3.toNat).2.2)).bind fun r5 => sel ((!r5)) (Kr false) (L2 v1 v2 v3 (0 : Int) (fun e21 e22 e23 => W e21 e22 (wr (e23 + (1 : Int)))) (fun x21 => Kr x21)))))) (K2 ())
noncomputable def F1 {ρ : Type} : Nat → YVC → YI → Int → (Unit → Option ρ) → (Bool → Option ρ) → Option ρ
  | 0, _, _, _, _, _ => none
  | k + 1, v1, v2, v3, K2, Kr => B1 spec_NoteOk.F spec_NamesOk.F (F2 fuelN) v1 v2 v3 (fun v1' v2' v3' => F1 k v1' v2' v3' K2 Kr) K2 Kr
noncomputable def B0 {ρ : Type} (C2 : Int → Int → Int → Option Bool) (v1 : Vec YC) (v2 : YI) (v3 : Int) (W : YVC → YI → Int → Option ρ) (K0 : YVC → YI → Option ρ) (Kr : Bool → Option ρ) : Option ρ :=
  sel (decide (v3 < (v2.n : Int))) (chk (decide (0 ≤ v3 ∧ v3 < (v2.n : Int))) ((C2 (v2.g v3.toNat) (0 : Int) (40 : Int)).bind fun r3 => sel ((!r3)) (Kr false) (W v1 v2 (wr (v3 + (1 : Int)))))) (K0 v1 v2)
noncomputable def F0 {ρ : Type} : Nat → YVC → YI → Int → (YVC → YI → Option ρ) → (Bool → Option ρ) → Option ρ
  | 0, _, _, _, _, _ => none
  | k + 1, v1, v2, v3, K0, Kr => B0 spec_l01In.F v1 v2 v3 (fun v1' v2' v3' => F0 k v1' v2' v3' K0 Kr) K0 Kr
noncomputable def B {ρ : Type} (C0 : YVC → Option (Vec (IVec Int))) (C1 : (Vec (IVec Int)) → Option Bool) (L0 : YVC → YI → Int → (YVC → YI → Option ρ) → (Bool → Option ρ) → Option ρ) (L1 : YVC → YI → Int → (Unit → Option ρ) → (Bool → Option ρ) → Option ρ) (a1 : Vec YC) (a2 : YI) (K : Bool → Option ρ) : Option ρ :=
  sel (decide ((40 : Int) < (a1.n : Int))) (K false) (sel (decide ((12 : Int) < (a2.n : Int))) (K false) ((C0 a1).bind fun r1 => (C1 r1).bind fun r2 => sel ((!r2)) (K false) (L0 a1 a2 (0 : Int) (fun e01 e02 => L1 e01 e02 (0 : Int) (fun _ => K true) (fun x11 => K x11)) (fun x01 => K x01))))
noncomputable def F (a1 : Vec YC) (a2 : YI) : Option Bool := B spec_l14Graph.F spec_GraphOk_s2a58.F (F0 fuelN) (F1 fuelN) a1 a2 (fun x1 => some (x1))
def encA (t : YVC × YI) : LA := [vl t.1, vl t.2]
def encR (x : Bool) : AV × LO := (vb x, [])
theorem ZA (a b) (h : encA a = encA b) : a = b := by simp [encA, zA] at h; simp [Prod.ext_iff, h]
theorem ZB (a b) (h : encR a = encR b) : a = b := by simpa [encR, zA] using h
noncomputable def Q (args : LA) : Option Bool := ofC encA (un2 F) args
theorem wrap : F = fun y1 y2 => Q [vl y1, vl y2] := by funext y1 y2; exact Eq.symm (zD ZA _ (y1, y2))
noncomputable abbrev O (Q0 : LA → Option (Vec (IVec Int))) (Q1 : LA → Option Bool) (Q2 : LA → Option Bool) (Q3 : LA → Option Bool) (Q4 : LA → Option Bool) : Orc := mkO [qE 134 true spec_l14Graph.encR Q0, qE 71 false spec_GraphOk_s2a58.encR Q1, qE 119 false spec_l01In.encR Q2, qE 135 false spec_NoteOk.encR Q3, qE 136 false spec_NamesOk.encR Q4] [] []
noncomputable def c0 : Code := loopC (atomN [] 0 (zB Tryz.f72) 0)
noncomputable def c1 : Code := loopC (atomN [] 0 (zB Tryz.f72) 1)
noncomputable def c2 : Code := loopC (atomN [] 2 c1 0)
def ct0 : Cut := ⟨[0, 1, 5], []⟩
def lv0 : Exit → Cut
  | .exit 0 => ⟨[0, 1], []⟩
  | .ret => ⟨[4], []⟩
  | _ => ⟨[], []⟩
def k0_0 {ρ : Type} (K : Exit → St → Option ρ) (z1 : Vec YC) (z2 : YI) : Option ρ := K (.exit 0) (mkS 90 (lv0 (.exit 0)).live [vl z1, vl z2] [] [])
def k0_r {ρ : Type} (K : Exit → St → Option ρ) (z1 : Bool) : Option ρ := K .ret (mkS 90 (lv0 .ret).live [vb z1] [] [])
def ct1 : Cut := ⟨[0, 1, 6], []⟩
def lv1 : Exit → Cut
  | .exit 2 => ⟨[], []⟩
  | .ret => ⟨[4], []⟩
  | _ => ⟨[], []⟩
def k1_2 {ρ : Type} (K : Exit → St → Option ρ) (_ : Unit) : Option ρ := K (.exit 2) (mkS 90 (lv1 (.exit 2)).live [] [] [])
def k1_r {ρ : Type} (K : Exit → St → Option ρ) (z1 : Bool) : Option ρ := K .ret (mkS 90 (lv1 .ret).live [vb z1] [] [])
def ct2 : Cut := ⟨[0, 1, 6, 7], []⟩
def lv2 : Exit → Cut
  | .exit 4 => ⟨[0, 1, 6], []⟩
  | .ret => ⟨[4], []⟩
  | _ => ⟨[], []⟩
def k2_4 {ρ : Type} (K : Exit → St → Option ρ) (z1 : Vec YC) (z2 : YI) (z3 : Int) : Option ρ := K (.exit 4) (mkS 90 (lv2 (.exit 4)).live [vl z1, vl z2, vi z3] [] [])
def k2_r {ρ : Type} (K : Exit → St → Option ρ) (z1 : Bool) : Option ρ := K .ret (mkS 90 (lv2 .ret).live [vb z1] [] [])
noncomputable def L (W2 : (ρ : Type) → LA → LO → (YVC → YI → Int → Option ρ) → (Bool → Option ρ) → Option ρ) (W1 : (ρ : Type) → LA → LO → (Unit → Option ρ) → (Bool → Option ρ) → Option ρ) (W0 : (ρ : Type) → LA → LO → (YVC → YI → Option ρ) → (Bool → Option ρ) → Option ρ) : Lor := fun ρ j st K => sel (Nat.beq j 0) (cutO Tryz.prog 90 ct0.live 0 [] ct0.cmds st fun avs obs => W0 ρ avs obs (k0_0 K) (k0_r K)) (sel (Nat.beq j 1) (cutO Tryz.prog 90 ct1.live 0 [] ct1.cmds st fun avs obs => W1 ρ avs obs (k1_2 K) (k1_r K)) (sel (Nat.beq j 2) (cutO Tryz.prog 90 ct2.live 0 [] ct2.cmds st fun avs obs => W2 ρ avs obs (k2_4 K) (k2_r K)) (Option.none)))
theorem step0 {Q0 Q1 Q2 Q3 Q4 W2 W1 W0} {ρ : Type} {K : Exit → St → Option ρ} {W : LA → LO → Option ρ} {v1 v2 v3} : exC Tryz.prog (O Q0 Q1 Q2 Q3 Q4) (L W2 W1 W0) [] 1 c0 (mkS 90 ct0.live [vl v1, vl v2, vi v3] [] []) (bodyK Tryz.prog 90 0 [] ct0 W lv0 K) =
    B0 (fun y1 y2 y3 => Q2 [vi y1, vi y2, vi y3]) v1 v2 v3 (fun u1 u2 u3 => W [vl u1, vl u2, vi u3] []) (k0_0 K) (k0_r K) := by kernel_rfl
def enc0 (t : YVC × YI × Int) : LA × LO := ([vl t.1, vl t.2.1, vi t.2.2], [])
theorem enc0I (a b) (h : enc0 a = enc0 b) : a = b := by simp [enc0, zA] at h; simp [Prod.ext_iff, h]
noncomputable def V0 : (ρ : Type) → LA → LO → (YVC → YI → Option ρ) → (Bool → Option ρ) → Option ρ := fun ρ avs obs k0 kr => ofC enc0 (fun t => un3 (F0 fuelN) t k0 kr) (avs, obs)
theorem zG (ρ : Type) : F0 fuelN = fun w1 w2 w3 k0 kr => V0 ρ [vl w1, vl w2, vi w3] [] k0 kr := by funext w1 w2 w3 k0 kr; exact Eq.symm (zD enc0I _ (w1, w2, w3))
theorem step1 {Q0 Q1 Q2 Q3 Q4 W2 W1 W0} {ρ : Type} {K : Exit → St → Option ρ} {W : LA → LO → Option ρ} {v1 v2 v3} : exC Tryz.prog (O Q0 Q1 Q2 Q3 Q4) (L W2 W1 W0) [] 2 c1 (mkS 90 ct1.live [vl v1, vl v2, vi v3] [] []) (bodyK Tryz.prog 90 0 [] ct1 W lv1 K) =
    B1 (fun y1 => Q3 [vs y1]) (fun y1 => Q4 [vl y1]) (fun w1 w2 w3 w4 k4 kr => W2 ρ [vl w1, vl w2, vi w3, vi w4] [] k4 kr) v1 v2 v3 (fun u1 u2 u3 => W [vl u1, vl u2, vi u3] []) (k1_2 K) (k1_r K) := by kernel_rfl
def enc1 (t : YVC × YI × Int) : LA × LO := ([vl t.1, vl t.2.1, vi t.2.2], [])
theorem enc1I (a b) (h : enc1 a = enc1 b) : a = b := by simp [enc1, zA] at h; simp [Prod.ext_iff, h]
noncomputable def V1 : (ρ : Type) → LA → LO → (Unit → Option ρ) → (Bool → Option ρ) → Option ρ := fun ρ avs obs k2 kr => ofC enc1 (fun t => un3 (F1 fuelN) t k2 kr) (avs, obs)
theorem ZC (ρ : Type) : F1 fuelN = fun w1 w2 w3 k2 kr => V1 ρ [vl w1, vl w2, vi w3] [] k2 kr := by funext w1 w2 w3 k2 kr; exact Eq.symm (zD enc1I _ (w1, w2, w3))
theorem step2 {Q0 Q1 Q2 Q3 Q4 W2 W1 W0} {ρ : Type} {K : Exit → St → Option ρ} {W : LA → LO → Option ρ} {v1 v2 v3 v4} : exC Tryz.prog (O Q0 Q1 Q2 Q3 Q4) (L W2 W1 W0) [] 3 c2 (mkS 90 ct2.live [vl v1, vl v2, vi v3, vi v4] [] []) (bodyK Tryz.prog 90 0 [] ct2 W lv2 K) =
    B2 v1 v2 v3 v4 (fun u1 u2 u3 u4 => W [vl u1, vl u2, vi u3, vi u4] []) (k2_4 K) (k2_r K) := by kernel_rfl
def enc2 (t : YVC × YI × Int × Int) : LA × LO := ([vl t.1, vl t.2.1, vi t.2.2.1, vi t.2.2.2], [])
theorem enc2I (a b) (h : enc2 a = enc2 b) : a = b := by simp [enc2, zA] at h; simp [Prod.ext_iff, h]
noncomputable def V2 : (ρ : Type) → LA → LO → (YVC → YI → Int → Option ρ) → (Bool → Option ρ) → Option ρ := fun ρ avs obs k4 kr => ofC enc2 (fun t => un4 (F2 fuelN) t k4 kr) (avs, obs)
theorem ZD (ρ : Type) : F2 fuelN = fun w1 w2 w3 w4 k4 kr => V2 ρ [vl w1, vl w2, vi w3, vi w4] [] k4 kr := by funext w1 w2 w3 w4 k4 kr; exact Eq.symm (zD enc2I _ (w1, w2, w3, w4))
theorem main {Q0 Q1 Q2 Q3 Q4 W2 W1 W0} {ρ : Type} {K : AV → LO → Option ρ} {a1 a2} : exC Tryz.prog (O Q0 Q1 Q2 Q3 Q4) (L W2 W1 W0) [] 0 (zB Tryz.f72) (entry 90 [vl a1, vl a2] [] []) (finO Tryz.prog Tryz.f72.results.toList 0 [] [] K) =
    B (fun y1 => Q0 [vl y1]) (fun y1 => Q1 [vl y1]) (fun w1 w2 w3 k0 kr => W0 ρ [vl w1, vl w2, vi w3] [] k0 kr) (fun w1 w2 w3 k2 kr => W1 ρ [vl w1, vl w2, vi w3] [] k2 kr) a1 a2 (fun x1 => K (vb x1) []) := by kernel_rfl
theorem Gok : (O spec_l14Graph.Q spec_GraphOk_s2a58.Q spec_l01In.Q spec_NoteOk.Q spec_NamesOk.Q).ok Tryz.prog := zH (by exact ⟨qE_ok spec_l14Graph.ac, qE_ok spec_GraphOk_s2a58.ac, qE_ok spec_l01In.ac, qE_ok spec_NoteOk.ac, qE_ok spec_NamesOk.ac, trivial⟩) (by exact trivial)
theorem ok2 : OkL Tryz.prog (L V2 V1 V0) 2 (.loop c2) := fun ρ st K r h => zJ (ct := ct2) (lv := lv2) (L := (L V2 V1 V0)) Gok hmT (by rw [show zE [] 3 c2 = [] by kernel_rfl]; exact Lor.zF _ _) enc2I (fun k t => un4 (F2 k) t (k2_4 K) (k2_r K)) (fun t => rfl) (fun k t => by refine step2.trans ?_; exact congrFun (congrFun (congrArg (B2 _ _ _ _) (fx4 fun t => zD enc2I _ t)) _) _) (fun _ => fuelN) h
theorem e1 : zE [] 2 c1 = [(2, 2, .loop c2)] := by kernel_rfl
theorem ok1 : OkL Tryz.prog (L V2 V1 V0) 1 (.loop c1) := fun ρ st K r h => zJ (ct := ct1) (lv := lv1) (L := (L V2 V1 V0)) Gok hmT (by rw [e1]; exact Lor.zI ok2 (Lor.zF _ _)) enc1I (fun k t => un3 (F1 k) t (k1_2 K) (k1_r K)) (fun t => rfl) (fun k t => by refine step1.trans ?_; rw [← spec_NoteOk.wrap, ← spec_NamesOk.wrap, ← ZD]; exact congrFun (congrFun (congrArg (B1 _ _ _ _ _ _) (fx3 fun t => zD enc1I _ t)) _) _) (fun _ => fuelN) h
theorem ok0 : OkL Tryz.prog (L V2 V1 V0) 0 (.loop c0) := fun ρ st K r h => zJ (ct := ct0) (lv := lv0) (L := (L V2 V1 V0)) Gok hmT (by rw [show zE [] 1 c0 = [] by kernel_rfl]; exact Lor.zF _ _) enc0I (fun k t => un3 (F0 k) t (k0_0 K) (k0_r K)) (fun t => rfl) (fun k t => by refine step0.trans ?_; rw [← spec_l01In.wrap]; exact congrFun (congrFun (congrArg (B0 _ _ _ _) (fx3 fun t => zD enc0I _ t)) _) _) (fun _ => fuelN) h
theorem e : zE [] 0 (zB Tryz.f72) = [(0, 0, .loop c0), (1, 1, .loop c1)] := by kernel_rfl
theorem acc : ∀ t x, un2 F t = some x → ACc Tryz.prog 72 (encA t) [] true [] fun rv obs => (rv, obs) = encR x := accT (T := YVC × YI) (F := un2 F) (L := (L V2 V1 V0)) (cmds := []) (body := (zB Tryz.f72)) Gok hmT Tryz.func72 (by kernel_rfl) (by kernel_rfl) (by rw [e]; exact Lor.zI ok0 (Lor.zI ok1 (Lor.zF _ _))) (fun t => by refine main.trans ?_; rw [← spec_l14Graph.wrap, ← spec_GraphOk_s2a58.wrap, ← zG, ← ZC]; exact congrArg (B _ _ _ _ _ _) (fx1 fun t => zD ZB some t))
theorem ac : ∀ a x, Q a = some x → AC Tryz.prog 72 a [] false [] fun rv obs => (rv, obs) = encR x := acF (body := (zB Tryz.f72)) Tryz.func72 (by kernel_rfl) (by kernel_rfl) acc fun x => ⟨by simp [encR, AV.Flat, K.Flat, C.Flat], fl0⟩
end spec_CommitsOk
namespace impl_graphOf
noncomputable def B0 {ρ : Type} (v1 : Vec YC) (v2 : Int) (v3 : Int) (v4 : Vec (IVec Int)) (W : YVC → Int → Int → (Vec (IVec Int)) → Option ρ) (K0 : (Vec (IVec Int)) → Option ρ) : Option ρ :=
  sel (decide (v3 < v2)) (chk (decide (0 ≤ v3 ∧ v3 < (v1.n : Int))) (chk (decide ((v4.n + (Vec.lit [⟨(v1.g v3.toNat).1⟩] : Vec (IVec Int)).n) * 25 ≤ maxN)) (W v1 v2 (wr (v3 + (1 : Int))) (Vec.app v4 (Vec.lit [⟨(v1.g v3.toNat).1⟩] : Vec (IVec Int)))))) (K0 v4)
noncomputable def F0 {ρ : Type} : Nat → YVC → Int → Int → (Vec (IVec Int)) → ((Vec (IVec Int)) → Option ρ) → Option ρ
  | 0, _, _, _, _, _ => none
  | k + 1, v1, v2, v3, v4, K0 => B0 v1 v2 v3 v4 (fun v1' v2' v3' v4' => F0 k v1' v2' v3' v4' K0) K0
noncomputable def B {ρ : Type} (L0 : YVC → Int → Int → (Vec (IVec Int)) → ((Vec (IVec Int)) → Option ρ) → Option ρ) (a1 : Vec YC) (K : (Vec (IVec Int)) → Option ρ) : Option ρ :=
  L0 a1 (a1.n : Int) (0 : Int) (Vec.nil : Vec (IVec Int)) (fun e01 => K e01)
noncomputable def F (a1 : Vec YC) : Option (Vec (IVec Int)) := B (F0 fuelN) a1 (fun x1 => some (x1))
def encA (t : Vec YC) : LA := [vl t]
def encR (x : Vec (IVec Int)) : AV × LO := (.c (.h 0), [ro x])
theorem ZA (a b) (h : encA a = encA b) : a = b := by simpa [encA, zA] using h
theorem ZB (a b) (h : encR a = encR b) : a = b := by simpa [encR, zA] using h
noncomputable def Q (args : LA) : Option (Vec (IVec Int)) := ofC encA (un1 F) args
theorem wrap : F = fun y1 => Q [vl y1] := by funext y1; exact Eq.symm (zD ZA _ (y1))
noncomputable abbrev O : Orc := mkO [] [] []
noncomputable def c0 : Code := loopC (atomN [] 0 (zB Tryz.f180) 0)
def ct0 : Cut := ⟨[3, 6, 7, 8], [.ai (.s 3) 64 [true]]⟩
def lv0 : Exit → Cut
  | .exit 0 => ⟨[3], []⟩
  | _ => ⟨[], []⟩
def k0_0 {ρ : Type} (K : Exit → St → Option ρ) (z1 : Vec (IVec Int)) : Option ρ := K (.exit 0) (mkS 19 (lv0 (.exit 0)).live [.c (.h 0)] [ro z1] [])
noncomputable def L (W0 : (ρ : Type) → LA → LO → ((Vec (IVec Int)) → Option ρ) → Option ρ) : Lor := fun ρ j st K => sel (Nat.beq j 0) (cutO Tryz.prog 19 ct0.live 0 [] ct0.cmds st fun avs obs => W0 ρ avs obs (k0_0 K)) (Option.none)
theorem step0 {W0} {ρ : Type} {K : Exit → St → Option ρ} {W : LA → LO → Option ρ} {v1 v2 v3 v4} : exC Tryz.prog O (L W0) [] 1 c0 (mkS 19 ct0.live [.c (.h 0), vl v1, vi v2, vi v3] [ro v4] []) (bodyK Tryz.prog 19 0 [] ct0 W lv0 K) =
    B0 v1 v2 v3 v4 (fun u1 u2 u3 u4 => W [.c (.h 0), vl u1, vi u2, vi u3] [ro u4]) (k0_0 K) := by kernel_rfl
def enc0 (t : YVC × Int × Int × Vec (IVec Int)) : LA × LO := ([.c (.h 0), vl t.1, vi t.2.1, vi t.2.2.1], [ro t.2.2.2])
theorem enc0I (a b) (h : enc0 a = enc0 b) : a = b := by simp [enc0, zA] at h; simp [Prod.ext_iff, h]
noncomputable def V0 : (ρ : Type) → LA → LO → ((Vec (IVec Int)) → Option ρ) → Option ρ := fun ρ avs obs k0 => ofC enc0 (fun t => un4 (F0 fuelN) t k0) (avs, obs)
theorem zG (ρ : Type) : F0 fuelN = fun w1 w2 w3 w4 k0 => V0 ρ [.c (.h 0), vl w1, vi w2, vi w3] [ro w4] k0 := by funext w1 w2 w3 w4 k0; exact Eq.symm (zD enc0I _ (w1, w2, w3, w4))
theorem main {W0} {ρ : Type} {K : AV → LO → Option ρ} {a1} : exC Tryz.prog O (L W0) [] 0 (zB Tryz.f180) (entry 19 [vl a1] [] []) (finO Tryz.prog Tryz.f180.results.toList 0 [] [] K) =
    B (fun w1 w2 w3 w4 k0 => W0 ρ [.c (.h 0), vl w1, vi w2, vi w3] [ro w4] k0) a1 (fun x1 => K (.c (.h 0)) [ro x1]) := by kernel_rfl
theorem Gok : O.ok Tryz.prog := zH (by exact trivial) (by exact trivial)
theorem ok0 : OkL Tryz.prog (L V0) 0 (.loop c0) := fun ρ st K r h => zJ (ct := ct0) (lv := lv0) (L := (L V0)) Gok hmT (by rw [show zE [] 1 c0 = [] by kernel_rfl]; exact Lor.zF _ _) enc0I (fun k t => un4 (F0 k) t (k0_0 K)) (fun t => rfl) (fun k t => by refine step0.trans ?_; exact congrFun (congrArg (B0 _ _ _ _) (fx4 fun t => zD enc0I _ t)) _) (fun _ => fuelN) h
theorem e : zE [] 0 (zB Tryz.f180) = [(0, 0, .loop c0)] := by kernel_rfl
theorem acc : ∀ t x, un1 F t = some x → ACc Tryz.prog 180 (encA t) [] true [] fun rv obs => (rv, obs) = encR x := accT (T := Vec YC) (F := un1 F) (L := (L V0)) (cmds := []) (body := (zB Tryz.f180)) Gok hmT Tryz.func180 (by kernel_rfl) (by kernel_rfl) (by rw [e]; exact Lor.zI ok0 (Lor.zF _ _)) (fun t => by refine main.trans ?_; rw [← zG]; exact congrArg (B _ _) (fx1 fun t => zD ZB some t))
theorem ac : ∀ a x, Q a = some x → AC Tryz.prog 180 a [] true [] fun rv obs => (rv, obs) = encR x := acT (body := (zB Tryz.f180)) Tryz.func180 (by kernel_rfl) (by kernel_rfl) acc
end impl_graphOf
namespace impl_GraphOk_s2a58
noncomputable def B0 {ρ : Type} (C0 : YI → Int → Option Bool) (v1 : Vec (IVec Int)) (v2 : Vec (IVec Int)) (v3 : Int) (v4 : Int) (W : (Vec (IVec Int)) → (Vec (IVec Int)) → Int → Int → Option ρ) (K0 : (Vec (IVec Int)) → Option ρ) (Kr : Bool → Option ρ) : Option ρ :=
  sel (decide (v4 < v3)) (chk (decide (0 ≤ v4 ∧ v4 < (v2.n : Int))) (sel (decide ((4 : Int) < (((v2.g v4.toNat).v).n : Int))) (Kr false) ((C0 ((v2.g v4.toNat).v) v4).bind fun r1 => sel ((!r1)) (Kr false) (W v1 v2 v3 (wr (v4 + (1 : Int))))))) (K0 v1)
noncomputable def F0 {ρ : Type} : Nat → (Vec (IVec Int)) → (Vec (IVec Int)) → Int → Int → ((Vec (IVec Int)) → Option ρ) → (Bool → Option ρ) → Option ρ
  | 0, _, _, _, _, _, _ => none
  | k + 1, v1, v2, v3, v4, K0, Kr => B0 impl_ascends.F v1 v2 v3 v4 (fun v1' v2' v3' v4' => F0 k v1' v2' v3' v4' K0 Kr) K0 Kr
noncomputable def B {ρ : Type} (L0 : (Vec (IVec Int)) → (Vec (IVec Int)) → Int → Int → ((Vec (IVec Int)) → Option ρ) → (Bool → Option ρ) → Option ρ) (a1 : Vec (IVec Int)) (K : Bool → Option ρ) : Option ρ :=
  L0 a1 a1 (a1.n : Int) (0 : Int) (fun e01 => K (decide ((e01.n : Int) ≤ (40 : Int)))) (fun x01 => K x01)
noncomputable def F (a1 : Vec (IVec Int)) : Option Bool := B (F0 fuelN) a1 (fun x1 => some (x1))
def encA (t : Vec (IVec Int)) : LA := [vl t]
def encR (x : Bool) : AV × LO := (vb x, [])
theorem ZA (a b) (h : encA a = encA b) : a = b := by simpa [encA, zA] using h
theorem ZB (a b) (h : encR a = encR b) : a = b := by simpa [encR, zA] using h
noncomputable def Q (args : LA) : Option Bool := ofC encA (un1 F) args
theorem wrap : F = fun y1 => Q [vl y1] := by funext y1; exact Eq.symm (zD ZA _ (y1))
noncomputable abbrev O (Q0 : LA → Option Bool) : Orc := mkO [qE 78 false impl_ascends.encR Q0] [] []
noncomputable def c0 : Code := loopC (atomN [] 0 (zB Tryz.f143) 0)
def ct0 : Cut := ⟨[0, 5, 6, 7], []⟩
def lv0 : Exit → Cut
  | .exit 0 => ⟨[0], []⟩
  | .ret => ⟨[2], []⟩
  | _ => ⟨[], []⟩
def k0_0 {ρ : Type} (K : Exit → St → Option ρ) (z1 : Vec (IVec Int)) : Option ρ := K (.exit 0) (mkS 25 (lv0 (.exit 0)).live [vl z1] [] [])
def k0_r {ρ : Type} (K : Exit → St → Option ρ) (z1 : Bool) : Option ρ := K .ret (mkS 25 (lv0 .ret).live [vb z1] [] [])
noncomputable def L (W0 : (ρ : Type) → LA → LO → ((Vec (IVec Int)) → Option ρ) → (Bool → Option ρ) → Option ρ) : Lor := fun ρ j st K => sel (Nat.beq j 0) (cutO Tryz.prog 25 ct0.live 0 [] ct0.cmds st fun avs obs => W0 ρ avs obs (k0_0 K) (k0_r K)) (Option.none)
theorem step0 {Q0 W0} {ρ : Type} {K : Exit → St → Option ρ} {W : LA → LO → Option ρ} {v1 v2 v3 v4} : exC Tryz.prog (O Q0) (L W0) [] 1 c0 (mkS 25 ct0.live [vl v1, vl v2, vi v3, vi v4] [] []) (bodyK Tryz.prog 25 0 [] ct0 W lv0 K) =
    B0 (fun y1 y2 => Q0 [vl y1, vi y2]) v1 v2 v3 v4 (fun u1 u2 u3 u4 => W [vl u1, vl u2, vi u3, vi u4] []) (k0_0 K) (k0_r K) := by kernel_rfl
def enc0 (t : Vec (IVec Int) × Vec (IVec Int) × Int × Int) : LA × LO := ([vl t.1, vl t.2.1, vi t.2.2.1, vi t.2.2.2], [])
theorem enc0I (a b) (h : enc0 a = enc0 b) : a = b := by simp [enc0, zA] at h; simp [Prod.ext_iff, h]
noncomputable def V0 : (ρ : Type) → LA → LO → ((Vec (IVec Int)) → Option ρ) → (Bool → Option ρ) → Option ρ := fun ρ avs obs k0 kr => ofC enc0 (fun t => un4 (F0 fuelN) t k0 kr) (avs, obs)
theorem zG (ρ : Type) : F0 fuelN = fun w1 w2 w3 w4 k0 kr => V0 ρ [vl w1, vl w2, vi w3, vi w4] [] k0 kr := by funext w1 w2 w3 w4 k0 kr; exact Eq.symm (zD enc0I _ (w1, w2, w3, w4))
theorem main {Q0 W0} {ρ : Type} {K : AV → LO → Option ρ} {a1} : exC Tryz.prog (O Q0) (L W0) [] 0 (zB Tryz.f143) (entry 25 [vl a1] [] []) (finO Tryz.prog Tryz.f143.results.toList 0 [] [] K) =
    B (fun w1 w2 w3 w4 k0 kr => W0 ρ [vl w1, vl w2, vi w3, vi w4] [] k0 kr) a1 (fun x1 => K (vb x1) []) := by kernel_rfl
theorem Gok : (O impl_ascends.Q).ok Tryz.prog := zH (by exact ⟨qE_ok impl_ascends.ac, trivial⟩) (by exact trivial)
theorem ok0 : OkL Tryz.prog (L V0) 0 (.loop c0) := fun ρ st K r h => zJ (ct := ct0) (lv := lv0) (L := (L V0)) Gok hmT (by rw [show zE [] 1 c0 = [] by kernel_rfl]; exact Lor.zF _ _) enc0I (fun k t => un4 (F0 k) t (k0_0 K) (k0_r K)) (fun t => rfl) (fun k t => by refine step0.trans ?_; rw [← impl_ascends.wrap]; exact congrFun (congrFun (congrArg (B0 _ _ _ _ _) (fx4 fun t => zD enc0I _ t)) _) _) (fun _ => fuelN) h
theorem e : zE [] 0 (zB Tryz.f143) = [(0, 0, .loop c0)] := by kernel_rfl
theorem acc : ∀ t x, un1 F t = some x → ACc Tryz.prog 143 (encA t) [] true [] fun rv obs => (rv, obs) = encR x := accT (T := Vec (IVec Int)) (F := un1 F) (L := (L V0)) (cmds := []) (body := (zB Tryz.f143)) Gok hmT Tryz.func143 (by kernel_rfl) (by kernel_rfl) (by rw [e]; exact Lor.zI ok0 (Lor.zF _ _)) (fun t => by refine main.trans ?_; rw [← zG]; exact congrArg (B _ _) (fx1 fun t => zD ZB some t))
theorem ac : ∀ a x, Q a = some x → AC Tryz.prog 143 a [] false [] fun rv obs => (rv, obs) = encR x := acF (body := (zB Tryz.f143)) Tryz.func143 (by kernel_rfl) (by kernel_rfl) acc fun x => ⟨by simp [encR, AV.Flat, K.Flat, C.Flat], fl0⟩
end impl_GraphOk_s2a58
namespace impl_NoteOk
noncomputable def B0 {ρ : Type} (v1 : ByteArray) (v2 : Int) (W : ByteArray → Int → Option ρ) (K0 : ByteArray → Option ρ) (Kr : Bool → Option ρ) : Option ρ :=
  sel (decide (v2 < (v1.size : Int))) (chk (decide (0 ≤ v2 ∧ v2 < (v1.size : Int))) (sel (decide ((byteAt v1 v2.toNat) < (32 : Int))) (Kr false) (chk (decide (0 ≤ v2 ∧ v2 < (v1.size : Int))) (sel (decide ((126 : Int) < (byteAt v1 v2.toNat))) (Kr false) (W v1 (wr (v2 + (1 : Int)))))))) (K0 v1)
noncomputable def F0 {ρ : Type} : Nat → ByteArray → Int → (ByteArray → Option ρ) → (Bool → Option ρ) → Option ρ
  | 0, _, _, _, _ => none
  | k + 1, v1, v2, K0, Kr => B0 v1 v2 (fun v1' v2' => F0 k v1' v2' K0 Kr) K0 Kr
noncomputable def B {ρ : Type} (L0 : ByteArray → Int → (ByteArray → Option ρ) → (Bool → Option ρ) → Option ρ) (a1 : ByteArray) (K : Bool → Option ρ) : Option ρ :=
  L0 a1 (0 : Int) (fun e01 => K (decide ((e01.size : Int) ≤ (40 : Int)))) (fun x01 => K x01)
noncomputable def F (a1 : ByteArray) : Option Bool := B (F0 fuelN) a1 (fun x1 => some (x1))
def encA (t : ByteArray) : LA := [vs t]
def encR (x : Bool) : AV × LO := (vb x, [])
theorem ZA (a b) (h : encA a = encA b) : a = b := by simpa [encA, zA] using h
theorem ZB (a b) (h : encR a = encR b) : a = b := by simpa [encR, zA] using h
noncomputable def Q (args : LA) : Option Bool := ofC encA (un1 F) args
theorem wrap : F = fun y1 => Q [vs y1] := by funext y1; exact Eq.symm (zD ZA _ (y1))
noncomputable abbrev O : Orc := mkO [] [] []
noncomputable def c0 : Code := loopC (atomN [] 0 (zB Tryz.f181) 0)
def ct0 : Cut := ⟨[0, 3], []⟩
def lv0 : Exit → Cut
  | .exit 0 => ⟨[0], []⟩
  | .ret => ⟨[2], []⟩
  | _ => ⟨[], []⟩
def k0_0 {ρ : Type} (K : Exit → St → Option ρ) (z1 : ByteArray) : Option ρ := K (.exit 0) (mkS 23 (lv0 (.exit 0)).live [vs z1] [] [])
def k0_r {ρ : Type} (K : Exit → St → Option ρ) (z1 : Bool) : Option ρ := K .ret (mkS 23 (lv0 .ret).live [vb z1] [] [])
noncomputable def L (W0 : (ρ : Type) → LA → LO → (ByteArray → Option ρ) → (Bool → Option ρ) → Option ρ) : Lor := fun ρ j st K => sel (Nat.beq j 0) (cutO Tryz.prog 23 ct0.live 0 [] ct0.cmds st fun avs obs => W0 ρ avs obs (k0_0 K) (k0_r K)) (Option.none)
theorem step0 {W0} {ρ : Type} {K : Exit → St → Option ρ} {W : LA → LO → Option ρ} {v1 v2} : exC Tryz.prog O (L W0) [] 1 c0 (mkS 23 ct0.live [vs v1, vi v2] [] []) (bodyK Tryz.prog 23 0 [] ct0 W lv0 K) =
    B0 v1 v2 (fun u1 u2 => W [vs u1, vi u2] []) (k0_0 K) (k0_r K) := by kernel_rfl
def enc0 (t : ByteArray × Int) : LA × LO := ([vs t.1, vi t.2], [])
theorem enc0I (a b) (h : enc0 a = enc0 b) : a = b := by simp [enc0, zA] at h; simp [Prod.ext_iff, h]
noncomputable def V0 : (ρ : Type) → LA → LO → (ByteArray → Option ρ) → (Bool → Option ρ) → Option ρ := fun ρ avs obs k0 kr => ofC enc0 (fun t => un2 (F0 fuelN) t k0 kr) (avs, obs)
theorem zG (ρ : Type) : F0 fuelN = fun w1 w2 k0 kr => V0 ρ [vs w1, vi w2] [] k0 kr := by funext w1 w2 k0 kr; exact Eq.symm (zD enc0I _ (w1, w2))
theorem main {W0} {ρ : Type} {K : AV → LO → Option ρ} {a1} : exC Tryz.prog O (L W0) [] 0 (zB Tryz.f181) (entry 23 [vs a1] [] []) (finO Tryz.prog Tryz.f181.results.toList 0 [] [] K) =
    B (fun w1 w2 k0 kr => W0 ρ [vs w1, vi w2] [] k0 kr) a1 (fun x1 => K (vb x1) []) := by kernel_rfl
theorem Gok : O.ok Tryz.prog := zH (by exact trivial) (by exact trivial)
theorem ok0 : OkL Tryz.prog (L V0) 0 (.loop c0) := fun ρ st K r h => zJ (ct := ct0) (lv := lv0) (L := (L V0)) Gok hmT (by rw [show zE [] 1 c0 = [] by kernel_rfl]; exact Lor.zF _ _) enc0I (fun k t => un2 (F0 k) t (k0_0 K) (k0_r K)) (fun t => rfl) (fun k t => by refine step0.trans ?_; exact congrFun (congrFun (congrArg (B0 _ _) (fx2 fun t => zD enc0I _ t)) _) _) (fun _ => fuelN) h
theorem e : zE [] 0 (zB Tryz.f181) = [(0, 0, .loop c0)] := by kernel_rfl
theorem acc : ∀ t x, un1 F t = some x → ACc Tryz.prog 181 (encA t) [] true [] fun rv obs => (rv, obs) = encR x := accT (T := ByteArray) (F := un1 F) (L := (L V0)) (cmds := []) (body := (zB Tryz.f181)) Gok hmT Tryz.func181 (by kernel_rfl) (by kernel_rfl) (by rw [e]; exact Lor.zI ok0 (Lor.zF _ _)) (fun t => by refine main.trans ?_; rw [← zG]; exact congrArg (B _ _) (fx1 fun t => zD ZB some t))
theorem ac : ∀ a x, Q a = some x → AC Tryz.prog 181 a [] false [] fun rv obs => (rv, obs) = encR x := acF (body := (zB Tryz.f181)) Tryz.func181 (by kernel_rfl) (by kernel_rfl) acc fun x => ⟨by simp [encR, AV.Flat, K.Flat, C.Flat], fl0⟩
end impl_NoteOk
namespace impl_CommitsOk
noncomputable def B2 {ρ : Type} (v1 : YI) (v2 : Vec YC) (v3 : Int) (v4 : Int) (v5 : Vec YN) (v6 : Int) (v7 : Int) (W : YI → YVC → Int → Int → YVN → Int → Int → Option ρ) (K4 : YI → YVC → Int → Int → Option ρ) (Kr : Bool → Option ρ) : Option ρ :=
  sel (decide (v7 < v6)) (chk (decide (0 ≤ v7 ∧ v7 < (v5.n : Int))) (sel (decide ((v1.n : Int) ≤ (v5.g v7.toNat).2.1)) (Kr false) (chk (decide (0 ≤ (v5.g v7.toNat).2.1 ∧ (v5.g v7.toNat).2.1 < (v1.n : Int))) (sel (decide ((v1.g ((v5.g v7.toNat).2.1).toNat) ≤ (v5.g v7.toNat).2.2)) (Kr false) (W v1 v2 v3 v4 v5 v6 (wr (v7 + (1 : Int)))))))) (K4 v1 v2 v3 v4)
noncomputable def F2 {ρ : Type} : Nat → YI → YVC → Int → Int → YVN → Int → Int → (YI → YVC → Int → Int → Option ρ) → (Bool → Option ρ) → Option ρ
  | 0, _, _, _, _, _, _, _, _, _ => none
  | k + 1, v1, v2, v3, v4, v5, v6, v7, K4, Kr => B2 v1 v2 v3 v4 v5 v6 v7 (fun v1' v2' v3' v4' v5' v6' v7' => F2 k v1' v2' v3' v4' v5' v6' v7' K4 Kr) K4 Kr
noncomputable def B1 {ρ : Type} (C3 : ByteArray → Option Bool) (C4 : YVN → Option Bool) (L2 : YI → YVC → Int → Int → YVN → Int → Int → (YI → YVC → Int → Int → Option ρ) → (Bool → Option ρ) → Option ρ) (v1 : YI) (v2 : Vec YC) (v3 : Int) (v4 : Int) (W : YI → YVC → Int → Int → Option ρ) (K2 : Unit → Option ρ) (Kr : Bool → Option ρ) : Option ρ :=
  sel (decide (v4 < v3)) (chk (decide (0 ≤ v4 ∧ v4 < (v2.n : Int))) ((C3 ((v2.g v4.toNat).2.1)).bind fun r4 => sel ((!r4)) (Kr false) ((C4 ((v2.g v4.toNat).2.2)).bind fun r5 => sel ((!r5)) (Kr false) (L2 v1 v2 v3 v4 ((v2.g v4.toNat).2.2) (((v2.g v4.toNat).2.2).n : Int) (0 : Int) (fun e21 e22 e23 e24 => W e21 e22 e23 (wr (e24 + (1 : Int)))) (fun x21 => Kr x21))))) (K2 ())
noncomputable def F1 {ρ : Type} : Nat → YI → YVC → Int → Int → (Unit → Option ρ) → (Bool → Option ρ) → Option ρ
  | 0, _, _, _, _, _, _ => none
  | k + 1, v1, v2, v3, v4, K2, Kr => B1 impl_NoteOk.F impl_NamesOk.F (F2 fuelN) v1 v2 v3 v4 (fun v1' v2' v3' v4' => F1 k v1' v2' v3' v4' K2 Kr) K2 Kr
noncomputable def B0 {ρ : Type} (C2 : Int → Int → Int → Option Bool) (v1 : Vec YC) (v2 : YI) (v3 : YI) (v4 : Int) (v5 : Int) (W : YVC → YI → YI → Int → Int → Option ρ) (K0 : YVC → YI → Option ρ) (Kr : Bool → Option ρ) : Option ρ :=
  sel (decide (v5 < v4)) (chk (decide (0 ≤ v5 ∧ v5 < (v3.n : Int))) ((C2 (v3.g v5.toNat) (0 : Int) (40 : Int)).bind fun r3 => sel ((!r3)) (Kr false) (W v1 v2 v3 v4 (wr (v5 + (1 : Int)))))) (K0 v1 v2)
noncomputable def F0 {ρ : Type} : Nat → YVC → YI → YI → Int → Int → (YVC → YI → Option ρ) → (Bool → Option ρ) → Option ρ
  | 0, _, _, _, _, _, _, _ => none
  | k + 1, v1, v2, v3, v4, v5, K0, Kr => B0 impl_inRange.F v1 v2 v3 v4 v5 (fun v1' v2' v3' v4' v5' => F0 k v1' v2' v3' v4' v5' K0 Kr) K0 Kr
noncomputable def B {ρ : Type} (C0 : YVC → Option (Vec (IVec Int))) (C1 : (Vec (IVec Int)) → Option Bool) (L0 : YVC → YI → YI → Int → Int → (YVC → YI → Option ρ) → (Bool → Option ρ) → Option ρ) (L1 : YI → YVC → Int → Int → (Unit → Option ρ) → (Bool → Option ρ) → Option ρ) (a1 : Vec YC) (a2 : YI) (K : Bool → Option ρ) : Option ρ :=
  sel (decide ((40 : Int) < (a1.n : Int))) (K false) ((C0 a1).bind fun r1 => (C1 r1).bind fun r2 => sel ((!r2)) (K false) (sel (decide ((12 : Int) < (a2.n : Int))) (K false) (L0 a1 a2 a2 (a2.n : Int) (0 : Int) (fun e01 e02 => L1 e02 e01 (e01.n : Int) (0 : Int) (fun _ => K true) (fun x11 => K x11)) (fun x01 => K x01))))
noncomputable def F (a1 : Vec YC) (a2 : YI) : Option Bool := B impl_graphOf.F impl_GraphOk_s2a58.F (F0 fuelN) (F1 fuelN) a1 a2 (fun x1 => some (x1))
def encA (t : YVC × YI) : LA := [vl t.1, vl t.2]
def encR (x : Bool) : AV × LO := (vb x, [])
theorem ZA (a b) (h : encA a = encA b) : a = b := by simp [encA, zA] at h; simp [Prod.ext_iff, h]
theorem ZB (a b) (h : encR a = encR b) : a = b := by simpa [encR, zA] using h
noncomputable def Q (args : LA) : Option Bool := ofC encA (un2 F) args
theorem wrap : F = fun y1 y2 => Q [vl y1, vl y2] := by funext y1 y2; exact Eq.symm (zD ZA _ (y1, y2))
noncomputable abbrev O (Q0 : LA → Option (Vec (IVec Int))) (Q1 : LA → Option Bool) (Q2 : LA → Option Bool) (Q3 : LA → Option Bool) (Q4 : LA → Option Bool) : Orc := mkO [qE 180 true impl_graphOf.encR Q0, qE 143 false impl_GraphOk_s2a58.encR Q1, qE 126 false impl_inRange.encR Q2, qE 181 false impl_NoteOk.encR Q3, qE 182 false impl_NamesOk.encR Q4] [] []
noncomputable def c0 : Code := loopC (atomN [] 0 (zB Tryz.f123) 0)
noncomputable def c1 : Code := loopC (atomN [] 0 (zB Tryz.f123) 1)
noncomputable def c2 : Code := loopC (atomN [] 2 c1 0)
def ct0 : Cut := ⟨[0, 1, 25, 26, 27], []⟩
def lv0 : Exit → Cut
  | .exit 0 => ⟨[0, 1], []⟩
  | .ret => ⟨[4], []⟩
  | _ => ⟨[], []⟩
def k0_0 {ρ : Type} (K : Exit → St → Option ρ) (z1 : Vec YC) (z2 : YI) : Option ρ := K (.exit 0) (mkS 75 (lv0 (.exit 0)).live [vl z1, vl z2] [] [])
def k0_r {ρ : Type} (K : Exit → St → Option ρ) (z1 : Bool) : Option ρ := K .ret (mkS 75 (lv0 .ret).live [vb z1] [] [])
def ct1 : Cut := ⟨[1, 35, 36, 37], []⟩
def lv1 : Exit → Cut
  | .exit 2 => ⟨[], []⟩
  | .ret => ⟨[4], []⟩
  | _ => ⟨[], []⟩
def k1_2 {ρ : Type} (K : Exit → St → Option ρ) (_ : Unit) : Option ρ := K (.exit 2) (mkS 75 (lv1 (.exit 2)).live [] [] [])
def k1_r {ρ : Type} (K : Exit → St → Option ρ) (z1 : Bool) : Option ρ := K .ret (mkS 75 (lv1 .ret).live [vb z1] [] [])
def ct2 : Cut := ⟨[1, 35, 36, 37, 52, 53, 54], []⟩
def lv2 : Exit → Cut
  | .exit 4 => ⟨[1, 35, 36, 37], []⟩
  | .ret => ⟨[4], []⟩
  | _ => ⟨[], []⟩
def k2_4 {ρ : Type} (K : Exit → St → Option ρ) (z1 : YI) (z2 : Vec YC) (z3 : Int) (z4 : Int) : Option ρ := K (.exit 4) (mkS 75 (lv2 (.exit 4)).live [vl z1, vl z2, vi z3, vi z4] [] [])
def k2_r {ρ : Type} (K : Exit → St → Option ρ) (z1 : Bool) : Option ρ := K .ret (mkS 75 (lv2 .ret).live [vb z1] [] [])
noncomputable def L (W2 : (ρ : Type) → LA → LO → (YI → YVC → Int → Int → Option ρ) → (Bool → Option ρ) → Option ρ) (W1 : (ρ : Type) → LA → LO → (Unit → Option ρ) → (Bool → Option ρ) → Option ρ) (W0 : (ρ : Type) → LA → LO → (YVC → YI → Option ρ) → (Bool → Option ρ) → Option ρ) : Lor := fun ρ j st K => sel (Nat.beq j 0) (cutO Tryz.prog 75 ct0.live 0 [] ct0.cmds st fun avs obs => W0 ρ avs obs (k0_0 K) (k0_r K)) (sel (Nat.beq j 1) (cutO Tryz.prog 75 ct1.live 0 [] ct1.cmds st fun avs obs => W1 ρ avs obs (k1_2 K) (k1_r K)) (sel (Nat.beq j 2) (cutO Tryz.prog 75 ct2.live 0 [] ct2.cmds st fun avs obs => W2 ρ avs obs (k2_4 K) (k2_r K)) (Option.none)))
theorem step0 {Q0 Q1 Q2 Q3 Q4 W2 W1 W0} {ρ : Type} {K : Exit → St → Option ρ} {W : LA → LO → Option ρ} {v1 v2 v3 v4 v5} : exC Tryz.prog (O Q0 Q1 Q2 Q3 Q4) (L W2 W1 W0) [] 1 c0 (mkS 75 ct0.live [vl v1, vl v2, vl v3, vi v4, vi v5] [] []) (bodyK Tryz.prog 75 0 [] ct0 W lv0 K) =
    B0 (fun y1 y2 y3 => Q2 [vi y1, vi y2, vi y3]) v1 v2 v3 v4 v5 (fun u1 u2 u3 u4 u5 => W [vl u1, vl u2, vl u3, vi u4, vi u5] []) (k0_0 K) (k0_r K) := by kernel_rfl
def enc0 (t : YVC × YI × YI × Int × Int) : LA × LO := ([vl t.1, vl t.2.1, vl t.2.2.1, vi t.2.2.2.1, vi t.2.2.2.2], [])
theorem enc0I (a b) (h : enc0 a = enc0 b) : a = b := by simp [enc0, zA] at h; simp [Prod.ext_iff, h]
noncomputable def V0 : (ρ : Type) → LA → LO → (YVC → YI → Option ρ) → (Bool → Option ρ) → Option ρ := fun ρ avs obs k0 kr => ofC enc0 (fun t => un5 (F0 fuelN) t k0 kr) (avs, obs)
theorem zG (ρ : Type) : F0 fuelN = fun w1 w2 w3 w4 w5 k0 kr => V0 ρ [vl w1, vl w2, vl w3, vi w4, vi w5] [] k0 kr := by funext w1 w2 w3 w4 w5 k0 kr; exact Eq.symm (zD enc0I _ (w1, w2, w3, w4, w5))
theorem step1 {Q0 Q1 Q2 Q3 Q4 W2 W1 W0} {ρ : Type} {K : Exit → St → Option ρ} {W : LA → LO → Option ρ} {v1 v2 v3 v4} : exC Tryz.prog (O Q0 Q1 Q2 Q3 Q4) (L W2 W1 W0) [] 2 c1 (mkS 75 ct1.live [vl v1, vl v2, vi v3, vi v4] [] []) (bodyK Tryz.prog 75 0 [] ct1 W lv1 K) =
    B1 (fun y1 => Q3 [vs y1]) (fun y1 => Q4 [vl y1]) (fun w1 w2 w3 w4 w5 w6 w7 k4 kr => W2 ρ [vl w1, vl w2, vi w3, vi w4, vl w5, vi w6, vi w7] [] k4 kr) v1 v2 v3 v4 (fun u1 u2 u3 u4 => W [vl u1, vl u2, vi u3, vi u4] []) (k1_2 K) (k1_r K) := by kernel_rfl
def enc1 (t : YI × YVC × Int × Int) : LA × LO := ([vl t.1, vl t.2.1, vi t.2.2.1, vi t.2.2.2], [])
theorem enc1I (a b) (h : enc1 a = enc1 b) : a = b := by simp [enc1, zA] at h; simp [Prod.ext_iff, h]
noncomputable def V1 : (ρ : Type) → LA → LO → (Unit → Option ρ) → (Bool → Option ρ) → Option ρ := fun ρ avs obs k2 kr => ofC enc1 (fun t => un4 (F1 fuelN) t k2 kr) (avs, obs)
theorem ZC (ρ : Type) : F1 fuelN = fun w1 w2 w3 w4 k2 kr => V1 ρ [vl w1, vl w2, vi w3, vi w4] [] k2 kr := by funext w1 w2 w3 w4 k2 kr; exact Eq.symm (zD enc1I _ (w1, w2, w3, w4))
theorem step2 {Q0 Q1 Q2 Q3 Q4 W2 W1 W0} {ρ : Type} {K : Exit → St → Option ρ} {W : LA → LO → Option ρ} {v1 v2 v3 v4 v5 v6 v7} : exC Tryz.prog (O Q0 Q1 Q2 Q3 Q4) (L W2 W1 W0) [] 3 c2 (mkS 75 ct2.live [vl v1, vl v2, vi v3, vi v4, vl v5, vi v6, vi v7] [] []) (bodyK Tryz.prog 75 0 [] ct2 W lv2 K) =
    B2 v1 v2 v3 v4 v5 v6 v7 (fun u1 u2 u3 u4 u5 u6 u7 => W [vl u1, vl u2, vi u3, vi u4, vl u5, vi u6, vi u7] []) (k2_4 K) (k2_r K) := by kernel_rfl
def enc2 (t : YI × YVC × Int × Int × YVN × Int × Int) : LA × LO := ([vl t.1, vl t.2.1, vi t.2.2.1, vi t.2.2.2.1, vl t.2.2.2.2.1, vi t.2.2.2.2.2.1, vi t.2.2.2.2.2.2], [])
theorem enc2I (a b) (h : enc2 a = enc2 b) : a = b := by simp [enc2, zA] at h; simp [Prod.ext_iff, h]
noncomputable def V2 : (ρ : Type) → LA → LO → (YI → YVC → Int → Int → Option ρ) → (Bool → Option ρ) → Option ρ := fun ρ avs obs k4 kr => ofC enc2 (fun t => un7 (F2 fuelN) t k4 kr) (avs, obs)
theorem ZD (ρ : Type) : F2 fuelN = fun w1 w2 w3 w4 w5 w6 w7 k4 kr => V2 ρ [vl w1, vl w2, vi w3, vi w4, vl w5, vi w6, vi w7] [] k4 kr := by funext w1 w2 w3 w4 w5 w6 w7 k4 kr; exact Eq.symm (zD enc2I _ (w1, w2, w3, w4, w5, w6, w7))
theorem main {Q0 Q1 Q2 Q3 Q4 W2 W1 W0} {ρ : Type} {K : AV → LO → Option ρ} {a1 a2} : exC Tryz.prog (O Q0 Q1 Q2 Q3 Q4) (L W2 W1 W0) [] 0 (zB Tryz.f123) (entry 75 [vl a1, vl a2] [] []) (finO Tryz.prog Tryz.f123.results.toList 0 [] [] K) =
    B (fun y1 => Q0 [vl y1]) (fun y1 => Q1 [vl y1]) (fun w1 w2 w3 w4 w5 k0 kr => W0 ρ [vl w1, vl w2, vl w3, vi w4, vi w5] [] k0 kr) (fun w1 w2 w3 w4 k2 kr => W1 ρ [vl w1, vl w2, vi w3, vi w4] [] k2 kr) a1 a2 (fun x1 => K (vb x1) []) := by kernel_rfl
theorem Gok : (O impl_graphOf.Q impl_GraphOk_s2a58.Q impl_inRange.Q impl_NoteOk.Q impl_NamesOk.Q).ok Tryz.prog := zH (by exact ⟨qE_ok impl_graphOf.ac, qE_ok impl_GraphOk_s2a58.ac, qE_ok impl_inRange.ac, qE_ok impl_NoteOk.ac, qE_ok impl_NamesOk.ac, trivial⟩) (by exact trivial)
theorem ok2 : OkL Tryz.prog (L V2 V1 V0) 2 (.loop c2) := fun ρ st K r h => zJ (ct := ct2) (lv := lv2) (L := (L V2 V1 V0)) Gok hmT (by rw [show zE [] 3 c2 = [] by kernel_rfl]; exact Lor.zF _ _) enc2I (fun k t => un7 (F2 k) t (k2_4 K) (k2_r K)) (fun t => rfl) (fun k t => by refine step2.trans ?_; exact congrFun (congrFun (congrArg (B2 _ _ _ _ _ _ _) (fx7 fun t => zD enc2I _ t)) _) _) (fun _ => fuelN) h
theorem e1 : zE [] 2 c1 = [(2, 2, .loop c2)] := by kernel_rfl
theorem ok1 : OkL Tryz.prog (L V2 V1 V0) 1 (.loop c1) := fun ρ st K r h => zJ (ct := ct1) (lv := lv1) (L := (L V2 V1 V0)) Gok hmT (by rw [e1]; exact Lor.zI ok2 (Lor.zF _ _)) enc1I (fun k t => un4 (F1 k) t (k1_2 K) (k1_r K)) (fun t => rfl) (fun k t => by refine step1.trans ?_; rw [← impl_NoteOk.wrap, ← impl_NamesOk.wrap, ← ZD]; exact congrFun (congrFun (congrArg (B1 _ _ _ _ _ _ _) (fx4 fun t => zD enc1I _ t)) _) _) (fun _ => fuelN) h
theorem ok0 : OkL Tryz.prog (L V2 V1 V0) 0 (.loop c0) := fun ρ st K r h => zJ (ct := ct0) (lv := lv0) (L := (L V2 V1 V0)) Gok hmT (by rw [show zE [] 1 c0 = [] by kernel_rfl]; exact Lor.zF _ _) enc0I (fun k t => un5 (F0 k) t (k0_0 K) (k0_r K)) (fun t => rfl) (fun k t => by refine step0.trans ?_; rw [← impl_inRange.wrap]; exact congrFun (congrFun (congrArg (B0 _ _ _ _ _ _) (fx5 fun t => zD enc0I _ t)) _) _) (fun _ => fuelN) h
theorem e : zE [] 0 (zB Tryz.f123) = [(0, 0, .loop c0), (1, 1, .loop c1)] := by kernel_rfl
theorem acc : ∀ t x, un2 F t = some x → ACc Tryz.prog 123 (encA t) [] true [] fun rv obs => (rv, obs) = encR x := accT (T := YVC × YI) (F := un2 F) (L := (L V2 V1 V0)) (cmds := []) (body := (zB Tryz.f123)) Gok hmT Tryz.func123 (by kernel_rfl) (by kernel_rfl) (by rw [e]; exact Lor.zI ok0 (Lor.zI ok1 (Lor.zF _ _))) (fun t => by refine main.trans ?_; rw [← impl_graphOf.wrap, ← impl_GraphOk_s2a58.wrap, ← zG, ← ZC]; exact congrArg (B _ _ _ _ _ _) (fx1 fun t => zD ZB some t))
theorem ac : ∀ a x, Q a = some x → AC Tryz.prog 123 a [] false [] fun rv obs => (rv, obs) = encR x := acF (body := (zB Tryz.f123)) Tryz.func123 (by kernel_rfl) (by kernel_rfl) acc fun x => ⟨by simp [encR, AV.Flat, K.Flat, C.Flat], fl0⟩
end impl_CommitsOk
end Go.Al
