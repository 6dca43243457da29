import Derived.Test.YtbhcecfdgkgjmaaAlF
import Derived.Test.YtbhcecfdgkgjmaaSC
import Derived.Test.YtbhcecfdgkgjmaaGDr
import Derived.Test.YtbhcecfdgkgjmaaGPutRaw
set_option linter.unusedVariables false
set_option linter.unusedSimpArgs false
set_option linter.constructorNameAsVariable false
set_option linter.unusedSectionVars false
set_option maxRecDepth 100000
namespace Go.Al
open Go.Proofs

/-! loop.example/g00073/laws.big -/
namespace laws_big
noncomputable def B {ρ : Type} (a1 : YU) (K : Bool → Option ρ) : Option ρ :=
  K (decide ((1048576 : Int) < (a1.n : Int)))
noncomputable def F (a1 : YU) : Option Bool := B a1 (fun x1 => some (x1))
def encA (t : YU) : LA := [vl t]
def encR (x : Bool) : AV × LO := (vb x, [])
theorem encAI (a b) (h : encA a = encA b) : a = b := by simpa [encA, encRw_iff] using h
theorem encRI (a b) (h : encR a = encR b) : a = b := by simpa [encR, encRw_iff] using h
noncomputable def Q (args : LA) : Option Bool := ofC encA (un1 F) args
theorem wrap : F = fun y1 => Q [vl y1] := by funext y1; exact Eq.symm (ofC_enc encAI _ (y1))
noncomputable abbrev O : Orc := mkO [] [] []
noncomputable def L : Lor := fun _ _ _ _ => Option.none
theorem main {ρ : Type} {K : AV → LO → Option ρ} {a1} : exC Try.prog O L [] 0 (bodyOf Try.f15) (entry 6 [vl a1] [] []) (finO Try.prog Try.f15.results.toList 0 [] [] K) =
    B a1 (fun x1 => K (vb x1) []) := by kernel_rfl
theorem Gok : O.ok Try.prog := mkO_ok (by exact trivial) (by exact trivial)
theorem acc : ∀ t x, un1 F t = some x → ACc Try.prog 15 (encA t) [] true [] fun rv obs => (rv, obs) = encR x := accT (T := Vec (IK .u8)) (F := un1 F) (L := L) (cmds := []) (body := (bodyOf Try.f15)) Gok hmT Try.func15 (by kernel_rfl) (by kernel_rfl) (by rw [show atomsL [] 0 (bodyOf Try.f15) = [] by kernel_rfl]; exact Lor.ok_nil _ _) (fun t => by refine main.trans ?_; exact congrArg (B _) (fx1 fun t => ofC_enc encRI some t))
theorem ac : ∀ a x, Q a = some x → AC Try.prog 15 a [] false [] fun rv obs => (rv, obs) = encR x := acF (body := (bodyOf Try.f15)) Try.func15 (by kernel_rfl) (by kernel_rfl) acc fun x => ⟨by simp [encR, AV.Flat, K.Flat, C.Flat], fl0⟩
end laws_big
/-! loop.example/g00073/spec.l16Name -/
namespace spec_l16Name_s0451
noncomputable def B {ρ : Type} (C0 : YU → Int → Int → YS → Option (ByteArray × Vec (IK .u8) × Int × Int × Vec ByteArray)) (a1 : YU) (a2 : Int) (a3 : Int) (K : ByteArray → YU → Int → Int → Option ρ) : Option ρ :=
  (C0 a1 a2 a3 (Vec.lit [(ByteArray.mk #[99, 111, 109, 109, 105, 116, 115]), (ByteArray.mk #[119, 48]), (ByteArray.mk #[119, 49]), (ByteArray.mk #[119, 48, 43]), (ByteArray.mk #[105, 110, 116, 101, 110, 116]), (ByteArray.mk #[120]), (ByteArray.mk #[99, 111, 109, 109, 105, 116, 115, 43]), (ByteArray.mk #[119, 49, 49])] : YS)).bind fun r1 => K r1.1 r1.2.1 r1.2.2.1 r1.2.2.2.1
noncomputable def F (a1 : YU) (a2 : Int) (a3 : Int) : Option (ByteArray × Vec (IK .u8) × Int × Int) := B spec_l01Pick_s189a.F a1 a2 a3 (fun x1 x2 x3 x4 => some (x1, x2, x3, x4))
def encA (t : Vec (IK .u8) × Int × Int) : LA × LO := ([.c (.p 0 0)], [.box [cl t.1, ci t.2.1, ci t.2.2]])
def encR (x : ByteArray × Vec (IK .u8) × Int × Int) : AV × LO := (vs x.1, [.box [cl x.2.1, ci x.2.2.1, ci x.2.2.2]])
theorem encAI (a b) (h : encA a = encA b) : a = b := by simp [encA, encRw_iff] at h; simp [Prod.ext_iff, h]
theorem encRI (a b) (h : encR a = encR b) : a = b := by simp [encR, encRw_iff] at h; simp [Prod.ext_iff, h]
noncomputable def Q (args : LA) (hin : LO) : Option (ByteArray × Vec (IK .u8) × Int × Int) := ofC encA (un3 F) (args, hin)
theorem wrap : F = fun y1 y2 y3 => Q [.c (.p 0 0)] [.box [cl y1, ci y2, ci y3]] := by funext y1 y2 y3; exact Eq.symm (ofC_enc encAI _ (y1, y2, y3))
noncomputable abbrev O (Q0 : LA → LO → Option (ByteArray × Vec (IK .u8) × Int × Int × Vec ByteArray)) : Orc := mkO [] [eE Try.prog 86 [true, true] false [true, true] spec_l01Pick_s189a.encR Q0] []
noncomputable def L : Lor := fun _ _ _ _ => Option.none
theorem main {Q0} {ρ : Type} {K : AV → LO → Option ρ} {a1 a2 a3} : exC Try.prog (O Q0) L [] 0 (bodyOf Try.f84) (entry 6 [.c (.p 0 0)] [.box [cl a1, ci a2, ci a3]] [true]) (finO Try.prog Try.f84.results.toList 1 [true] [] K) =
    B (fun y1 y2 y3 y4 => Q0 [.c (.p 0 0), .c (.h 1)] [.box [cl y1, ci y2, ci y3], ro y4]) a1 a2 a3 (fun x1 x2 x3 x4 => K (vs x1) [.box [cl x2, ci x3, ci x4]]) := by kernel_rfl
theorem Gok : (O spec_l01Pick_s189a.Q).ok Try.prog := mkO_ok (by exact trivial) (by exact ⟨eE_ok (fun h => by cases h) spec_l01Pick_s189a.ac, trivial⟩)
theorem acc : ∀ t x, un3 F t = some x → ACc Try.prog 84 (encA t).1 (encA t).2 true [true] fun rv obs => (rv, obs) = encR x := accT2 (T := Vec (IK .u8) × Int × Int) (F := un3 F) (L := L) (cmds := []) (body := (bodyOf Try.f84)) 1 (fun _ => rfl) Gok hmT Try.func84 (by kernel_rfl) (by kernel_rfl) (by rw [show atomsL [] 0 (bodyOf Try.f84) = [] by kernel_rfl]; exact Lor.ok_nil _ _) (fun t => by refine main.trans ?_; rw [← spec_l01Pick_s189a.wrap]; exact congrArg (B _ _ _ _) (fx4 fun t => ofC_enc encRI some t))
theorem ac : ∀ a h x, Q a h = some x → AC Try.prog 84 a h true [true] fun rv obs => (rv, obs) = encR x := acT2 (body := (bodyOf Try.f84)) Try.func84 (by kernel_rfl) (by kernel_rfl) acc
end spec_l16Name_s0451
/-! loop.example/g00073/spec.l16Disk -/
namespace spec_l16Disk_s0451
noncomputable def B1 {ρ : Type} (C0 : Int → YU → Int → Int → Option (Int × Vec (IK .u8) × Int × Int)) (C6 : Int → Option ByteArray) (C3 : YVF → ByteArray → ByteArray → Option YVF) (v1 : Int) (v2 : YU) (v3 : Int) (v4 : Int) (v5 : Vec YF) (W : Int → YU → Int → Int → YVF → Option ρ) (K3 : YU → Int → Int → YVF → Option ρ) : Option ρ :=
  (C0 (2 : Int) v2 v3 v4).bind fun r13 => sel (decide (v1 < (wr ((40 : Int) + r13.1)))) ((C6 v1).bind fun r14 => chk (decide ((ByteArray.mk #[102]).size + r14.size ≤ maxN)) ((C3 v5 ((ByteArray.mk #[102]) ++ r14) ByteArray.empty).bind fun r15 => W (wr (v1 + (1 : Int))) r13.2.1 r13.2.2.1 r13.2.2.2 r15)) (K3 r13.2.1 r13.2.2.1 r13.2.2.2 v5)
noncomputable def F1 {ρ : Type} : Nat → Int → YU → Int → Int → YVF → (YU → Int → Int → YVF → Option ρ) → Option ρ
  | 0, _, _, _, _, _, _ => none
  | k + 1, v1, v2, v3, v4, v5, K3 => B1 spec_l01Below_sb3e9.F spec_Decimal.F spec_l16Put.F v1 v2 v3 v4 v5 (fun v1' v2' v3' v4' v5' => F1 k v1' v2' v3' v4' v5' K3) K3
noncomputable def B0 {ρ : Type} (C0 : Int → YU → Int → Int → Option (Int × Vec (IK .u8) × Int × Int)) (C4 : YU → Int → Int → Option (ByteArray × Vec (IK .u8) × Int × Int)) (C5 : Int → YU → Int → Int → Option (ByteArray × Vec (IK .u8) × Int × Int)) (C3 : YVF → ByteArray → ByteArray → Option YVF) (v1 : Int) (v2 : YU) (v3 : Int) (v4 : Int) (v5 : Vec YF) (W : Int → YU → Int → Int → YVF → Option ρ) (K0 : YU → Int → Int → YVF → Option ρ) : Option ρ :=
  (C0 (6 : Int) v2 v3 v4).bind fun r8 => sel (decide (v1 < r8.1)) ((C4 r8.2.1 r8.2.2.1 r8.2.2.2).bind fun r9 => (C0 (12 : Int) r9.2.1 r9.2.2.1 r9.2.2.2).bind fun r10 => (C5 r10.1 r10.2.1 r10.2.2.1 r10.2.2.2).bind fun r11 => (C3 v5 r9.1 r11.1).bind fun r12 => W (wr (v1 + (1 : Int))) r11.2.1 r11.2.2.1 r11.2.2.2 r12) (K0 r8.2.1 r8.2.2.1 r8.2.2.2 v5)
noncomputable def F0 {ρ : Type} : Nat → Int → YU → Int → Int → YVF → (YU → Int → Int → YVF → Option ρ) → Option ρ
  | 0, _, _, _, _, _, _ => none
  | k + 1, v1, v2, v3, v4, v5, K0 => B0 spec_l01Below_sb3e9.F spec_l16Name_s0451.F spec_l01Text_sb3e9.F spec_l16Put.F v1 v2 v3 v4 v5 (fun v1' v2' v3' v4' v5' => F0 k v1' v2' v3' v4' v5' K0) K0
noncomputable def B {ρ : Type} (C0 : Int → YU → Int → Int → Option (Int × Vec (IK .u8) × Int × Int)) (C1 : Int → Int → Option ByteArray) (C2 : YU → Int → Int → YS → Option (ByteArray × Vec (IK .u8) × Int × Int × Vec ByteArray)) (C3 : YVF → ByteArray → ByteArray → Option YVF) (L0 : Int → YU → Int → Int → YVF → (YU → Int → Int → YVF → Option ρ) → Option ρ) (L1 : Int → YU → Int → Int → YVF → (YU → Int → Int → YVF → Option ρ) → Option ρ) (a1 : YU) (a2 : Int) (a3 : Int) (K : YU → Int → Int → YVF → Option ρ) : Option ρ :=
  L0 (0 : Int) a1 a2 a3 (Vec.nil : Vec YF) (fun e01 e02 e03 e04 => (C0 (40 : Int) e01 e02 e03).bind fun r1 => sel (decide (r1.1 = (0 : Int))) ((C1 (24 : Int) (122 : Int)).bind fun r2 => (C1 (25 : Int) (122 : Int)).bind fun r3 => (C2 r1.2.1 r1.2.2.1 r1.2.2.2 (Vec.lit [ByteArray.empty, (ByteArray.mk #[97]), r2, r3] : YS)).bind fun r4 => chk (decide ((e04.n + (Vec.lit [(r4.1, ByteArray.empty)] : Vec YF).n) * 33 ≤ maxN)) (K r4.2.1 r4.2.2.1 r4.2.2.2.1 (Vec.app e04 (Vec.lit [(r4.1, ByteArray.empty)] : Vec YF)))) (sel (decide (r1.1 = (1 : Int))) ((C0 (2 : Int) r1.2.1 r1.2.2.1 r1.2.2.2).bind fun r5 => (C1 (wr ((60004 : Int) + r5.1)) (0 : Int)).bind fun r6 => (C3 e04 (ByteArray.mk #[98, 105, 103]) r6).bind fun r7 => K r5.2.1 r5.2.2.1 r5.2.2.2 r7) (sel (decide (r1.1 = (2 : Int))) (L1 (0 : Int) r1.2.1 r1.2.2.1 r1.2.2.2 (Vec.nil : Vec YF) (fun e11 e12 e13 e14 => K e11 e12 e13 e14)) (K r1.2.1 r1.2.2.1 r1.2.2.2 e04))))
noncomputable def F (a1 : YU) (a2 : Int) (a3 : Int) : Option (Vec (IK .u8) × Int × Int × YVF) := B spec_l01Below_sb3e9.F spec_l01Long.F spec_l01Pick_s189a.F spec_l16Put.F (F0 fuelN) (F1 fuelN) a1 a2 a3 (fun x1 x2 x3 x4 => some (x1, x2, x3, x4))
def encA (t : Vec (IK .u8) × Int × Int) : LA × LO := ([.c (.p 0 0)], [.box [cl t.1, ci t.2.1, ci t.2.2]])
def encR (x : Vec (IK .u8) × Int × Int × YVF) : AV × LO := (.a [.h 1], [.box [cl x.1, ci x.2.1, ci x.2.2.1], ro x.2.2.2])
theorem encAI (a b) (h : encA a = encA b) : a = b := by simp [encA, encRw_iff] at h; simp [Prod.ext_iff, h]
theorem encRI (a b) (h : encR a = encR b) : a = b := by simp [encR, encRw_iff] at h; simp [Prod.ext_iff, h]
noncomputable def Q (args : LA) (hin : LO) : Option (Vec (IK .u8) × Int × Int × YVF) := ofC encA (un3 F) (args, hin)
theorem wrap : F = fun y1 y2 y3 => Q [.c (.p 0 0)] [.box [cl y1, ci y2, ci y3]] := by funext y1 y2 y3; exact Eq.symm (ofC_enc encAI _ (y1, y2, y3))
noncomputable abbrev O (Q1 : LA → Option ByteArray) (Q3 : LA → Option YVF) (Q6 : LA → Option ByteArray) (Q0 : LA → LO → Option (Int × Vec (IK .u8) × Int × Int)) (Q2 : LA → LO → Option (ByteArray × Vec (IK .u8) × Int × Int × Vec ByteArray)) (Q4 : LA → LO → Option (ByteArray × Vec (IK .u8) × Int × Int)) (Q5 : LA → LO → Option (ByteArray × Vec (IK .u8) × Int × Int)) : Orc := mkO [qE 87 false spec_l01Long.encR Q1, qE 83 false spec_l16Put.encR Q3, qE 88 false spec_Decimal.encR Q6] [eE Try.prog 59 [true, false] false [true] spec_l01Below_sb3e9.encR Q0, eE Try.prog 86 [true, true] false [true, true] spec_l01Pick_s189a.encR Q2, eE Try.prog 84 [true] false [true] spec_l16Name_s0451.encR Q4, eE Try.prog 85 [true, false] false [true] spec_l01Text_sb3e9.encR Q5] []
noncomputable def c0 : Code := loopC (atomN [] 0 (bodyOf Try.f50) 0)
noncomputable def c1 : Code := loopC (atomN [] 0 (bodyOf Try.f50) 1)
def ct0 : Cut := ⟨[0, 2, 3, 4], [.ad (.p 3 0) 33]⟩
def lv0 : Exit → Cut
  | .exit 0 => ⟨[0, 2, 3], []⟩
  | _ => ⟨[], []⟩
def k0_0 {ρ : Type} (K : Exit → St → Option ρ) (z1 : YU) (z2 : Int) (z3 : Int) (z4 : Vec YF) : Option ρ := K (.exit 0) (mkS 63 (lv0 (.exit 0)).live [.c (.p 0 0), .c (.p 1 0), .c (.p 2 0)] [.box [cl z1, ci z2, ci z3], .box [.z], .box [.h 3], ro z4] [true])
def ct1 : Cut := ⟨[0, 2, 3, 5], [.ad (.p 3 0) 33]⟩
def lv1 : Exit → Cut
  | .exit 3 => ⟨[2, 3], []⟩
  | _ => ⟨[], []⟩
def k1_3 {ρ : Type} (K : Exit → St → Option ρ) (z1 : YU) (z2 : Int) (z3 : Int) (z4 : Vec YF) : Option ρ := K (.exit 3) (mkS 63 (lv1 (.exit 3)).live [.c (.p 1 0), .c (.p 2 0)] [.box [cl z1, ci z2, ci z3], .box [.z], .box [.h 3], ro z4] [true])
noncomputable def L (W1 : (ρ : Type) → LA → LO → (YU → Int → Int → YVF → Option ρ) → Option ρ) (W0 : (ρ : Type) → LA → LO → (YU → Int → Int → YVF → Option ρ) → Option ρ) : Lor := fun ρ j st K => sel (Nat.beq j 0) (cutO Try.prog 63 ct0.live 1 [true] ct0.cmds st fun avs obs => W0 ρ avs obs (k0_0 K)) (sel (Nat.beq j 1) (cutO Try.prog 63 ct1.live 1 [true] ct1.cmds st fun avs obs => W1 ρ avs obs (k1_3 K)) (Option.none))
theorem step0 {Q0 Q1 Q2 Q3 Q4 Q5 Q6 W1 W0} {ρ : Type} {K : Exit → St → Option ρ} {W : LA → LO → Option ρ} {v1 v2 v3 v4 v5} : exC Try.prog (O Q1 Q3 Q6 Q0 Q2 Q4 Q5) (L W1 W0) [] 1 c0 (mkS 63 ct0.live [.c (.p 0 0), .c (.p 1 0), .c (.p 2 0), vi v1] [.box [cl v2, ci v3, ci v4], .box [.z], .box [.h 3], ro v5] [true]) (bodyK Try.prog 63 1 [true] ct0 W lv0 K) =
    B0 (fun y1 y2 y3 y4 => Q0 [.c (.p 0 0), vi y1] [.box [cl y2, ci y3, ci y4]]) (fun y1 y2 y3 => Q4 [.c (.p 0 0)] [.box [cl y1, ci y2, ci y3]]) (fun y1 y2 y3 y4 => Q5 [.c (.p 0 0), vi y1] [.box [cl y2, ci y3, ci y4]]) (fun y1 y2 y3 => Q3 [.a [cl y1], .a [cs y2, cs y3]]) v1 v2 v3 v4 v5 (fun u1 u2 u3 u4 u5 => W [.c (.p 0 0), .c (.p 1 0), .c (.p 2 0), vi u1] [.box [cl u2, ci u3, ci u4], .box [.z], .box [.h 3], ro u5]) (k0_0 K) := by kernel_rfl
def enc0 (t : Int × Vec (IK .u8) × Int × Int × YVF) : LA × LO := ([.c (.p 0 0), .c (.p 1 0), .c (.p 2 0), vi t.1], [.box [cl t.2.1, ci t.2.2.1, ci t.2.2.2.1], .box [.z], .box [.h 3], ro t.2.2.2.2])
theorem enc0I (a b) (h : enc0 a = enc0 b) : a = b := by simp [enc0, encRw_iff] at h; simp [Prod.ext_iff, h]
noncomputable def V0 : (ρ : Type) → LA → LO → (YU → Int → Int → YVF → Option ρ) → Option ρ := fun ρ avs obs k0 => ofC enc0 (fun t => un5 (F0 fuelN) t k0) (avs, obs)
theorem V0_enc (ρ : Type) : F0 fuelN = fun w1 w2 w3 w4 w5 k0 => V0 ρ [.c (.p 0 0), .c (.p 1 0), .c (.p 2 0), vi w1] [.box [cl w2, ci w3, ci w4], .box [.z], .box [.h 3], ro w5] k0 := by funext w1 w2 w3 w4 w5 k0; exact Eq.symm (ofC_enc enc0I _ (w1, w2, w3, w4, w5))
theorem step1 {Q0 Q1 Q2 Q3 Q4 Q5 Q6 W1 W0} {ρ : Type} {K : Exit → St → Option ρ} {W : LA → LO → Option ρ} {v1 v2 v3 v4 v5} : exC Try.prog (O Q1 Q3 Q6 Q0 Q2 Q4 Q5) (L W1 W0) [] 2 c1 (mkS 63 ct1.live [.c (.p 0 0), .c (.p 1 0), .c (.p 2 0), vi v1] [.box [cl v2, ci v3, ci v4], .box [.z], .box [.h 3], ro v5] [true]) (bodyK Try.prog 63 1 [true] ct1 W lv1 K) =
    B1 (fun y1 y2 y3 y4 => Q0 [.c (.p 0 0), vi y1] [.box [cl y2, ci y3, ci y4]]) (fun y1 => Q6 [vi y1]) (fun y1 y2 y3 => Q3 [.a [cl y1], .a [cs y2, cs y3]]) v1 v2 v3 v4 v5 (fun u1 u2 u3 u4 u5 => W [.c (.p 0 0), .c (.p 1 0), .c (.p 2 0), vi u1] [.box [cl u2, ci u3, ci u4], .box [.z], .box [.h 3], ro u5]) (k1_3 K) := by kernel_rfl
def enc1 (t : Int × Vec (IK .u8) × Int × Int × YVF) : LA × LO := ([.c (.p 0 0), .c (.p 1 0), .c (.p 2 0), vi t.1], [.box [cl t.2.1, ci t.2.2.1, ci t.2.2.2.1], .box [.z], .box [.h 3], ro t.2.2.2.2])
theorem enc1I (a b) (h : enc1 a = enc1 b) : a = b := by simp [enc1, encRw_iff] at h; simp [Prod.ext_iff, h]
noncomputable def V1 : (ρ : Type) → LA → LO → (YU → Int → Int → YVF → Option ρ) → Option ρ := fun ρ avs obs k3 => ofC enc1 (fun t => un5 (F1 fuelN) t k3) (avs, obs)
theorem V1_enc (ρ : Type) : F1 fuelN = fun w1 w2 w3 w4 w5 k3 => V1 ρ [.c (.p 0 0), .c (.p 1 0), .c (.p 2 0), vi w1] [.box [cl w2, ci w3, ci w4], .box [.z], .box [.h 3], ro w5] k3 := by funext w1 w2 w3 w4 w5 k3; exact Eq.symm (ofC_enc enc1I _ (w1, w2, w3, w4, w5))
theorem main {Q0 Q1 Q2 Q3 Q4 Q5 Q6 W1 W0} {ρ : Type} {K : AV → LO → Option ρ} {a1 a2 a3} : exC Try.prog (O Q1 Q3 Q6 Q0 Q2 Q4 Q5) (L W1 W0) [] 0 (bodyOf Try.f50) (entry 63 [.c (.p 0 0)] [.box [cl a1, ci a2, ci a3]] [true]) (finO Try.prog Try.f50.results.toList 1 [true] [] K) =
    B (fun y1 y2 y3 y4 => Q0 [.c (.p 0 0), vi y1] [.box [cl y2, ci y3, ci y4]]) (fun y1 y2 => Q1 [vi y1, vk .u8 y2]) (fun y1 y2 y3 y4 => Q2 [.c (.p 0 0), .c (.h 1)] [.box [cl y1, ci y2, ci y3], ro y4]) (fun y1 y2 y3 => Q3 [.a [cl y1], .a [cs y2, cs y3]]) (fun w1 w2 w3 w4 w5 k0 => W0 ρ [.c (.p 0 0), .c (.p 1 0), .c (.p 2 0), vi w1] [.box [cl w2, ci w3, ci w4], .box [.z], .box [.h 3], ro w5] k0) (fun w1 w2 w3 w4 w5 k3 => W1 ρ [.c (.p 0 0), .c (.p 1 0), .c (.p 2 0), vi w1] [.box [cl w2, ci w3, ci w4], .box [.z], .box [.h 3], ro w5] k3) a1 a2 a3 (fun x1 x2 x3 x4 => K (.a [.h 1]) [.box [cl x1, ci x2, ci x3], ro x4]) := by kernel_rfl
theorem Gok : (O spec_l01Long.Q spec_l16Put.Q spec_Decimal.Q spec_l01Below_sb3e9.Q spec_l01Pick_s189a.Q spec_l16Name_s0451.Q spec_l01Text_sb3e9.Q).ok Try.prog := mkO_ok (by exact ⟨qE_ok spec_l01Long.ac, qE_ok spec_l16Put.ac, qE_ok spec_Decimal.ac, trivial⟩) (by exact ⟨eE_ok (fun h => by cases h) spec_l01Below_sb3e9.ac, eE_ok (fun h => by cases h) spec_l01Pick_s189a.ac, eE_ok (fun h => by cases h) spec_l16Name_s0451.ac, eE_ok (fun h => by cases h) spec_l01Text_sb3e9.ac, trivial⟩)
theorem ok1 : OkL Try.prog (L V1 V0) 1 (.loop c1) := fun ρ st K r h => loop_ok (ct := ct1) (lv := lv1) (L := (L V1 V0)) Gok hmT (by rw [show atomsL [] 2 c1 = [] by kernel_rfl]; exact Lor.ok_nil _ _) enc1I (fun k t => un5 (F1 k) t (k1_3 K)) (fun t => rfl) (fun k t => by refine step1.trans ?_; rw [← spec_l01Below_sb3e9.wrap, ← spec_Decimal.wrap, ← spec_l16Put.wrap]; exact congrFun (congrArg (B1 _ _ _ _ _ _ _ _) (fx5 fun t => ofC_enc enc1I _ t)) _) (fun _ => fuelN) h
theorem ok0 : OkL Try.prog (L V1 V0) 0 (.loop c0) := fun ρ st K r h => loop_ok (ct := ct0) (lv := lv0) (L := (L V1 V0)) Gok hmT (by rw [show atomsL [] 1 c0 = [] by kernel_rfl]; exact Lor.ok_nil _ _) enc0I (fun k t => un5 (F0 k) t (k0_0 K)) (fun t => rfl) (fun k t => by refine step0.trans ?_; rw [← spec_l01Below_sb3e9.wrap, ← spec_l16Name_s0451.wrap, ← spec_l01Text_sb3e9.wrap, ← spec_l16Put.wrap]; exact congrFun (congrArg (B0 _ _ _ _ _ _ _ _ _) (fx5 fun t => ofC_enc enc0I _ t)) _) (fun _ => fuelN) h
theorem e : atomsL [] 0 (bodyOf Try.f50) = [(0, 0, .loop c0), (1, 1, .loop c1)] := by kernel_rfl
theorem acc : ∀ t x, un3 F t = some x → ACc Try.prog 50 (encA t).1 (encA t).2 true [true] fun rv obs => (rv, obs) = encR x := accT2 (T := Vec (IK .u8) × Int × Int) (F := un3 F) (L := (L V1 V0)) (cmds := []) (body := (bodyOf Try.f50)) 1 (fun _ => rfl) Gok hmT Try.func50 (by kernel_rfl) (by kernel_rfl) (by rw [e]; exact Lor.ok_cons ok0 (Lor.ok_cons ok1 (Lor.ok_nil _ _))) (fun t => by refine main.trans ?_; rw [← spec_l01Below_sb3e9.wrap, ← spec_l01Long.wrap, ← spec_l01Pick_s189a.wrap, ← spec_l16Put.wrap, ← V0_enc, ← V1_enc]; exact congrArg (B _ _ _ _ _ _ _ _ _) (fx4 fun t => ofC_enc encRI some t))
theorem ac : ∀ a h x, Q a h = some x → AC Try.prog 50 a h true [true] fun rv obs => (rv, obs) = encR x := acT2 (body := (bodyOf Try.f50)) Try.func50 (by kernel_rfl) (by kernel_rfl) acc
end spec_l16Disk_s0451
/-! loop.example/g00073/spec.l01PickInt -/
namespace spec_l01PickInt_sa4ec
noncomputable def B {ρ : Type} (C0 : Int → YU → Int → Int → Option (Int × Vec (IK .u8) × Int × Int)) (a1 : YU) (a2 : Int) (a3 : Int) (a4 : YI) (K : Int → YU → Int → Int → YI → Option ρ) : Option ρ :=
  (C0 (a4.n : Int) a1 a2 a3).bind fun r1 => chk (decide (0 ≤ r1.1 ∧ r1.1 < (a4.n : Int))) (chk (decide ((r1.1).toNat < a4.n)) (K (a4.g ((r1.1).toNat)) r1.2.1 r1.2.2.1 r1.2.2.2 a4))
noncomputable def F (a1 : YU) (a2 : Int) (a3 : Int) (a4 : YI) : Option (Int × Vec (IK .u8) × Int × Int × Vec Int) := B spec_l01Below_sb3e9.F a1 a2 a3 a4 (fun x1 x2 x3 x4 x5 => some (x1, x2, x3, x4, x5))
def encA (t : Vec (IK .u8) × Int × Int × Vec Int) : LA × LO := ([.c (.p 0 0), .c (.h 1)], [.box [cl t.1, ci t.2.1, ci t.2.2.1], ro t.2.2.2])
def encR (x : Int × Vec (IK .u8) × Int × Int × Vec Int) : AV × LO := (vi x.1, [.box [cl x.2.1, ci x.2.2.1, ci x.2.2.2.1], ro x.2.2.2.2])
theorem encAI (a b) (h : encA a = encA b) : a = b := by simp [encA, encRw_iff] at h; simp [Prod.ext_iff, h]
theorem encRI (a b) (h : encR a = encR b) : a = b := by simp [encR, encRw_iff] at h; simp [Prod.ext_iff, h]
noncomputable def Q (args : LA) (hin : LO) : Option (Int × Vec (IK .u8) × Int × Int × Vec Int) := ofC encA (un4 F) (args, hin)
theorem wrap : F = fun y1 y2 y3 y4 => Q [.c (.p 0 0), .c (.h 1)] [.box [cl y1, ci y2, ci y3], ro y4] := by funext y1 y2 y3 y4; exact Eq.symm (ofC_enc encAI _ (y1, y2, y3, y4))
noncomputable abbrev O (Q0 : LA → LO → Option (Int × Vec (IK .u8) × Int × Int)) : Orc := mkO [] [eE Try.prog 59 [true, false] false [true] spec_l01Below_sb3e9.encR Q0] []
noncomputable def L : Lor := fun _ _ _ _ => Option.none
theorem main {Q0} {ρ : Type} {K : AV → LO → Option ρ} {a1 a2 a3 a4} : exC Try.prog (O Q0) L [] 0 (bodyOf Try.f98) (entry 12 [.c (.p 0 0), .c (.h 1)] [.box [cl a1, ci a2, ci a3], ro a4] [true, true]) (finO Try.prog Try.f98.results.toList 2 [true, true] [] K) =
    B (fun y1 y2 y3 y4 => Q0 [.c (.p 0 0), vi y1] [.box [cl y2, ci y3, ci y4]]) a1 a2 a3 a4 (fun x1 x2 x3 x4 x5 => K (vi x1) [.box [cl x2, ci x3, ci x4], ro x5]) := by kernel_rfl
theorem Gok : (O spec_l01Below_sb3e9.Q).ok Try.prog := mkO_ok (by exact trivial) (by exact ⟨eE_ok (fun h => by cases h) spec_l01Below_sb3e9.ac, trivial⟩)
theorem acc : ∀ t x, un4 F t = some x → ACc Try.prog 98 (encA t).1 (encA t).2 true [true, true] fun rv obs => (rv, obs) = encR x := accT2 (T := Vec (IK .u8) × Int × Int × Vec Int) (F := un4 F) (L := L) (cmds := []) (body := (bodyOf Try.f98)) 2 (fun _ => rfl) Gok hmT Try.func98 (by kernel_rfl) (by kernel_rfl) (by rw [show atomsL [] 0 (bodyOf Try.f98) = [] by kernel_rfl]; exact Lor.ok_nil _ _) (fun t => by refine main.trans ?_; rw [← spec_l01Below_sb3e9.wrap]; exact congrArg (B _ _ _ _ _) (fx5 fun t => ofC_enc encRI some t))
theorem ac : ∀ a h x, Q a h = some x → AC Try.prog 98 a h true [true, true] fun rv obs => (rv, obs) = encR x := acT2 (body := (bodyOf Try.f98)) Try.func98 (by kernel_rfl) (by kernel_rfl) acc
end spec_l01PickInt_sa4ec
/-! loop.example/g00073/spec.l16Raw -/
namespace spec_l16Raw_s0451
noncomputable def B {ρ : Type} (C0 : Int → YU → Int → Int → Option (Int × Vec (IK .u8) × Int × Int)) (C1 : YU → Int → Int → Option (ByteArray × Vec (IK .u8) × Int × Int)) (C2 : Int → YU → Int → Int → Option (ByteArray × Vec (IK .u8) × Int × Int)) (C3 : YU → Int → Int → YI → Option (Int × Vec (IK .u8) × Int × Int × Vec Int)) (C4 : Int → Int → Option ByteArray) (C5 : YU → Int → Int → YS → Option (ByteArray × Vec (IK .u8) × Int × Int × Vec ByteArray)) (a1 : YU) (a2 : Int) (a3 : Int) (K : Int → ByteArray → ByteArray → ByteArray → YU → Int → Int → Option ρ) : Option ρ :=
  (C0 (4 : Int) a1 a2 a3).bind fun r1 => (C1 r1.2.1 r1.2.2.1 r1.2.2.2).bind fun r2 => (C1 r2.2.1 r2.2.2.1 r2.2.2.2).bind fun r3 => (C0 (9 : Int) r3.2.1 r3.2.2.1 r3.2.2.2).bind fun r4 => (C2 r4.1 r4.2.1 r4.2.2.1 r4.2.2.2).bind fun r5 => (C0 (40 : Int) r5.2.1 r5.2.2.1 r5.2.2.2).bind fun r6 => sel (decide (r6.1 = (0 : Int))) ((C3 r6.2.1 r6.2.2.1 r6.2.2.2 (Vec.lit [(0 : Int), (5 : Int)] : YI)).bind fun r7 => K r7.1 r2.1 r3.1 r5.1 r7.2.1 r7.2.2.1 r7.2.2.2.1) (sel (decide (r6.1 = (1 : Int))) ((C4 (25 : Int) (97 : Int)).bind fun r8 => (C5 r6.2.1 r6.2.2.1 r6.2.2.2 (Vec.lit [ByteArray.empty, r8] : YS)).bind fun r9 => K (wr ((1 : Int) + r1.1)) r9.1 r3.1 r5.1 r9.2.1 r9.2.2.1 r9.2.2.2.1) (sel (decide (r6.1 = (2 : Int))) (K (wr ((1 : Int) + r1.1)) r2.1 ByteArray.empty r5.1 r6.2.1 r6.2.2.1 r6.2.2.2) (K (wr ((1 : Int) + r1.1)) r2.1 r3.1 r5.1 r6.2.1 r6.2.2.1 r6.2.2.2)))
noncomputable def F (a1 : YU) (a2 : Int) (a3 : Int) : Option (Int × ByteArray × ByteArray × ByteArray × Vec (IK .u8) × Int × Int) := B spec_l01Below_sb3e9.F spec_l16Name_s0451.F spec_l01Text_sb3e9.F spec_l01PickInt_sa4ec.F spec_l01Long.F spec_l01Pick_s189a.F a1 a2 a3 (fun x1 x2 x3 x4 x5 x6 x7 => some (x1, x2, x3, x4, x5, x6, x7))
def encA (t : Vec (IK .u8) × Int × Int) : LA × LO := ([.c (.p 0 0)], [.box [cl t.1, ci t.2.1, ci t.2.2]])
def encR (x : Int × ByteArray × ByteArray × ByteArray × Vec (IK .u8) × Int × Int) : AV × LO := (.a [ci x.1, cs x.2.1, cs x.2.2.1, cs x.2.2.2.1], [.box [cl x.2.2.2.2.1, ci x.2.2.2.2.2.1, ci x.2.2.2.2.2.2]])
theorem encAI (a b) (h : encA a = encA b) : a = b := by simp [encA, encRw_iff] at h; simp [Prod.ext_iff, h]
theorem encRI (a b) (h : encR a = encR b) : a = b := by simp [encR, encRw_iff] at h; simp [Prod.ext_iff, h]
noncomputable def Q (args : LA) (hin : LO) : Option (Int × ByteArray × ByteArray × ByteArray × Vec (IK .u8) × Int × Int) := ofC encA (un3 F) (args, hin)
theorem wrap : F = fun y1 y2 y3 => Q [.c (.p 0 0)] [.box [cl y1, ci y2, ci y3]] := by funext y1 y2 y3; exact Eq.symm (ofC_enc encAI _ (y1, y2, y3))
noncomputable abbrev O (Q4 : LA → Option ByteArray) (Q0 : LA → LO → Option (Int × Vec (IK .u8) × Int × Int)) (Q1 : LA → LO → Option (ByteArray × Vec (IK .u8) × Int × Int)) (Q2 : LA → LO → Option (ByteArray × Vec (IK .u8) × Int × Int)) (Q3 : LA → LO → Option (Int × Vec (IK .u8) × Int × Int × Vec Int)) (Q5 : LA → LO → Option (ByteArray × Vec (IK .u8) × Int × Int × Vec ByteArray)) : Orc := mkO [qE 87 false spec_l01Long.encR Q4] [eE Try.prog 59 [true, false] false [true] spec_l01Below_sb3e9.encR Q0, eE Try.prog 84 [true] false [true] spec_l16Name_s0451.encR Q1, eE Try.prog 85 [true, false] false [true] spec_l01Text_sb3e9.encR Q2, eE Try.prog 98 [true, true] false [true, true] spec_l01PickInt_sa4ec.encR Q3, eE Try.prog 86 [true, true] false [true, true] spec_l01Pick_s189a.encR Q5] []
noncomputable def L : Lor := fun _ _ _ _ => Option.none
theorem main {Q0 Q1 Q2 Q3 Q4 Q5} {ρ : Type} {K : AV → LO → Option ρ} {a1 a2 a3} : exC Try.prog (O Q4 Q0 Q1 Q2 Q3 Q5) L [] 0 (bodyOf Try.f93) (entry 35 [.c (.p 0 0)] [.box [cl a1, ci a2, ci a3]] [true]) (finO Try.prog Try.f93.results.toList 1 [true] [] K) =
    B (fun y1 y2 y3 y4 => Q0 [.c (.p 0 0), vi y1] [.box [cl y2, ci y3, ci y4]]) (fun y1 y2 y3 => Q1 [.c (.p 0 0)] [.box [cl y1, ci y2, ci y3]]) (fun y1 y2 y3 y4 => Q2 [.c (.p 0 0), vi y1] [.box [cl y2, ci y3, ci y4]]) (fun y1 y2 y3 y4 => Q3 [.c (.p 0 0), .c (.h 1)] [.box [cl y1, ci y2, ci y3], ro y4]) (fun y1 y2 => Q4 [vi y1, vk .u8 y2]) (fun y1 y2 y3 y4 => Q5 [.c (.p 0 0), .c (.h 1)] [.box [cl y1, ci y2, ci y3], ro y4]) a1 a2 a3 (fun x1 x2 x3 x4 x5 x6 x7 => K (.a [ci x1, cs x2, cs x3, cs x4]) [.box [cl x5, ci x6, ci x7]]) := by kernel_rfl
theorem Gok : (O spec_l01Long.Q spec_l01Below_sb3e9.Q spec_l16Name_s0451.Q spec_l01Text_sb3e9.Q spec_l01PickInt_sa4ec.Q spec_l01Pick_s189a.Q).ok Try.prog := mkO_ok (by exact ⟨qE_ok spec_l01Long.ac, trivial⟩) (by exact ⟨eE_ok (fun h => by cases h) spec_l01Below_sb3e9.ac, eE_ok (fun h => by cases h) spec_l16Name_s0451.ac, eE_ok (fun h => by cases h) spec_l01Text_sb3e9.ac, eE_ok (fun h => by cases h) spec_l01PickInt_sa4ec.ac, eE_ok (fun h => by cases h) spec_l01Pick_s189a.ac, trivial⟩)
theorem acc : ∀ t x, un3 F t = some x → ACc Try.prog 93 (encA t).1 (encA t).2 true [true] fun rv obs => (rv, obs) = encR x := accT2 (T := Vec (IK .u8) × Int × Int) (F := un3 F) (L := L) (cmds := []) (body := (bodyOf Try.f93)) 1 (fun _ => rfl) Gok hmT Try.func93 (by kernel_rfl) (by kernel_rfl) (by rw [show atomsL [] 0 (bodyOf Try.f93) = [] by kernel_rfl]; exact Lor.ok_nil _ _) (fun t => by refine main.trans ?_; rw [← spec_l01Below_sb3e9.wrap, ← spec_l16Name_s0451.wrap, ← spec_l01Text_sb3e9.wrap, ← spec_l01PickInt_sa4ec.wrap, ← spec_l01Long.wrap, ← spec_l01Pick_s189a.wrap]; exact congrArg (B _ _ _ _ _ _ _ _ _) (fx7 fun t => ofC_enc encRI some t))
theorem ac : ∀ a h x, Q a h = some x → AC Try.prog 93 a h true [true] fun rv obs => (rv, obs) = encR x := acT2 (body := (bodyOf Try.f93)) Try.func93 (by kernel_rfl) (by kernel_rfl) acc
end spec_l16Raw_s0451
/-! loop.example/g00073/spec.l01Once -/
namespace spec_l01Once_sb3e9
noncomputable def B {ρ : Type} (C0 : Int → YU → Int → Int → Option (Int × Vec (IK .u8) × Int × Int)) (a1 : Int) (a2 : YU) (a3 : Int) (a4 : Int) (K : Bool → YU → Int → Int → Option ρ) : Option ρ :=
  (C0 a1 a2 a3 a4).bind fun r1 => K (decide (r1.1 = (0 : Int))) r1.2.1 r1.2.2.1 r1.2.2.2
noncomputable def F (a1 : Int) (a2 : YU) (a3 : Int) (a4 : Int) : Option (Bool × Vec (IK .u8) × Int × Int) := B spec_l01Below_sb3e9.F a1 a2 a3 a4 (fun x1 x2 x3 x4 => some (x1, x2, x3, x4))
def encA (t : Int × Vec (IK .u8) × Int × Int) : LA × LO := ([.c (.p 0 0), vi t.1], [.box [cl t.2.1, ci t.2.2.1, ci t.2.2.2]])
def encR (x : Bool × Vec (IK .u8) × Int × Int) : AV × LO := (vb x.1, [.box [cl x.2.1, ci x.2.2.1, ci x.2.2.2]])
theorem encAI (a b) (h : encA a = encA b) : a = b := by simp [encA, encRw_iff] at h; simp [Prod.ext_iff, h]
theorem encRI (a b) (h : encR a = encR b) : a = b := by simp [encR, encRw_iff] at h; simp [Prod.ext_iff, h]
noncomputable def Q (args : LA) (hin : LO) : Option (Bool × Vec (IK .u8) × Int × Int) := ofC encA (un4 F) (args, hin)
theorem wrap : F = fun y1 y2 y3 y4 => Q [.c (.p 0 0), vi y1] [.box [cl y2, ci y3, ci y4]] := by funext y1 y2 y3 y4; exact Eq.symm (ofC_enc encAI _ (y1, y2, y3, y4))
noncomputable abbrev O (Q0 : LA → LO → Option (Int × Vec (IK .u8) × Int × Int)) : Orc := mkO [] [eE Try.prog 59 [true, false] false [true] spec_l01Below_sb3e9.encR Q0] []
noncomputable def L : Lor := fun _ _ _ _ => Option.none
theorem main {Q0} {ρ : Type} {K : AV → LO → Option ρ} {a1 a2 a3 a4} : exC Try.prog (O Q0) L [] 0 (bodyOf Try.f94) (entry 9 [.c (.p 0 0), vi a1] [.box [cl a2, ci a3, ci a4]] [true]) (finO Try.prog Try.f94.results.toList 1 [true] [] K) =
    B (fun y1 y2 y3 y4 => Q0 [.c (.p 0 0), vi y1] [.box [cl y2, ci y3, ci y4]]) a1 a2 a3 a4 (fun x1 x2 x3 x4 => K (vb x1) [.box [cl x2, ci x3, ci x4]]) := by kernel_rfl
theorem Gok : (O spec_l01Below_sb3e9.Q).ok Try.prog := mkO_ok (by exact trivial) (by exact ⟨eE_ok (fun h => by cases h) spec_l01Below_sb3e9.ac, trivial⟩)
theorem acc : ∀ t x, un4 F t = some x → ACc Try.prog 94 (encA t).1 (encA t).2 true [true] fun rv obs => (rv, obs) = encR x := accT2 (T := Int × Vec (IK .u8) × Int × Int) (F := un4 F) (L := L) (cmds := []) (body := (bodyOf Try.f94)) 1 (fun _ => rfl) Gok hmT Try.func94 (by kernel_rfl) (by kernel_rfl) (by rw [show atomsL [] 0 (bodyOf Try.f94) = [] by kernel_rfl]; exact Lor.ok_nil _ _) (fun t => by refine main.trans ?_; rw [← spec_l01Below_sb3e9.wrap]; exact congrArg (B _ _ _ _ _) (fx4 fun t => ofC_enc encRI some t))
theorem ac : ∀ a h x, Q a h = some x → AC Try.prog 94 a h true [true] fun rv obs => (rv, obs) = encR x := acT2 (body := (bodyOf Try.f94)) Try.func94 (by kernel_rfl) (by kernel_rfl) acc
end spec_l01Once_sb3e9
/-! loop.example/g00073/spec.l16Raws -/
namespace spec_l16Raws_s0451
noncomputable def B1 {ρ : Type} (C1 : Int → YU → Int → Int → Option (Int × Vec (IK .u8) × Int × Int)) (v1 : YU) (v2 : Int) (v3 : Int) (v4 : Vec YR) (W : YU → Int → Int → YVR → Option ρ) (K2 : YU → Int → Int → YVR → Option ρ) : Option ρ :=
  (C1 (2 : Int) v1 v2 v3).bind fun r4 => sel (decide ((v4.n : Int) < (wr ((120 : Int) + r4.1)))) (chk (decide ((v4.n + (Vec.lit [((4 : Int), ByteArray.empty, ByteArray.empty, ByteArray.empty)] : Vec YR).n) * 57 ≤ maxN)) (W r4.2.1 r4.2.2.1 r4.2.2.2 (Vec.app v4 (Vec.lit [((4 : Int), ByteArray.empty, ByteArray.empty, ByteArray.empty)] : Vec YR)))) (K2 r4.2.1 r4.2.2.1 r4.2.2.2 v4)
noncomputable def F1 {ρ : Type} : Nat → YU → Int → Int → YVR → (YU → Int → Int → YVR → Option ρ) → Option ρ
  | 0, _, _, _, _, _ => none
  | k + 1, v1, v2, v3, v4, K2 => B1 spec_l01Below_sb3e9.F v1 v2 v3 v4 (fun v1' v2' v3' v4' => F1 k v1' v2' v3' v4' K2) K2
noncomputable def B0 {ρ : Type} (C1 : Int → YU → Int → Int → Option (Int × Vec (IK .u8) × Int × Int)) (C2 : YU → Int → Int → Option (Int × ByteArray × ByteArray × ByteArray × Vec (IK .u8) × Int × Int)) (v1 : Int) (v2 : YU) (v3 : Int) (v4 : Int) (v5 : Vec YR) (W : Int → YU → Int → Int → YVR → Option ρ) (K0 : YU → Int → Int → YVR → Option ρ) : Option ρ :=
  (C1 (7 : Int) v2 v3 v4).bind fun r2 => sel (decide (v1 < r2.1)) ((C2 r2.2.1 r2.2.2.1 r2.2.2.2).bind fun r3 => chk (decide ((v5.n + (Vec.lit [(r3.1, r3.2.1, r3.2.2.1, r3.2.2.2.1)] : Vec YR).n) * 57 ≤ maxN)) (W (wr (v1 + (1 : Int))) r3.2.2.2.2.1 r3.2.2.2.2.2.1 r3.2.2.2.2.2.2 (Vec.app v5 (Vec.lit [(r3.1, r3.2.1, r3.2.2.1, r3.2.2.2.1)] : Vec YR)))) (K0 r2.2.1 r2.2.2.1 r2.2.2.2 v5)
noncomputable def F0 {ρ : Type} : Nat → Int → YU → Int → Int → YVR → (YU → Int → Int → YVR → Option ρ) → Option ρ
  | 0, _, _, _, _, _, _ => none
  | k + 1, v1, v2, v3, v4, v5, K0 => B0 spec_l01Below_sb3e9.F spec_l16Raw_s0451.F v1 v2 v3 v4 v5 (fun v1' v2' v3' v4' v5' => F0 k v1' v2' v3' v4' v5' K0) K0
noncomputable def B {ρ : Type} (C0 : Int → YU → Int → Int → Option (Bool × Vec (IK .u8) × Int × Int)) (L0 : Int → YU → Int → Int → YVR → (YU → Int → Int → YVR → Option ρ) → Option ρ) (L1 : YU → Int → Int → YVR → (YU → Int → Int → YVR → Option ρ) → Option ρ) (a1 : YU) (a2 : Int) (a3 : Int) (K : YU → Int → Int → YVR → Option ρ) : Option ρ :=
  L0 (0 : Int) a1 a2 a3 (Vec.nil : Vec YR) (fun e01 e02 e03 e04 => (C0 (50 : Int) e01 e02 e03).bind fun r1 => sel (r1.1) (L1 r1.2.1 r1.2.2.1 r1.2.2.2 e04 (fun e11 e12 e13 e14 => K e11 e12 e13 e14)) (K r1.2.1 r1.2.2.1 r1.2.2.2 e04))
noncomputable def F (a1 : YU) (a2 : Int) (a3 : Int) : Option (Vec (IK .u8) × Int × Int × YVR) := B spec_l01Once_sb3e9.F (F0 fuelN) (F1 fuelN) a1 a2 a3 (fun x1 x2 x3 x4 => some (x1, x2, x3, x4))
def encA (t : Vec (IK .u8) × Int × Int) : LA × LO := ([.c (.p 0 0)], [.box [cl t.1, ci t.2.1, ci t.2.2]])
def encR (x : Vec (IK .u8) × Int × Int × YVR) : AV × LO := (.c (.h 1), [.box [cl x.1, ci x.2.1, ci x.2.2.1], ro x.2.2.2])
theorem encAI (a b) (h : encA a = encA b) : a = b := by simp [encA, encRw_iff] at h; simp [Prod.ext_iff, h]
theorem encRI (a b) (h : encR a = encR b) : a = b := by simp [encR, encRw_iff] at h; simp [Prod.ext_iff, h]
noncomputable def Q (args : LA) (hin : LO) : Option (Vec (IK .u8) × Int × Int × YVR) := ofC encA (un3 F) (args, hin)
theorem wrap : F = fun y1 y2 y3 => Q [.c (.p 0 0)] [.box [cl y1, ci y2, ci y3]] := by funext y1 y2 y3; exact Eq.symm (ofC_enc encAI _ (y1, y2, y3))
noncomputable abbrev O (Q0 : LA → LO → Option (Bool × Vec (IK .u8) × Int × Int)) (Q1 : LA → LO → Option (Int × Vec (IK .u8) × Int × Int)) (Q2 : LA → LO → Option (Int × ByteArray × ByteArray × ByteArray × Vec (IK .u8) × Int × Int)) : Orc := mkO [] [eE Try.prog 94 [true, false] false [true] spec_l01Once_sb3e9.encR Q0, eE Try.prog 59 [true, false] false [true] spec_l01Below_sb3e9.encR Q1, eE Try.prog 93 [true] false [true] spec_l16Raw_s0451.encR Q2] []
noncomputable def c0 : Code := loopC (atomN [] 0 (bodyOf Try.f56) 0)
noncomputable def c1 : Code := loopC (atomN [] 0 (bodyOf Try.f56) 1)
def ct0 : Cut := ⟨[0, 3, 4], [.ad (.s 3) 46]⟩
def lv0 : Exit → Cut
  | .exit 0 => ⟨[0, 3], []⟩
  | _ => ⟨[], []⟩
def k0_0 {ρ : Type} (K : Exit → St → Option ρ) (z1 : YU) (z2 : Int) (z3 : Int) (z4 : Vec YR) : Option ρ := K (.exit 0) (mkS 30 (lv0 (.exit 0)).live [.c (.p 0 0), .c (.h 1)] [.box [cl z1, ci z2, ci z3], ro z4] [true])
def ct1 : Cut := ⟨[0, 3], []⟩
def lv1 : Exit → Cut
  | .exit 2 => ⟨[3], []⟩
  | _ => ⟨[], []⟩
def k1_2 {ρ : Type} (K : Exit → St → Option ρ) (z1 : YU) (z2 : Int) (z3 : Int) (z4 : Vec YR) : Option ρ := K (.exit 2) (mkS 30 (lv1 (.exit 2)).live [.c (.h 1)] [.box [cl z1, ci z2, ci z3], ro z4] [true])
noncomputable def L (W1 : (ρ : Type) → LA → LO → (YU → Int → Int → YVR → Option ρ) → Option ρ) (W0 : (ρ : Type) → LA → LO → (YU → Int → Int → YVR → Option ρ) → Option ρ) : Lor := fun ρ j st K => sel (Nat.beq j 0) (cutO Try.prog 30 ct0.live 1 [true] ct0.cmds st fun avs obs => W0 ρ avs obs (k0_0 K)) (sel (Nat.beq j 1) (cutO Try.prog 30 ct1.live 1 [true] ct1.cmds st fun avs obs => W1 ρ avs obs (k1_2 K)) (Option.none))
theorem step0 {Q0 Q1 Q2 W1 W0} {ρ : Type} {K : Exit → St → Option ρ} {W : LA → LO → Option ρ} {v1 v2 v3 v4 v5} : exC Try.prog (O Q0 Q1 Q2) (L W1 W0) [] 1 c0 (mkS 30 ct0.live [.c (.p 0 0), .c (.h 1), vi v1] [.box [cl v2, ci v3, ci v4], ro v5] [true]) (bodyK Try.prog 30 1 [true] ct0 W lv0 K) =
    B0 (fun y1 y2 y3 y4 => Q1 [.c (.p 0 0), vi y1] [.box [cl y2, ci y3, ci y4]]) (fun y1 y2 y3 => Q2 [.c (.p 0 0)] [.box [cl y1, ci y2, ci y3]]) v1 v2 v3 v4 v5 (fun u1 u2 u3 u4 u5 => W [.c (.p 0 0), .c (.h 1), vi u1] [.box [cl u2, ci u3, ci u4], ro u5]) (k0_0 K) := by kernel_rfl
def enc0 (t : Int × Vec (IK .u8) × Int × Int × YVR) : LA × LO := ([.c (.p 0 0), .c (.h 1), vi t.1], [.box [cl t.2.1, ci t.2.2.1, ci t.2.2.2.1], ro t.2.2.2.2])
theorem enc0I (a b) (h : enc0 a = enc0 b) : a = b := by simp [enc0, encRw_iff] at h; simp [Prod.ext_iff, h]
noncomputable def V0 : (ρ : Type) → LA → LO → (YU → Int → Int → YVR → Option ρ) → Option ρ := fun ρ avs obs k0 => ofC enc0 (fun t => un5 (F0 fuelN) t k0) (avs, obs)
theorem V0_enc (ρ : Type) : F0 fuelN = fun w1 w2 w3 w4 w5 k0 => V0 ρ [.c (.p 0 0), .c (.h 1), vi w1] [.box [cl w2, ci w3, ci w4], ro w5] k0 := by funext w1 w2 w3 w4 w5 k0; exact Eq.symm (ofC_enc enc0I _ (w1, w2, w3, w4, w5))
theorem step1 {Q0 Q1 Q2 W1 W0} {ρ : Type} {K : Exit → St → Option ρ} {W : LA → LO → Option ρ} {v1 v2 v3 v4} : exC Try.prog (O Q0 Q1 Q2) (L W1 W0) [] 2 c1 (mkS 30 ct1.live [.c (.p 0 0), .c (.h 1)] [.box [cl v1, ci v2, ci v3], ro v4] [true]) (bodyK Try.prog 30 1 [true] ct1 W lv1 K) =
    B1 (fun y1 y2 y3 y4 => Q1 [.c (.p 0 0), vi y1] [.box [cl y2, ci y3, ci y4]]) v1 v2 v3 v4 (fun u1 u2 u3 u4 => W [.c (.p 0 0), .c (.h 1)] [.box [cl u1, ci u2, ci u3], ro u4]) (k1_2 K) := by kernel_rfl
def enc1 (t : Vec (IK .u8) × Int × Int × YVR) : LA × LO := ([.c (.p 0 0), .c (.h 1)], [.box [cl t.1, ci t.2.1, ci t.2.2.1], ro t.2.2.2])
theorem enc1I (a b) (h : enc1 a = enc1 b) : a = b := by simp [enc1, encRw_iff] at h; simp [Prod.ext_iff, h]
noncomputable def V1 : (ρ : Type) → LA → LO → (YU → Int → Int → YVR → Option ρ) → Option ρ := fun ρ avs obs k2 => ofC enc1 (fun t => un4 (F1 fuelN) t k2) (avs, obs)
theorem V1_enc (ρ : Type) : F1 fuelN = fun w1 w2 w3 w4 k2 => V1 ρ [.c (.p 0 0), .c (.h 1)] [.box [cl w1, ci w2, ci w3], ro w4] k2 := by funext w1 w2 w3 w4 k2; exact Eq.symm (ofC_enc enc1I _ (w1, w2, w3, w4))
theorem main {Q0 Q1 Q2 W1 W0} {ρ : Type} {K : AV → LO → Option ρ} {a1 a2 a3} : exC Try.prog (O Q0 Q1 Q2) (L W1 W0) [] 0 (bodyOf Try.f56) (entry 30 [.c (.p 0 0)] [.box [cl a1, ci a2, ci a3]] [true]) (finO Try.prog Try.f56.results.toList 1 [true] [] K) =
    B (fun y1 y2 y3 y4 => Q0 [.c (.p 0 0), vi y1] [.box [cl y2, ci y3, ci y4]]) (fun w1 w2 w3 w4 w5 k0 => W0 ρ [.c (.p 0 0), .c (.h 1), vi w1] [.box [cl w2, ci w3, ci w4], ro w5] k0) (fun w1 w2 w3 w4 k2 => W1 ρ [.c (.p 0 0), .c (.h 1)] [.box [cl w1, ci w2, ci w3], ro w4] k2) a1 a2 a3 (fun x1 x2 x3 x4 => K (.c (.h 1)) [.box [cl x1, ci x2, ci x3], ro x4]) := by kernel_rfl
theorem Gok : (O spec_l01Once_sb3e9.Q spec_l01Below_sb3e9.Q spec_l16Raw_s0451.Q).ok Try.prog := mkO_ok (by exact trivial) (by exact ⟨eE_ok (fun h => by cases h) spec_l01Once_sb3e9.ac, eE_ok (fun h => by cases h) spec_l01Below_sb3e9.ac, eE_ok (fun h => by cases h) spec_l16Raw_s0451.ac, trivial⟩)
theorem ok1 : OkL Try.prog (L V1 V0) 1 (.loop c1) := fun ρ st K r h => loop_ok (ct := ct1) (lv := lv1) (L := (L V1 V0)) Gok hmT (by rw [show atomsL [] 2 c1 = [] by kernel_rfl]; exact Lor.ok_nil _ _) enc1I (fun k t => un4 (F1 k) t (k1_2 K)) (fun t => rfl) (fun k t => by refine step1.trans ?_; rw [← spec_l01Below_sb3e9.wrap]; exact congrFun (congrArg (B1 _ _ _ _ _) (fx4 fun t => ofC_enc enc1I _ t)) _) (fun _ => fuelN) h
theorem ok0 : OkL Try.prog (L V1 V0) 0 (.loop c0) := fun ρ st K r h => loop_ok (ct := ct0) (lv := lv0) (L := (L V1 V0)) Gok hmT (by rw [show atomsL [] 1 c0 = [] by kernel_rfl]; exact Lor.ok_nil _ _) enc0I (fun k t => un5 (F0 k) t (k0_0 K)) (fun t => rfl) (fun k t => by refine step0.trans ?_; rw [← spec_l01Below_sb3e9.wrap, ← spec_l16Raw_s0451.wrap]; exact congrFun (congrArg (B0 _ _ _ _ _ _ _) (fx5 fun t => ofC_enc enc0I _ t)) _) (fun _ => fuelN) h
theorem e : atomsL [] 0 (bodyOf Try.f56) = [(0, 0, .loop c0), (1, 1, .loop c1)] := by kernel_rfl
theorem acc : ∀ t x, un3 F t = some x → ACc Try.prog 56 (encA t).1 (encA t).2 true [true] fun rv obs => (rv, obs) = encR x := accT2 (T := Vec (IK .u8) × Int × Int) (F := un3 F) (L := (L V1 V0)) (cmds := []) (body := (bodyOf Try.f56)) 1 (fun _ => rfl) Gok hmT Try.func56 (by kernel_rfl) (by kernel_rfl) (by rw [e]; exact Lor.ok_cons ok0 (Lor.ok_cons ok1 (Lor.ok_nil _ _))) (fun t => by refine main.trans ?_; rw [← spec_l01Once_sb3e9.wrap, ← V0_enc, ← V1_enc]; exact congrArg (B _ _ _ _ _ _) (fx4 fun t => ofC_enc encRI some t))
theorem ac : ∀ a h x, Q a h = some x → AC Try.prog 56 a h true [true] fun rv obs => (rv, obs) = encR x := acT2 (body := (bodyOf Try.f56)) Try.func56 (by kernel_rfl) (by kernel_rfl) acc
end spec_l16Raws_s0451
/-! loop.example/g00073/spec.DrawPutRaws -/
namespace spec_DrawPutRaws
noncomputable def B {ρ : Type} (C0 : YU → Option (Vec (IK .u8) × Int × Int)) (C1 : YU → Int → Int → Option (Vec (IK .u8) × Int × Int × YVF)) (C2 : YU → Int → Int → Option (Vec (IK .u8) × Int × Int × YVR)) (a1 : YU) (K : YVF → YVR → Option ρ) : Option ρ :=
  (C0 a1).bind fun r1 => (C1 r1.1 r1.2.1 r1.2.2).bind fun r2 => (C2 r2.1 r2.2.1 r2.2.2.1).bind fun r3 => K r2.2.2.2 r3.2.2.2
noncomputable def F (a1 : YU) : Option (YVF × YVR) := B spec_l01New.F spec_l16Disk_s0451.F spec_l16Raws_s0451.F a1 (fun x1 x2 => some (x1, x2))
def encA (t : YU) : LA := [vl t]
def encR (x : YVF × YVR) : AV × LO := (.tup [.a [.h 0], .c (.h 1)], [ro x.1, ro x.2])
theorem encAI (a b) (h : encA a = encA b) : a = b := by simpa [encA, encRw_iff] using h
theorem encRI (a b) (h : encR a = encR b) : a = b := by simp [encR, encRw_iff] at h; simp [Prod.ext_iff, h]
noncomputable def Q (args : LA) : Option (YVF × YVR) := ofC encA (un1 F) args
theorem wrap : F = fun y1 => Q [vl y1] := by funext y1; exact Eq.symm (ofC_enc encAI _ (y1))
noncomputable abbrev O (Q0 : LA → Option (Vec (IK .u8) × Int × Int)) (Q1 : LA → LO → Option (Vec (IK .u8) × Int × Int × YVF)) (Q2 : LA → LO → Option (Vec (IK .u8) × Int × Int × YVR)) : Orc := mkO [qE 51 true spec_l01New.encR Q0] [eE Try.prog 50 [true] false [true] spec_l16Disk_s0451.encR Q1, eE Try.prog 56 [true] false [true] spec_l16Raws_s0451.encR Q2] []
noncomputable def L : Lor := fun _ _ _ _ => Option.none
theorem main {Q0 Q1 Q2} {ρ : Type} {K : AV → LO → Option ρ} {a1} : exC Try.prog (O Q0 Q1 Q2) L [] 0 (bodyOf Try.f20) (entry 13 [vl a1] [] []) (finO Try.prog Try.f20.results.toList 0 [] [] K) =
    B (fun y1 => Q0 [vl y1]) (fun y1 y2 y3 => Q1 [.c (.p 0 0)] [.box [cl y1, ci y2, ci y3]]) (fun y1 y2 y3 => Q2 [.c (.p 0 0)] [.box [cl y1, ci y2, ci y3]]) a1 (fun x1 x2 => K (.tup [.a [.h 0], .c (.h 1)]) [ro x1, ro x2]) := by kernel_rfl
theorem Gok : (O spec_l01New.Q spec_l16Disk_s0451.Q spec_l16Raws_s0451.Q).ok Try.prog := mkO_ok (by exact ⟨qE_ok spec_l01New.ac, trivial⟩) (by exact ⟨eE_ok (fun h => by cases h) spec_l16Disk_s0451.ac, eE_ok (fun h => by cases h) spec_l16Raws_s0451.ac, trivial⟩)
theorem acc : ∀ t x, un1 F t = some x → ACc Try.prog 20 (encA t) [] true [] fun rv obs => (rv, obs) = encR x := accT (T := Vec (IK .u8)) (F := un1 F) (L := L) (cmds := []) (body := (bodyOf Try.f20)) Gok hmT Try.func20 (by kernel_rfl) (by kernel_rfl) (by rw [show atomsL [] 0 (bodyOf Try.f20) = [] by kernel_rfl]; exact Lor.ok_nil _ _) (fun t => by refine main.trans ?_; rw [← spec_l01New.wrap, ← spec_l16Disk_s0451.wrap, ← spec_l16Raws_s0451.wrap]; exact congrArg (B _ _ _ _) (fx2 fun t => ofC_enc encRI some t))
theorem ac : ∀ a x, Q a = some x → AC Try.prog 20 a [] false [] fun rv obs => (rv, obs) = encR x := acF (body := (bodyOf Try.f20)) Try.func20 (by kernel_rfl) (by kernel_rfl) acc fun x => ⟨by simp [encR, AV.Flat, K.Flat, C.Flat], flc (flat_rw rfl _) (flc (flat_rw rfl _) (fl0))⟩
end spec_DrawPutRaws
/-! loop.example/g00073/impl.PutRaws -/
namespace impl_PutRaws
noncomputable def B0 {ρ : Type} (C1 : YVF → Option YVF) (C2 : Int → ByteArray → ByteArray → ByteArray → YVF → Option (Bool × YVF)) (v1 : Vec YR) (v2 : Vec YR) (v3 : Int) (v4 : Int) (v5 : Vec YF) (W : YVR → YVR → Int → Int → YVF → Option ρ) (K0 : YVR → YVF → Option ρ) (Kr : Int → YVF → Option ρ) : Option ρ :=
  sel (decide (v4 < v3)) (chk (decide (0 ≤ v4 ∧ v4 < (v2.n : Int))) ((C1 v5).bind fun r3 => (C2 ((v2.g v4.toNat).1) ((v2.g v4.toNat).2.1) ((v2.g v4.toNat).2.2.1) ((v2.g v4.toNat).2.2.2) r3).bind fun r4 => sel ((!r4.1)) (Kr v4 v5) (W v1 v2 v3 (wr (v4 + (1 : Int))) r4.2))) (K0 v1 v5)
noncomputable def F0 {ρ : Type} : Nat → YVR → YVR → Int → Int → YVF → (YVR → YVF → Option ρ) → (Int → YVF → Option ρ) → Option ρ
  | 0, _, _, _, _, _, _, _ => none
  | k + 1, v1, v2, v3, v4, v5, K0, Kr => B0 impl_copyDisk.F impl_Disk_do_s08b6.F v1 v2 v3 v4 v5 (fun v1' v2' v3' v4' v5' => F0 k v1' v2' v3' v4' v5' K0 Kr) K0 Kr
noncomputable def B {ρ : Type} (C0 : YVF → Option Bool) (C1 : YVF → Option YVF) (L0 : YVR → YVR → Int → Int → YVF → (YVR → YVF → Option ρ) → (Int → YVF → Option ρ) → Option ρ) (a1 : Vec YF) (a2 : Vec YR) (K : Int → YVF → Option ρ) : Option ρ :=
  sel (decide ((120 : Int) < (a2.n : Int))) (K (0 : Int) (Vec.nil : Vec YF)) ((C0 a1).bind fun r1 => sel ((!r1)) (K (0 : Int) (Vec.nil : Vec YF)) ((C1 a1).bind fun r2 => L0 a2 a2 (a2.n : Int) (0 : Int) r2 (fun e01 e02 => K (e01.n : Int) e02) (fun x01 x02 => K x01 x02)))
noncomputable def F (a1 : Vec YF) (a2 : Vec YR) : Option (Int × YVF) := B impl_DiskOk.F impl_copyDisk.F (F0 fuelN) a1 a2 (fun x1 x2 => some (x1, x2))
def encA (t : YVF × YVR) : LA := [.a [cl t.1], vl t.2]
def encR (x : Int × YVF) : AV × LO := (.tup [.a [.h 0], .c (ci x.1)], [ro x.2])
theorem encAI (a b) (h : encA a = encA b) : a = b := by simp [encA, encRw_iff] at h; simp [Prod.ext_iff, h]
theorem encRI (a b) (h : encR a = encR b) : a = b := by simp [encR, encRw_iff] at h; simp [Prod.ext_iff, h]
noncomputable def Q (args : LA) : Option (Int × YVF) := ofC encA (un2 F) args
theorem wrap : F = fun y1 y2 => Q [.a [cl y1], vl y2] := by funext y1 y2; exact Eq.symm (ofC_enc encAI _ (y1, y2))
noncomputable abbrev O (Q0 : LA → Option Bool) (Q1 : LA → Option YVF) (Q2 : LA → LO → Option (Bool × YVF)) : Orc := mkO [qE 26 false impl_DiskOk.encR Q0, qE 53 false impl_copyDisk.encR Q1] [eE Try.prog 54 [true, false] false [true, false] impl_Disk_do_s08b6.encR Q2] []
noncomputable def c0 : Code := loopC (atomN [] 0 (bodyOf Try.f21) 0)
def ct0 : Cut := ⟨[1, 4, 6, 21, 22, 23], []⟩
def lv0 : Exit → Cut
  | .exit 0 => ⟨[1, 4, 6], []⟩
  | .ret => ⟨[4, 5], []⟩
  | _ => ⟨[], []⟩
def k0_0 {ρ : Type} (K : Exit → St → Option ρ) (z1 : Vec YR) (z2 : Vec YF) : Option ρ := K (.exit 0) (mkS 40 (lv0 (.exit 0)).live [vl z1, .c (.p 0 0), .c (.p 1 0)] [.box [.z], .box [.h 2], ro z2] [])
def k0_r {ρ : Type} (K : Exit → St → Option ρ) (z1 : Int) (z2 : Vec YF) : Option ρ := K .ret (mkS 40 (lv0 .ret).live [.c (.p 0 0), vi z1] [.box [.h 1], ro z2] [])
noncomputable def L (W0 : (ρ : Type) → LA → LO → (YVR → YVF → Option ρ) → (Int → YVF → Option ρ) → Option ρ) : Lor := fun ρ j st K => sel (Nat.beq j 0) (cutO Try.prog 40 ct0.live 0 [] ct0.cmds st fun avs obs => W0 ρ avs obs (k0_0 K) (k0_r K)) (Option.none)
theorem step0 {Q0 Q1 Q2 W0} {ρ : Type} {K : Exit → St → Option ρ} {W : LA → LO → Option ρ} {v1 v2 v3 v4 v5} : exC Try.prog (O Q0 Q1 Q2) (L W0) [] 1 c0 (mkS 40 ct0.live [vl v1, .c (.p 0 0), .c (.p 1 0), vl v2, vi v3, vi v4] [.box [.z], .box [.h 2], ro v5] []) (bodyK Try.prog 40 0 [] ct0 W lv0 K) =
    B0 (fun y1 => Q1 [.a [cl y1]]) (fun y1 y2 y3 y4 y5 => Q2 [.c (.p 0 0), .a [ci y1, cs y2, cs y3, cs y4]] [.box [.h 1], ro y5]) v1 v2 v3 v4 v5 (fun u1 u2 u3 u4 u5 => W [vl u1, .c (.p 0 0), .c (.p 1 0), vl u2, vi u3, vi u4] [.box [.z], .box [.h 2], ro u5]) (k0_0 K) (k0_r K) := by kernel_rfl
def enc0 (t : YVR × YVR × Int × Int × YVF) : LA × LO := ([vl t.1, .c (.p 0 0), .c (.p 1 0), vl t.2.1, vi t.2.2.1, vi t.2.2.2.1], [.box [.z], .box [.h 2], ro t.2.2.2.2])
theorem enc0I (a b) (h : enc0 a = enc0 b) : a = b := by simp [enc0, encRw_iff] at h; simp [Prod.ext_iff, h]
noncomputable def V0 : (ρ : Type) → LA → LO → (YVR → YVF → Option ρ) → (Int → YVF → Option ρ) → Option ρ := fun ρ avs obs k0 kr => ofC enc0 (fun t => un5 (F0 fuelN) t k0 kr) (avs, obs)
theorem V0_enc (ρ : Type) : F0 fuelN = fun w1 w2 w3 w4 w5 k0 kr => V0 ρ [vl w1, .c (.p 0 0), .c (.p 1 0), vl w2, vi w3, vi w4] [.box [.z], .box [.h 2], ro w5] k0 kr := by funext w1 w2 w3 w4 w5 k0 kr; exact Eq.symm (ofC_enc enc0I _ (w1, w2, w3, w4, w5))
theorem main {Q0 Q1 Q2 W0} {ρ : Type} {K : AV → LO → Option ρ} {a1 a2} : exC Try.prog (O Q0 Q1 Q2) (L W0) [] 0 (bodyOf Try.f21) (entry 40 [.a [cl a1], vl a2] [] []) (finO Try.prog Try.f21.results.toList 0 [] [.ad (.p 4 0) 33] K) =
    B (fun y1 => Q0 [.a [cl y1]]) (fun y1 => Q1 [.a [cl y1]]) (fun w1 w2 w3 w4 w5 k0 kr => W0 ρ [vl w1, .c (.p 0 0), .c (.p 1 0), vl w2, vi w3, vi w4] [.box [.z], .box [.h 2], ro w5] k0 kr) a1 a2 (fun x1 x2 => K (.tup [.a [.h 0], .c (ci x1)]) [ro x2]) := by kernel_rfl
theorem Gok : (O impl_DiskOk.Q impl_copyDisk.Q impl_Disk_do_s08b6.Q).ok Try.prog := mkO_ok (by exact ⟨qE_ok impl_DiskOk.ac, qE_ok impl_copyDisk.ac, trivial⟩) (by exact ⟨eE_ok (fun h => by cases h) impl_Disk_do_s08b6.ac, trivial⟩)
theorem ok0 : OkL Try.prog (L V0) 0 (.loop c0) := fun ρ st K r h => loop_ok (ct := ct0) (lv := lv0) (L := (L V0)) Gok hmT (by rw [show atomsL [] 1 c0 = [] by kernel_rfl]; exact Lor.ok_nil _ _) enc0I (fun k t => un5 (F0 k) t (k0_0 K) (k0_r K)) (fun t => rfl) (fun k t => by refine step0.trans ?_; rw [← impl_copyDisk.wrap, ← impl_Disk_do_s08b6.wrap]; exact congrFun (congrFun (congrArg (B0 _ _ _ _ _ _ _) (fx5 fun t => ofC_enc enc0I _ t)) _) _) (fun _ => fuelN) h
theorem e : atomsL [] 0 (bodyOf Try.f21) = [(0, 0, .loop c0)] := by kernel_rfl
theorem acc : ∀ t x, un2 F t = some x → ACc Try.prog 21 (encA t) [] true [] fun rv obs => (rv, obs) = encR x := accT (T := YVF × YVR) (F := un2 F) (L := (L V0)) (cmds := [.ad (.p 4 0) 33]) (body := (bodyOf Try.f21)) Gok hmT Try.func21 (by kernel_rfl) (by kernel_rfl) (by rw [e]; exact Lor.ok_cons ok0 (Lor.ok_nil _ _)) (fun t => by refine main.trans ?_; rw [← impl_DiskOk.wrap, ← impl_copyDisk.wrap, ← V0_enc]; exact congrArg (B _ _ _ _ _) (fx2 fun t => ofC_enc encRI some t))
theorem ac : ∀ a x, Q a = some x → AC Try.prog 21 a [] false [] fun rv obs => (rv, obs) = encR x := acF (body := (bodyOf Try.f21)) Try.func21 (by kernel_rfl) (by kernel_rfl) acc fun x => ⟨by simp [encR, AV.Flat, K.Flat, C.Flat], flc (flat_rw rfl _) (fl0)⟩
end impl_PutRaws
/-! loop.example/g00073/spec.PutRaws -/
namespace spec_PutRaws
noncomputable def B0 {ρ : Type} (C1 : YVF → Int → ByteArray → ByteArray → ByteArray → Option (Bool × YVF)) (v1 : Vec YR) (v2 : Int) (v3 : Vec YF) (W : YVR → Int → YVF → Option ρ) (K0 : YVR → YVF → Option ρ) (Kr : Int → YVF → Option ρ) : Option ρ :=
  sel (decide (v2 < (v1.n : Int))) (chk (decide (0 ≤ v2 ∧ v2 < (v1.n : Int))) ((C1 v3 ((v1.g v2.toNat).1) ((v1.g v2.toNat).2.1) ((v1.g v2.toNat).2.2.1) ((v1.g v2.toNat).2.2.2)).bind fun r2 => sel ((!r2.1)) (Kr v2 v3) (W v1 (wr (v2 + (1 : Int))) r2.2))) (K0 v1 v3)
noncomputable def F0 {ρ : Type} : Nat → YVR → Int → YVF → (YVR → YVF → Option ρ) → (Int → YVF → Option ρ) → Option ρ
  | 0, _, _, _, _, _ => none
  | k + 1, v1, v2, v3, K0, Kr => B0 spec_PutRaw.F v1 v2 v3 (fun v1' v2' v3' => F0 k v1' v2' v3' K0 Kr) K0 Kr
noncomputable def B {ρ : Type} (C0 : YVF → Option Bool) (L0 : YVR → Int → YVF → (YVR → YVF → Option ρ) → (Int → YVF → Option ρ) → Option ρ) (a1 : Vec YF) (a2 : Vec YR) (K : Int → YVF → Option ρ) : Option ρ :=
  (C0 a1).bind fun r1 => sel ((!r1)) (K (0 : Int) (Vec.nil : Vec YF)) (sel (decide ((120 : Int) < (a2.n : Int))) (K (0 : Int) (Vec.nil : Vec YF)) (chk (decide (a1.n * 33 ≤ maxN)) (L0 a2 (0 : Int) a1 (fun e01 e02 => K (e01.n : Int) e02) (fun x01 x02 => K x01 x02))))
noncomputable def F (a1 : Vec YF) (a2 : Vec YR) : Option (Int × YVF) := B spec_DiskOk.F (F0 fuelN) a1 a2 (fun x1 x2 => some (x1, x2))
def encA (t : YVF × YVR) : LA := [.a [cl t.1], vl t.2]
def encR (x : Int × YVF) : AV × LO := (.tup [.a [.h 0], .c (ci x.1)], [ro x.2])
theorem encAI (a b) (h : encA a = encA b) : a = b := by simp [encA, encRw_iff] at h; simp [Prod.ext_iff, h]
theorem encRI (a b) (h : encR a = encR b) : a = b := by simp [encR, encRw_iff] at h; simp [Prod.ext_iff, h]
noncomputable def Q (args : LA) : Option (Int × YVF) := ofC encA (un2 F) args
theorem wrap : F = fun y1 y2 => Q [.a [cl y1], vl y2] := by funext y1 y2; exact Eq.symm (ofC_enc encAI _ (y1, y2))
noncomputable abbrev O (Q0 : LA → Option Bool) (Q1 : LA → Option (Bool × YVF)) : Orc := mkO [qE 17 false spec_DiskOk.encR Q0, qE 57 false spec_PutRaw.encR Q1] [] []
noncomputable def c0 : Code := loopC (atomN [] 0 (bodyOf Try.f22) 0)
def ct0 : Cut := ⟨[1, 4, 6, 7], []⟩
def lv0 : Exit → Cut
  | .exit 0 => ⟨[1, 4, 6], []⟩
  | .ret => ⟨[4, 5], []⟩
  | _ => ⟨[], []⟩
def k0_0 {ρ : Type} (K : Exit → St → Option ρ) (z1 : Vec YR) (z2 : Vec YF) : Option ρ := K (.exit 0) (mkS 47 (lv0 (.exit 0)).live [vl z1, .c (.p 0 0), .c (.p 1 0)] [.box [.z], .box [.h 2], ro z2] [])
def k0_r {ρ : Type} (K : Exit → St → Option ρ) (z1 : Int) (z2 : Vec YF) : Option ρ := K .ret (mkS 47 (lv0 .ret).live [.c (.p 0 0), vi z1] [.box [.h 1], ro z2] [])
noncomputable def L (W0 : (ρ : Type) → LA → LO → (YVR → YVF → Option ρ) → (Int → YVF → Option ρ) → Option ρ) : Lor := fun ρ j st K => sel (Nat.beq j 0) (cutO Try.prog 47 ct0.live 0 [] ct0.cmds st fun avs obs => W0 ρ avs obs (k0_0 K) (k0_r K)) (Option.none)
theorem step0 {Q0 Q1 W0} {ρ : Type} {K : Exit → St → Option ρ} {W : LA → LO → Option ρ} {v1 v2 v3} : exC Try.prog (O Q0 Q1) (L W0) [] 1 c0 (mkS 47 ct0.live [vl v1, .c (.p 0 0), .c (.p 1 0), vi v2] [.box [.z], .box [.h 2], ro v3] []) (bodyK Try.prog 47 0 [] ct0 W lv0 K) =
    B0 (fun y1 y2 y3 y4 y5 => Q1 [.a [cl y1], .a [ci y2, cs y3, cs y4, cs y5]]) v1 v2 v3 (fun u1 u2 u3 => W [vl u1, .c (.p 0 0), .c (.p 1 0), vi u2] [.box [.z], .box [.h 2], ro u3]) (k0_0 K) (k0_r K) := by kernel_rfl
def enc0 (t : YVR × Int × YVF) : LA × LO := ([vl t.1, .c (.p 0 0), .c (.p 1 0), vi t.2.1], [.box [.z], .box [.h 2], ro t.2.2])
theorem enc0I (a b) (h : enc0 a = enc0 b) : a = b := by simp [enc0, encRw_iff] at h; simp [Prod.ext_iff, h]
noncomputable def V0 : (ρ : Type) → LA → LO → (YVR → YVF → Option ρ) → (Int → YVF → Option ρ) → Option ρ := fun ρ avs obs k0 kr => ofC enc0 (fun t => un3 (F0 fuelN) t k0 kr) (avs, obs)
theorem V0_enc (ρ : Type) : F0 fuelN = fun w1 w2 w3 k0 kr => V0 ρ [vl w1, .c (.p 0 0), .c (.p 1 0), vi w2] [.box [.z], .box [.h 2], ro w3] k0 kr := by funext w1 w2 w3 k0 kr; exact Eq.symm (ofC_enc enc0I _ (w1, w2, w3))
theorem main {Q0 Q1 W0} {ρ : Type} {K : AV → LO → Option ρ} {a1 a2} : exC Try.prog (O Q0 Q1) (L W0) [] 0 (bodyOf Try.f22) (entry 47 [.a [cl a1], vl a2] [] []) (finO Try.prog Try.f22.results.toList 0 [] [.ad (.p 4 0) 33] K) =
    B (fun y1 => Q0 [.a [cl y1]]) (fun w1 w2 w3 k0 kr => W0 ρ [vl w1, .c (.p 0 0), .c (.p 1 0), vi w2] [.box [.z], .box [.h 2], ro w3] k0 kr) a1 a2 (fun x1 x2 => K (.tup [.a [.h 0], .c (ci x1)]) [ro x2]) := by kernel_rfl
theorem Gok : (O spec_DiskOk.Q spec_PutRaw.Q).ok Try.prog := mkO_ok (by exact ⟨qE_ok spec_DiskOk.ac, qE_ok spec_PutRaw.ac, trivial⟩) (by exact trivial)
theorem ok0 : OkL Try.prog (L V0) 0 (.loop c0) := fun ρ st K r h => loop_ok (ct := ct0) (lv := lv0) (L := (L V0)) Gok hmT (by rw [show atomsL [] 1 c0 = [] by kernel_rfl]; exact Lor.ok_nil _ _) enc0I (fun k t => un3 (F0 k) t (k0_0 K) (k0_r K)) (fun t => rfl) (fun k t => by refine step0.trans ?_; rw [← spec_PutRaw.wrap]; exact congrFun (congrFun (congrArg (B0 _ _ _ _) (fx3 fun t => ofC_enc enc0I _ t)) _) _) (fun _ => fuelN) h
theorem e : atomsL [] 0 (bodyOf Try.f22) = [(0, 0, .loop c0)] := by kernel_rfl
theorem acc : ∀ t x, un2 F t = some x → ACc Try.prog 22 (encA t) [] true [] fun rv obs => (rv, obs) = encR x := accT (T := YVF × YVR) (F := un2 F) (L := (L V0)) (cmds := [.ad (.p 4 0) 33]) (body := (bodyOf Try.f22)) Gok hmT Try.func22 (by kernel_rfl) (by kernel_rfl) (by rw [e]; exact Lor.ok_cons ok0 (Lor.ok_nil _ _)) (fun t => by refine main.trans ?_; rw [← spec_DiskOk.wrap, ← V0_enc]; exact congrArg (B _ _ _ _) (fx2 fun t => ofC_enc encRI some t))
theorem ac : ∀ a x, Q a = some x → AC Try.prog 22 a [] false [] fun rv obs => (rv, obs) = encR x := acF (body := (bodyOf Try.f22)) Try.func22 (by kernel_rfl) (by kernel_rfl) acc fun x => ⟨by simp [encR, AV.Flat, K.Flat, C.Flat], flc (flat_rw rfl _) (fl0)⟩
end spec_PutRaws
/-! loop.example/g00073/spec.DrawPlaces -/
namespace spec_DrawPlaces
noncomputable def B0 {ρ : Type} (C2 : Int → YU → Int → Int → Option (Int × Vec (IK .u8) × Int × Int)) (v1 : Int) (v2 : YU) (v3 : Int) (v4 : Int) (v5 : YI) (W : Int → YU → Int → Int → YI → Option ρ) (K0 : YI → Option ρ) : Option ρ :=
  sel (decide (v1 < (12 : Int))) ((C2 (10000 : Int) v2 v3 v4).bind fun r3 => chk (decide ((v5.n + (Vec.lit [r3.1] : YI).n) * 9 ≤ maxN)) (W (wr (v1 + (1 : Int))) r3.2.1 r3.2.2.1 r3.2.2.2 (Vec.app v5 (Vec.lit [r3.1] : YI)))) (K0 v5)
noncomputable def F0 {ρ : Type} : Nat → Int → YU → Int → Int → YI → (YI → Option ρ) → Option ρ
  | 0, _, _, _, _, _, _ => none
  | k + 1, v1, v2, v3, v4, v5, K0 => B0 spec_l01Below_sb3e9.F v1 v2 v3 v4 v5 (fun v1' v2' v3' v4' v5' => F0 k v1' v2' v3' v4' v5' K0) K0
noncomputable def B {ρ : Type} (C0 : YU → Option (Vec (IK .u8) × Int × Int)) (C1 : YU → Int → Int → Option (Int × Vec (IK .u8) × Int × Int)) (L0 : Int → YU → Int → Int → YI → (YI → Option ρ) → Option ρ) (a1 : YU) (K : YI → Option ρ) : Option ρ :=
  (C0 a1).bind fun r1 => (C1 r1.1 r1.2.1 r1.2.2).bind fun r2 => L0 (0 : Int) r2.2.1 r2.2.2.1 r2.2.2.2 (Vec.nil : YI) (fun e01 => K e01)
noncomputable def F (a1 : YU) : Option YI := B spec_l01New.F spec_l01Byte_s0451.F (F0 fuelN) a1 (fun x1 => some (x1))
def encA (t : YU) : LA := [vl t]
def encR (x : YI) : AV × LO := (.c (.h 0), [ro x])
theorem encAI (a b) (h : encA a = encA b) : a = b := by simpa [encA, encRw_iff] using h
theorem encRI (a b) (h : encR a = encR b) : a = b := by simpa [encR, encRw_iff] using h
noncomputable def Q (args : LA) : Option YI := ofC encA (un1 F) args
theorem wrap : F = fun y1 => Q [vl y1] := by funext y1; exact Eq.symm (ofC_enc encAI _ (y1))
noncomputable abbrev O (Q0 : LA → Option (Vec (IK .u8) × Int × Int)) (Q1 : LA → LO → Option (Int × Vec (IK .u8) × Int × Int)) (Q2 : LA → LO → Option (Int × Vec (IK .u8) × Int × Int)) : Orc := mkO [qE 51 true spec_l01New.encR Q0] [eE Try.prog 58 [true] false [true] spec_l01Byte_s0451.encR Q1, eE Try.prog 59 [true, false] false [true] spec_l01Below_sb3e9.encR Q2] []
noncomputable def c0 : Code := loopC (atomN [] 0 (bodyOf Try.f23) 0)
def ct0 : Cut := ⟨[3, 4, 5], [.ad (.s 4) 51]⟩
def lv0 : Exit → Cut
  | .exit 0 => ⟨[4], []⟩
  | _ => ⟨[], []⟩
def k0_0 {ρ : Type} (K : Exit → St → Option ρ) (z1 : YI) : Option ρ := K (.exit 0) (mkS 21 (lv0 (.exit 0)).live [.c (.h 0)] [ro z1] [])
noncomputable def L (W0 : (ρ : Type) → LA → LO → (YI → Option ρ) → Option ρ) : Lor := fun ρ j st K => sel (Nat.beq j 0) (cutO Try.prog 21 ct0.live 0 [] ct0.cmds st fun avs obs => W0 ρ avs obs (k0_0 K)) (Option.none)
theorem step0 {Q0 Q1 Q2 W0} {ρ : Type} {K : Exit → St → Option ρ} {W : LA → LO → Option ρ} {v1 v2 v3 v4 v5} : exC Try.prog (O Q0 Q1 Q2) (L W0) [] 1 c0 (mkS 21 ct0.live [.c (.p 0 0), .c (.h 1), vi v1] [.box [cl v2, ci v3, ci v4], ro v5] []) (bodyK Try.prog 21 0 [] ct0 W lv0 K) =
    B0 (fun y1 y2 y3 y4 => Q2 [.c (.p 0 0), vi y1] [.box [cl y2, ci y3, ci y4]]) v1 v2 v3 v4 v5 (fun u1 u2 u3 u4 u5 => W [.c (.p 0 0), .c (.h 1), vi u1] [.box [cl u2, ci u3, ci u4], ro u5]) (k0_0 K) := by kernel_rfl
def enc0 (t : Int × Vec (IK .u8) × Int × Int × Vec Int) : LA × LO := ([.c (.p 0 0), .c (.h 1), vi t.1], [.box [cl t.2.1, ci t.2.2.1, ci t.2.2.2.1], ro t.2.2.2.2])
theorem enc0I (a b) (h : enc0 a = enc0 b) : a = b := by simp [enc0, encRw_iff] at h; simp [Prod.ext_iff, h]
noncomputable def V0 : (ρ : Type) → LA → LO → (YI → Option ρ) → Option ρ := fun ρ avs obs k0 => ofC enc0 (fun t => un5 (F0 fuelN) t k0) (avs, obs)
theorem V0_enc (ρ : Type) : F0 fuelN = fun w1 w2 w3 w4 w5 k0 => V0 ρ [.c (.p 0 0), .c (.h 1), vi w1] [.box [cl w2, ci w3, ci w4], ro w5] k0 := by funext w1 w2 w3 w4 w5 k0; exact Eq.symm (ofC_enc enc0I _ (w1, w2, w3, w4, w5))
theorem main {Q0 Q1 Q2 W0} {ρ : Type} {K : AV → LO → Option ρ} {a1} : exC Try.prog (O Q0 Q1 Q2) (L W0) [] 0 (bodyOf Try.f23) (entry 21 [vl a1] [] []) (finO Try.prog Try.f23.results.toList 0 [] [] K) =
    B (fun y1 => Q0 [vl y1]) (fun y1 y2 y3 => Q1 [.c (.p 0 0)] [.box [cl y1, ci y2, ci y3]]) (fun w1 w2 w3 w4 w5 k0 => W0 ρ [.c (.p 0 0), .c (.h 1), vi w1] [.box [cl w2, ci w3, ci w4], ro w5] k0) a1 (fun x1 => K (.c (.h 0)) [ro x1]) := by kernel_rfl
theorem Gok : (O spec_l01New.Q spec_l01Byte_s0451.Q spec_l01Below_sb3e9.Q).ok Try.prog := mkO_ok (by exact ⟨qE_ok spec_l01New.ac, trivial⟩) (by exact ⟨eE_ok (fun h => by cases h) spec_l01Byte_s0451.ac, eE_ok (fun h => by cases h) spec_l01Below_sb3e9.ac, trivial⟩)
theorem ok0 : OkL Try.prog (L V0) 0 (.loop c0) := fun ρ st K r h => loop_ok (ct := ct0) (lv := lv0) (L := (L V0)) Gok hmT (by rw [show atomsL [] 1 c0 = [] by kernel_rfl]; exact Lor.ok_nil _ _) enc0I (fun k t => un5 (F0 k) t (k0_0 K)) (fun t => rfl) (fun k t => by refine step0.trans ?_; rw [← spec_l01Below_sb3e9.wrap]; exact congrFun (congrArg (B0 _ _ _ _ _ _) (fx5 fun t => ofC_enc enc0I _ t)) _) (fun _ => fuelN) h
theorem e : atomsL [] 0 (bodyOf Try.f23) = [(0, 0, .loop c0)] := by kernel_rfl
theorem acc : ∀ t x, un1 F t = some x → ACc Try.prog 23 (encA t) [] true [] fun rv obs => (rv, obs) = encR x := accT (T := Vec (IK .u8)) (F := un1 F) (L := (L V0)) (cmds := []) (body := (bodyOf Try.f23)) Gok hmT Try.func23 (by kernel_rfl) (by kernel_rfl) (by rw [e]; exact Lor.ok_cons ok0 (Lor.ok_nil _ _)) (fun t => by refine main.trans ?_; rw [← spec_l01New.wrap, ← spec_l01Byte_s0451.wrap, ← V0_enc]; exact congrArg (B _ _ _ _) (fx1 fun t => ofC_enc encRI some t))
theorem ac : ∀ a x, Q a = some x → AC Try.prog 23 a [] false [] fun rv obs => (rv, obs) = encR x := acF (body := (bodyOf Try.f23)) Try.func23 (by kernel_rfl) (by kernel_rfl) acc fun x => ⟨by simp [encR, AV.Flat, K.Flat, C.Flat], flc (flat_rw rfl _) (fl0)⟩
end spec_DrawPlaces
/-! loop.example/g00073/impl.partMost -/
namespace impl_partMost
noncomputable def B {ρ : Type} (a1 : Vec YR) (a2 : Int) (K : Int → Option ρ) : Option ρ :=
  sel (decide (a2 < (a1.n : Int))) (chk (decide (0 ≤ a2 ∧ a2 < (a1.n : Int))) (sel (decide ((a1.g a2.toNat).1 = (1 : Int))) (chk (decide (0 ≤ a2 ∧ a2 < (a1.n : Int))) (K (((a1.g a2.toNat).2.2.2).size : Int))) (K (0 : Int)))) (K (0 : Int))
noncomputable def F (a1 : Vec YR) (a2 : Int) : Option Int := B a1 a2 (fun x1 => some (x1))
def encA (t : YVR × Int) : LA := [vl t.1, vi t.2]
def encR (x : Int) : AV × LO := (vi x, [])
theorem encAI (a b) (h : encA a = encA b) : a = b := by simp [encA, encRw_iff] at h; simp [Prod.ext_iff, h]
theorem encRI (a b) (h : encR a = encR b) : a = b := by simpa [encR, encRw_iff] using h
noncomputable def Q (args : LA) : Option Int := ofC encA (un2 F) args
theorem wrap : F = fun y1 y2 => Q [vl y1, vi y2] := by funext y1 y2; exact Eq.symm (ofC_enc encAI _ (y1, y2))
noncomputable abbrev O : Orc := mkO [] [] []
noncomputable def L : Lor := fun _ _ _ _ => Option.none
theorem main {ρ : Type} {K : AV → LO → Option ρ} {a1 a2} : exC Try.prog O L [] 0 (bodyOf Try.f61) (entry 23 [vl a1, vi a2] [] []) (finO Try.prog Try.f61.results.toList 0 [] [] K) =
    B a1 a2 (fun x1 => K (vi x1) []) := by kernel_rfl
theorem Gok : O.ok Try.prog := mkO_ok (by exact trivial) (by exact trivial)
theorem acc : ∀ t x, un2 F t = some x → ACc Try.prog 61 (encA t) [] true [] fun rv obs => (rv, obs) = encR x := accT (T := YVR × Int) (F := un2 F) (L := L) (cmds := []) (body := (bodyOf Try.f61)) Gok hmT Try.func61 (by kernel_rfl) (by kernel_rfl) (by rw [show atomsL [] 0 (bodyOf Try.f61) = [] by kernel_rfl]; exact Lor.ok_nil _ _) (fun t => by refine main.trans ?_; exact congrArg (B _ _) (fx1 fun t => ofC_enc encRI some t))
theorem ac : ∀ a x, Q a = some x → AC Try.prog 61 a [] false [] fun rv obs => (rv, obs) = encR x := acF (body := (bodyOf Try.f61)) Try.func61 (by kernel_rfl) (by kernel_rfl) acc fun x => ⟨by simp [encR, AV.Flat, K.Flat, C.Flat], fl0⟩
end impl_partMost
/-! loop.example/g00073/impl.CutRaws -/
namespace impl_CutRaws
noncomputable def B {ρ : Type} (C0 : Int → Int → Int → Option Bool) (C1 : YVR → Int → Option Int) (C2 : YVF → YVR → Option (Int × YVF)) (C3 : YVF → Option Bool) (C4 : YVF → Int → ByteArray → ByteArray → ByteArray → Option (Bool × YVF)) (a1 : Vec YF) (a2 : Vec YR) (a3 : Int) (a4 : Int) (K : Bool → YVF → Option ρ) : Option ρ :=
  sel (decide ((120 : Int) < (a2.n : Int))) (K false (Vec.nil : Vec YF)) ((C0 a3 (0 : Int) (a2.n : Int)).bind fun r1 => sel ((!r1)) (K false (Vec.nil : Vec YF)) ((C1 a2 a3).bind fun r2 => (C0 a4 (0 : Int) r2).bind fun r3 => sel ((!r3)) (K false (Vec.nil : Vec YF)) (chk (decide (0 ≤ (0 : Int) ∧ (0 : Int) ≤ a3 ∧ a3 ≤ (a2.n : Int))) ((C2 a1 (Vec.sub a2 ((0 : Int).toNat) a3.toNat)).bind fun r4 => sel ((!decide (r4.1 = a3))) (K false (Vec.nil : Vec YF)) ((C3 a1).bind fun r5 => sel ((!r5)) (K false (Vec.nil : Vec YF)) (sel (decide (a4 = (0 : Int))) (K true r4.2) (chk (decide (0 ≤ a3 ∧ a3 < (a2.n : Int))) (chk (decide (0 ≤ (0 : Int) ∧ (0 : Int) ≤ a4 ∧ a4 ≤ (((a2.g a3.toNat).2.2.2).size : Int))) ((C4 r4.2 ((a2.g a3.toNat).1) ((a2.g a3.toNat).2.1) ((a2.g a3.toNat).2.2.1) (((a2.g a3.toNat).2.2.2).extract (0 : Int).toNat a4.toNat)).bind fun r6 => K r6.1 r6.2)))))))))
noncomputable def F (a1 : Vec YF) (a2 : Vec YR) (a3 : Int) (a4 : Int) : Option (Bool × YVF) := B impl_inRange.F impl_partMost.F impl_PutRaws.F impl_DiskOk.F impl_PutRaw.F a1 a2 a3 a4 (fun x1 x2 => some (x1, x2))
def encA (t : YVF × YVR × Int × Int) : LA := [.a [cl t.1], vl t.2.1, vi t.2.2.1, vi t.2.2.2]
def encR (x : Bool × YVF) : AV × LO := (.tup [.a [.h 0], .c (cb x.1)], [ro x.2])
theorem encAI (a b) (h : encA a = encA b) : a = b := by simp [encA, encRw_iff] at h; simp [Prod.ext_iff, h]
theorem encRI (a b) (h : encR a = encR b) : a = b := by simp [encR, encRw_iff] at h; simp [Prod.ext_iff, h]
noncomputable def Q (args : LA) : Option (Bool × YVF) := ofC encA (un4 F) args
theorem wrap : F = fun y1 y2 y3 y4 => Q [.a [cl y1], vl y2, vi y3, vi y4] := by funext y1 y2 y3 y4; exact Eq.symm (ofC_enc encAI _ (y1, y2, y3, y4))
noncomputable abbrev O (Q0 : LA → Option Bool) (Q1 : LA → Option Int) (Q2 : LA → Option (Int × YVF)) (Q3 : LA → Option Bool) (Q4 : LA → Option (Bool × YVF)) : Orc := mkO [qE 60 false impl_inRange.encR Q0, qE 61 false impl_partMost.encR Q1, qE 21 false impl_PutRaws.encR Q2, qE 26 false impl_DiskOk.encR Q3, qE 18 false impl_PutRaw.encR Q4] [] []
noncomputable def L : Lor := fun _ _ _ _ => Option.none
theorem main {Q0 Q1 Q2 Q3 Q4} {ρ : Type} {K : AV → LO → Option ρ} {a1 a2 a3 a4} : exC Try.prog (O Q0 Q1 Q2 Q3 Q4) L [] 0 (bodyOf Try.f24) (entry 66 [.a [cl a1], vl a2, vi a3, vi a4] [] []) (finO Try.prog Try.f24.results.toList 0 [] [.ad (.p 8 0) 33] K) =
    B (fun y1 y2 y3 => Q0 [vi y1, vi y2, vi y3]) (fun y1 y2 => Q1 [vl y1, vi y2]) (fun y1 y2 => Q2 [.a [cl y1], vl y2]) (fun y1 => Q3 [.a [cl y1]]) (fun y1 y2 y3 y4 y5 => Q4 [.a [cl y1], .a [ci y2, cs y3, cs y4, cs y5]]) a1 a2 a3 a4 (fun x1 x2 => K (.tup [.a [.h 0], .c (cb x1)]) [ro x2]) := by kernel_rfl
theorem Gok : (O impl_inRange.Q impl_partMost.Q impl_PutRaws.Q impl_DiskOk.Q impl_PutRaw.Q).ok Try.prog := mkO_ok (by exact ⟨qE_ok impl_inRange.ac, qE_ok impl_partMost.ac, qE_ok impl_PutRaws.ac, qE_ok impl_DiskOk.ac, qE_ok impl_PutRaw.ac, trivial⟩) (by exact trivial)
theorem acc : ∀ t x, un4 F t = some x → ACc Try.prog 24 (encA t) [] true [] fun rv obs => (rv, obs) = encR x := accT (T := YVF × YVR × Int × Int) (F := un4 F) (L := L) (cmds := [.ad (.p 8 0) 33]) (body := (bodyOf Try.f24)) Gok hmT Try.func24 (by kernel_rfl) (by kernel_rfl) (by rw [show atomsL [] 0 (bodyOf Try.f24) = [] by kernel_rfl]; exact Lor.ok_nil _ _) (fun t => by refine main.trans ?_; rw [← impl_inRange.wrap, ← impl_partMost.wrap, ← impl_PutRaws.wrap, ← impl_DiskOk.wrap, ← impl_PutRaw.wrap]; exact congrArg (B _ _ _ _ _ _ _ _ _) (fx2 fun t => ofC_enc encRI some t))
theorem ac : ∀ a x, Q a = some x → AC Try.prog 24 a [] false [] fun rv obs => (rv, obs) = encR x := acF (body := (bodyOf Try.f24)) Try.func24 (by kernel_rfl) (by kernel_rfl) acc fun x => ⟨by simp [encR, AV.Flat, K.Flat, C.Flat], flc (flat_rw rfl _) (fl0)⟩
end impl_CutRaws
/-! loop.example/g00073/laws.sameDisk -/
namespace laws_sameDisk
noncomputable def B0 {ρ : Type} (v1 : Int) (v2 : Vec YF) (v3 : Vec YF) (W : Int → YVF → YVF → Option ρ) (K0 : Unit → Option ρ) (Kr : Bool → Option ρ) : Option ρ :=
  sel (decide (v1 < (v2.n : Int))) (chk (decide (0 ≤ v1 ∧ v1 < (v2.n : Int))) (chk (decide (0 ≤ v1 ∧ v1 < (v3.n : Int))) (sel ((!(decide ((v2.g v1.toNat).1 = (v3.g v1.toNat).1) && decide ((v2.g v1.toNat).2 = (v3.g v1.toNat).2)))) (Kr false) (W (wr (v1 + (1 : Int))) v2 v3)))) (K0 ())
noncomputable def F0 {ρ : Type} : Nat → Int → YVF → YVF → (Unit → Option ρ) → (Bool → Option ρ) → Option ρ
  | 0, _, _, _, _, _ => none
  | k + 1, v1, v2, v3, K0, Kr => B0 v1 v2 v3 (fun v1' v2' v3' => F0 k v1' v2' v3' K0 Kr) K0 Kr
noncomputable def B {ρ : Type} (L0 : Int → YVF → YVF → (Unit → Option ρ) → (Bool → Option ρ) → Option ρ) (a1 : Vec YF) (a2 : Vec YF) (K : Bool → Option ρ) : Option ρ :=
  sel ((!decide ((a1.n : Int) = (a2.n : Int)))) (K false) (L0 (0 : Int) a1 a2 (fun _ => K true) (fun x01 => K x01))
noncomputable def F (a1 : Vec YF) (a2 : Vec YF) : Option Bool := B (F0 fuelN) a1 a2 (fun x1 => some (x1))
def encA (t : YVF × YVF) : LA := [.a [cl t.1], .a [cl t.2]]
def encR (x : Bool) : AV × LO := (vb x, [])
theorem encAI (a b) (h : encA a = encA b) : a = b := by simp [encA, encRw_iff] at h; simp [Prod.ext_iff, h]
theorem encRI (a b) (h : encR a = encR b) : a = b := by simpa [encR, encRw_iff] using h
noncomputable def Q (args : LA) : Option Bool := ofC encA (un2 F) args
theorem wrap : F = fun y1 y2 => Q [.a [cl y1], .a [cl y2]] := by funext y1 y2; exact Eq.symm (ofC_enc encAI _ (y1, y2))
noncomputable abbrev O : Orc := mkO [] [] []
noncomputable def c0 : Code := loopC (atomN [] 0 (bodyOf Try.f25) 0)
def ct0 : Cut := ⟨[2, 3, 5], []⟩
def lv0 : Exit → Cut
  | .exit 0 => ⟨[], []⟩
  | .ret => ⟨[4], []⟩
  | _ => ⟨[], []⟩
def k0_0 {ρ : Type} (K : Exit → St → Option ρ) (_ : Unit) : Option ρ := K (.exit 0) (mkS 31 (lv0 (.exit 0)).live [] [] [])
def k0_r {ρ : Type} (K : Exit → St → Option ρ) (z1 : Bool) : Option ρ := K .ret (mkS 31 (lv0 .ret).live [vb z1] [] [])
noncomputable def L (W0 : (ρ : Type) → LA → LO → (Unit → Option ρ) → (Bool → Option ρ) → Option ρ) : Lor := fun ρ j st K => sel (Nat.beq j 0) (cutO Try.prog 31 ct0.live 0 [] ct0.cmds st fun avs obs => W0 ρ avs obs (k0_0 K) (k0_r K)) (Option.none)
theorem step0 {W0} {ρ : Type} {K : Exit → St → Option ρ} {W : LA → LO → Option ρ} {v1 v2 v3} : exC Try.prog O (L W0) [] 1 c0 (mkS 31 ct0.live [.c (.p 0 0), .c (.p 1 0), vi v1] [.box [cl v2], .box [cl v3]] []) (bodyK Try.prog 31 0 [] ct0 W lv0 K) =
    B0 v1 v2 v3 (fun u1 u2 u3 => W [.c (.p 0 0), .c (.p 1 0), vi u1] [.box [cl u2], .box [cl u3]]) (k0_0 K) (k0_r K) := by kernel_rfl
def enc0 (t : Int × YVF × YVF) : LA × LO := ([.c (.p 0 0), .c (.p 1 0), vi t.1], [.box [cl t.2.1], .box [cl t.2.2]])
theorem enc0I (a b) (h : enc0 a = enc0 b) : a = b := by simp [enc0, encRw_iff] at h; simp [Prod.ext_iff, h]
noncomputable def V0 : (ρ : Type) → LA → LO → (Unit → Option ρ) → (Bool → Option ρ) → Option ρ := fun ρ avs obs k0 kr => ofC enc0 (fun t => un3 (F0 fuelN) t k0 kr) (avs, obs)
theorem V0_enc (ρ : Type) : F0 fuelN = fun w1 w2 w3 k0 kr => V0 ρ [.c (.p 0 0), .c (.p 1 0), vi w1] [.box [cl w2], .box [cl w3]] k0 kr := by funext w1 w2 w3 k0 kr; exact Eq.symm (ofC_enc enc0I _ (w1, w2, w3))
theorem main {W0} {ρ : Type} {K : AV → LO → Option ρ} {a1 a2} : exC Try.prog O (L W0) [] 0 (bodyOf Try.f25) (entry 31 [.a [cl a1], .a [cl a2]] [] []) (finO Try.prog Try.f25.results.toList 0 [] [] K) =
    B (fun w1 w2 w3 k0 kr => W0 ρ [.c (.p 0 0), .c (.p 1 0), vi w1] [.box [cl w2], .box [cl w3]] k0 kr) a1 a2 (fun x1 => K (vb x1) []) := by kernel_rfl
theorem Gok : O.ok Try.prog := mkO_ok (by exact trivial) (by exact trivial)
theorem ok0 : OkL Try.prog (L V0) 0 (.loop c0) := fun ρ st K r h => loop_ok (ct := ct0) (lv := lv0) (L := (L V0)) Gok hmT (by rw [show atomsL [] 1 c0 = [] by kernel_rfl]; exact Lor.ok_nil _ _) enc0I (fun k t => un3 (F0 k) t (k0_0 K) (k0_r K)) (fun t => rfl) (fun k t => by refine step0.trans ?_; exact congrFun (congrFun (congrArg (B0 _ _ _) (fx3 fun t => ofC_enc enc0I _ t)) _) _) (fun _ => fuelN) h
theorem e : atomsL [] 0 (bodyOf Try.f25) = [(0, 0, .loop c0)] := by kernel_rfl
theorem acc : ∀ t x, un2 F t = some x → ACc Try.prog 25 (encA t) [] true [] fun rv obs => (rv, obs) = encR x := accT (T := YVF × YVF) (F := un2 F) (L := (L V0)) (cmds := []) (body := (bodyOf Try.f25)) Gok hmT Try.func25 (by kernel_rfl) (by kernel_rfl) (by rw [e]; exact Lor.ok_cons ok0 (Lor.ok_nil _ _)) (fun t => by refine main.trans ?_; rw [← V0_enc]; exact congrArg (B _ _ _) (fx1 fun t => ofC_enc encRI some t))
theorem ac : ∀ a x, Q a = some x → AC Try.prog 25 a [] false [] fun rv obs => (rv, obs) = encR x := acF (body := (bodyOf Try.f25)) Try.func25 (by kernel_rfl) (by kernel_rfl) acc fun x => ⟨by simp [encR, AV.Flat, K.Flat, C.Flat], fl0⟩
end laws_sameDisk
/-! loop.example/g00073/laws.FnRaws -/
namespace laws_FnRaws
noncomputable def B {ρ : Type} (C0 : YU → Option Bool) (C1 : YU → Option (YVF × YVR)) (C2 : YVF → Option Bool) (C3 : YVF → YVR → Option (Int × YVF)) (C4 : YVF → YVR → Option (Int × YVF)) (C5 : YU → Option YI) (C6 : YVF → YVR → Int → Int → Option (Bool × YVF)) (C7 : YVF → YVF → Option Bool) (C8 : YVF → Option Bool) (a1 : YU) (K : Bool → Option ρ) : Option ρ :=
  (C0 a1).bind fun r1 => sel (r1) (K true) ((C1 a1).bind fun r2 => (C2 r2.1).bind fun r3 => sel ((!r3)) (K true) (sel (decide ((120 : Int) < (r2.2.n : Int))) (K true) ((C3 r2.1 r2.2).bind fun r4 => (C4 r2.1 r2.2).bind fun r5 => sel ((!decide (r4.1 = r5.1))) (K false) (chk (decide (0 ≤ (0 : Int) ∧ (0 : Int) ≤ r4.1 ∧ r4.1 ≤ (r2.2.n : Int))) ((C5 a1).bind fun r6 => chk (decide (0 ≤ (0 : Int) ∧ (0 : Int) < (r6.n : Int))) (chk (decide ((0 : Int).toNat < r6.n)) (chk (decide ((wr (r4.1 + (1 : Int))) ≠ 0)) (chk (decide (0 ≤ (0 : Int) ∧ (0 : Int) ≤ (Int.tmod (r6.g ((0 : Int).toNat)) (wr (r4.1 + (1 : Int)))) ∧ (Int.tmod (r6.g ((0 : Int).toNat)) (wr (r4.1 + (1 : Int)))) ≤ ((Vec.sub r2.2 ((0 : Int).toNat) ((r4.1).toNat)).n : Int))) ((C3 r2.1 (Vec.sub (Vec.sub r2.2 ((0 : Int).toNat) ((r4.1).toNat)) ((0 : Int).toNat) ((Int.tmod (r6.g ((0 : Int).toNat)) (wr (r4.1 + (1 : Int)))).toNat))).bind fun r7 => chk (decide (0 ≤ (Int.tmod (r6.g ((0 : Int).toNat)) (wr (r4.1 + (1 : Int)))) ∧ (Int.tmod (r6.g ((0 : Int).toNat)) (wr (r4.1 + (1 : Int)))) ≤ ((Vec.sub r2.2 ((0 : Int).toNat) ((r4.1).toNat)).n : Int) ∧ ((Vec.sub r2.2 ((0 : Int).toNat) ((r4.1).toNat)).n : Int) ≤ ((Vec.sub r2.2 ((0 : Int).toNat) ((r4.1).toNat)).n : Int))) ((C3 r7.2 (Vec.sub (Vec.sub r2.2 ((0 : Int).toNat) ((r4.1).toNat)) ((Int.tmod (r6.g ((0 : Int).toNat)) (wr (r4.1 + (1 : Int)))).toNat) (((Vec.sub r2.2 ((0 : Int).toNat) ((r4.1).toNat)).n : Int).toNat))).bind fun r8 => (C6 r2.1 (Vec.sub r2.2 ((0 : Int).toNat) ((r4.1).toNat)) (Int.tmod (r6.g ((0 : Int).toNat)) (wr (r4.1 + (1 : Int)))) (0 : Int)).bind fun r9 => (C6 r2.1 (Vec.sub r2.2 ((0 : Int).toNat) ((r4.1).toNat)) r4.1 (0 : Int)).bind fun r10 => sel (decide (r7.1 = (Int.tmod (r6.g ((0 : Int).toNat)) (wr (r4.1 + (1 : Int)))))) (sel (decide (r8.1 = (wr (r4.1 - (Int.tmod (r6.g ((0 : Int).toNat)) (wr (r4.1 + (1 : Int)))))))) (sel (r9.1) (sel (r10.1) ((C7 r8.2 r4.2).bind fun r11 => sel (r11) ((C7 r9.2 r7.2).bind fun r12 => sel (r12) ((C7 r10.2 r4.2).bind fun r13 => sel (r13) ((C8 r4.2).bind fun r14 => K r14) (K false)) (K false)) (K false)) (K false)) (K false)) (K false)) (K false)))))))))))
noncomputable def F (a1 : YU) : Option Bool := B laws_big.F spec_DrawPutRaws.F spec_DiskOk.F impl_PutRaws.F spec_PutRaws.F spec_DrawPlaces.F impl_CutRaws.F laws_sameDisk.F impl_DiskOk.F a1 (fun x1 => some (x1))
def encA (t : YU) : LA := [vl t]
def encR (x : Bool) : AV × LO := (vb x, [])
theorem encAI (a b) (h : encA a = encA b) : a = b := by simpa [encA, encRw_iff] using h
theorem encRI (a b) (h : encR a = encR b) : a = b := by simpa [encR, encRw_iff] using h
noncomputable def Q (args : LA) : Option Bool := ofC encA (un1 F) args
theorem wrap : F = fun y1 => Q [vl y1] := by funext y1; exact Eq.symm (ofC_enc encAI _ (y1))
noncomputable abbrev O (Q0 : LA → Option Bool) (Q1 : LA → Option (YVF × YVR)) (Q2 : LA → Option Bool) (Q3 : LA → Option (Int × YVF)) (Q4 : LA → Option (Int × YVF)) (Q5 : LA → Option YI) (Q6 : LA → Option (Bool × YVF)) (Q7 : LA → Option Bool) (Q8 : LA → Option Bool) : Orc := mkO [qE 15 false laws_big.encR Q0, qE 20 false spec_DrawPutRaws.encR Q1, qE 17 false spec_DiskOk.encR Q2, qE 21 false impl_PutRaws.encR Q3, qE 22 false spec_PutRaws.encR Q4, qE 23 false spec_DrawPlaces.encR Q5, qE 24 false impl_CutRaws.encR Q6, qE 25 false laws_sameDisk.encR Q7, qE 26 false impl_DiskOk.encR Q8] [] []
noncomputable def L : Lor := fun _ _ _ _ => Option.none
theorem main {Q0 Q1 Q2 Q3 Q4 Q5 Q6 Q7 Q8} {ρ : Type} {K : AV → LO → Option ρ} {a1} : exC Try.prog (O Q0 Q1 Q2 Q3 Q4 Q5 Q6 Q7 Q8) L [] 0 (bodyOf Try.f5) (entry 123 [vl a1] [] []) (finO Try.prog Try.f5.results.toList 0 [] [] K) =
    B (fun y1 => Q0 [vl y1]) (fun y1 => Q1 [vl y1]) (fun y1 => Q2 [.a [cl y1]]) (fun y1 y2 => Q3 [.a [cl y1], vl y2]) (fun y1 y2 => Q4 [.a [cl y1], vl y2]) (fun y1 => Q5 [vl y1]) (fun y1 y2 y3 y4 => Q6 [.a [cl y1], vl y2, vi y3, vi y4]) (fun y1 y2 => Q7 [.a [cl y1], .a [cl y2]]) (fun y1 => Q8 [.a [cl y1]]) a1 (fun x1 => K (vb x1) []) := by kernel_rfl
theorem Gok : (O laws_big.Q spec_DrawPutRaws.Q spec_DiskOk.Q impl_PutRaws.Q spec_PutRaws.Q spec_DrawPlaces.Q impl_CutRaws.Q laws_sameDisk.Q impl_DiskOk.Q).ok Try.prog := mkO_ok (by exact ⟨qE_ok laws_big.ac, qE_ok spec_DrawPutRaws.ac, qE_ok spec_DiskOk.ac, qE_ok impl_PutRaws.ac, qE_ok spec_PutRaws.ac, qE_ok spec_DrawPlaces.ac, qE_ok impl_CutRaws.ac, qE_ok laws_sameDisk.ac, qE_ok impl_DiskOk.ac, trivial⟩) (by exact trivial)
theorem acc : ∀ t x, un1 F t = some x → ACc Try.prog 5 (encA t) [] true [] fun rv obs => (rv, obs) = encR x := accT (T := Vec (IK .u8)) (F := un1 F) (L := L) (cmds := []) (body := (bodyOf Try.f5)) Gok hmT Try.func5 (by kernel_rfl) (by kernel_rfl) (by rw [show atomsL [] 0 (bodyOf Try.f5) = [] by kernel_rfl]; exact Lor.ok_nil _ _) (fun t => by refine main.trans ?_; rw [← laws_big.wrap, ← spec_DrawPutRaws.wrap, ← spec_DiskOk.wrap, ← impl_PutRaws.wrap, ← spec_PutRaws.wrap, ← spec_DrawPlaces.wrap, ← impl_CutRaws.wrap, ← laws_sameDisk.wrap, ← impl_DiskOk.wrap]; exact congrArg (B _ _ _ _ _ _ _ _ _ _) (fx1 fun t => ofC_enc encRI some t))
theorem ac : ∀ a x, Q a = some x → AC Try.prog 5 a [] false [] fun rv obs => (rv, obs) = encR x := acF (body := (bodyOf Try.f5)) Try.func5 (by kernel_rfl) (by kernel_rfl) acc fun x => ⟨by simp [encR, AV.Flat, K.Flat, C.Flat], fl0⟩
end laws_FnRaws
end Go.Al
