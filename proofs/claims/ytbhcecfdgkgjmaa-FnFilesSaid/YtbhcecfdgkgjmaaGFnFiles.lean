import Derived.Test.YtbhcecfdgkgjmaaAlE
import Derived.Test.YtbhcecfdgkgjmaaSC
import Derived.Test.YtbhcecfdgkgjmaaGDr
import Derived.Test.YtbhcecfdgkgjmaaGPutRaw
set_option linter.unusedVariables false
set_option linter.unusedSimpArgs false
set_option linter.constructorNameAsVariable false
set_option linter.unusedSectionVars false
set_option maxRecDepth 100000
namespace Go.Al
open Go.Proofs

/-! loop.example/g00073/laws.big -/
namespace laws_big
noncomputable def B {ρ : Type} (a1 : YU) (K : Bool → Option ρ) : Option ρ :=
  K (decide ((1048576 : Int) < (a1.n : Int)))
noncomputable def F (a1 : YU) : Option Bool := B a1 (fun x1 => some (x1))
def encA (t : YU) : List AV := [vl t]
def encR (x : Bool) : AV × List Ob := (vb x, [])
theorem encAI (a b) (h : encA a = encA b) : a = b := by simpa [encA, encRw_iff] using h
theorem encRI (a b) (h : encR a = encR b) : a = b := by simpa [encR, encRw_iff] using h
noncomputable def Q (args : List AV) : Option Bool := ofC encA (fun t => F t) args
theorem wrap : F = fun y1 => Q [vl y1] := by funext y1; exact Eq.symm (ofC_enc encAI _ (y1))
noncomputable def L : Lor := fun _ _ _ _ => Option.none
theorem main {ρ : Type} {K : AV → List Ob → Option ρ} (a1) : exC Try.prog (mkO [] [] []) L [] 0 (bodyOf Try.f15) (entry 6 [vl a1] [] []) (finO Try.prog Try.f15.results.toList 0 [] [] K) =
    B a1 (fun x1 => K (vb x1) []) := by kernel_rfl
theorem Gok : (mkO [] [] []).ok Try.prog := mkO_ok (by exact trivial) (by exact trivial)
theorem acc : ∀ t x, F t = some x → ACc Try.prog 15 (encA t) [] true [] fun rv obs => (rv, obs) = encR x :=
  accT (T := Vec (IK .u8)) (F := fun t => F t) (L := L) (cmds := []) (body := (bodyOf Try.f15)) Gok hmT Try.func15 (by kernel_rfl) (by kernel_rfl) (by rw [show atomsL [] 0 (bodyOf Try.f15) = [] by kernel_rfl]; exact Lor.ok_nil _ _) (fun t => by refine (main t).trans ?_; exact congrArg (B t) (funext fun x1 => ofC_enc encRI some (x1)))
theorem ac (args : List AV) (x : Bool) (h : Q args = some x) : AC Try.prog 15 args [] false [] fun rv obs => (rv, obs) = encR x := acF (T := Vec (IK .u8)) (F := fun t => F t) (body := (bodyOf Try.f15)) Try.func15 (by kernel_rfl) (by kernel_rfl) acc (fun x => ⟨by simp [encR, AV.Flat, K.Flat, C.Flat], fl0⟩) args x h
end laws_big
/-! loop.example/g00073/spec.l16Name -/
namespace spec_l16Name_s0451
noncomputable def B {ρ : Type} (C0 : YU → Int → Int → YS → Option (ByteArray × Vec (IK .u8) × Int × Int × Vec ByteArray)) (a1 : YU) (a2 : Int) (a3 : Int) (K : ByteArray → YU → Int → Int → Option ρ) : Option ρ :=
  (C0 a1 a2 a3 (Vec.lit [(ByteArray.mk #[99, 111, 109, 109, 105, 116, 115]), (ByteArray.mk #[119, 48]), (ByteArray.mk #[119, 49]), (ByteArray.mk #[119, 48, 43]), (ByteArray.mk #[105, 110, 116, 101, 110, 116]), (ByteArray.mk #[120]), (ByteArray.mk #[99, 111, 109, 109, 105, 116, 115, 43]), (ByteArray.mk #[119, 49, 49])] : YS)).bind fun r1 => K r1.1 r1.2.1 r1.2.2.1 r1.2.2.2.1
noncomputable def F (a1 : YU) (a2 : Int) (a3 : Int) : Option (ByteArray × Vec (IK .u8) × Int × Int) := B spec_l01Pick_s189a.F a1 a2 a3 (fun x1 x2 x3 x4 => some (x1, x2, x3, x4))
def encA (t : Vec (IK .u8) × Int × Int) : List AV × List Ob := ([.c (.p 0 0)], [.box [cl t.1, ci t.2.1, ci t.2.2]])
def encR (x : ByteArray × Vec (IK .u8) × Int × Int) : AV × List Ob := (vs x.1, [.box [cl x.2.1, ci x.2.2.1, ci x.2.2.2]])
theorem encAI (a b) (h : encA a = encA b) : a = b := by simp [encA, encRw_iff] at h; simp [Prod.ext_iff, h]
theorem encRI (a b) (h : encR a = encR b) : a = b := by simp [encR, encRw_iff] at h; simp [Prod.ext_iff, h]
noncomputable def Q (args : List AV) (hin : List Ob) : Option (ByteArray × Vec (IK .u8) × Int × Int) := ofC encA (fun t => F t.1 t.2.1 t.2.2) (args, hin)
theorem wrap : F = fun y1 y2 y3 => Q [.c (.p 0 0)] [.box [cl y1, ci y2, ci y3]] := by funext y1 y2 y3; exact Eq.symm (ofC_enc encAI _ (y1, y2, y3))
noncomputable def L : Lor := fun _ _ _ _ => Option.none
theorem main {Q0} {ρ : Type} {K : AV → List Ob → Option ρ} (a1 a2 a3) : exC Try.prog (mkO [] [eE Try.prog 86 [true, true] false [true, true] spec_l01Pick_s189a.encR Q0] []) L [] 0 (bodyOf Try.f84) (entry 6 [.c (.p 0 0)] [.box [cl a1, ci a2, ci a3]] [true]) (finO Try.prog Try.f84.results.toList 1 [true] [] K) =
    B (fun y1 y2 y3 y4 => Q0 [.c (.p 0 0), .c (.h 1)] [.box [cl y1, ci y2, ci y3], ro y4]) a1 a2 a3 (fun x1 x2 x3 x4 => K (vs x1) [.box [cl x2, ci x3, ci x4]]) := by kernel_rfl
theorem Gok : (mkO [] [eE Try.prog 86 [true, true] false [true, true] spec_l01Pick_s189a.encR spec_l01Pick_s189a.Q] []).ok Try.prog := mkO_ok (by exact trivial) (by exact ⟨eE_ok (fun h => by cases h) spec_l01Pick_s189a.ac, trivial⟩)
theorem acc : ∀ t x, F t.1 t.2.1 t.2.2 = some x → ACc Try.prog 84 (encA t).1 (encA t).2 true [true] fun rv obs => (rv, obs) = encR x :=
  accT2 (T := Vec (IK .u8) × Int × Int) (F := fun t => F t.1 t.2.1 t.2.2) (L := L) (cmds := []) (body := (bodyOf Try.f84)) 1 (fun _ => rfl) Gok hmT Try.func84 (by kernel_rfl) (by kernel_rfl) (by rw [show atomsL [] 0 (bodyOf Try.f84) = [] by kernel_rfl]; exact Lor.ok_nil _ _) (fun t => by refine (main t.1 t.2.1 t.2.2).trans ?_; rw [← spec_l01Pick_s189a.wrap]; exact congrArg (B _ t.1 t.2.1 t.2.2) (funext fun x1 => funext fun x2 => funext fun x3 => funext fun x4 => ofC_enc encRI some (x1, x2, x3, x4)))
theorem ac (args : List AV) (hin : List Ob) (x : ByteArray × Vec (IK .u8) × Int × Int) (h : Q args hin = some x) : AC Try.prog 84 args hin true [true] fun rv obs => (rv, obs) = encR x := acT2 (T := Vec (IK .u8) × Int × Int) (F := fun t => F t.1 t.2.1 t.2.2) (body := (bodyOf Try.f84)) Try.func84 (by kernel_rfl) (by kernel_rfl) acc args hin x h
end spec_l16Name_s0451
/-! loop.example/g00073/spec.l16Disk -/
namespace spec_l16Disk_s0451
noncomputable def B1 {ρ : Type} (C0 : Int → YU → Int → Int → Option (Int × Vec (IK .u8) × Int × Int)) (C6 : Int → Option ByteArray) (C3 : YVF → ByteArray → ByteArray → Option YVF) (v1 : Int) (v2 : YU) (v3 : Int) (v4 : Int) (v5 : Vec YF) (W : Int → YU → Int → Int → YVF → Option ρ) (K3 : YU → Int → Int → YVF → Option ρ) : Option ρ :=
  (C0 (2 : Int) v2 v3 v4).bind fun r13 => sel (decide (v1 < (wr ((40 : Int) + r13.1)))) ((C6 v1).bind fun r14 => chk (decide ((ByteArray.mk #[102]).size + r14.size ≤ maxN)) ((C3 v5 ((ByteArray.mk #[102]) ++ r14) ByteArray.empty).bind fun r15 => W (wr (v1 + (1 : Int))) r13.2.1 r13.2.2.1 r13.2.2.2 r15)) (K3 r13.2.1 r13.2.2.1 r13.2.2.2 v5)
noncomputable def F1 {ρ : Type} : Nat → Int → YU → Int → Int → YVF → (YU → Int → Int → YVF → Option ρ) → Option ρ
  | 0, _, _, _, _, _, _ => none
  | k + 1, v1, v2, v3, v4, v5, K3 => B1 spec_l01Below_sb3e9.F spec_Decimal.F spec_l16Put.F v1 v2 v3 v4 v5 (fun v1' v2' v3' v4' v5' => F1 k v1' v2' v3' v4' v5' K3) K3
noncomputable def B0 {ρ : Type} (C0 : Int → YU → Int → Int → Option (Int × Vec (IK .u8) × Int × Int)) (C4 : YU → Int → Int → Option (ByteArray × Vec (IK .u8) × Int × Int)) (C5 : Int → YU → Int → Int → Option (ByteArray × Vec (IK .u8) × Int × Int)) (C3 : YVF → ByteArray → ByteArray → Option YVF) (v1 : Int) (v2 : YU) (v3 : Int) (v4 : Int) (v5 : Vec YF) (W : Int → YU → Int → Int → YVF → Option ρ) (K0 : YU → Int → Int → YVF → Option ρ) : Option ρ :=
  (C0 (6 : Int) v2 v3 v4).bind fun r8 => sel (decide (v1 < r8.1)) ((C4 r8.2.1 r8.2.2.1 r8.2.2.2).bind fun r9 => (C0 (12 : Int) r9.2.1 r9.2.2.1 r9.2.2.2).bind fun r10 => (C5 r10.1 r10.2.1 r10.2.2.1 r10.2.2.2).bind fun r11 => (C3 v5 r9.1 r11.1).bind fun r12 => W (wr (v1 + (1 : Int))) r11.2.1 r11.2.2.1 r11.2.2.2 r12) (K0 r8.2.1 r8.2.2.1 r8.2.2.2 v5)
noncomputable def F0 {ρ : Type} : Nat → Int → YU → Int → Int → YVF → (YU → Int → Int → YVF → Option ρ) → Option ρ
  | 0, _, _, _, _, _, _ => none
  | k + 1, v1, v2, v3, v4, v5, K0 => B0 spec_l01Below_sb3e9.F spec_l16Name_s0451.F spec_l01Text_sb3e9.F spec_l16Put.F v1 v2 v3 v4 v5 (fun v1' v2' v3' v4' v5' => F0 k v1' v2' v3' v4' v5' K0) K0
noncomputable def B {ρ : Type} (C0 : Int → YU → Int → Int → Option (Int × Vec (IK .u8) × Int × Int)) (C1 : Int → Int → Option ByteArray) (C2 : YU → Int → Int → YS → Option (ByteArray × Vec (IK .u8) × Int × Int × Vec ByteArray)) (C3 : YVF → ByteArray → ByteArray → Option YVF) (L0 : Int → YU → Int → Int → YVF → (YU → Int → Int → YVF → Option ρ) → Option ρ) (L1 : Int → YU → Int → Int → YVF → (YU → Int → Int → YVF → Option ρ) → Option ρ) (a1 : YU) (a2 : Int) (a3 : Int) (K : YU → Int → Int → YVF → Option ρ) : Option ρ :=
  L0 (0 : Int) a1 a2 a3 (Vec.nil : Vec YF) (fun e01 e02 e03 e04 => (C0 (40 : Int) e01 e02 e03).bind fun r1 => sel (decide (r1.1 = (0 : Int))) ((C1 (24 : Int) (122 : Int)).bind fun r2 => (C1 (25 : Int) (122 : Int)).bind fun r3 => (C2 r1.2.1 r1.2.2.1 r1.2.2.2 (Vec.lit [ByteArray.empty, (ByteArray.mk #[97]), r2, r3] : YS)).bind fun r4 => chk (decide ((e04.n + (Vec.lit [(r4.1, ByteArray.empty)] : Vec YF).n) * 33 ≤ maxN)) (K r4.2.1 r4.2.2.1 r4.2.2.2.1 (Vec.app e04 (Vec.lit [(r4.1, ByteArray.empty)] : Vec YF)))) (sel (decide (r1.1 = (1 : Int))) ((C0 (2 : Int) r1.2.1 r1.2.2.1 r1.2.2.2).bind fun r5 => (C1 (wr ((60004 : Int) + r5.1)) (0 : Int)).bind fun r6 => (C3 e04 (ByteArray.mk #[98, 105, 103]) r6).bind fun r7 => K r5.2.1 r5.2.2.1 r5.2.2.2 r7) (sel (decide (r1.1 = (2 : Int))) (L1 (0 : Int) r1.2.1 r1.2.2.1 r1.2.2.2 (Vec.nil : Vec YF) (fun e11 e12 e13 e14 => K e11 e12 e13 e14)) (K r1.2.1 r1.2.2.1 r1.2.2.2 e04))))
noncomputable def F (a1 : YU) (a2 : Int) (a3 : Int) : Option (Vec (IK .u8) × Int × Int × YVF) := B spec_l01Below_sb3e9.F spec_l01Long.F spec_l01Pick_s189a.F spec_l16Put.F (F0 fuelN) (F1 fuelN) a1 a2 a3 (fun x1 x2 x3 x4 => some (x1, x2, x3, x4))
def encA (t : Vec (IK .u8) × Int × Int) : List AV × List Ob := ([.c (.p 0 0)], [.box [cl t.1, ci t.2.1, ci t.2.2]])
def encR (x : Vec (IK .u8) × Int × Int × YVF) : AV × List Ob := (.a [.h 1], [.box [cl x.1, ci x.2.1, ci x.2.2.1], ro x.2.2.2])
theorem encAI (a b) (h : encA a = encA b) : a = b := by simp [encA, encRw_iff] at h; simp [Prod.ext_iff, h]
theorem encRI (a b) (h : encR a = encR b) : a = b := by simp [encR, encRw_iff] at h; simp [Prod.ext_iff, h]
noncomputable def Q (args : List AV) (hin : List Ob) : Option (Vec (IK .u8) × Int × Int × YVF) := ofC encA (fun t => F t.1 t.2.1 t.2.2) (args, hin)
theorem wrap : F = fun y1 y2 y3 => Q [.c (.p 0 0)] [.box [cl y1, ci y2, ci y3]] := by funext y1 y2 y3; exact Eq.symm (ofC_enc encAI _ (y1, y2, y3))
noncomputable def c0 : Code := loopC (atomN [] 0 (bodyOf Try.f50) 0)
noncomputable def c1 : Code := loopC (atomN [] 0 (bodyOf Try.f50) 1)
def ct0 : Cut := ⟨[0, 2, 3, 4], [.ad (.p 3 0) 33]⟩
def lv0 : Exit → Cut
  | .exit 0 => ⟨[0, 2, 3], []⟩
  | _ => ⟨[], []⟩
def k0_0 {ρ : Type} (K : Exit → St → Option ρ) (z1 : YU) (z2 : Int) (z3 : Int) (z4 : Vec YF) : Option ρ := K (.exit 0) (mkS 63 (lv0 (.exit 0)).live [.c (.p 0 0), .c (.p 1 0), .c (.p 2 0)] [.box [cl z1, ci z2, ci z3], .box [.z], .box [.h 3], ro z4] [true])
def ct1 : Cut := ⟨[0, 2, 3, 5], [.ad (.p 3 0) 33]⟩
def lv1 : Exit → Cut
  | .exit 3 => ⟨[2, 3], []⟩
  | _ => ⟨[], []⟩
def k1_3 {ρ : Type} (K : Exit → St → Option ρ) (z1 : YU) (z2 : Int) (z3 : Int) (z4 : Vec YF) : Option ρ := K (.exit 3) (mkS 63 (lv1 (.exit 3)).live [.c (.p 1 0), .c (.p 2 0)] [.box [cl z1, ci z2, ci z3], .box [.z], .box [.h 3], ro z4] [true])
noncomputable def L (W1 : (ρ : Type) → List AV → List Ob → (YU → Int → Int → YVF → Option ρ) → Option ρ) (W0 : (ρ : Type) → List AV → List Ob → (YU → Int → Int → YVF → Option ρ) → Option ρ) : Lor := fun ρ j st K => sel (Nat.beq j 0) (cutO Try.prog 63 ct0.live 1 [true] ct0.cmds st fun avs obs => W0 ρ avs obs (k0_0 K)) (sel (Nat.beq j 1) (cutO Try.prog 63 ct1.live 1 [true] ct1.cmds st fun avs obs => W1 ρ avs obs (k1_3 K)) (Option.none))
theorem step0 {Q0 Q1 Q2 Q3 Q4 Q5 Q6 W1 W0} {ρ : Type} {K : Exit → St → Option ρ} {W : List AV → List Ob → Option ρ} (v1 v2 v3 v4 v5) : exC Try.prog (mkO [qE 87 false spec_l01Long.encR Q1, qE 83 false spec_l16Put.encR Q3, qE 88 false spec_Decimal.encR Q6] [eE Try.prog 59 [true, false] false [true] spec_l01Below_sb3e9.encR Q0, eE Try.prog 86 [true, true] false [true, true] spec_l01Pick_s189a.encR Q2, eE Try.prog 84 [true] false [true] spec_l16Name_s0451.encR Q4, eE Try.prog 85 [true, false] false [true] spec_l01Text_sb3e9.encR Q5] []) (L W1 W0) [] 1 c0 (mkS 63 ct0.live [.c (.p 0 0), .c (.p 1 0), .c (.p 2 0), vi v1] [.box [cl v2, ci v3, ci v4], .box [.z], .box [.h 3], ro v5] [true]) (bodyK Try.prog 63 1 [true] ct0 W lv0 K) =
    B0 (fun y1 y2 y3 y4 => Q0 [.c (.p 0 0), vi y1] [.box [cl y2, ci y3, ci y4]]) (fun y1 y2 y3 => Q4 [.c (.p 0 0)] [.box [cl y1, ci y2, ci y3]]) (fun y1 y2 y3 y4 => Q5 [.c (.p 0 0), vi y1] [.box [cl y2, ci y3, ci y4]]) (fun y1 y2 y3 => Q3 [.a [cl y1], .a [cs y2, cs y3]]) v1 v2 v3 v4 v5 (fun u1 u2 u3 u4 u5 => W [.c (.p 0 0), .c (.p 1 0), .c (.p 2 0), vi u1] [.box [cl u2, ci u3, ci u4], .box [.z], .box [.h 3], ro u5]) (k0_0 K) := by kernel_rfl
def enc0 (t : Int × Vec (IK .u8) × Int × Int × YVF) : List AV × List Ob := ([.c (.p 0 0), .c (.p 1 0), .c (.p 2 0), vi t.1], [.box [cl t.2.1, ci t.2.2.1, ci t.2.2.2.1], .box [.z], .box [.h 3], ro t.2.2.2.2])
theorem enc0I (a b) (h : enc0 a = enc0 b) : a = b := by simp [enc0, encRw_iff] at h; simp [Prod.ext_iff, h]
noncomputable def V0 : (ρ : Type) → List AV → List Ob → (YU → Int → Int → YVF → Option ρ) → Option ρ := fun ρ avs obs k0 => ofC enc0 (fun t => F0 fuelN t.1 t.2.1 t.2.2.1 t.2.2.2.1 t.2.2.2.2 k0) (avs, obs)
theorem V0_enc (ρ : Type) : F0 fuelN = fun w1 w2 w3 w4 w5 k0 => V0 ρ [.c (.p 0 0), .c (.p 1 0), .c (.p 2 0), vi w1] [.box [cl w2, ci w3, ci w4], .box [.z], .box [.h 3], ro w5] k0 := by funext w1 w2 w3 w4 w5 k0; exact Eq.symm (ofC_enc enc0I _ (w1, w2, w3, w4, w5))
theorem step1 {Q0 Q1 Q2 Q3 Q4 Q5 Q6 W1 W0} {ρ : Type} {K : Exit → St → Option ρ} {W : List AV → List Ob → Option ρ} (v1 v2 v3 v4 v5) : exC Try.prog (mkO [qE 87 false spec_l01Long.encR Q1, qE 83 false spec_l16Put.encR Q3, qE 88 false spec_Decimal.encR Q6] [eE Try.prog 59 [true, false] false [true] spec_l01Below_sb3e9.encR Q0, eE Try.prog 86 [true, true] false [true, true] spec_l01Pick_s189a.encR Q2, eE Try.prog 84 [true] false [true] spec_l16Name_s0451.encR Q4, eE Try.prog 85 [true, false] false [true] spec_l01Text_sb3e9.encR Q5] []) (L W1 W0) [] 2 c1 (mkS 63 ct1.live [.c (.p 0 0), .c (.p 1 0), .c (.p 2 0), vi v1] [.box [cl v2, ci v3, ci v4], .box [.z], .box [.h 3], ro v5] [true]) (bodyK Try.prog 63 1 [true] ct1 W lv1 K) =
    B1 (fun y1 y2 y3 y4 => Q0 [.c (.p 0 0), vi y1] [.box [cl y2, ci y3, ci y4]]) (fun y1 => Q6 [vi y1]) (fun y1 y2 y3 => Q3 [.a [cl y1], .a [cs y2, cs y3]]) v1 v2 v3 v4 v5 (fun u1 u2 u3 u4 u5 => W [.c (.p 0 0), .c (.p 1 0), .c (.p 2 0), vi u1] [.box [cl u2, ci u3, ci u4], .box [.z], .box [.h 3], ro u5]) (k1_3 K) := by kernel_rfl
def enc1 (t : Int × Vec (IK .u8) × Int × Int × YVF) : List AV × List Ob := ([.c (.p 0 0), .c (.p 1 0), .c (.p 2 0), vi t.1], [.box [cl t.2.1, ci t.2.2.1, ci t.2.2.2.1], .box [.z], .box [.h 3], ro t.2.2.2.2])
theorem enc1I (a b) (h : enc1 a = enc1 b) : a = b := by simp [enc1, encRw_iff] at h; simp [Prod.ext_iff, h]
noncomputable def V1 : (ρ : Type) → List AV → List Ob → (YU → Int → Int → YVF → Option ρ) → Option ρ := fun ρ avs obs k3 => ofC enc1 (fun t => F1 fuelN t.1 t.2.1 t.2.2.1 t.2.2.2.1 t.2.2.2.2 k3) (avs, obs)
theorem V1_enc (ρ : Type) : F1 fuelN = fun w1 w2 w3 w4 w5 k3 => V1 ρ [.c (.p 0 0), .c (.p 1 0), .c (.p 2 0), vi w1] [.box [cl w2, ci w3, ci w4], .box [.z], .box [.h 3], ro w5] k3 := by funext w1 w2 w3 w4 w5 k3; exact Eq.symm (ofC_enc enc1I _ (w1, w2, w3, w4, w5))
theorem main {Q0 Q1 Q2 Q3 Q4 Q5 Q6 W1 W0} {ρ : Type} {K : AV → List Ob → Option ρ} (a1 a2 a3) : exC Try.prog (mkO [qE 87 false spec_l01Long.encR Q1, qE 83 false spec_l16Put.encR Q3, qE 88 false spec_Decimal.encR Q6] [eE Try.prog 59 [true, false] false [true] spec_l01Below_sb3e9.encR Q0, eE Try.prog 86 [true, true] false [true, true] spec_l01Pick_s189a.encR Q2, eE Try.prog 84 [true] false [true] spec_l16Name_s0451.encR Q4, eE Try.prog 85 [true, false] false [true] spec_l01Text_sb3e9.encR Q5] []) (L W1 W0) [] 0 (bodyOf Try.f50) (entry 63 [.c (.p 0 0)] [.box [cl a1, ci a2, ci a3]] [true]) (finO Try.prog Try.f50.results.toList 1 [true] [] K) =
    B (fun y1 y2 y3 y4 => Q0 [.c (.p 0 0), vi y1] [.box [cl y2, ci y3, ci y4]]) (fun y1 y2 => Q1 [vi y1, vk .u8 y2]) (fun y1 y2 y3 y4 => Q2 [.c (.p 0 0), .c (.h 1)] [.box [cl y1, ci y2, ci y3], ro y4]) (fun y1 y2 y3 => Q3 [.a [cl y1], .a [cs y2, cs y3]]) (fun w1 w2 w3 w4 w5 k0 => W0 ρ [.c (.p 0 0), .c (.p 1 0), .c (.p 2 0), vi w1] [.box [cl w2, ci w3, ci w4], .box [.z], .box [.h 3], ro w5] k0) (fun w1 w2 w3 w4 w5 k3 => W1 ρ [.c (.p 0 0), .c (.p 1 0), .c (.p 2 0), vi w1] [.box [cl w2, ci w3, ci w4], .box [.z], .box [.h 3], ro w5] k3) a1 a2 a3 (fun x1 x2 x3 x4 => K (.a [.h 1]) [.box [cl x1, ci x2, ci x3], ro x4]) := by kernel_rfl
theorem Gok : (mkO [qE 87 false spec_l01Long.encR spec_l01Long.Q, qE 83 false spec_l16Put.encR spec_l16Put.Q, qE 88 false spec_Decimal.encR spec_Decimal.Q] [eE Try.prog 59 [true, false] false [true] spec_l01Below_sb3e9.encR spec_l01Below_sb3e9.Q, eE Try.prog 86 [true, true] false [true, true] spec_l01Pick_s189a.encR spec_l01Pick_s189a.Q, eE Try.prog 84 [true] false [true] spec_l16Name_s0451.encR spec_l16Name_s0451.Q, eE Try.prog 85 [true, false] false [true] spec_l01Text_sb3e9.encR spec_l01Text_sb3e9.Q] []).ok Try.prog := mkO_ok (by exact ⟨qE_ok spec_l01Long.ac, qE_ok spec_l16Put.ac, qE_ok spec_Decimal.ac, trivial⟩) (by exact ⟨eE_ok (fun h => by cases h) spec_l01Below_sb3e9.ac, eE_ok (fun h => by cases h) spec_l01Pick_s189a.ac, eE_ok (fun h => by cases h) spec_l16Name_s0451.ac, eE_ok (fun h => by cases h) spec_l01Text_sb3e9.ac, trivial⟩)
theorem ok1 (ρ : Type) (st : St) (K : Exit → St → Option ρ) (r : ρ) (h : (L V1 V0) ρ 1 st K = some r) : AW Try.prog (.loop c1) st fun e st' => K e st' = some r :=
  loop_ok (ct := ct1) (lv := lv1) (L := (L V1 V0)) Gok hmT (by rw [show atomsL [] 2 c1 = [] by kernel_rfl]; exact Lor.ok_nil _ _) enc1I (fun k t => F1 k t.1 t.2.1 t.2.2.1 t.2.2.2.1 t.2.2.2.2 (k1_3 K)) (fun t => rfl) (fun k t => by refine (step1 t.1 t.2.1 t.2.2.1 t.2.2.2.1 t.2.2.2.2).trans ?_; rw [← spec_l01Below_sb3e9.wrap, ← spec_Decimal.wrap, ← spec_l16Put.wrap]; exact congrFun (congrArg (B1 _ _ _ t.1 t.2.1 t.2.2.1 t.2.2.2.1 t.2.2.2.2) (funext fun u1 => funext fun u2 => funext fun u3 => funext fun u4 => funext fun u5 => ofC_enc enc1I _ (u1, u2, u3, u4, u5))) _) (fun _ => fuelN) h
theorem ok0 (ρ : Type) (st : St) (K : Exit → St → Option ρ) (r : ρ) (h : (L V1 V0) ρ 0 st K = some r) : AW Try.prog (.loop c0) st fun e st' => K e st' = some r :=
  loop_ok (ct := ct0) (lv := lv0) (L := (L V1 V0)) Gok hmT (by rw [show atomsL [] 1 c0 = [] by kernel_rfl]; exact Lor.ok_nil _ _) enc0I (fun k t => F0 k t.1 t.2.1 t.2.2.1 t.2.2.2.1 t.2.2.2.2 (k0_0 K)) (fun t => rfl) (fun k t => by refine (step0 t.1 t.2.1 t.2.2.1 t.2.2.2.1 t.2.2.2.2).trans ?_; rw [← spec_l01Below_sb3e9.wrap, ← spec_l16Name_s0451.wrap, ← spec_l01Text_sb3e9.wrap, ← spec_l16Put.wrap]; exact congrFun (congrArg (B0 _ _ _ _ t.1 t.2.1 t.2.2.1 t.2.2.2.1 t.2.2.2.2) (funext fun u1 => funext fun u2 => funext fun u3 => funext fun u4 => funext fun u5 => ofC_enc enc0I _ (u1, u2, u3, u4, u5))) _) (fun _ => fuelN) h
theorem e : atomsL [] 0 (bodyOf Try.f50) = [(0, 0, .loop c0), (1, 1, .loop c1)] := by kernel_rfl
theorem acc : ∀ t x, F t.1 t.2.1 t.2.2 = some x → ACc Try.prog 50 (encA t).1 (encA t).2 true [true] fun rv obs => (rv, obs) = encR x :=
  accT2 (T := Vec (IK .u8) × Int × Int) (F := fun t => F t.1 t.2.1 t.2.2) (L := (L V1 V0)) (cmds := []) (body := (bodyOf Try.f50)) 1 (fun _ => rfl) Gok hmT Try.func50 (by kernel_rfl) (by kernel_rfl) (by rw [e]; exact Lor.ok_cons ok0 (Lor.ok_cons ok1 (Lor.ok_nil _ _))) (fun t => by refine (main t.1 t.2.1 t.2.2).trans ?_; rw [← spec_l01Below_sb3e9.wrap, ← spec_l01Long.wrap, ← spec_l01Pick_s189a.wrap, ← spec_l16Put.wrap, ← V0_enc, ← V1_enc]; exact congrArg (B _ _ _ _ _ _ t.1 t.2.1 t.2.2) (funext fun x1 => funext fun x2 => funext fun x3 => funext fun x4 => ofC_enc encRI some (x1, x2, x3, x4)))
theorem ac (args : List AV) (hin : List Ob) (x : Vec (IK .u8) × Int × Int × YVF) (h : Q args hin = some x) : AC Try.prog 50 args hin true [true] fun rv obs => (rv, obs) = encR x := acT2 (T := Vec (IK .u8) × Int × Int) (F := fun t => F t.1 t.2.1 t.2.2) (body := (bodyOf Try.f50)) Try.func50 (by kernel_rfl) (by kernel_rfl) acc args hin x h
end spec_l16Disk_s0451
/-! loop.example/g00073/spec.DrawDiskOk -/
namespace spec_DrawDiskOk
noncomputable def B {ρ : Type} (C0 : YU → Option (Vec (IK .u8) × Int × Int)) (C1 : YU → Int → Int → Option (Vec (IK .u8) × Int × Int × YVF)) (a1 : YU) (K : YVF → Option ρ) : Option ρ :=
  (C0 a1).bind fun r1 => (C1 r1.1 r1.2.1 r1.2.2).bind fun r2 => K r2.2.2.2
noncomputable def F (a1 : YU) : Option YVF := B spec_l01New.F spec_l16Disk_s0451.F a1 (fun x1 => some (x1))
def encA (t : YU) : List AV := [vl t]
def encR (x : Vec YF) : AV × List Ob := (.a [.h 0], [ro x])
theorem encAI (a b) (h : encA a = encA b) : a = b := by simpa [encA, encRw_iff] using h
theorem encRI (a b) (h : encR a = encR b) : a = b := by simpa [encR, encRw_iff] using h
noncomputable def Q (args : List AV) : Option YVF := ofC encA (fun t => F t) args
theorem wrap : F = fun y1 => Q [vl y1] := by funext y1; exact Eq.symm (ofC_enc encAI _ (y1))
noncomputable def L : Lor := fun _ _ _ _ => Option.none
theorem main {Q0 Q1} {ρ : Type} {K : AV → List Ob → Option ρ} (a1) : exC Try.prog (mkO [qE 51 true spec_l01New.encR Q0] [eE Try.prog 50 [true] false [true] spec_l16Disk_s0451.encR Q1] []) L [] 0 (bodyOf Try.f16) (entry 6 [vl a1] [] []) (finO Try.prog Try.f16.results.toList 0 [] [] K) =
    B (fun y1 => Q0 [vl y1]) (fun y1 y2 y3 => Q1 [.c (.p 0 0)] [.box [cl y1, ci y2, ci y3]]) a1 (fun x1 => K (.a [.h 0]) [ro x1]) := by kernel_rfl
theorem Gok : (mkO [qE 51 true spec_l01New.encR spec_l01New.Q] [eE Try.prog 50 [true] false [true] spec_l16Disk_s0451.encR spec_l16Disk_s0451.Q] []).ok Try.prog := mkO_ok (by exact ⟨qE_ok spec_l01New.ac, trivial⟩) (by exact ⟨eE_ok (fun h => by cases h) spec_l16Disk_s0451.ac, trivial⟩)
theorem acc : ∀ t x, F t = some x → ACc Try.prog 16 (encA t) [] true [] fun rv obs => (rv, obs) = encR x :=
  accT (T := Vec (IK .u8)) (F := fun t => F t) (L := L) (cmds := []) (body := (bodyOf Try.f16)) Gok hmT Try.func16 (by kernel_rfl) (by kernel_rfl) (by rw [show atomsL [] 0 (bodyOf Try.f16) = [] by kernel_rfl]; exact Lor.ok_nil _ _) (fun t => by refine (main t).trans ?_; rw [← spec_l01New.wrap, ← spec_l16Disk_s0451.wrap]; exact congrArg (B _ _ t) (funext fun x1 => ofC_enc encRI some (x1)))
theorem ac (args : List AV) (x : Vec YF) (h : Q args = some x) : AC Try.prog 16 args [] false [] fun rv obs => (rv, obs) = encR x := acF (T := Vec (IK .u8)) (F := fun t => F t) (body := (bodyOf Try.f16)) Try.func16 (by kernel_rfl) (by kernel_rfl) acc (fun x => ⟨by simp [encR, AV.Flat, K.Flat, C.Flat], flc (flat_rw rfl _) (fl0)⟩) args x h
end spec_DrawDiskOk
/-! loop.example/g00073/laws.FnFiles -/
namespace laws_FnFiles
noncomputable def B0 {ρ : Type} (C4 : YVF → ByteArray → Option (ByteArray × Bool)) (v1 : Int) (v2 : Vec YF) (v3 : Vec YF) (W : Int → YVF → YVF → Option ρ) (K0 : Unit → Option ρ) (Kr : Bool → Option ρ) : Option ρ :=
  sel (decide (v1 < (v2.n : Int))) (chk (decide (0 ≤ v1 ∧ v1 < (v2.n : Int))) (chk (decide (v1.toNat < v2.n)) ((C4 v3 ((v2.g v1.toNat).1)).bind fun r25 => chk (decide (0 ≤ v1 ∧ v1 < (v2.n : Int))) (chk (decide (v1.toNat < v2.n)) (sel ((!decide ((v2.g v1.toNat).1 = (ByteArray.mk #[110, 101, 119])))) (chk (decide (0 ≤ v1 ∧ v1 < (v2.n : Int))) (chk (decide (v1.toNat < v2.n)) (sel ((!decide ((v2.g v1.toNat).1 = (ByteArray.mk #[111, 116, 104, 101, 114])))) (sel ((!r25.2)) (Kr false) (chk (decide (0 ≤ v1 ∧ v1 < (v2.n : Int))) (chk (decide (v1.toNat < v2.n)) (sel ((!decide (r25.1 = (v2.g v1.toNat).2))) (Kr false) (W (wr (v1 + (1 : Int))) v2 v3))))) (W (wr (v1 + (1 : Int))) v2 v3)))) (W (wr (v1 + (1 : Int))) v2 v3)))))) (K0 ())
noncomputable def F0 {ρ : Type} : Nat → Int → YVF → YVF → (Unit → Option ρ) → (Bool → Option ρ) → Option ρ
  | 0, _, _, _, _, _ => none
  | k + 1, v1, v2, v3, K0, Kr => B0 impl_FileAt.F v1 v2 v3 (fun v1' v2' v3' => F0 k v1' v2' v3' K0 Kr) K0 Kr
noncomputable def B {ρ : Type} (C0 : YU → Option Bool) (C1 : YU → Option YVF) (C2 : YVF → Option Bool) (C3 : YVF → Int → ByteArray → ByteArray → ByteArray → Option (Bool × YVF)) (C4 : YVF → ByteArray → Option (ByteArray × Bool)) (L0 : Int → YVF → YVF → (Unit → Option ρ) → (Bool → Option ρ) → Option ρ) (a1 : YU) (K : Bool → Option ρ) : Option ρ :=
  (C0 a1).bind fun r1 => sel (r1) (K true) ((C1 a1).bind fun r2 => (C2 r2).bind fun r3 => sel ((!r3)) ((C3 (Vec.lit [((ByteArray.mk #[119, 48]), (ByteArray.mk #[120]))] : Vec YF) (1 : Int) (ByteArray.mk #[110, 101, 119]) ByteArray.empty (ByteArray.mk #[116, 101, 120, 116])).bind fun r4 => (C3 r4.2 (2 : Int) (ByteArray.mk #[110, 101, 119]) (ByteArray.mk #[111, 116, 104, 101, 114]) ByteArray.empty).bind fun r5 => (C3 r5.2 (3 : Int) (ByteArray.mk #[111, 116, 104, 101, 114]) ByteArray.empty ByteArray.empty).bind fun r6 => (C4 r4.2 (ByteArray.mk #[110, 101, 119])).bind fun r7 => (C4 r5.2 (ByteArray.mk #[111, 116, 104, 101, 114])).bind fun r8 => (C4 r5.2 (ByteArray.mk #[110, 101, 119])).bind fun r9 => (C4 r6.2 (ByteArray.mk #[111, 116, 104, 101, 114])).bind fun r10 => sel ((!r4.1)) (K false) (sel ((!r5.1)) (K false) (sel ((!r6.1)) (K false) (sel ((!r7.2)) (K false) (sel ((!r8.2)) (K false) (sel (r9.2) (K false) (sel (r10.2) (K false) (sel ((!decide (r7.1 = (ByteArray.mk #[116, 101, 120, 116])))) (K false) (sel ((!decide (r8.1 = (ByteArray.mk #[116, 101, 120, 116])))) (K false) (L0 (0 : Int) (Vec.lit [((ByteArray.mk #[119, 48]), (ByteArray.mk #[120]))] : Vec YF) r6.2 (fun _ => K true) (fun x01 => K x01))))))))))) (sel (decide ((30 : Int) < (r2.n : Int))) ((C3 (Vec.lit [((ByteArray.mk #[119, 48]), (ByteArray.mk #[120]))] : Vec YF) (1 : Int) (ByteArray.mk #[110, 101, 119]) ByteArray.empty (ByteArray.mk #[116, 101, 120, 116])).bind fun r11 => (C3 r11.2 (2 : Int) (ByteArray.mk #[110, 101, 119]) (ByteArray.mk #[111, 116, 104, 101, 114]) ByteArray.empty).bind fun r12 => (C3 r12.2 (3 : Int) (ByteArray.mk #[111, 116, 104, 101, 114]) ByteArray.empty ByteArray.empty).bind fun r13 => (C4 r11.2 (ByteArray.mk #[110, 101, 119])).bind fun r14 => (C4 r12.2 (ByteArray.mk #[111, 116, 104, 101, 114])).bind fun r15 => (C4 r12.2 (ByteArray.mk #[110, 101, 119])).bind fun r16 => (C4 r13.2 (ByteArray.mk #[111, 116, 104, 101, 114])).bind fun r17 => sel ((!r11.1)) (K false) (sel ((!r12.1)) (K false) (sel ((!r13.1)) (K false) (sel ((!r14.2)) (K false) (sel ((!r15.2)) (K false) (sel (r16.2) (K false) (sel (r17.2) (K false) (sel ((!decide (r14.1 = (ByteArray.mk #[116, 101, 120, 116])))) (K false) (sel ((!decide (r15.1 = (ByteArray.mk #[116, 101, 120, 116])))) (K false) (L0 (0 : Int) (Vec.lit [((ByteArray.mk #[119, 48]), (ByteArray.mk #[120]))] : Vec YF) r13.2 (fun _ => K true) (fun x01 => K x01))))))))))) ((C3 r2 (1 : Int) (ByteArray.mk #[110, 101, 119]) ByteArray.empty (ByteArray.mk #[116, 101, 120, 116])).bind fun r18 => (C3 r18.2 (2 : Int) (ByteArray.mk #[110, 101, 119]) (ByteArray.mk #[111, 116, 104, 101, 114]) ByteArray.empty).bind fun r19 => (C3 r19.2 (3 : Int) (ByteArray.mk #[111, 116, 104, 101, 114]) ByteArray.empty ByteArray.empty).bind fun r20 => (C4 r18.2 (ByteArray.mk #[110, 101, 119])).bind fun r21 => (C4 r19.2 (ByteArray.mk #[111, 116, 104, 101, 114])).bind fun r22 => (C4 r19.2 (ByteArray.mk #[110, 101, 119])).bind fun r23 => (C4 r20.2 (ByteArray.mk #[111, 116, 104, 101, 114])).bind fun r24 => sel ((!r18.1)) (K false) (sel ((!r19.1)) (K false) (sel ((!r20.1)) (K false) (sel ((!r21.2)) (K false) (sel ((!r22.2)) (K false) (sel (r23.2) (K false) (sel (r24.2) (K false) (sel ((!decide (r21.1 = (ByteArray.mk #[116, 101, 120, 116])))) (K false) (sel ((!decide (r22.1 = (ByteArray.mk #[116, 101, 120, 116])))) (K false) (L0 (0 : Int) r2 r20.2 (fun _ => K true) (fun x01 => K x01)))))))))))))
noncomputable def F (a1 : YU) : Option Bool := B laws_big.F spec_DrawDiskOk.F spec_DiskOk.F impl_PutRaw.F impl_FileAt.F (F0 fuelN) a1 (fun x1 => some (x1))
def encA (t : YU) : List AV := [vl t]
def encR (x : Bool) : AV × List Ob := (vb x, [])
theorem encAI (a b) (h : encA a = encA b) : a = b := by simpa [encA, encRw_iff] using h
theorem encRI (a b) (h : encR a = encR b) : a = b := by simpa [encR, encRw_iff] using h
noncomputable def Q (args : List AV) : Option Bool := ofC encA (fun t => F t) args
theorem wrap : F = fun y1 => Q [vl y1] := by funext y1; exact Eq.symm (ofC_enc encAI _ (y1))
noncomputable def c0 : Code := loopC (atomN [] 0 (bodyOf Try.f4) 0)
def ct0 : Cut := ⟨[3, 8, 18], []⟩
def lv0 : Exit → Cut
  | .exit 0 => ⟨[], []⟩
  | .ret => ⟨[2], []⟩
  | _ => ⟨[], []⟩
def k0_0 {ρ : Type} (K : Exit → St → Option ρ) (_ : Unit) : Option ρ := K (.exit 0) (mkS 155 (lv0 (.exit 0)).live [] [] [])
def k0_r {ρ : Type} (K : Exit → St → Option ρ) (z1 : Bool) : Option ρ := K .ret (mkS 155 (lv0 .ret).live [vb z1] [] [])
noncomputable def L (W0 : (ρ : Type) → List AV → List Ob → (Unit → Option ρ) → (Bool → Option ρ) → Option ρ) : Lor := fun ρ j st K => sel (Nat.beq j 0) (cutO Try.prog 155 ct0.live 0 [] ct0.cmds st fun avs obs => W0 ρ avs obs (k0_0 K) (k0_r K)) (Option.none)
theorem step0 {Q0 Q1 Q2 Q3 Q4 W0} {ρ : Type} {K : Exit → St → Option ρ} {W : List AV → List Ob → Option ρ} (v1 v2 v3) : exC Try.prog (mkO [qE 15 false laws_big.encR Q0, qE 16 false spec_DrawDiskOk.encR Q1, qE 17 false spec_DiskOk.encR Q2, qE 18 false impl_PutRaw.encR Q3, qE 19 false impl_FileAt.encR Q4] [] []) (L W0) [] 1 c0 (mkS 155 ct0.live [.c (.p 0 0), .c (.p 1 0), vi v1] [.box [.h 2], .box [.h 3], ro v2, ro v3] []) (bodyK Try.prog 155 0 [] ct0 W lv0 K) =
    B0 (fun y1 y2 => Q4 [.a [cl y1], vs y2]) v1 v2 v3 (fun u1 u2 u3 => W [.c (.p 0 0), .c (.p 1 0), vi u1] [.box [.h 2], .box [.h 3], ro u2, ro u3]) (k0_0 K) (k0_r K) := by kernel_rfl
def enc0 (t : Int × YVF × YVF) : List AV × List Ob := ([.c (.p 0 0), .c (.p 1 0), vi t.1], [.box [.h 2], .box [.h 3], ro t.2.1, ro t.2.2])
theorem enc0I (a b) (h : enc0 a = enc0 b) : a = b := by simp [enc0, encRw_iff] at h; simp [Prod.ext_iff, h]
noncomputable def V0 : (ρ : Type) → List AV → List Ob → (Unit → Option ρ) → (Bool → Option ρ) → Option ρ := fun ρ avs obs k0 kr => ofC enc0 (fun t => F0 fuelN t.1 t.2.1 t.2.2 k0 kr) (avs, obs)
theorem V0_enc (ρ : Type) : F0 fuelN = fun w1 w2 w3 k0 kr => V0 ρ [.c (.p 0 0), .c (.p 1 0), vi w1] [.box [.h 2], .box [.h 3], ro w2, ro w3] k0 kr := by funext w1 w2 w3 k0 kr; exact Eq.symm (ofC_enc enc0I _ (w1, w2, w3))
theorem main {Q0 Q1 Q2 Q3 Q4 W0} {ρ : Type} {K : AV → List Ob → Option ρ} (a1) : exC Try.prog (mkO [qE 15 false laws_big.encR Q0, qE 16 false spec_DrawDiskOk.encR Q1, qE 17 false spec_DiskOk.encR Q2, qE 18 false impl_PutRaw.encR Q3, qE 19 false impl_FileAt.encR Q4] [] []) (L W0) [] 0 (bodyOf Try.f4) (entry 155 [vl a1] [] []) (finO Try.prog Try.f4.results.toList 0 [] [] K) =
    B (fun y1 => Q0 [vl y1]) (fun y1 => Q1 [vl y1]) (fun y1 => Q2 [.a [cl y1]]) (fun y1 y2 y3 y4 y5 => Q3 [.a [cl y1], .a [ci y2, cs y3, cs y4, cs y5]]) (fun y1 y2 => Q4 [.a [cl y1], vs y2]) (fun w1 w2 w3 k0 kr => W0 ρ [.c (.p 0 0), .c (.p 1 0), vi w1] [.box [.h 2], .box [.h 3], ro w2, ro w3] k0 kr) a1 (fun x1 => K (vb x1) []) := by kernel_rfl
theorem Gok : (mkO [qE 15 false laws_big.encR laws_big.Q, qE 16 false spec_DrawDiskOk.encR spec_DrawDiskOk.Q, qE 17 false spec_DiskOk.encR spec_DiskOk.Q, qE 18 false impl_PutRaw.encR impl_PutRaw.Q, qE 19 false impl_FileAt.encR impl_FileAt.Q] [] []).ok Try.prog := mkO_ok (by exact ⟨qE_ok laws_big.ac, qE_ok spec_DrawDiskOk.ac, qE_ok spec_DiskOk.ac, qE_ok impl_PutRaw.ac, qE_ok impl_FileAt.ac, trivial⟩) (by exact trivial)
theorem ok0 (ρ : Type) (st : St) (K : Exit → St → Option ρ) (r : ρ) (h : (L V0) ρ 0 st K = some r) : AW Try.prog (.loop c0) st fun e st' => K e st' = some r :=
  loop_ok (ct := ct0) (lv := lv0) (L := (L V0)) Gok hmT (by rw [show atomsL [] 1 c0 = [] by kernel_rfl]; exact Lor.ok_nil _ _) enc0I (fun k t => F0 k t.1 t.2.1 t.2.2 (k0_0 K) (k0_r K)) (fun t => rfl) (fun k t => by refine (step0 t.1 t.2.1 t.2.2).trans ?_; rw [← impl_FileAt.wrap]; exact congrFun (congrFun (congrArg (B0 _ t.1 t.2.1 t.2.2) (funext fun u1 => funext fun u2 => funext fun u3 => ofC_enc enc0I _ (u1, u2, u3))) _) _) (fun _ => fuelN) h
theorem e : atomsL [] 0 (bodyOf Try.f4) = [(0, 0, .loop c0)] := by kernel_rfl
theorem acc : ∀ t x, F t = some x → ACc Try.prog 4 (encA t) [] true [] fun rv obs => (rv, obs) = encR x :=
  accT (T := Vec (IK .u8)) (F := fun t => F t) (L := (L V0)) (cmds := []) (body := (bodyOf Try.f4)) Gok hmT Try.func4 (by kernel_rfl) (by kernel_rfl) (by rw [e]; exact Lor.ok_cons ok0 (Lor.ok_nil _ _)) (fun t => by refine (main t).trans ?_; rw [← laws_big.wrap, ← spec_DrawDiskOk.wrap, ← spec_DiskOk.wrap, ← impl_PutRaw.wrap, ← impl_FileAt.wrap, ← V0_enc]; exact congrArg (B _ _ _ _ _ _ t) (funext fun x1 => ofC_enc encRI some (x1)))
theorem ac (args : List AV) (x : Bool) (h : Q args = some x) : AC Try.prog 4 args [] false [] fun rv obs => (rv, obs) = encR x := acF (T := Vec (IK .u8)) (F := fun t => F t) (body := (bodyOf Try.f4)) Try.func4 (by kernel_rfl) (by kernel_rfl) acc (fun x => ⟨by simp [encR, AV.Flat, K.Flat, C.Flat], fl0⟩) args x h
end laws_FnFiles
end Go.Al
