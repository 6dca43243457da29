import Derived.Test.YtbhcecfdgkgjmaaAlF
import Derived.Test.YtbhcecfdgkgjmaaSC
import Derived.Test.YtbhcecfdgkgjmaaGDr
import Derived.Test.YtbhcecfdgkgjmaaGPut
set_option linter.unusedVariables false
set_option linter.unusedSimpArgs false
set_option linter.constructorNameAsVariable false
set_option linter.unusedSectionVars false
set_option maxRecDepth 100000
namespace Go.Al
open Go.Proofs

/-! loop.example/g00073/laws.big -/
namespace laws_big
noncomputable def B {ρ : Type} (a1 : YU) (K : Bool → Option ρ) : Option ρ :=
  K (decide ((1048576 : Int) < (a1.n : Int)))
noncomputable def F (a1 : YU) : Option Bool := B a1 (fun x1 => some (x1))
def encA (t : YU) : LA := [vl t]
def encR (x : Bool) : AV × LO := (vb x, [])
theorem encAI (a b) (h : encA a = encA b) : a = b := by simpa [encA, encRw_iff] using h
theorem encRI (a b) (h : encR a = encR b) : a = b := by simpa [encR, encRw_iff] using h
noncomputable def Q (args : LA) : Option Bool := ofC encA (un1 F) args
theorem wrap : F = fun y1 => Q [vl y1] := by funext y1; exact Eq.symm (ofC_enc encAI _ (y1))
noncomputable abbrev O : Orc := mkO [] [] []
noncomputable def L : Lor := fun _ _ _ _ => Option.none
theorem main {ρ : Type} {K : AV → LO → Option ρ} {a1} : exC Try.prog O L [] 0 (bodyOf Try.f15) (entry 6 [vl a1] [] []) (finO Try.prog Try.f15.results.toList 0 [] [] K) =
    B a1 (fun x1 => K (vb x1) []) := by kernel_rfl
theorem Gok : O.ok Try.prog := mkO_ok (by exact trivial) (by exact trivial)
theorem acc : ∀ t x, un1 F t = some x → ACc Try.prog 15 (encA t) [] true [] fun rv obs => (rv, obs) = encR x := accT (T := Vec (IK .u8)) (F := un1 F) (L := L) (cmds := []) (body := (bodyOf Try.f15)) Gok hmT Try.func15 (by kernel_rfl) (by kernel_rfl) (by rw [show atomsL [] 0 (bodyOf Try.f15) = [] by kernel_rfl]; exact Lor.ok_nil _ _) (fun t => by refine main.trans ?_; exact congrArg (B _) (fx1 fun t => ofC_enc encRI some t))
theorem ac : ∀ a x, Q a = some x → AC Try.prog 15 a [] false [] fun rv obs => (rv, obs) = encR x := acF (body := (bodyOf Try.f15)) Try.func15 (by kernel_rfl) (by kernel_rfl) acc fun x => ⟨by simp [encR, AV.Flat, K.Flat, C.Flat], fl0⟩
end laws_big
/-! loop.example/g00073/spec.l01Once -/
namespace spec_l01Once_sb3e9
noncomputable def B {ρ : Type} (C0 : Int → YU → Int → Int → Option (Int × Vec (IK .u8) × Int × Int)) (a1 : Int) (a2 : YU) (a3 : Int) (a4 : Int) (K : Bool → YU → Int → Int → Option ρ) : Option ρ :=
  (C0 a1 a2 a3 a4).bind fun r1 => K (decide (r1.1 = (0 : Int))) r1.2.1 r1.2.2.1 r1.2.2.2
noncomputable def F (a1 : Int) (a2 : YU) (a3 : Int) (a4 : Int) : Option (Bool × Vec (IK .u8) × Int × Int) := B spec_l01Below_sb3e9.F a1 a2 a3 a4 (fun x1 x2 x3 x4 => some (x1, x2, x3, x4))
def encA (t : Int × Vec (IK .u8) × Int × Int) : LA × LO := ([.c (.p 0 0), vi t.1], [.box [cl t.2.1, ci t.2.2.1, ci t.2.2.2]])
def encR (x : Bool × Vec (IK .u8) × Int × Int) : AV × LO := (vb x.1, [.box [cl x.2.1, ci x.2.2.1, ci x.2.2.2]])
theorem encAI (a b) (h : encA a = encA b) : a = b := by simp [encA, encRw_iff] at h; simp [Prod.ext_iff, h]
theorem encRI (a b) (h : encR a = encR b) : a = b := by simp [encR, encRw_iff] at h; simp [Prod.ext_iff, h]
noncomputable def Q (args : LA) (hin : LO) : Option (Bool × Vec (IK .u8) × Int × Int) := ofC encA (un4 F) (args, hin)
theorem wrap : F = fun y1 y2 y3 y4 => Q [.c (.p 0 0), vi y1] [.box [cl y2, ci y3, ci y4]] := by funext y1 y2 y3 y4; exact Eq.symm (ofC_enc encAI _ (y1, y2, y3, y4))
noncomputable abbrev O (Q0 : LA → LO → Option (Int × Vec (IK .u8) × Int × Int)) : Orc := mkO [] [eE Try.prog 59 [true, false] false [true] spec_l01Below_sb3e9.encR Q0] []
noncomputable def L : Lor := fun _ _ _ _ => Option.none
theorem main {Q0} {ρ : Type} {K : AV → LO → Option ρ} {a1 a2 a3 a4} : exC Try.prog (O Q0) L [] 0 (bodyOf Try.f94) (entry 9 [.c (.p 0 0), vi a1] [.box [cl a2, ci a3, ci a4]] [true]) (finO Try.prog Try.f94.results.toList 1 [true] [] K) =
    B (fun y1 y2 y3 y4 => Q0 [.c (.p 0 0), vi y1] [.box [cl y2, ci y3, ci y4]]) a1 a2 a3 a4 (fun x1 x2 x3 x4 => K (vb x1) [.box [cl x2, ci x3, ci x4]]) := by kernel_rfl
theorem Gok : (O spec_l01Below_sb3e9.Q).ok Try.prog := mkO_ok (by exact trivial) (by exact ⟨eE_ok (fun h => by cases h) spec_l01Below_sb3e9.ac, trivial⟩)
theorem acc : ∀ t x, un4 F t = some x → ACc Try.prog 94 (encA t).1 (encA t).2 true [true] fun rv obs => (rv, obs) = encR x := accT2 (T := Int × Vec (IK .u8) × Int × Int) (F := un4 F) (L := L) (cmds := []) (body := (bodyOf Try.f94)) 1 (fun _ => rfl) Gok hmT Try.func94 (by kernel_rfl) (by kernel_rfl) (by rw [show atomsL [] 0 (bodyOf Try.f94) = [] by kernel_rfl]; exact Lor.ok_nil _ _) (fun t => by refine main.trans ?_; rw [← spec_l01Below_sb3e9.wrap]; exact congrArg (B _ _ _ _ _) (fx4 fun t => ofC_enc encRI some t))
theorem ac : ∀ a h x, Q a h = some x → AC Try.prog 94 a h true [true] fun rv obs => (rv, obs) = encR x := acT2 (body := (bodyOf Try.f94)) Try.func94 (by kernel_rfl) (by kernel_rfl) acc
end spec_l01Once_sb3e9
/-! loop.example/g00073/spec.l13Path2 -/
namespace spec_l13Path2_s0451
noncomputable def B {ρ : Type} (C0 : Int → YU → Int → Int → Option (Bool × Vec (IK .u8) × Int × Int)) (C1 : YU → Int → Int → YS → Option (ByteArray × Vec (IK .u8) × Int × Int × Vec ByteArray)) (a1 : YU) (a2 : Int) (a3 : Int) (K : ByteArray → YU → Int → Int → Option ρ) : Option ρ :=
  (C0 (25 : Int) a1 a2 a3).bind fun r1 => sel (r1.1) ((C1 r1.2.1 r1.2.2.1 r1.2.2.2 (Vec.lit [ByteArray.empty, (ByteArray.mk #[47, 97]), (ByteArray.mk #[97, 47]), (ByteArray.mk #[97, 47, 47, 98]), (ByteArray.mk #[65]), (ByteArray.mk #[97, 97, 97, 97, 97, 97, 97, 97, 97, 97, 97, 97, 97, 97, 97, 97, 97, 97, 97, 97, 97, 97, 97, 97]), (ByteArray.mk #[97, 97, 97, 97, 97, 97, 97, 97, 97, 97, 97, 97, 97, 97, 97, 97, 97, 97, 97, 97, 97, 97, 97, 97, 97]), (ByteArray.mk #[97, 32, 98]), (ByteArray.mk #[233])] : YS)).bind fun r2 => K r2.1 r2.2.1 r2.2.2.1 r2.2.2.2.1) ((C1 r1.2.1 r1.2.2.1 r1.2.2.2 (Vec.lit [(ByteArray.mk #[97]), (ByteArray.mk #[98]), (ByteArray.mk #[115, 114, 99, 47, 109, 97, 105, 110]), (ByteArray.mk #[100, 111, 99, 46, 116, 120, 116]), (ByteArray.mk #[120, 45, 49])] : YS)).bind fun r3 => K r3.1 r3.2.1 r3.2.2.1 r3.2.2.2.1)
noncomputable def F (a1 : YU) (a2 : Int) (a3 : Int) : Option (ByteArray × Vec (IK .u8) × Int × Int) := B spec_l01Once_sb3e9.F spec_l01Pick_s189a.F a1 a2 a3 (fun x1 x2 x3 x4 => some (x1, x2, x3, x4))
def encA (t : Vec (IK .u8) × Int × Int) : LA × LO := ([.c (.p 0 0)], [.box [cl t.1, ci t.2.1, ci t.2.2]])
def encR (x : ByteArray × Vec (IK .u8) × Int × Int) : AV × LO := (vs x.1, [.box [cl x.2.1, ci x.2.2.1, ci x.2.2.2]])
theorem encAI (a b) (h : encA a = encA b) : a = b := by simp [encA, encRw_iff] at h; simp [Prod.ext_iff, h]
theorem encRI (a b) (h : encR a = encR b) : a = b := by simp [encR, encRw_iff] at h; simp [Prod.ext_iff, h]
noncomputable def Q (args : LA) (hin : LO) : Option (ByteArray × Vec (IK .u8) × Int × Int) := ofC encA (un3 F) (args, hin)
theorem wrap : F = fun y1 y2 y3 => Q [.c (.p 0 0)] [.box [cl y1, ci y2, ci y3]] := by funext y1 y2 y3; exact Eq.symm (ofC_enc encAI _ (y1, y2, y3))
noncomputable abbrev O (Q0 : LA → LO → Option (Bool × Vec (IK .u8) × Int × Int)) (Q1 : LA → LO → Option (ByteArray × Vec (IK .u8) × Int × Int × Vec ByteArray)) : Orc := mkO [] [eE Try.prog 94 [true, false] false [true] spec_l01Once_sb3e9.encR Q0, eE Try.prog 86 [true, true] false [true, true] spec_l01Pick_s189a.encR Q1] []
noncomputable def L : Lor := fun _ _ _ _ => Option.none
theorem main {Q0 Q1} {ρ : Type} {K : AV → LO → Option ρ} {a1 a2 a3} : exC Try.prog (O Q0 Q1) L [] 0 (bodyOf Try.f97) (entry 11 [.c (.p 0 0)] [.box [cl a1, ci a2, ci a3]] [true]) (finO Try.prog Try.f97.results.toList 1 [true] [] K) =
    B (fun y1 y2 y3 y4 => Q0 [.c (.p 0 0), vi y1] [.box [cl y2, ci y3, ci y4]]) (fun y1 y2 y3 y4 => Q1 [.c (.p 0 0), .c (.h 1)] [.box [cl y1, ci y2, ci y3], ro y4]) a1 a2 a3 (fun x1 x2 x3 x4 => K (vs x1) [.box [cl x2, ci x3, ci x4]]) := by kernel_rfl
theorem Gok : (O spec_l01Once_sb3e9.Q spec_l01Pick_s189a.Q).ok Try.prog := mkO_ok (by exact trivial) (by exact ⟨eE_ok (fun h => by cases h) spec_l01Once_sb3e9.ac, eE_ok (fun h => by cases h) spec_l01Pick_s189a.ac, trivial⟩)
theorem acc : ∀ t x, un3 F t = some x → ACc Try.prog 97 (encA t).1 (encA t).2 true [true] fun rv obs => (rv, obs) = encR x := accT2 (T := Vec (IK .u8) × Int × Int) (F := un3 F) (L := L) (cmds := []) (body := (bodyOf Try.f97)) 1 (fun _ => rfl) Gok hmT Try.func97 (by kernel_rfl) (by kernel_rfl) (by rw [show atomsL [] 0 (bodyOf Try.f97) = [] by kernel_rfl]; exact Lor.ok_nil _ _) (fun t => by refine main.trans ?_; rw [← spec_l01Once_sb3e9.wrap, ← spec_l01Pick_s189a.wrap]; exact congrArg (B _ _ _ _ _) (fx4 fun t => ofC_enc encRI some t))
theorem ac : ∀ a h x, Q a h = some x → AC Try.prog 97 a h true [true] fun rv obs => (rv, obs) = encR x := acT2 (body := (bodyOf Try.f97)) Try.func97 (by kernel_rfl) (by kernel_rfl) acc
end spec_l13Path2_s0451
/-! loop.example/g00073/spec.l01PickInt -/
namespace spec_l01PickInt_sa4ec
noncomputable def B {ρ : Type} (C0 : Int → YU → Int → Int → Option (Int × Vec (IK .u8) × Int × Int)) (a1 : YU) (a2 : Int) (a3 : Int) (a4 : YI) (K : Int → YU → Int → Int → YI → Option ρ) : Option ρ :=
  (C0 (a4.n : Int) a1 a2 a3).bind fun r1 => chk (decide (0 ≤ r1.1 ∧ r1.1 < (a4.n : Int))) (chk (decide ((r1.1).toNat < a4.n)) (K (a4.g ((r1.1).toNat)) r1.2.1 r1.2.2.1 r1.2.2.2 a4))
noncomputable def F (a1 : YU) (a2 : Int) (a3 : Int) (a4 : YI) : Option (Int × Vec (IK .u8) × Int × Int × Vec Int) := B spec_l01Below_sb3e9.F a1 a2 a3 a4 (fun x1 x2 x3 x4 x5 => some (x1, x2, x3, x4, x5))
def encA (t : Vec (IK .u8) × Int × Int × Vec Int) : LA × LO := ([.c (.p 0 0), .c (.h 1)], [.box [cl t.1, ci t.2.1, ci t.2.2.1], ro t.2.2.2])
def encR (x : Int × Vec (IK .u8) × Int × Int × Vec Int) : AV × LO := (vi x.1, [.box [cl x.2.1, ci x.2.2.1, ci x.2.2.2.1], ro x.2.2.2.2])
theorem encAI (a b) (h : encA a = encA b) : a = b := by simp [encA, encRw_iff] at h; simp [Prod.ext_iff, h]
theorem encRI (a b) (h : encR a = encR b) : a = b := by simp [encR, encRw_iff] at h; simp [Prod.ext_iff, h]
noncomputable def Q (args : LA) (hin : LO) : Option (Int × Vec (IK .u8) × Int × Int × Vec Int) := ofC encA (un4 F) (args, hin)
theorem wrap : F = fun y1 y2 y3 y4 => Q [.c (.p 0 0), .c (.h 1)] [.box [cl y1, ci y2, ci y3], ro y4] := by funext y1 y2 y3 y4; exact Eq.symm (ofC_enc encAI _ (y1, y2, y3, y4))
noncomputable abbrev O (Q0 : LA → LO → Option (Int × Vec (IK .u8) × Int × Int)) : Orc := mkO [] [eE Try.prog 59 [true, false] false [true] spec_l01Below_sb3e9.encR Q0] []
noncomputable def L : Lor := fun _ _ _ _ => Option.none
theorem main {Q0} {ρ : Type} {K : AV → LO → Option ρ} {a1 a2 a3 a4} : exC Try.prog (O Q0) L [] 0 (bodyOf Try.f98) (entry 12 [.c (.p 0 0), .c (.h 1)] [.box [cl a1, ci a2, ci a3], ro a4] [true, true]) (finO Try.prog Try.f98.results.toList 2 [true, true] [] K) =
    B (fun y1 y2 y3 y4 => Q0 [.c (.p 0 0), vi y1] [.box [cl y2, ci y3, ci y4]]) a1 a2 a3 a4 (fun x1 x2 x3 x4 x5 => K (vi x1) [.box [cl x2, ci x3, ci x4], ro x5]) := by kernel_rfl
theorem Gok : (O spec_l01Below_sb3e9.Q).ok Try.prog := mkO_ok (by exact trivial) (by exact ⟨eE_ok (fun h => by cases h) spec_l01Below_sb3e9.ac, trivial⟩)
theorem acc : ∀ t x, un4 F t = some x → ACc Try.prog 98 (encA t).1 (encA t).2 true [true, true] fun rv obs => (rv, obs) = encR x := accT2 (T := Vec (IK .u8) × Int × Int × Vec Int) (F := un4 F) (L := L) (cmds := []) (body := (bodyOf Try.f98)) 2 (fun _ => rfl) Gok hmT Try.func98 (by kernel_rfl) (by kernel_rfl) (by rw [show atomsL [] 0 (bodyOf Try.f98) = [] by kernel_rfl]; exact Lor.ok_nil _ _) (fun t => by refine main.trans ?_; rw [← spec_l01Below_sb3e9.wrap]; exact congrArg (B _ _ _ _ _) (fx5 fun t => ofC_enc encRI some t))
theorem ac : ∀ a h x, Q a h = some x → AC Try.prog 98 a h true [true, true] fun rv obs => (rv, obs) = encR x := acT2 (body := (bodyOf Try.f98)) Try.func98 (by kernel_rfl) (by kernel_rfl) acc
end spec_l01PickInt_sa4ec
/-! loop.example/g00073/spec.l13Names -/
namespace spec_l13Names_s0451
noncomputable def B1 {ρ : Type} (C0 : Int → YU → Int → Int → Option (Int × Vec (IK .u8) × Int × Int)) (v1 : ByteArray) (v2 : Int) (v3 : YU) (v4 : Int) (v5 : Int) (v6 : Vec YN) (W : ByteArray → Int → YU → Int → Int → YVN → Option ρ) (K3 : YU → Int → Int → YVN → Option ρ) : Option ρ :=
  (C0 (2 : Int) v3 v4 v5).bind fun r10 => sel (decide (v2 < (wr ((12 : Int) + r10.1)))) (chk (decide (0 ≤ v2 ∧ v2 ≤ (wr (v2 + (1 : Int))) ∧ (wr (v2 + (1 : Int))) ≤ (v1.size : Int))) (chk (decide ((v6.n + (Vec.lit [((v1.extract v2.toNat (wr (v2 + (1 : Int))).toNat), v2, (0 : Int))] : Vec YN).n) * 33 ≤ maxN)) (W v1 (wr (v2 + (1 : Int))) r10.2.1 r10.2.2.1 r10.2.2.2 (Vec.app v6 (Vec.lit [((v1.extract v2.toNat (wr (v2 + (1 : Int))).toNat), v2, (0 : Int))] : Vec YN))))) (K3 r10.2.1 r10.2.2.1 r10.2.2.2 v6)
noncomputable def F1 {ρ : Type} : Nat → ByteArray → Int → YU → Int → Int → YVN → (YU → Int → Int → YVN → Option ρ) → Option ρ
  | 0, _, _, _, _, _, _, _ => none
  | k + 1, v1, v2, v3, v4, v5, v6, K3 => B1 spec_l01Below_sb3e9.F v1 v2 v3 v4 v5 v6 (fun v1' v2' v3' v4' v5' v6' => F1 k v1' v2' v3' v4' v5' v6' K3) K3
noncomputable def B0 {ρ : Type} (C0 : Int → YU → Int → Int → Option (Int × Vec (IK .u8) × Int × Int)) (C3 : YU → Int → Int → YS → Option (ByteArray × Vec (IK .u8) × Int × Int × Vec ByteArray)) (C4 : YVN → ByteArray → Int → Int → Option YVN) (v1 : Int) (v2 : YU) (v3 : Int) (v4 : Int) (v5 : Vec YN) (W : Int → YU → Int → Int → YVN → Option ρ) (K0 : YU → Int → Int → YVN → Option ρ) : Option ρ :=
  (C0 (6 : Int) v2 v3 v4).bind fun r5 => sel (decide (v1 < r5.1)) ((C3 r5.2.1 r5.2.2.1 r5.2.2.2 (Vec.lit [(ByteArray.mk #[97]), (ByteArray.mk #[98]), (ByteArray.mk #[99, 47, 100]), (ByteArray.mk #[115, 114, 99, 47, 109, 97, 105, 110]), (ByteArray.mk #[120, 45, 49]), (ByteArray.mk #[122])] : YS)).bind fun r6 => (C0 (6 : Int) r6.2.1 r6.2.2.1 r6.2.2.2.1).bind fun r7 => (C0 (4 : Int) r7.2.1 r7.2.2.1 r7.2.2.2).bind fun r8 => (C4 v5 r6.1 r7.1 r8.1).bind fun r9 => W (wr (v1 + (1 : Int))) r8.2.1 r8.2.2.1 r8.2.2.2 r9) (K0 r5.2.1 r5.2.2.1 r5.2.2.2 v5)
noncomputable def F0 {ρ : Type} : Nat → Int → YU → Int → Int → YVN → (YU → Int → Int → YVN → Option ρ) → Option ρ
  | 0, _, _, _, _, _, _ => none
  | k + 1, v1, v2, v3, v4, v5, K0 => B0 spec_l01Below_sb3e9.F spec_l01Pick_s189a.F spec_l13Put.F v1 v2 v3 v4 v5 (fun v1' v2' v3' v4' v5' => F0 k v1' v2' v3' v4' v5' K0) K0
noncomputable def B {ρ : Type} (C0 : Int → YU → Int → Int → Option (Int × Vec (IK .u8) × Int × Int)) (C1 : YU → Int → Int → Option (ByteArray × Vec (IK .u8) × Int × Int)) (C2 : YU → Int → Int → YI → Option (Int × Vec (IK .u8) × Int × Int × Vec Int)) (L0 : Int → YU → Int → Int → YVN → (YU → Int → Int → YVN → Option ρ) → Option ρ) (L1 : ByteArray → Int → YU → Int → Int → YVN → (YU → Int → Int → YVN → Option ρ) → Option ρ) (a1 : YU) (a2 : Int) (a3 : Int) (K : YU → Int → Int → YVN → Option ρ) : Option ρ :=
  L0 (0 : Int) a1 a2 a3 (Vec.nil : Vec YN) (fun e01 e02 e03 e04 => (C0 (30 : Int) e01 e02 e03).bind fun r1 => sel (decide (r1.1 = (0 : Int))) ((C1 r1.2.1 r1.2.2.1 r1.2.2.2).bind fun r2 => (C2 r2.2.1 r2.2.2.1 r2.2.2.2 (Vec.lit [(-1 : Int), (0 : Int), (11 : Int), (12 : Int)] : YI)).bind fun r3 => (C2 r3.2.1 r3.2.2.1 r3.2.2.2.1 (Vec.lit [(-1 : Int), (0 : Int), (39 : Int), (40 : Int)] : YI)).bind fun r4 => chk (decide ((e04.n + (Vec.lit [(r2.1, r3.1, r4.1)] : Vec YN).n) * 33 ≤ maxN)) (K r4.2.1 r4.2.2.1 r4.2.2.2.1 (Vec.app e04 (Vec.lit [(r2.1, r3.1, r4.1)] : Vec YN)))) (sel (decide (r1.1 = (1 : Int))) (L1 (ByteArray.mk #[97, 98, 99, 100, 101, 102, 103, 104, 105, 106, 107, 108, 109]) (0 : Int) r1.2.1 r1.2.2.1 r1.2.2.2 (Vec.nil : Vec YN) (fun e11 e12 e13 e14 => K e11 e12 e13 e14)) (K r1.2.1 r1.2.2.1 r1.2.2.2 e04)))
noncomputable def F (a1 : YU) (a2 : Int) (a3 : Int) : Option (Vec (IK .u8) × Int × Int × YVN) := B spec_l01Below_sb3e9.F spec_l13Path2_s0451.F spec_l01PickInt_sa4ec.F (F0 fuelN) (F1 fuelN) a1 a2 a3 (fun x1 x2 x3 x4 => some (x1, x2, x3, x4))
def encA (t : Vec (IK .u8) × Int × Int) : LA × LO := ([.c (.p 0 0)], [.box [cl t.1, ci t.2.1, ci t.2.2]])
def encR (x : Vec (IK .u8) × Int × Int × YVN) : AV × LO := (.c (.h 1), [.box [cl x.1, ci x.2.1, ci x.2.2.1], ro x.2.2.2])
theorem encAI (a b) (h : encA a = encA b) : a = b := by simp [encA, encRw_iff] at h; simp [Prod.ext_iff, h]
theorem encRI (a b) (h : encR a = encR b) : a = b := by simp [encR, encRw_iff] at h; simp [Prod.ext_iff, h]
noncomputable def Q (args : LA) (hin : LO) : Option (Vec (IK .u8) × Int × Int × YVN) := ofC encA (un3 F) (args, hin)
theorem wrap : F = fun y1 y2 y3 => Q [.c (.p 0 0)] [.box [cl y1, ci y2, ci y3]] := by funext y1 y2 y3; exact Eq.symm (ofC_enc encAI _ (y1, y2, y3))
noncomputable abbrev O (Q4 : LA → Option YVN) (Q0 : LA → LO → Option (Int × Vec (IK .u8) × Int × Int)) (Q1 : LA → LO → Option (ByteArray × Vec (IK .u8) × Int × Int)) (Q2 : LA → LO → Option (Int × Vec (IK .u8) × Int × Int × Vec Int)) (Q3 : LA → LO → Option (ByteArray × Vec (IK .u8) × Int × Int × Vec ByteArray)) : Orc := mkO [qE 80 false spec_l13Put.encR Q4] [eE Try.prog 59 [true, false] false [true] spec_l01Below_sb3e9.encR Q0, eE Try.prog 97 [true] false [true] spec_l13Path2_s0451.encR Q1, eE Try.prog 98 [true, true] false [true, true] spec_l01PickInt_sa4ec.encR Q2, eE Try.prog 86 [true, true] false [true, true] spec_l01Pick_s189a.encR Q3] []
noncomputable def c0 : Code := loopC (atomN [] 0 (bodyOf Try.f63) 0)
noncomputable def c1 : Code := loopC (atomN [] 0 (bodyOf Try.f63) 1)
def ct0 : Cut := ⟨[0, 3, 4], [.ad (.s 3) 24]⟩
def lv0 : Exit → Cut
  | .exit 0 => ⟨[0, 3], []⟩
  | _ => ⟨[], []⟩
def k0_0 {ρ : Type} (K : Exit → St → Option ρ) (z1 : YU) (z2 : Int) (z3 : Int) (z4 : Vec YN) : Option ρ := K (.exit 0) (mkS 61 (lv0 (.exit 0)).live [.c (.p 0 0), .c (.h 1)] [.box [cl z1, ci z2, ci z3], ro z4] [true])
def ct1 : Cut := ⟨[0, 3, 5, 6], [.ad (.s 3) 24]⟩
def lv1 : Exit → Cut
  | .exit 3 => ⟨[3], []⟩
  | _ => ⟨[], []⟩
def k1_3 {ρ : Type} (K : Exit → St → Option ρ) (z1 : YU) (z2 : Int) (z3 : Int) (z4 : Vec YN) : Option ρ := K (.exit 3) (mkS 61 (lv1 (.exit 3)).live [.c (.h 1)] [.box [cl z1, ci z2, ci z3], ro z4] [true])
noncomputable def L (W1 : (ρ : Type) → LA → LO → (YU → Int → Int → YVN → Option ρ) → Option ρ) (W0 : (ρ : Type) → LA → LO → (YU → Int → Int → YVN → Option ρ) → Option ρ) : Lor := fun ρ j st K => sel (Nat.beq j 0) (cutO Try.prog 61 ct0.live 1 [true] ct0.cmds st fun avs obs => W0 ρ avs obs (k0_0 K)) (sel (Nat.beq j 1) (cutO Try.prog 61 ct1.live 1 [true] ct1.cmds st fun avs obs => W1 ρ avs obs (k1_3 K)) (Option.none))
theorem step0 {Q0 Q1 Q2 Q3 Q4 W1 W0} {ρ : Type} {K : Exit → St → Option ρ} {W : LA → LO → Option ρ} {v1 v2 v3 v4 v5} : exC Try.prog (O Q4 Q0 Q1 Q2 Q3) (L W1 W0) [] 1 c0 (mkS 61 ct0.live [.c (.p 0 0), .c (.h 1), vi v1] [.box [cl v2, ci v3, ci v4], ro v5] [true]) (bodyK Try.prog 61 1 [true] ct0 W lv0 K) =
    B0 (fun y1 y2 y3 y4 => Q0 [.c (.p 0 0), vi y1] [.box [cl y2, ci y3, ci y4]]) (fun y1 y2 y3 y4 => Q3 [.c (.p 0 0), .c (.h 1)] [.box [cl y1, ci y2, ci y3], ro y4]) (fun y1 y2 y3 y4 => Q4 [vl y1, .a [cs y2, ci y3, ci y4]]) v1 v2 v3 v4 v5 (fun u1 u2 u3 u4 u5 => W [.c (.p 0 0), .c (.h 1), vi u1] [.box [cl u2, ci u3, ci u4], ro u5]) (k0_0 K) := by kernel_rfl
def enc0 (t : Int × Vec (IK .u8) × Int × Int × YVN) : LA × LO := ([.c (.p 0 0), .c (.h 1), vi t.1], [.box [cl t.2.1, ci t.2.2.1, ci t.2.2.2.1], ro t.2.2.2.2])
theorem enc0I (a b) (h : enc0 a = enc0 b) : a = b := by simp [enc0, encRw_iff] at h; simp [Prod.ext_iff, h]
noncomputable def V0 : (ρ : Type) → LA → LO → (YU → Int → Int → YVN → Option ρ) → Option ρ := fun ρ avs obs k0 => ofC enc0 (fun t => un5 (F0 fuelN) t k0) (avs, obs)
theorem V0_enc (ρ : Type) : F0 fuelN = fun w1 w2 w3 w4 w5 k0 => V0 ρ [.c (.p 0 0), .c (.h 1), vi w1] [.box [cl w2, ci w3, ci w4], ro w5] k0 := by funext w1 w2 w3 w4 w5 k0; exact Eq.symm (ofC_enc enc0I _ (w1, w2, w3, w4, w5))
theorem step1 {Q0 Q1 Q2 Q3 Q4 W1 W0} {ρ : Type} {K : Exit → St → Option ρ} {W : LA → LO → Option ρ} {v1 v2 v3 v4 v5 v6} : exC Try.prog (O Q4 Q0 Q1 Q2 Q3) (L W1 W0) [] 2 c1 (mkS 61 ct1.live [.c (.p 0 0), .c (.h 1), vs v1, vi v2] [.box [cl v3, ci v4, ci v5], ro v6] [true]) (bodyK Try.prog 61 1 [true] ct1 W lv1 K) =
    B1 (fun y1 y2 y3 y4 => Q0 [.c (.p 0 0), vi y1] [.box [cl y2, ci y3, ci y4]]) v1 v2 v3 v4 v5 v6 (fun u1 u2 u3 u4 u5 u6 => W [.c (.p 0 0), .c (.h 1), vs u1, vi u2] [.box [cl u3, ci u4, ci u5], ro u6]) (k1_3 K) := by kernel_rfl
def enc1 (t : ByteArray × Int × Vec (IK .u8) × Int × Int × YVN) : LA × LO := ([.c (.p 0 0), .c (.h 1), vs t.1, vi t.2.1], [.box [cl t.2.2.1, ci t.2.2.2.1, ci t.2.2.2.2.1], ro t.2.2.2.2.2])
theorem enc1I (a b) (h : enc1 a = enc1 b) : a = b := by simp [enc1, encRw_iff] at h; simp [Prod.ext_iff, h]
noncomputable def V1 : (ρ : Type) → LA → LO → (YU → Int → Int → YVN → Option ρ) → Option ρ := fun ρ avs obs k3 => ofC enc1 (fun t => un6 (F1 fuelN) t k3) (avs, obs)
theorem V1_enc (ρ : Type) : F1 fuelN = fun w1 w2 w3 w4 w5 w6 k3 => V1 ρ [.c (.p 0 0), .c (.h 1), vs w1, vi w2] [.box [cl w3, ci w4, ci w5], ro w6] k3 := by funext w1 w2 w3 w4 w5 w6 k3; exact Eq.symm (ofC_enc enc1I _ (w1, w2, w3, w4, w5, w6))
theorem main {Q0 Q1 Q2 Q3 Q4 W1 W0} {ρ : Type} {K : AV → LO → Option ρ} {a1 a2 a3} : exC Try.prog (O Q4 Q0 Q1 Q2 Q3) (L W1 W0) [] 0 (bodyOf Try.f63) (entry 61 [.c (.p 0 0)] [.box [cl a1, ci a2, ci a3]] [true]) (finO Try.prog Try.f63.results.toList 1 [true] [] K) =
    B (fun y1 y2 y3 y4 => Q0 [.c (.p 0 0), vi y1] [.box [cl y2, ci y3, ci y4]]) (fun y1 y2 y3 => Q1 [.c (.p 0 0)] [.box [cl y1, ci y2, ci y3]]) (fun y1 y2 y3 y4 => Q2 [.c (.p 0 0), .c (.h 1)] [.box [cl y1, ci y2, ci y3], ro y4]) (fun w1 w2 w3 w4 w5 k0 => W0 ρ [.c (.p 0 0), .c (.h 1), vi w1] [.box [cl w2, ci w3, ci w4], ro w5] k0) (fun w1 w2 w3 w4 w5 w6 k3 => W1 ρ [.c (.p 0 0), .c (.h 1), vs w1, vi w2] [.box [cl w3, ci w4, ci w5], ro w6] k3) a1 a2 a3 (fun x1 x2 x3 x4 => K (.c (.h 1)) [.box [cl x1, ci x2, ci x3], ro x4]) := by kernel_rfl
theorem Gok : (O spec_l13Put.Q spec_l01Below_sb3e9.Q spec_l13Path2_s0451.Q spec_l01PickInt_sa4ec.Q spec_l01Pick_s189a.Q).ok Try.prog := mkO_ok (by exact ⟨qE_ok spec_l13Put.ac, trivial⟩) (by exact ⟨eE_ok (fun h => by cases h) spec_l01Below_sb3e9.ac, eE_ok (fun h => by cases h) spec_l13Path2_s0451.ac, eE_ok (fun h => by cases h) spec_l01PickInt_sa4ec.ac, eE_ok (fun h => by cases h) spec_l01Pick_s189a.ac, trivial⟩)
theorem ok1 : OkL Try.prog (L V1 V0) 1 (.loop c1) := fun ρ st K r h => loop_ok (ct := ct1) (lv := lv1) (L := (L V1 V0)) Gok hmT (by rw [show atomsL [] 2 c1 = [] by kernel_rfl]; exact Lor.ok_nil _ _) enc1I (fun k t => un6 (F1 k) t (k1_3 K)) (fun t => rfl) (fun k t => by refine step1.trans ?_; rw [← spec_l01Below_sb3e9.wrap]; exact congrFun (congrArg (B1 _ _ _ _ _ _ _) (fx6 fun t => ofC_enc enc1I _ t)) _) (fun _ => fuelN) h
theorem ok0 : OkL Try.prog (L V1 V0) 0 (.loop c0) := fun ρ st K r h => loop_ok (ct := ct0) (lv := lv0) (L := (L V1 V0)) Gok hmT (by rw [show atomsL [] 1 c0 = [] by kernel_rfl]; exact Lor.ok_nil _ _) enc0I (fun k t => un5 (F0 k) t (k0_0 K)) (fun t => rfl) (fun k t => by refine step0.trans ?_; rw [← spec_l01Below_sb3e9.wrap, ← spec_l01Pick_s189a.wrap, ← spec_l13Put.wrap]; exact congrFun (congrArg (B0 _ _ _ _ _ _ _ _) (fx5 fun t => ofC_enc enc0I _ t)) _) (fun _ => fuelN) h
theorem e : atomsL [] 0 (bodyOf Try.f63) = [(0, 0, .loop c0), (1, 1, .loop c1)] := by kernel_rfl
theorem acc : ∀ t x, un3 F t = some x → ACc Try.prog 63 (encA t).1 (encA t).2 true [true] fun rv obs => (rv, obs) = encR x := accT2 (T := Vec (IK .u8) × Int × Int) (F := un3 F) (L := (L V1 V0)) (cmds := []) (body := (bodyOf Try.f63)) 1 (fun _ => rfl) Gok hmT Try.func63 (by kernel_rfl) (by kernel_rfl) (by rw [e]; exact Lor.ok_cons ok0 (Lor.ok_cons ok1 (Lor.ok_nil _ _))) (fun t => by refine main.trans ?_; rw [← spec_l01Below_sb3e9.wrap, ← spec_l13Path2_s0451.wrap, ← spec_l01PickInt_sa4ec.wrap, ← V0_enc, ← V1_enc]; exact congrArg (B _ _ _ _ _ _ _ _) (fx4 fun t => ofC_enc encRI some t))
theorem ac : ∀ a h x, Q a h = some x → AC Try.prog 63 a h true [true] fun rv obs => (rv, obs) = encR x := acT2 (body := (bodyOf Try.f63)) Try.func63 (by kernel_rfl) (by kernel_rfl) acc
end spec_l13Names_s0451
/-! loop.example/g00073/spec.DrawNamesOk -/
namespace spec_DrawNamesOk
noncomputable def B {ρ : Type} (C0 : YU → Option (Vec (IK .u8) × Int × Int)) (C1 : YU → Int → Int → Option (Vec (IK .u8) × Int × Int × YVN)) (a1 : YU) (K : YVN → Option ρ) : Option ρ :=
  (C0 a1).bind fun r1 => (C1 r1.1 r1.2.1 r1.2.2).bind fun r2 => K r2.2.2.2
noncomputable def F (a1 : YU) : Option YVN := B spec_l01New.F spec_l13Names_s0451.F a1 (fun x1 => some (x1))
def encA (t : YU) : LA := [vl t]
def encR (x : Vec YN) : AV × LO := (.c (.h 0), [ro x])
theorem encAI (a b) (h : encA a = encA b) : a = b := by simpa [encA, encRw_iff] using h
theorem encRI (a b) (h : encR a = encR b) : a = b := by simpa [encR, encRw_iff] using h
noncomputable def Q (args : LA) : Option YVN := ofC encA (un1 F) args
theorem wrap : F = fun y1 => Q [vl y1] := by funext y1; exact Eq.symm (ofC_enc encAI _ (y1))
noncomputable abbrev O (Q0 : LA → Option (Vec (IK .u8) × Int × Int)) (Q1 : LA → LO → Option (Vec (IK .u8) × Int × Int × YVN)) : Orc := mkO [qE 51 true spec_l01New.encR Q0] [eE Try.prog 63 [true] false [true] spec_l13Names_s0451.encR Q1] []
noncomputable def L : Lor := fun _ _ _ _ => Option.none
theorem main {Q0 Q1} {ρ : Type} {K : AV → LO → Option ρ} {a1} : exC Try.prog (O Q0 Q1) L [] 0 (bodyOf Try.f27) (entry 6 [vl a1] [] []) (finO Try.prog Try.f27.results.toList 0 [] [] K) =
    B (fun y1 => Q0 [vl y1]) (fun y1 y2 y3 => Q1 [.c (.p 0 0)] [.box [cl y1, ci y2, ci y3]]) a1 (fun x1 => K (.c (.h 0)) [ro x1]) := by kernel_rfl
theorem Gok : (O spec_l01New.Q spec_l13Names_s0451.Q).ok Try.prog := mkO_ok (by exact ⟨qE_ok spec_l01New.ac, trivial⟩) (by exact ⟨eE_ok (fun h => by cases h) spec_l13Names_s0451.ac, trivial⟩)
theorem acc : ∀ t x, un1 F t = some x → ACc Try.prog 27 (encA t) [] true [] fun rv obs => (rv, obs) = encR x := accT (T := Vec (IK .u8)) (F := un1 F) (L := L) (cmds := []) (body := (bodyOf Try.f27)) Gok hmT Try.func27 (by kernel_rfl) (by kernel_rfl) (by rw [show atomsL [] 0 (bodyOf Try.f27) = [] by kernel_rfl]; exact Lor.ok_nil _ _) (fun t => by refine main.trans ?_; rw [← spec_l01New.wrap, ← spec_l13Names_s0451.wrap]; exact congrArg (B _ _ _) (fx1 fun t => ofC_enc encRI some t))
theorem ac : ∀ a x, Q a = some x → AC Try.prog 27 a [] false [] fun rv obs => (rv, obs) = encR x := acF (body := (bodyOf Try.f27)) Try.func27 (by kernel_rfl) (by kernel_rfl) acc fun x => ⟨by simp [encR, AV.Flat, K.Flat, C.Flat], flc (flat_rw rfl _) (fl0)⟩
end spec_DrawNamesOk
/-! loop.example/g00073/spec.l13Id -/
namespace spec_l13Id
noncomputable def B0 {ρ : Type} (v1 : Vec YN) (v2 : Int) (v3 : Int) (W : YVN → Int → Int → Option ρ) (K0 : Unit → Option ρ) (Kr : Int → Option ρ) : Option ρ :=
  sel (decide (v3 < (v1.n : Int))) (chk (decide (0 ≤ v3 ∧ v3 < (v1.n : Int))) (sel (decide ((v1.g v3.toNat).2.1 = v2)) (Kr v3) (W v1 v2 (wr (v3 + (1 : Int)))))) (K0 ())
noncomputable def F0 {ρ : Type} : Nat → YVN → Int → Int → (Unit → Option ρ) → (Int → Option ρ) → Option ρ
  | 0, _, _, _, _, _ => none
  | k + 1, v1, v2, v3, K0, Kr => B0 v1 v2 v3 (fun v1' v2' v3' => F0 k v1' v2' v3' K0 Kr) K0 Kr
noncomputable def B {ρ : Type} (L0 : YVN → Int → Int → (Unit → Option ρ) → (Int → Option ρ) → Option ρ) (a1 : Vec YN) (a2 : Int) (K : Int → Option ρ) : Option ρ :=
  L0 a1 a2 (0 : Int) (fun _ => K (-1 : Int)) (fun x01 => K x01)
noncomputable def F (a1 : Vec YN) (a2 : Int) : Option Int := B (F0 fuelN) a1 a2 (fun x1 => some (x1))
def encA (t : YVN × Int) : LA := [vl t.1, vi t.2]
def encR (x : Int) : AV × LO := (vi x, [])
theorem encAI (a b) (h : encA a = encA b) : a = b := by simp [encA, encRw_iff] at h; simp [Prod.ext_iff, h]
theorem encRI (a b) (h : encR a = encR b) : a = b := by simpa [encR, encRw_iff] using h
noncomputable def Q (args : LA) : Option Int := ofC encA (un2 F) args
theorem wrap : F = fun y1 y2 => Q [vl y1, vi y2] := by funext y1 y2; exact Eq.symm (ofC_enc encAI _ (y1, y2))
noncomputable abbrev O : Orc := mkO [] [] []
noncomputable def c0 : Code := loopC (atomN [] 0 (bodyOf Try.f65) 0)
def ct0 : Cut := ⟨[0, 1, 5], []⟩
def lv0 : Exit → Cut
  | .exit 0 => ⟨[], []⟩
  | .ret => ⟨[4], []⟩
  | _ => ⟨[], []⟩
def k0_0 {ρ : Type} (K : Exit → St → Option ρ) (_ : Unit) : Option ρ := K (.exit 0) (mkS 20 (lv0 (.exit 0)).live [] [] [])
def k0_r {ρ : Type} (K : Exit → St → Option ρ) (z1 : Int) : Option ρ := K .ret (mkS 20 (lv0 .ret).live [vi z1] [] [])
noncomputable def L (W0 : (ρ : Type) → LA → LO → (Unit → Option ρ) → (Int → Option ρ) → Option ρ) : Lor := fun ρ j st K => sel (Nat.beq j 0) (cutO Try.prog 20 ct0.live 0 [] ct0.cmds st fun avs obs => W0 ρ avs obs (k0_0 K) (k0_r K)) (Option.none)
theorem step0 {W0} {ρ : Type} {K : Exit → St → Option ρ} {W : LA → LO → Option ρ} {v1 v2 v3} : exC Try.prog O (L W0) [] 1 c0 (mkS 20 ct0.live [vl v1, vi v2, vi v3] [] []) (bodyK Try.prog 20 0 [] ct0 W lv0 K) =
    B0 v1 v2 v3 (fun u1 u2 u3 => W [vl u1, vi u2, vi u3] []) (k0_0 K) (k0_r K) := by kernel_rfl
def enc0 (t : YVN × Int × Int) : LA × LO := ([vl t.1, vi t.2.1, vi t.2.2], [])
theorem enc0I (a b) (h : enc0 a = enc0 b) : a = b := by simp [enc0, encRw_iff] at h; simp [Prod.ext_iff, h]
noncomputable def V0 : (ρ : Type) → LA → LO → (Unit → Option ρ) → (Int → Option ρ) → Option ρ := fun ρ avs obs k0 kr => ofC enc0 (fun t => un3 (F0 fuelN) t k0 kr) (avs, obs)
theorem V0_enc (ρ : Type) : F0 fuelN = fun w1 w2 w3 k0 kr => V0 ρ [vl w1, vi w2, vi w3] [] k0 kr := by funext w1 w2 w3 k0 kr; exact Eq.symm (ofC_enc enc0I _ (w1, w2, w3))
theorem main {W0} {ρ : Type} {K : AV → LO → Option ρ} {a1 a2} : exC Try.prog O (L W0) [] 0 (bodyOf Try.f65) (entry 20 [vl a1, vi a2] [] []) (finO Try.prog Try.f65.results.toList 0 [] [] K) =
    B (fun w1 w2 w3 k0 kr => W0 ρ [vl w1, vi w2, vi w3] [] k0 kr) a1 a2 (fun x1 => K (vi x1) []) := by kernel_rfl
theorem Gok : O.ok Try.prog := mkO_ok (by exact trivial) (by exact trivial)
theorem ok0 : OkL Try.prog (L V0) 0 (.loop c0) := fun ρ st K r h => loop_ok (ct := ct0) (lv := lv0) (L := (L V0)) Gok hmT (by rw [show atomsL [] 1 c0 = [] by kernel_rfl]; exact Lor.ok_nil _ _) enc0I (fun k t => un3 (F0 k) t (k0_0 K) (k0_r K)) (fun t => rfl) (fun k t => by refine step0.trans ?_; exact congrFun (congrFun (congrArg (B0 _ _ _) (fx3 fun t => ofC_enc enc0I _ t)) _) _) (fun _ => fuelN) h
theorem e : atomsL [] 0 (bodyOf Try.f65) = [(0, 0, .loop c0)] := by kernel_rfl
theorem acc : ∀ t x, un2 F t = some x → ACc Try.prog 65 (encA t) [] true [] fun rv obs => (rv, obs) = encR x := accT (T := YVN × Int) (F := un2 F) (L := (L V0)) (cmds := []) (body := (bodyOf Try.f65)) Gok hmT Try.func65 (by kernel_rfl) (by kernel_rfl) (by rw [e]; exact Lor.ok_cons ok0 (Lor.ok_nil _ _)) (fun t => by refine main.trans ?_; rw [← V0_enc]; exact congrArg (B _ _ _) (fx1 fun t => ofC_enc encRI some t))
theorem ac : ∀ a x, Q a = some x → AC Try.prog 65 a [] false [] fun rv obs => (rv, obs) = encR x := acF (body := (bodyOf Try.f65)) Try.func65 (by kernel_rfl) (by kernel_rfl) acc fun x => ⟨by simp [encR, AV.Flat, K.Flat, C.Flat], fl0⟩
end spec_l13Id
/-! loop.example/g00073/spec.ById -/
namespace spec_ById
noncomputable def B {ρ : Type} (C0 : YVN → Option Bool) (C1 : YVN → Int → Option Int) (a1 : Vec YN) (a2 : Int) (K : Int → Option ρ) : Option ρ :=
  (C0 a1).bind fun r1 => sel ((!r1)) (K (-1 : Int)) ((C1 a1 a2).bind fun r2 => K r2)
noncomputable def F (a1 : Vec YN) (a2 : Int) : Option Int := B spec_NamesOk.F spec_l13Id.F a1 a2 (fun x1 => some (x1))
def encA (t : YVN × Int) : LA := [vl t.1, vi t.2]
def encR (x : Int) : AV × LO := (vi x, [])
theorem encAI (a b) (h : encA a = encA b) : a = b := by simp [encA, encRw_iff] at h; simp [Prod.ext_iff, h]
theorem encRI (a b) (h : encR a = encR b) : a = b := by simpa [encR, encRw_iff] using h
noncomputable def Q (args : LA) : Option Int := ofC encA (un2 F) args
theorem wrap : F = fun y1 y2 => Q [vl y1, vi y2] := by funext y1 y2; exact Eq.symm (ofC_enc encAI _ (y1, y2))
noncomputable abbrev O (Q0 : LA → Option Bool) (Q1 : LA → Option Int) : Orc := mkO [qE 28 false spec_NamesOk.encR Q0, qE 65 false spec_l13Id.encR Q1] [] []
noncomputable def L : Lor := fun _ _ _ _ => Option.none
theorem main {Q0 Q1} {ρ : Type} {K : AV → LO → Option ρ} {a1 a2} : exC Try.prog (O Q0 Q1) L [] 0 (bodyOf Try.f29) (entry 11 [vl a1, vi a2] [] []) (finO Try.prog Try.f29.results.toList 0 [] [] K) =
    B (fun y1 => Q0 [vl y1]) (fun y1 y2 => Q1 [vl y1, vi y2]) a1 a2 (fun x1 => K (vi x1) []) := by kernel_rfl
theorem Gok : (O spec_NamesOk.Q spec_l13Id.Q).ok Try.prog := mkO_ok (by exact ⟨qE_ok spec_NamesOk.ac, qE_ok spec_l13Id.ac, trivial⟩) (by exact trivial)
theorem acc : ∀ t x, un2 F t = some x → ACc Try.prog 29 (encA t) [] true [] fun rv obs => (rv, obs) = encR x := accT (T := YVN × Int) (F := un2 F) (L := L) (cmds := []) (body := (bodyOf Try.f29)) Gok hmT Try.func29 (by kernel_rfl) (by kernel_rfl) (by rw [show atomsL [] 0 (bodyOf Try.f29) = [] by kernel_rfl]; exact Lor.ok_nil _ _) (fun t => by refine main.trans ?_; rw [← spec_NamesOk.wrap, ← spec_l13Id.wrap]; exact congrArg (B _ _ _ _) (fx1 fun t => ofC_enc encRI some t))
theorem ac : ∀ a x, Q a = some x → AC Try.prog 29 a [] false [] fun rv obs => (rv, obs) = encR x := acF (body := (bodyOf Try.f29)) Try.func29 (by kernel_rfl) (by kernel_rfl) acc fun x => ⟨by simp [encR, AV.Flat, K.Flat, C.Flat], fl0⟩
end spec_ById
/-! loop.example/g00073/impl.PutName -/
namespace impl_PutName
noncomputable def B {ρ : Type} (C0 : YVN → Option Bool) (C1 : YVN → Option YVN) (C2 : YVN → Int → Option Int) (C3 : Int → YVN → Option YVN) (C4 : ByteArray → Int → Int → YVN → Option YVN) (a1 : Vec YN) (a2 : ByteArray) (a3 : Int) (a4 : Int) (K : Bool → YVN → Option ρ) : Option ρ :=
  (C0 a1).bind fun r1 => sel ((!r1)) (K false (Vec.nil : Vec YN)) ((C1 a1).bind fun r2 => (C2 r2 a3).bind fun r3 => sel (decide ((0 : Int) ≤ r3)) ((C3 r3 r2).bind fun r4 => (C4 a2 a3 a4 r4).bind fun r5 => (C0 r5).bind fun r6 => sel ((!r6)) (K false (Vec.nil : Vec YN)) (K true r5)) ((C4 a2 a3 a4 r2).bind fun r7 => (C0 r7).bind fun r8 => sel ((!r8)) (K false (Vec.nil : Vec YN)) (K true r7)))
noncomputable def F (a1 : Vec YN) (a2 : ByteArray) (a3 : Int) (a4 : Int) : Option (Bool × YVN) := B impl_NamesOk.F slices_Clone_impl_Name.F impl_idAt.F impl_dropName_s0773.F impl_insertName_s2b2c.F a1 a2 a3 a4 (fun x1 x2 => some (x1, x2))
def encA (t : YVN × ByteArray × Int × Int) : LA := [vl t.1, .a [cs t.2.1, ci t.2.2.1, ci t.2.2.2]]
def encR (x : Bool × YVN) : AV × LO := (.tup [.c (.h 0), .c (cb x.1)], [ro x.2])
theorem encAI (a b) (h : encA a = encA b) : a = b := by simp [encA, encRw_iff] at h; simp [Prod.ext_iff, h]
theorem encRI (a b) (h : encR a = encR b) : a = b := by simp [encR, encRw_iff] at h; simp [Prod.ext_iff, h]
noncomputable def Q (args : LA) : Option (Bool × YVN) := ofC encA (un4 F) args
theorem wrap : F = fun y1 y2 y3 y4 => Q [vl y1, .a [cs y2, ci y3, ci y4]] := by funext y1 y2 y3 y4; exact Eq.symm (ofC_enc encAI _ (y1, y2, y3, y4))
noncomputable abbrev O (Q0 : LA → Option Bool) (Q1 : LA → Option YVN) (Q2 : LA → Option Int) (Q3 : LA → LO → Option YVN) (Q4 : LA → LO → Option YVN) : Orc := mkO [qE 32 false impl_NamesOk.encR Q0, qE 47 false slices_Clone_impl_Name.encR Q1, qE 66 false impl_idAt.encR Q2] [eE Try.prog 46 [true, false] false [false] impl_dropName_s0773.encR Q3, eE Try.prog 45 [true, false] false [false] impl_insertName_s2b2c.encR Q4] []
noncomputable def L : Lor := fun _ _ _ _ => Option.none
theorem main {Q0 Q1 Q2 Q3 Q4} {ρ : Type} {K : AV → LO → Option ρ} {a1 a2 a3 a4} : exC Try.prog (O Q0 Q1 Q2 Q3 Q4) L [] 0 (bodyOf Try.f30) (entry 29 [vl a1, .a [cs a2, ci a3, ci a4]] [] []) (finO Try.prog Try.f30.results.toList 0 [] [.ad (.s 4) 24] K) =
    B (fun y1 => Q0 [vl y1]) (fun y1 => Q1 [vl y1]) (fun y1 y2 => Q2 [vl y1, vi y2]) (fun y1 y2 => Q3 [.c (.h 0), vi y1] [ro y2]) (fun y1 y2 y3 y4 => Q4 [.c (.h 0), .a [cs y1, ci y2, ci y3]] [ro y4]) a1 a2 a3 a4 (fun x1 x2 => K (.tup [.c (.h 0), .c (cb x1)]) [ro x2]) := by kernel_rfl
theorem Gok : (O impl_NamesOk.Q slices_Clone_impl_Name.Q impl_idAt.Q impl_dropName_s0773.Q impl_insertName_s2b2c.Q).ok Try.prog := mkO_ok (by exact ⟨qE_ok impl_NamesOk.ac, qE_ok slices_Clone_impl_Name.ac, qE_ok impl_idAt.ac, trivial⟩) (by exact ⟨eE_ok (fun h => by cases h) impl_dropName_s0773.ac, eE_ok (fun h => by cases h) impl_insertName_s2b2c.ac, trivial⟩)
theorem acc : ∀ t x, un4 F t = some x → ACc Try.prog 30 (encA t) [] true [] fun rv obs => (rv, obs) = encR x := accT (T := YVN × ByteArray × Int × Int) (F := un4 F) (L := L) (cmds := [.ad (.s 4) 24]) (body := (bodyOf Try.f30)) Gok hmT Try.func30 (by kernel_rfl) (by kernel_rfl) (by rw [show atomsL [] 0 (bodyOf Try.f30) = [] by kernel_rfl]; exact Lor.ok_nil _ _) (fun t => by refine main.trans ?_; rw [← impl_NamesOk.wrap, slices_Clone_impl_Name.wrap, ← impl_idAt.wrap, ← impl_dropName_s0773.wrap, ← impl_insertName_s2b2c.wrap]; exact congrArg (B _ _ _ _ _ _ _ _ _) (fx2 fun t => ofC_enc encRI some t))
theorem ac : ∀ a x, Q a = some x → AC Try.prog 30 a [] false [] fun rv obs => (rv, obs) = encR x := acF (body := (bodyOf Try.f30)) Try.func30 (by kernel_rfl) (by kernel_rfl) acc fun x => ⟨by simp [encR, AV.Flat, K.Flat, C.Flat], flc (flat_rw rfl _) (fl0)⟩
end impl_PutName
/-! loop.example/g00073/impl.ById -/
namespace impl_ById
noncomputable def B {ρ : Type} (C0 : YVN → Option Bool) (C1 : YVN → Int → Option Int) (a1 : Vec YN) (a2 : Int) (K : Int → Option ρ) : Option ρ :=
  (C0 a1).bind fun r1 => sel ((!r1)) (K (-1 : Int)) ((C1 a1 a2).bind fun r2 => K r2)
noncomputable def F (a1 : Vec YN) (a2 : Int) : Option Int := B impl_NamesOk.F impl_idAt.F a1 a2 (fun x1 => some (x1))
def encA (t : YVN × Int) : LA := [vl t.1, vi t.2]
def encR (x : Int) : AV × LO := (vi x, [])
theorem encAI (a b) (h : encA a = encA b) : a = b := by simp [encA, encRw_iff] at h; simp [Prod.ext_iff, h]
theorem encRI (a b) (h : encR a = encR b) : a = b := by simpa [encR, encRw_iff] using h
noncomputable def Q (args : LA) : Option Int := ofC encA (un2 F) args
theorem wrap : F = fun y1 y2 => Q [vl y1, vi y2] := by funext y1 y2; exact Eq.symm (ofC_enc encAI _ (y1, y2))
noncomputable abbrev O (Q0 : LA → Option Bool) (Q1 : LA → Option Int) : Orc := mkO [qE 32 false impl_NamesOk.encR Q0, qE 66 false impl_idAt.encR Q1] [] []
noncomputable def L : Lor := fun _ _ _ _ => Option.none
theorem main {Q0 Q1} {ρ : Type} {K : AV → LO → Option ρ} {a1 a2} : exC Try.prog (O Q0 Q1) L [] 0 (bodyOf Try.f33) (entry 11 [vl a1, vi a2] [] []) (finO Try.prog Try.f33.results.toList 0 [] [] K) =
    B (fun y1 => Q0 [vl y1]) (fun y1 y2 => Q1 [vl y1, vi y2]) a1 a2 (fun x1 => K (vi x1) []) := by kernel_rfl
theorem Gok : (O impl_NamesOk.Q impl_idAt.Q).ok Try.prog := mkO_ok (by exact ⟨qE_ok impl_NamesOk.ac, qE_ok impl_idAt.ac, trivial⟩) (by exact trivial)
theorem acc : ∀ t x, un2 F t = some x → ACc Try.prog 33 (encA t) [] true [] fun rv obs => (rv, obs) = encR x := accT (T := YVN × Int) (F := un2 F) (L := L) (cmds := []) (body := (bodyOf Try.f33)) Gok hmT Try.func33 (by kernel_rfl) (by kernel_rfl) (by rw [show atomsL [] 0 (bodyOf Try.f33) = [] by kernel_rfl]; exact Lor.ok_nil _ _) (fun t => by refine main.trans ?_; rw [← impl_NamesOk.wrap, ← impl_idAt.wrap]; exact congrArg (B _ _ _ _) (fx1 fun t => ofC_enc encRI some t))
theorem ac : ∀ a x, Q a = some x → AC Try.prog 33 a [] false [] fun rv obs => (rv, obs) = encR x := acF (body := (bodyOf Try.f33)) Try.func33 (by kernel_rfl) (by kernel_rfl) acc fun x => ⟨by simp [encR, AV.Flat, K.Flat, C.Flat], fl0⟩
end impl_ById
/-! loop.example/g00073/impl.CutName -/
namespace impl_CutName
noncomputable def B {ρ : Type} (C0 : YVN → ByteArray → Option Int) (C1 : YVN → Option YVN) (C2 : Int → YVN → Option YVN) (a1 : Vec YN) (a2 : ByteArray) (K : Bool → YVN → Option ρ) : Option ρ :=
  (C0 a1 a2).bind fun r1 => sel (decide (r1 < (0 : Int))) (K false (Vec.nil : Vec YN)) ((C1 a1).bind fun r2 => (C2 r1 r2).bind fun r3 => K true r3)
noncomputable def F (a1 : Vec YN) (a2 : ByteArray) : Option (Bool × YVN) := B impl_ByPath.F slices_Clone_impl_Name.F impl_dropName_s0773.F a1 a2 (fun x1 x2 => some (x1, x2))
def encA (t : YVN × ByteArray) : LA := [vl t.1, vs t.2]
def encR (x : Bool × YVN) : AV × LO := (.tup [.c (.h 0), .c (cb x.1)], [ro x.2])
theorem encAI (a b) (h : encA a = encA b) : a = b := by simp [encA, encRw_iff] at h; simp [Prod.ext_iff, h]
theorem encRI (a b) (h : encR a = encR b) : a = b := by simp [encR, encRw_iff] at h; simp [Prod.ext_iff, h]
noncomputable def Q (args : LA) : Option (Bool × YVN) := ofC encA (un2 F) args
theorem wrap : F = fun y1 y2 => Q [vl y1, vs y2] := by funext y1 y2; exact Eq.symm (ofC_enc encAI _ (y1, y2))
noncomputable abbrev O (Q0 : LA → Option Int) (Q1 : LA → Option YVN) (Q2 : LA → LO → Option YVN) : Orc := mkO [qE 31 false impl_ByPath.encR Q0, qE 47 false slices_Clone_impl_Name.encR Q1] [eE Try.prog 46 [true, false] false [false] impl_dropName_s0773.encR Q2] []
noncomputable def L : Lor := fun _ _ _ _ => Option.none
theorem main {Q0 Q1 Q2} {ρ : Type} {K : AV → LO → Option ρ} {a1 a2} : exC Try.prog (O Q0 Q1 Q2) L [] 0 (bodyOf Try.f34) (entry 16 [vl a1, vs a2] [] []) (finO Try.prog Try.f34.results.toList 0 [] [.ad (.s 4) 24] K) =
    B (fun y1 y2 => Q0 [vl y1, vs y2]) (fun y1 => Q1 [vl y1]) (fun y1 y2 => Q2 [.c (.h 0), vi y1] [ro y2]) a1 a2 (fun x1 x2 => K (.tup [.c (.h 0), .c (cb x1)]) [ro x2]) := by kernel_rfl
theorem Gok : (O impl_ByPath.Q slices_Clone_impl_Name.Q impl_dropName_s0773.Q).ok Try.prog := mkO_ok (by exact ⟨qE_ok impl_ByPath.ac, qE_ok slices_Clone_impl_Name.ac, trivial⟩) (by exact ⟨eE_ok (fun h => by cases h) impl_dropName_s0773.ac, trivial⟩)
theorem acc : ∀ t x, un2 F t = some x → ACc Try.prog 34 (encA t) [] true [] fun rv obs => (rv, obs) = encR x := accT (T := YVN × ByteArray) (F := un2 F) (L := L) (cmds := [.ad (.s 4) 24]) (body := (bodyOf Try.f34)) Gok hmT Try.func34 (by kernel_rfl) (by kernel_rfl) (by rw [show atomsL [] 0 (bodyOf Try.f34) = [] by kernel_rfl]; exact Lor.ok_nil _ _) (fun t => by refine main.trans ?_; rw [← impl_ByPath.wrap, slices_Clone_impl_Name.wrap, ← impl_dropName_s0773.wrap]; exact congrArg (B _ _ _ _ _) (fx2 fun t => ofC_enc encRI some t))
theorem ac : ∀ a x, Q a = some x → AC Try.prog 34 a [] false [] fun rv obs => (rv, obs) = encR x := acF (body := (bodyOf Try.f34)) Try.func34 (by kernel_rfl) (by kernel_rfl) acc fun x => ⟨by simp [encR, AV.Flat, K.Flat, C.Flat], flc (flat_rw rfl _) (fl0)⟩
end impl_CutName
/-! loop.example/g00073/laws.sameNames -/
namespace laws_sameNames
noncomputable def B0 {ρ : Type} (v1 : Vec YN) (v2 : Vec YN) (v3 : Int) (W : YVN → YVN → Int → Option ρ) (K0 : Unit → Option ρ) (Kr : Bool → Option ρ) : Option ρ :=
  sel (decide (v3 < (v1.n : Int))) (chk (decide (0 ≤ v3 ∧ v3 < (v1.n : Int))) (chk (decide (0 ≤ v3 ∧ v3 < (v2.n : Int))) (sel ((!(decide ((v1.g v3.toNat).1 = (v2.g v3.toNat).1) && (decide ((v1.g v3.toNat).2.1 = (v2.g v3.toNat).2.1) && decide ((v1.g v3.toNat).2.2 = (v2.g v3.toNat).2.2))))) (Kr false) (W v1 v2 (wr (v3 + (1 : Int))))))) (K0 ())
noncomputable def F0 {ρ : Type} : Nat → YVN → YVN → Int → (Unit → Option ρ) → (Bool → Option ρ) → Option ρ
  | 0, _, _, _, _, _ => none
  | k + 1, v1, v2, v3, K0, Kr => B0 v1 v2 v3 (fun v1' v2' v3' => F0 k v1' v2' v3' K0 Kr) K0 Kr
noncomputable def B {ρ : Type} (L0 : YVN → YVN → Int → (Unit → Option ρ) → (Bool → Option ρ) → Option ρ) (a1 : Vec YN) (a2 : Vec YN) (K : Bool → Option ρ) : Option ρ :=
  sel ((!decide ((a1.n : Int) = (a2.n : Int)))) (K false) (L0 a1 a2 (0 : Int) (fun _ => K true) (fun x01 => K x01))
noncomputable def F (a1 : Vec YN) (a2 : Vec YN) : Option Bool := B (F0 fuelN) a1 a2 (fun x1 => some (x1))
def encA (t : YVN × YVN) : LA := [vl t.1, vl t.2]
def encR (x : Bool) : AV × LO := (vb x, [])
theorem encAI (a b) (h : encA a = encA b) : a = b := by simp [encA, encRw_iff] at h; simp [Prod.ext_iff, h]
theorem encRI (a b) (h : encR a = encR b) : a = b := by simpa [encR, encRw_iff] using h
noncomputable def Q (args : LA) : Option Bool := ofC encA (un2 F) args
theorem wrap : F = fun y1 y2 => Q [vl y1, vl y2] := by funext y1 y2; exact Eq.symm (ofC_enc encAI _ (y1, y2))
noncomputable abbrev O : Orc := mkO [] [] []
noncomputable def c0 : Code := loopC (atomN [] 0 (bodyOf Try.f35) 0)
def ct0 : Cut := ⟨[0, 1, 5], []⟩
def lv0 : Exit → Cut
  | .exit 0 => ⟨[], []⟩
  | .ret => ⟨[4], []⟩
  | _ => ⟨[], []⟩
def k0_0 {ρ : Type} (K : Exit → St → Option ρ) (_ : Unit) : Option ρ := K (.exit 0) (mkS 26 (lv0 (.exit 0)).live [] [] [])
def k0_r {ρ : Type} (K : Exit → St → Option ρ) (z1 : Bool) : Option ρ := K .ret (mkS 26 (lv0 .ret).live [vb z1] [] [])
noncomputable def L (W0 : (ρ : Type) → LA → LO → (Unit → Option ρ) → (Bool → Option ρ) → Option ρ) : Lor := fun ρ j st K => sel (Nat.beq j 0) (cutO Try.prog 26 ct0.live 0 [] ct0.cmds st fun avs obs => W0 ρ avs obs (k0_0 K) (k0_r K)) (Option.none)
theorem step0 {W0} {ρ : Type} {K : Exit → St → Option ρ} {W : LA → LO → Option ρ} {v1 v2 v3} : exC Try.prog O (L W0) [] 1 c0 (mkS 26 ct0.live [vl v1, vl v2, vi v3] [] []) (bodyK Try.prog 26 0 [] ct0 W lv0 K) =
    B0 v1 v2 v3 (fun u1 u2 u3 => W [vl u1, vl u2, vi u3] []) (k0_0 K) (k0_r K) := by kernel_rfl
def enc0 (t : YVN × YVN × Int) : LA × LO := ([vl t.1, vl t.2.1, vi t.2.2], [])
theorem enc0I (a b) (h : enc0 a = enc0 b) : a = b := by simp [enc0, encRw_iff] at h; simp [Prod.ext_iff, h]
noncomputable def V0 : (ρ : Type) → LA → LO → (Unit → Option ρ) → (Bool → Option ρ) → Option ρ := fun ρ avs obs k0 kr => ofC enc0 (fun t => un3 (F0 fuelN) t k0 kr) (avs, obs)
theorem V0_enc (ρ : Type) : F0 fuelN = fun w1 w2 w3 k0 kr => V0 ρ [vl w1, vl w2, vi w3] [] k0 kr := by funext w1 w2 w3 k0 kr; exact Eq.symm (ofC_enc enc0I _ (w1, w2, w3))
theorem main {W0} {ρ : Type} {K : AV → LO → Option ρ} {a1 a2} : exC Try.prog O (L W0) [] 0 (bodyOf Try.f35) (entry 26 [vl a1, vl a2] [] []) (finO Try.prog Try.f35.results.toList 0 [] [] K) =
    B (fun w1 w2 w3 k0 kr => W0 ρ [vl w1, vl w2, vi w3] [] k0 kr) a1 a2 (fun x1 => K (vb x1) []) := by kernel_rfl
theorem Gok : O.ok Try.prog := mkO_ok (by exact trivial) (by exact trivial)
theorem ok0 : OkL Try.prog (L V0) 0 (.loop c0) := fun ρ st K r h => loop_ok (ct := ct0) (lv := lv0) (L := (L V0)) Gok hmT (by rw [show atomsL [] 1 c0 = [] by kernel_rfl]; exact Lor.ok_nil _ _) enc0I (fun k t => un3 (F0 k) t (k0_0 K) (k0_r K)) (fun t => rfl) (fun k t => by refine step0.trans ?_; exact congrFun (congrFun (congrArg (B0 _ _ _) (fx3 fun t => ofC_enc enc0I _ t)) _) _) (fun _ => fuelN) h
theorem e : atomsL [] 0 (bodyOf Try.f35) = [(0, 0, .loop c0)] := by kernel_rfl
theorem acc : ∀ t x, un2 F t = some x → ACc Try.prog 35 (encA t) [] true [] fun rv obs => (rv, obs) = encR x := accT (T := YVN × YVN) (F := un2 F) (L := (L V0)) (cmds := []) (body := (bodyOf Try.f35)) Gok hmT Try.func35 (by kernel_rfl) (by kernel_rfl) (by rw [e]; exact Lor.ok_cons ok0 (Lor.ok_nil _ _)) (fun t => by refine main.trans ?_; rw [← V0_enc]; exact congrArg (B _ _ _) (fx1 fun t => ofC_enc encRI some t))
theorem ac : ∀ a x, Q a = some x → AC Try.prog 35 a [] false [] fun rv obs => (rv, obs) = encR x := acF (body := (bodyOf Try.f35)) Try.func35 (by kernel_rfl) (by kernel_rfl) acc fun x => ⟨by simp [encR, AV.Flat, K.Flat, C.Flat], fl0⟩
end laws_sameNames
/-! loop.example/g00073/laws.FnNames -/
namespace laws_FnNames
noncomputable def B0 {ρ : Type} (C10 : YVN → Int → Option Int) (v1 : Vec YN) (v2 : Int) (v3 : Int) (W : YVN → Int → Int → Option ρ) (K0 : YVN → Int → Option ρ) : Option ρ :=
  sel (decide (v3 < (12 : Int))) ((C10 v1 v2).bind fun r48 => sel (decide ((0 : Int) ≤ r48)) (W v1 (wr (v2 + (1 : Int))) (wr (v3 + (1 : Int)))) (W v1 v2 (wr (v3 + (1 : Int))))) (K0 v1 v2)
noncomputable def F0 {ρ : Type} : Nat → YVN → Int → Int → (YVN → Int → Option ρ) → Option ρ
  | 0, _, _, _, _ => none
  | k + 1, v1, v2, v3, K0 => B0 spec_ById.F v1 v2 v3 (fun v1' v2' v3' => F0 k v1' v2' v3' K0) K0
noncomputable def B {ρ : Type} (C0 : YU → Option Bool) (C1 : YU → Option YVN) (C2 : YVN → Option Bool) (C3 : YVN → ByteArray → Int → Int → Option (Bool × YVN)) (C4 : YVN → ByteArray → Option Int) (C5 : YVN → Option Bool) (C6 : YVN → Int → Option Int) (C7 : YVN → ByteArray → ByteArray → Option (Bool × YVN)) (C8 : YVN → ByteArray → Option (Bool × YVN)) (C9 : YVN → YVN → Option Bool) (L0 : YVN → Int → Int → (YVN → Int → Option ρ) → Option ρ) (a1 : YU) (K : Bool → Option ρ) : Option ρ :=
  (C0 a1).bind fun r1 => sel (r1) (K true) ((C1 a1).bind fun r2 => (C2 r2).bind fun r3 => sel ((!r3)) (sel (decide (((Vec.lit [((ByteArray.mk #[97]), (1 : Int), (0 : Int)), ((ByteArray.mk #[98]), (0 : Int), (2 : Int))] : Vec YN).n : Int) = (12 : Int))) (chk (decide (0 ≤ (1 : Int) ∧ (1 : Int) ≤ ((Vec.lit [((ByteArray.mk #[97]), (1 : Int), (0 : Int)), ((ByteArray.mk #[98]), (0 : Int), (2 : Int))] : Vec YN).n : Int) ∧ ((Vec.lit [((ByteArray.mk #[97]), (1 : Int), (0 : Int)), ((ByteArray.mk #[98]), (0 : Int), (2 : Int))] : Vec YN).n : Int) ≤ ((Vec.lit [((ByteArray.mk #[97]), (1 : Int), (0 : Int)), ((ByteArray.mk #[98]), (0 : Int), (2 : Int))] : Vec YN).n : Int))) (L0 (Vec.sub (Vec.lit [((ByteArray.mk #[97]), (1 : Int), (0 : Int)), ((ByteArray.mk #[98]), (0 : Int), (2 : Int))] : Vec YN) ((1 : Int).toNat) (((Vec.lit [((ByteArray.mk #[97]), (1 : Int), (0 : Int)), ((ByteArray.mk #[98]), (0 : Int), (2 : Int))] : Vec YN).n : Int).toNat)) (0 : Int) (0 : Int) (fun e01 e02 => (C3 e01 (ByteArray.mk #[122, 122, 47, 110, 101, 119]) e02 (3 : Int)).bind fun r4 => (C4 r4.2 (ByteArray.mk #[122, 122, 47, 110, 101, 119])).bind fun r5 => sel ((!r4.1)) (K false) ((C5 r4.2).bind fun r6 => sel ((!r6)) (K false) (sel ((!decide ((r4.2.n : Int) = (wr ((e01.n : Int) + (1 : Int)))))) (K false) (sel (decide (r5 < (0 : Int))) (K false) ((C6 r4.2 e02).bind fun r7 => sel ((!decide (r7 = r5))) (K false) (chk (decide (0 ≤ r5 ∧ r5 < (r4.2.n : Int))) (chk (decide (r5.toNat < r4.2.n)) (sel ((!decide ((r4.2.g r5.toNat).2.2 = (3 : Int)))) (K false) ((C7 r4.2 (ByteArray.mk #[122, 122, 47, 110, 101, 119]) (ByteArray.mk #[48])).bind fun r8 => (C7 r8.2 (ByteArray.mk #[48]) (ByteArray.mk #[122, 122, 47, 110, 101, 119])).bind fun r9 => (C8 r9.2 (ByteArray.mk #[122, 122, 47, 110, 101, 119])).bind fun r10 => (C8 e01 (ByteArray.mk #[122, 122, 47, 110, 101, 119])).bind fun r11 => sel (r8.1) (sel (r9.1) (sel (r10.1) (sel ((!r11.1)) ((C6 r8.2 e02).bind fun r12 => sel (decide (r12 = (0 : Int))) ((C9 r9.2 r4.2).bind fun r13 => sel (r13) ((C9 r10.2 e01).bind fun r14 => K r14) (K false)) (K false)) (K false)) (K false)) (K false)) (K false)))))))))))) (L0 (Vec.lit [((ByteArray.mk #[97]), (1 : Int), (0 : Int)), ((ByteArray.mk #[98]), (0 : Int), (2 : Int))] : Vec YN) (0 : Int) (0 : Int) (fun e01 e02 => (C3 e01 (ByteArray.mk #[122, 122, 47, 110, 101, 119]) e02 (3 : Int)).bind fun r15 => (C4 r15.2 (ByteArray.mk #[122, 122, 47, 110, 101, 119])).bind fun r16 => sel ((!r15.1)) (K false) ((C5 r15.2).bind fun r17 => sel ((!r17)) (K false) (sel ((!decide ((r15.2.n : Int) = (wr ((e01.n : Int) + (1 : Int)))))) (K false) (sel (decide (r16 < (0 : Int))) (K false) ((C6 r15.2 e02).bind fun r18 => sel ((!decide (r18 = r16))) (K false) (chk (decide (0 ≤ r16 ∧ r16 < (r15.2.n : Int))) (chk (decide (r16.toNat < r15.2.n)) (sel ((!decide ((r15.2.g r16.toNat).2.2 = (3 : Int)))) (K false) ((C7 r15.2 (ByteArray.mk #[122, 122, 47, 110, 101, 119]) (ByteArray.mk #[48])).bind fun r19 => (C7 r19.2 (ByteArray.mk #[48]) (ByteArray.mk #[122, 122, 47, 110, 101, 119])).bind fun r20 => (C8 r20.2 (ByteArray.mk #[122, 122, 47, 110, 101, 119])).bind fun r21 => (C8 e01 (ByteArray.mk #[122, 122, 47, 110, 101, 119])).bind fun r22 => sel (r19.1) (sel (r20.1) (sel (r21.1) (sel ((!r22.1)) ((C6 r19.2 e02).bind fun r23 => sel (decide (r23 = (0 : Int))) ((C9 r20.2 r15.2).bind fun r24 => sel (r24) ((C9 r21.2 e01).bind fun r25 => K r25) (K false)) (K false)) (K false)) (K false)) (K false)) (K false)))))))))))) (sel (decide ((r2.n : Int) = (12 : Int))) (chk (decide (0 ≤ (1 : Int) ∧ (1 : Int) ≤ (r2.n : Int) ∧ (r2.n : Int) ≤ (r2.n : Int))) (L0 (Vec.sub r2 ((1 : Int).toNat) ((r2.n : Int).toNat)) (0 : Int) (0 : Int) (fun e01 e02 => (C3 e01 (ByteArray.mk #[122, 122, 47, 110, 101, 119]) e02 (3 : Int)).bind fun r26 => (C4 r26.2 (ByteArray.mk #[122, 122, 47, 110, 101, 119])).bind fun r27 => sel ((!r26.1)) (K false) ((C5 r26.2).bind fun r28 => sel ((!r28)) (K false) (sel ((!decide ((r26.2.n : Int) = (wr ((e01.n : Int) + (1 : Int)))))) (K false) (sel (decide (r27 < (0 : Int))) (K false) ((C6 r26.2 e02).bind fun r29 => sel ((!decide (r29 = r27))) (K false) (chk (decide (0 ≤ r27 ∧ r27 < (r26.2.n : Int))) (chk (decide (r27.toNat < r26.2.n)) (sel ((!decide ((r26.2.g r27.toNat).2.2 = (3 : Int)))) (K false) ((C7 r26.2 (ByteArray.mk #[122, 122, 47, 110, 101, 119]) (ByteArray.mk #[48])).bind fun r30 => (C7 r30.2 (ByteArray.mk #[48]) (ByteArray.mk #[122, 122, 47, 110, 101, 119])).bind fun r31 => (C8 r31.2 (ByteArray.mk #[122, 122, 47, 110, 101, 119])).bind fun r32 => (C8 e01 (ByteArray.mk #[122, 122, 47, 110, 101, 119])).bind fun r33 => sel (r30.1) (sel (r31.1) (sel (r32.1) (sel ((!r33.1)) ((C6 r30.2 e02).bind fun r34 => sel (decide (r34 = (0 : Int))) ((C9 r31.2 r26.2).bind fun r35 => sel (r35) ((C9 r32.2 e01).bind fun r36 => K r36) (K false)) (K false)) (K false)) (K false)) (K false)) (K false)))))))))))) (L0 r2 (0 : Int) (0 : Int) (fun e01 e02 => (C3 e01 (ByteArray.mk #[122, 122, 47, 110, 101, 119]) e02 (3 : Int)).bind fun r37 => (C4 r37.2 (ByteArray.mk #[122, 122, 47, 110, 101, 119])).bind fun r38 => sel ((!r37.1)) (K false) ((C5 r37.2).bind fun r39 => sel ((!r39)) (K false) (sel ((!decide ((r37.2.n : Int) = (wr ((e01.n : Int) + (1 : Int)))))) (K false) (sel (decide (r38 < (0 : Int))) (K false) ((C6 r37.2 e02).bind fun r40 => sel ((!decide (r40 = r38))) (K false) (chk (decide (0 ≤ r38 ∧ r38 < (r37.2.n : Int))) (chk (decide (r38.toNat < r37.2.n)) (sel ((!decide ((r37.2.g r38.toNat).2.2 = (3 : Int)))) (K false) ((C7 r37.2 (ByteArray.mk #[122, 122, 47, 110, 101, 119]) (ByteArray.mk #[48])).bind fun r41 => (C7 r41.2 (ByteArray.mk #[48]) (ByteArray.mk #[122, 122, 47, 110, 101, 119])).bind fun r42 => (C8 r42.2 (ByteArray.mk #[122, 122, 47, 110, 101, 119])).bind fun r43 => (C8 e01 (ByteArray.mk #[122, 122, 47, 110, 101, 119])).bind fun r44 => sel (r41.1) (sel (r42.1) (sel (r43.1) (sel ((!r44.1)) ((C6 r41.2 e02).bind fun r45 => sel (decide (r45 = (0 : Int))) ((C9 r42.2 r37.2).bind fun r46 => sel (r46) ((C9 r43.2 e01).bind fun r47 => K r47) (K false)) (K false)) (K false)) (K false)) (K false)) (K false)))))))))))))
noncomputable def F (a1 : YU) : Option Bool := B laws_big.F spec_DrawNamesOk.F spec_NamesOk.F impl_PutName.F impl_ByPath.F impl_NamesOk.F impl_ById.F impl_MoveName.F impl_CutName.F laws_sameNames.F (F0 fuelN) a1 (fun x1 => some (x1))
def encA (t : YU) : LA := [vl t]
def encR (x : Bool) : AV × LO := (vb x, [])
theorem encAI (a b) (h : encA a = encA b) : a = b := by simpa [encA, encRw_iff] using h
theorem encRI (a b) (h : encR a = encR b) : a = b := by simpa [encR, encRw_iff] using h
noncomputable def Q (args : LA) : Option Bool := ofC encA (un1 F) args
theorem wrap : F = fun y1 => Q [vl y1] := by funext y1; exact Eq.symm (ofC_enc encAI _ (y1))
noncomputable abbrev O (Q0 : LA → Option Bool) (Q1 : LA → Option YVN) (Q2 : LA → Option Bool) (Q3 : LA → Option (Bool × YVN)) (Q4 : LA → Option Int) (Q5 : LA → Option Bool) (Q6 : LA → Option Int) (Q7 : LA → Option (Bool × YVN)) (Q8 : LA → Option (Bool × YVN)) (Q9 : LA → Option Bool) (Q10 : LA → Option Int) : Orc := mkO [qE 15 false laws_big.encR Q0, qE 27 false spec_DrawNamesOk.encR Q1, qE 28 false spec_NamesOk.encR Q2, qE 30 false impl_PutName.encR Q3, qE 31 false impl_ByPath.encR Q4, qE 32 false impl_NamesOk.encR Q5, qE 33 false impl_ById.encR Q6, qE 11 false impl_MoveName.encR Q7, qE 34 false impl_CutName.encR Q8, qE 35 false laws_sameNames.encR Q9, qE 29 false spec_ById.encR Q10] [] []
noncomputable def c0 : Code := loopC (atomN [] 0 (bodyOf Try.f6) 0)
def ct0 : Cut := ⟨[3, 4, 5], [.fr (.s 3)]⟩
def lv0 : Exit → Cut
  | .exit 0 => ⟨[3, 4], []⟩
  | _ => ⟨[], []⟩
def k0_0 {ρ : Type} (K : Exit → St → Option ρ) (z1 : Vec YN) (z2 : Int) : Option ρ := K (.exit 0) (mkS 132 (lv0 (.exit 0)).live [vl z1, vi z2] [] [])
noncomputable def L (W0 : (ρ : Type) → LA → LO → (YVN → Int → Option ρ) → Option ρ) : Lor := fun ρ j st K => sel (Nat.beq j 0) (cutO Try.prog 132 ct0.live 0 [] ct0.cmds st fun avs obs => W0 ρ avs obs (k0_0 K)) (Option.none)
theorem step0 {Q0 Q1 Q2 Q3 Q4 Q5 Q6 Q7 Q8 Q9 Q10 W0} {ρ : Type} {K : Exit → St → Option ρ} {W : LA → LO → Option ρ} {v1 v2 v3} : exC Try.prog (O Q0 Q1 Q2 Q3 Q4 Q5 Q6 Q7 Q8 Q9 Q10) (L W0) [] 1 c0 (mkS 132 ct0.live [vl v1, vi v2, vi v3] [] []) (bodyK Try.prog 132 0 [] ct0 W lv0 K) =
    B0 (fun y1 y2 => Q10 [vl y1, vi y2]) v1 v2 v3 (fun u1 u2 u3 => W [vl u1, vi u2, vi u3] []) (k0_0 K) := by kernel_rfl
def enc0 (t : YVN × Int × Int) : LA × LO := ([vl t.1, vi t.2.1, vi t.2.2], [])
theorem enc0I (a b) (h : enc0 a = enc0 b) : a = b := by simp [enc0, encRw_iff] at h; simp [Prod.ext_iff, h]
noncomputable def V0 : (ρ : Type) → LA → LO → (YVN → Int → Option ρ) → Option ρ := fun ρ avs obs k0 => ofC enc0 (fun t => un3 (F0 fuelN) t k0) (avs, obs)
theorem V0_enc (ρ : Type) : F0 fuelN = fun w1 w2 w3 k0 => V0 ρ [vl w1, vi w2, vi w3] [] k0 := by funext w1 w2 w3 k0; exact Eq.symm (ofC_enc enc0I _ (w1, w2, w3))
theorem main {Q0 Q1 Q2 Q3 Q4 Q5 Q6 Q7 Q8 Q9 Q10 W0} {ρ : Type} {K : AV → LO → Option ρ} {a1} : exC Try.prog (O Q0 Q1 Q2 Q3 Q4 Q5 Q6 Q7 Q8 Q9 Q10) (L W0) [] 0 (bodyOf Try.f6) (entry 132 [vl a1] [] []) (finO Try.prog Try.f6.results.toList 0 [] [] K) =
    B (fun y1 => Q0 [vl y1]) (fun y1 => Q1 [vl y1]) (fun y1 => Q2 [vl y1]) (fun y1 y2 y3 y4 => Q3 [vl y1, .a [cs y2, ci y3, ci y4]]) (fun y1 y2 => Q4 [vl y1, vs y2]) (fun y1 => Q5 [vl y1]) (fun y1 y2 => Q6 [vl y1, vi y2]) (fun y1 y2 y3 => Q7 [vl y1, vs y2, vs y3]) (fun y1 y2 => Q8 [vl y1, vs y2]) (fun y1 y2 => Q9 [vl y1, vl y2]) (fun w1 w2 w3 k0 => W0 ρ [vl w1, vi w2, vi w3] [] k0) a1 (fun x1 => K (vb x1) []) := by kernel_rfl
theorem Gok : (O laws_big.Q spec_DrawNamesOk.Q spec_NamesOk.Q impl_PutName.Q impl_ByPath.Q impl_NamesOk.Q impl_ById.Q impl_MoveName.Q impl_CutName.Q laws_sameNames.Q spec_ById.Q).ok Try.prog := mkO_ok (by exact ⟨qE_ok laws_big.ac, qE_ok spec_DrawNamesOk.ac, qE_ok spec_NamesOk.ac, qE_ok impl_PutName.ac, qE_ok impl_ByPath.ac, qE_ok impl_NamesOk.ac, qE_ok impl_ById.ac, qE_ok impl_MoveName.ac, qE_ok impl_CutName.ac, qE_ok laws_sameNames.ac, qE_ok spec_ById.ac, trivial⟩) (by exact trivial)
theorem ok0 : OkL Try.prog (L V0) 0 (.loop c0) := fun ρ st K r h => loop_ok (ct := ct0) (lv := lv0) (L := (L V0)) Gok hmT (by rw [show atomsL [] 1 c0 = [] by kernel_rfl]; exact Lor.ok_nil _ _) enc0I (fun k t => un3 (F0 k) t (k0_0 K)) (fun t => rfl) (fun k t => by refine step0.trans ?_; rw [← spec_ById.wrap]; exact congrFun (congrArg (B0 _ _ _ _) (fx3 fun t => ofC_enc enc0I _ t)) _) (fun _ => fuelN) h
theorem e : atomsL [] 0 (bodyOf Try.f6) = [(0, 0, .loop c0)] := by kernel_rfl
theorem acc : ∀ t x, un1 F t = some x → ACc Try.prog 6 (encA t) [] true [] fun rv obs => (rv, obs) = encR x := accT (T := Vec (IK .u8)) (F := un1 F) (L := (L V0)) (cmds := []) (body := (bodyOf Try.f6)) Gok hmT Try.func6 (by kernel_rfl) (by kernel_rfl) (by rw [e]; exact Lor.ok_cons ok0 (Lor.ok_nil _ _)) (fun t => by refine main.trans ?_; rw [← laws_big.wrap, ← spec_DrawNamesOk.wrap, ← spec_NamesOk.wrap, ← impl_PutName.wrap, ← impl_ByPath.wrap, ← impl_NamesOk.wrap, ← impl_ById.wrap, ← impl_MoveName.wrap, ← impl_CutName.wrap, ← laws_sameNames.wrap, ← V0_enc]; exact congrArg (B _ _ _ _ _ _ _ _ _ _ _ _) (fx1 fun t => ofC_enc encRI some t))
theorem ac : ∀ a x, Q a = some x → AC Try.prog 6 a [] false [] fun rv obs => (rv, obs) = encR x := acF (body := (bodyOf Try.f6)) Try.func6 (by kernel_rfl) (by kernel_rfl) acc fun x => ⟨by simp [encR, AV.Flat, K.Flat, C.Flat], fl0⟩
end laws_FnNames
end Go.Al
