import Derived.Test.YtbhcecfdgkgjmaaAlE
import Derived.Test.YtbhcecfdgkgjmaaSC
set_option linter.unusedVariables false
set_option linter.unusedSimpArgs false
set_option linter.constructorNameAsVariable false
set_option linter.unusedSectionVars false
set_option maxRecDepth 100000
namespace Go.Al
open Go.Proofs

/-! loop.example/g00073/spec.l01New -/
namespace spec_l01New
noncomputable def B0 {ρ : Type} (v1 : YU) (v2 : Int) (v3 : Int) (W : YU → Int → Int → Option ρ) (K0 : YU → Int → Option ρ) : Option ρ :=
  sel (decide (v3 < (v1.n : Int))) (sel (decide (v3 < (4000 : Int))) (chk (decide (0 ≤ v3 ∧ v3 < (v1.n : Int))) (W v1 (bAnd .i64 (wr ((wr ((wr (v2 * (131 : Int))) + (wr ((v1.g v3.toNat).v)))) + (7 : Int))) (1073741823 : Int)) (wr (v3 + (1 : Int))))) (K0 v1 v2)) (K0 v1 v2)
noncomputable def F0 {ρ : Type} : Nat → YU → Int → Int → (YU → Int → Option ρ) → Option ρ
  | 0, _, _, _, _ => none
  | k + 1, v1, v2, v3, K0 => B0 v1 v2 v3 (fun v1' v2' v3' => F0 k v1' v2' v3' K0) K0
noncomputable def B {ρ : Type} (L0 : YU → Int → Int → (YU → Int → Option ρ) → Option ρ) (a1 : YU) (K : YU → Int → Int → Option ρ) : Option ρ :=
  L0 a1 (wr ((73073 : Int) + (a1.n : Int))) (0 : Int) (fun e01 e02 => K e01 (0 : Int) e02)
noncomputable def F (a1 : YU) : Option (Vec (IK .u8) × Int × Int) := B (F0 fuelN) a1 (fun x1 x2 x3 => some (x1, x2, x3))
def encA (t : YU) : LA := [vl t]
def encR (x : Vec (IK .u8) × Int × Int) : AV × LO := (.c (.p 0 0), [.box [cl x.1, ci x.2.1, ci x.2.2]])
theorem encAI (a b) (h : encA a = encA b) : a = b := by simpa [encA, encRw_iff] using h
theorem encRI (a b) (h : encR a = encR b) : a = b := by simp [encR, encRw_iff] at h; simp [Prod.ext_iff, h]
noncomputable def Q (args : LA) : Option (Vec (IK .u8) × Int × Int) := ofC encA (un1 F) args
theorem wrap : F = fun y1 => Q [vl y1] := by funext y1; exact Eq.symm (ofC_enc encAI _ (y1))
noncomputable abbrev O : Orc := mkO [] [] []
noncomputable def c0 : Code := loopC (atomN [] 0 (bodyOf Try.f51) 0)
def ct0 : Cut := ⟨[0, 3, 4], []⟩
def lv0 : Exit → Cut
  | .exit 0 => ⟨[0, 3], []⟩
  | _ => ⟨[], []⟩
def k0_0 {ρ : Type} (K : Exit → St → Option ρ) (z1 : YU) (z2 : Int) : Option ρ := K (.exit 0) (mkS 32 (lv0 (.exit 0)).live [vl z1, vi z2] [] [])
noncomputable def L (W0 : (ρ : Type) → LA → LO → (YU → Int → Option ρ) → Option ρ) : Lor := fun ρ j st K => sel (Nat.beq j 0) (cutO Try.prog 32 ct0.live 0 [] ct0.cmds st fun avs obs => W0 ρ avs obs (k0_0 K)) (Option.none)
theorem step0 {W0} {ρ : Type} {K : Exit → St → Option ρ} {W : LA → LO → Option ρ} {v1 v2 v3} : exC Try.prog O (L W0) [] 1 c0 (mkS 32 ct0.live [vl v1, vi v2, vi v3] [] []) (bodyK Try.prog 32 0 [] ct0 W lv0 K) =
    B0 v1 v2 v3 (fun u1 u2 u3 => W [vl u1, vi u2, vi u3] []) (k0_0 K) := by kernel_rfl
def enc0 (t : Vec (IK .u8) × Int × Int) : LA × LO := ([vl t.1, vi t.2.1, vi t.2.2], [])
theorem enc0I (a b) (h : enc0 a = enc0 b) : a = b := by simp [enc0, encRw_iff] at h; simp [Prod.ext_iff, h]
noncomputable def V0 : (ρ : Type) → LA → LO → (YU → Int → Option ρ) → Option ρ := fun ρ avs obs k0 => ofC enc0 (fun t => un3 (F0 fuelN) t k0) (avs, obs)
theorem V0_enc (ρ : Type) : F0 fuelN = fun w1 w2 w3 k0 => V0 ρ [vl w1, vi w2, vi w3] [] k0 := by funext w1 w2 w3 k0; exact Eq.symm (ofC_enc enc0I _ (w1, w2, w3))
theorem main {W0} {ρ : Type} {K : AV → LO → Option ρ} {a1} : exC Try.prog O (L W0) [] 0 (bodyOf Try.f51) (entry 32 [vl a1] [] []) (finO Try.prog Try.f51.results.toList 0 [] [] K) =
    B (fun w1 w2 w3 k0 => W0 ρ [vl w1, vi w2, vi w3] [] k0) a1 (fun x1 x2 x3 => K (.c (.p 0 0)) [.box [cl x1, ci x2, ci x3]]) := by kernel_rfl
theorem Gok : O.ok Try.prog := mkO_ok (by exact trivial) (by exact trivial)
theorem ok0 : OkL Try.prog (L V0) 0 (.loop c0) := fun ρ st K r h => loop_ok (ct := ct0) (lv := lv0) (L := (L V0)) Gok hmT (by rw [show atomsL [] 1 c0 = [] by kernel_rfl]; exact Lor.ok_nil _ _) enc0I (fun k t => un3 (F0 k) t (k0_0 K)) (fun t => rfl) (fun k t => by refine step0.trans ?_; exact congrFun (congrArg (B0 _ _ _) (fx3 fun t => ofC_enc enc0I _ t)) _) (fun _ => fuelN) h
theorem e : atomsL [] 0 (bodyOf Try.f51) = [(0, 0, .loop c0)] := by kernel_rfl
theorem acc : ∀ t x, un1 F t = some x → ACc Try.prog 51 (encA t) [] true [] fun rv obs => (rv, obs) = encR x := accT (T := Vec (IK .u8)) (F := un1 F) (L := (L V0)) (cmds := []) (body := (bodyOf Try.f51)) Gok hmT Try.func51 (by kernel_rfl) (by kernel_rfl) (by rw [e]; exact Lor.ok_cons ok0 (Lor.ok_nil _ _)) (fun t => by refine main.trans ?_; rw [← V0_enc]; exact congrArg (B _ _) (fx3 fun t => ofC_enc encRI some t))
theorem ac : ∀ a x, Q a = some x → AC Try.prog 51 a [] true [] fun rv obs => (rv, obs) = encR x := acT (body := (bodyOf Try.f51)) Try.func51 (by kernel_rfl) (by kernel_rfl) acc
end spec_l01New
/-! loop.example/g00073/spec.l01Byte -/
namespace spec_l01Byte_s0451
noncomputable def B {ρ : Type} (a1 : YU) (a2 : Int) (a3 : Int) (K : Int → YU → Int → Int → Option ρ) : Option ρ :=
  sel (decide (a2 < (a1.n : Int))) (chk (decide (0 ≤ a2 ∧ a2 < (a1.n : Int))) (K (bAnd .i64 (wr ((bAnd .i64 (bXor .i64 (bShr .i64 (wr ((wr (a3 * (6364136223846793005 : Int))) + (1442695040888963407 : Int))) (33 : Int)) (bShr .i64 (wr ((wr (a3 * (6364136223846793005 : Int))) + (1442695040888963407 : Int))) (45 : Int))) (255 : Int)) + (wr ((a1.g a2.toNat).v)))) (255 : Int)) a1 (wr (a2 + (1 : Int))) (wr ((wr (a3 * (6364136223846793005 : Int))) + (1442695040888963407 : Int))))) (K (bAnd .i64 (bXor .i64 (bShr .i64 (wr ((wr (a3 * (6364136223846793005 : Int))) + (1442695040888963407 : Int))) (33 : Int)) (bShr .i64 (wr ((wr (a3 * (6364136223846793005 : Int))) + (1442695040888963407 : Int))) (45 : Int))) (255 : Int)) a1 a2 (wr ((wr (a3 * (6364136223846793005 : Int))) + (1442695040888963407 : Int))))
noncomputable def F (a1 : YU) (a2 : Int) (a3 : Int) : Option (Int × Vec (IK .u8) × Int × Int) := B a1 a2 a3 (fun x1 x2 x3 x4 => some (x1, x2, x3, x4))
def encA (t : Vec (IK .u8) × Int × Int) : LA × LO := ([.c (.p 0 0)], [.box [cl t.1, ci t.2.1, ci t.2.2]])
def encR (x : Int × Vec (IK .u8) × Int × Int) : AV × LO := (vi x.1, [.box [cl x.2.1, ci x.2.2.1, ci x.2.2.2]])
theorem encAI (a b) (h : encA a = encA b) : a = b := by simp [encA, encRw_iff] at h; simp [Prod.ext_iff, h]
theorem encRI (a b) (h : encR a = encR b) : a = b := by simp [encR, encRw_iff] at h; simp [Prod.ext_iff, h]
noncomputable def Q (args : LA) (hin : LO) : Option (Int × Vec (IK .u8) × Int × Int) := ofC encA (un3 F) (args, hin)
theorem wrap : F = fun y1 y2 y3 => Q [.c (.p 0 0)] [.box [cl y1, ci y2, ci y3]] := by funext y1 y2 y3; exact Eq.symm (ofC_enc encAI _ (y1, y2, y3))
noncomputable abbrev O : Orc := mkO [] [] []
noncomputable def L : Lor := fun _ _ _ _ => Option.none
theorem main {ρ : Type} {K : AV → LO → Option ρ} {a1 a2 a3} : exC Try.prog O L [] 0 (bodyOf Try.f58) (entry 58 [.c (.p 0 0)] [.box [cl a1, ci a2, ci a3]] [true]) (finO Try.prog Try.f58.results.toList 1 [true] [] K) =
    B a1 a2 a3 (fun x1 x2 x3 x4 => K (vi x1) [.box [cl x2, ci x3, ci x4]]) := by kernel_rfl
theorem Gok : O.ok Try.prog := mkO_ok (by exact trivial) (by exact trivial)
theorem acc : ∀ t x, un3 F t = some x → ACc Try.prog 58 (encA t).1 (encA t).2 true [true] fun rv obs => (rv, obs) = encR x := accT2 (T := Vec (IK .u8) × Int × Int) (F := un3 F) (L := L) (cmds := []) (body := (bodyOf Try.f58)) 1 (fun _ => rfl) Gok hmT Try.func58 (by kernel_rfl) (by kernel_rfl) (by rw [show atomsL [] 0 (bodyOf Try.f58) = [] by kernel_rfl]; exact Lor.ok_nil _ _) (fun t => by refine main.trans ?_; exact congrArg (B _ _ _) (fx4 fun t => ofC_enc encRI some t))
theorem ac : ∀ a h x, Q a h = some x → AC Try.prog 58 a h true [true] fun rv obs => (rv, obs) = encR x := acT2 (body := (bodyOf Try.f58)) Try.func58 (by kernel_rfl) (by kernel_rfl) acc
end spec_l01Byte_s0451
/-! loop.example/g00073/spec.l01Below -/
namespace spec_l01Below_sb3e9
noncomputable def B {ρ : Type} (C0 : YU → Int → Int → Option (Int × Vec (IK .u8) × Int × Int)) (a1 : Int) (a2 : YU) (a3 : Int) (a4 : Int) (K : Int → YU → Int → Int → Option ρ) : Option ρ :=
  sel (decide (a1 ≤ (0 : Int))) (K (0 : Int) a2 a3 a4) (sel (decide (a1 ≤ (256 : Int))) ((C0 a2 a3 a4).bind fun r1 => chk (decide (a1 ≠ 0)) (K (Int.tmod r1.1 a1) r1.2.1 r1.2.2.1 r1.2.2.2)) ((C0 a2 a3 a4).bind fun r2 => (C0 r2.2.1 r2.2.2.1 r2.2.2.2).bind fun r3 => (C0 r3.2.1 r3.2.2.1 r3.2.2.2).bind fun r4 => (C0 r4.2.1 r4.2.2.1 r4.2.2.2).bind fun r5 => chk (decide (a1 ≠ 0)) (K (Int.tmod (wr ((wr ((wr ((wr (r2.1 * (16777216 : Int))) + (wr (r3.1 * (65536 : Int))))) + (wr (r4.1 * (256 : Int))))) + r5.1)) a1) r5.2.1 r5.2.2.1 r5.2.2.2)))
noncomputable def F (a1 : Int) (a2 : YU) (a3 : Int) (a4 : Int) : Option (Int × Vec (IK .u8) × Int × Int) := B spec_l01Byte_s0451.F a1 a2 a3 a4 (fun x1 x2 x3 x4 => some (x1, x2, x3, x4))
def encA (t : Int × Vec (IK .u8) × Int × Int) : LA × LO := ([.c (.p 0 0), vi t.1], [.box [cl t.2.1, ci t.2.2.1, ci t.2.2.2]])
def encR (x : Int × Vec (IK .u8) × Int × Int) : AV × LO := (vi x.1, [.box [cl x.2.1, ci x.2.2.1, ci x.2.2.2]])
theorem encAI (a b) (h : encA a = encA b) : a = b := by simp [encA, encRw_iff] at h; simp [Prod.ext_iff, h]
theorem encRI (a b) (h : encR a = encR b) : a = b := by simp [encR, encRw_iff] at h; simp [Prod.ext_iff, h]
noncomputable def Q (args : LA) (hin : LO) : Option (Int × Vec (IK .u8) × Int × Int) := ofC encA (un4 F) (args, hin)
theorem wrap : F = fun y1 y2 y3 y4 => Q [.c (.p 0 0), vi y1] [.box [cl y2, ci y3, ci y4]] := by funext y1 y2 y3 y4; exact Eq.symm (ofC_enc encAI _ (y1, y2, y3, y4))
noncomputable abbrev O (Q0 : LA → LO → Option (Int × Vec (IK .u8) × Int × Int)) : Orc := mkO [] [eE Try.prog 58 [true] false [true] spec_l01Byte_s0451.encR Q0] []
noncomputable def L : Lor := fun _ _ _ _ => Option.none
theorem main {Q0} {ρ : Type} {K : AV → LO → Option ρ} {a1 a2 a3 a4} : exC Try.prog (O Q0) L [] 0 (bodyOf Try.f59) (entry 37 [.c (.p 0 0), vi a1] [.box [cl a2, ci a3, ci a4]] [true]) (finO Try.prog Try.f59.results.toList 1 [true] [] K) =
    B (fun y1 y2 y3 => Q0 [.c (.p 0 0)] [.box [cl y1, ci y2, ci y3]]) a1 a2 a3 a4 (fun x1 x2 x3 x4 => K (vi x1) [.box [cl x2, ci x3, ci x4]]) := by kernel_rfl
theorem Gok : (O spec_l01Byte_s0451.Q).ok Try.prog := mkO_ok (by exact trivial) (by exact ⟨eE_ok (fun h => by cases h) spec_l01Byte_s0451.ac, trivial⟩)
theorem acc : ∀ t x, un4 F t = some x → ACc Try.prog 59 (encA t).1 (encA t).2 true [true] fun rv obs => (rv, obs) = encR x := accT2 (T := Int × Vec (IK .u8) × Int × Int) (F := un4 F) (L := L) (cmds := []) (body := (bodyOf Try.f59)) 1 (fun _ => rfl) Gok hmT Try.func59 (by kernel_rfl) (by kernel_rfl) (by rw [show atomsL [] 0 (bodyOf Try.f59) = [] by kernel_rfl]; exact Lor.ok_nil _ _) (fun t => by refine main.trans ?_; rw [← spec_l01Byte_s0451.wrap]; exact congrArg (B _ _ _ _ _) (fx4 fun t => ofC_enc encRI some t))
theorem ac : ∀ a h x, Q a h = some x → AC Try.prog 59 a h true [true] fun rv obs => (rv, obs) = encR x := acT2 (body := (bodyOf Try.f59)) Try.func59 (by kernel_rfl) (by kernel_rfl) acc
end spec_l01Below_sb3e9
/-! loop.example/g00073/spec.l01Pick -/
namespace spec_l01Pick_s189a
noncomputable def B {ρ : Type} (C0 : Int → YU → Int → Int → Option (Int × Vec (IK .u8) × Int × Int)) (a1 : YU) (a2 : Int) (a3 : Int) (a4 : YS) (K : ByteArray → YU → Int → Int → YS → Option ρ) : Option ρ :=
  (C0 (a4.n : Int) a1 a2 a3).bind fun r1 => chk (decide (0 ≤ r1.1 ∧ r1.1 < (a4.n : Int))) (chk (decide ((r1.1).toNat < a4.n)) (K (a4.g ((r1.1).toNat)) r1.2.1 r1.2.2.1 r1.2.2.2 a4))
noncomputable def F (a1 : YU) (a2 : Int) (a3 : Int) (a4 : YS) : Option (ByteArray × Vec (IK .u8) × Int × Int × Vec ByteArray) := B spec_l01Below_sb3e9.F a1 a2 a3 a4 (fun x1 x2 x3 x4 x5 => some (x1, x2, x3, x4, x5))
def encA (t : Vec (IK .u8) × Int × Int × Vec ByteArray) : LA × LO := ([.c (.p 0 0), .c (.h 1)], [.box [cl t.1, ci t.2.1, ci t.2.2.1], ro t.2.2.2])
def encR (x : ByteArray × Vec (IK .u8) × Int × Int × Vec ByteArray) : AV × LO := (vs x.1, [.box [cl x.2.1, ci x.2.2.1, ci x.2.2.2.1], ro x.2.2.2.2])
theorem encAI (a b) (h : encA a = encA b) : a = b := by simp [encA, encRw_iff] at h; simp [Prod.ext_iff, h]
theorem encRI (a b) (h : encR a = encR b) : a = b := by simp [encR, encRw_iff] at h; simp [Prod.ext_iff, h]
noncomputable def Q (args : LA) (hin : LO) : Option (ByteArray × Vec (IK .u8) × Int × Int × Vec ByteArray) := ofC encA (un4 F) (args, hin)
theorem wrap : F = fun y1 y2 y3 y4 => Q [.c (.p 0 0), .c (.h 1)] [.box [cl y1, ci y2, ci y3], ro y4] := by funext y1 y2 y3 y4; exact Eq.symm (ofC_enc encAI _ (y1, y2, y3, y4))
noncomputable abbrev O (Q0 : LA → LO → Option (Int × Vec (IK .u8) × Int × Int)) : Orc := mkO [] [eE Try.prog 59 [true, false] false [true] spec_l01Below_sb3e9.encR Q0] []
noncomputable def L : Lor := fun _ _ _ _ => Option.none
theorem main {Q0} {ρ : Type} {K : AV → LO → Option ρ} {a1 a2 a3 a4} : exC Try.prog (O Q0) L [] 0 (bodyOf Try.f86) (entry 12 [.c (.p 0 0), .c (.h 1)] [.box [cl a1, ci a2, ci a3], ro a4] [true, true]) (finO Try.prog Try.f86.results.toList 2 [true, true] [] K) =
    B (fun y1 y2 y3 y4 => Q0 [.c (.p 0 0), vi y1] [.box [cl y2, ci y3, ci y4]]) a1 a2 a3 a4 (fun x1 x2 x3 x4 x5 => K (vs x1) [.box [cl x2, ci x3, ci x4], ro x5]) := by kernel_rfl
theorem Gok : (O spec_l01Below_sb3e9.Q).ok Try.prog := mkO_ok (by exact trivial) (by exact ⟨eE_ok (fun h => by cases h) spec_l01Below_sb3e9.ac, trivial⟩)
theorem acc : ∀ t x, un4 F t = some x → ACc Try.prog 86 (encA t).1 (encA t).2 true [true, true] fun rv obs => (rv, obs) = encR x := accT2 (T := Vec (IK .u8) × Int × Int × Vec ByteArray) (F := un4 F) (L := L) (cmds := []) (body := (bodyOf Try.f86)) 2 (fun _ => rfl) Gok hmT Try.func86 (by kernel_rfl) (by kernel_rfl) (by rw [show atomsL [] 0 (bodyOf Try.f86) = [] by kernel_rfl]; exact Lor.ok_nil _ _) (fun t => by refine main.trans ?_; rw [← spec_l01Below_sb3e9.wrap]; exact congrArg (B _ _ _ _ _) (fx5 fun t => ofC_enc encRI some t))
theorem ac : ∀ a h x, Q a h = some x → AC Try.prog 86 a h true [true, true] fun rv obs => (rv, obs) = encR x := acT2 (body := (bodyOf Try.f86)) Try.func86 (by kernel_rfl) (by kernel_rfl) acc
end spec_l01Pick_s189a
/-! loop.example/g00073/spec.l01Text -/
namespace spec_l01Text_sb3e9
noncomputable def B0 {ρ : Type} (C0 : YU → Int → Int → Option (Int × Vec (IK .u8) × Int × Int)) (v1 : Int) (v2 : Int) (v3 : YU) (v4 : Int) (v5 : Int) (v6 : YU) (W : Int → Int → YU → Int → Int → YU → Option ρ) (K0 : YU → Int → Int → YU → Option ρ) : Option ρ :=
  sel (decide (v2 < v1)) ((C0 v3 v4 v5).bind fun r1 => chk (decide ((v6.n + (Vec.lit [⟨(IntKind.wrap .u8 r1.1)⟩] : YU).n) * 2 ≤ maxN)) (W v1 (wr (v2 + (1 : Int))) r1.2.1 r1.2.2.1 r1.2.2.2 (Vec.app v6 (Vec.lit [⟨(IntKind.wrap .u8 r1.1)⟩] : YU)))) (K0 v3 v4 v5 v6)
noncomputable def F0 {ρ : Type} : Nat → Int → Int → YU → Int → Int → YU → (YU → Int → Int → YU → Option ρ) → Option ρ
  | 0, _, _, _, _, _, _, _ => none
  | k + 1, v1, v2, v3, v4, v5, v6, K0 => B0 spec_l01Byte_s0451.F v1 v2 v3 v4 v5 v6 (fun v1' v2' v3' v4' v5' v6' => F0 k v1' v2' v3' v4' v5' v6' K0) K0
noncomputable def B {ρ : Type} (L0 : Int → Int → YU → Int → Int → YU → (YU → Int → Int → YU → Option ρ) → Option ρ) (a1 : Int) (a2 : YU) (a3 : Int) (a4 : Int) (K : ByteArray → YU → Int → Int → Option ρ) : Option ρ :=
  sel (decide ((5000 : Int) < a1)) (L0 (5000 : Int) (0 : Int) a2 a3 a4 (Vec.nil : YU) (fun e01 e02 e03 e04 => chk (okBytes e04) (K (toBytes e04) e01 e02 e03))) (L0 a1 (0 : Int) a2 a3 a4 (Vec.nil : YU) (fun e01 e02 e03 e04 => chk (okBytes e04) (K (toBytes e04) e01 e02 e03)))
noncomputable def F (a1 : Int) (a2 : YU) (a3 : Int) (a4 : Int) : Option (ByteArray × Vec (IK .u8) × Int × Int) := B (F0 fuelN) a1 a2 a3 a4 (fun x1 x2 x3 x4 => some (x1, x2, x3, x4))
def encA (t : Int × Vec (IK .u8) × Int × Int) : LA × LO := ([.c (.p 0 0), vi t.1], [.box [cl t.2.1, ci t.2.2.1, ci t.2.2.2]])
def encR (x : ByteArray × Vec (IK .u8) × Int × Int) : AV × LO := (vs x.1, [.box [cl x.2.1, ci x.2.2.1, ci x.2.2.2]])
theorem encAI (a b) (h : encA a = encA b) : a = b := by simp [encA, encRw_iff] at h; simp [Prod.ext_iff, h]
theorem encRI (a b) (h : encR a = encR b) : a = b := by simp [encR, encRw_iff] at h; simp [Prod.ext_iff, h]
noncomputable def Q (args : LA) (hin : LO) : Option (ByteArray × Vec (IK .u8) × Int × Int) := ofC encA (un4 F) (args, hin)
theorem wrap : F = fun y1 y2 y3 y4 => Q [.c (.p 0 0), vi y1] [.box [cl y2, ci y3, ci y4]] := by funext y1 y2 y3 y4; exact Eq.symm (ofC_enc encAI _ (y1, y2, y3, y4))
noncomputable abbrev O (Q0 : LA → LO → Option (Int × Vec (IK .u8) × Int × Int)) : Orc := mkO [] [eE Try.prog 58 [true] false [true] spec_l01Byte_s0451.encR Q0] []
noncomputable def c0 : Code := loopC (atomN [] 0 (bodyOf Try.f85) 0)
def ct0 : Cut := ⟨[0, 1, 5, 6], [.ad (.s 5) 31]⟩
def lv0 : Exit → Cut
  | .exit 0 => ⟨[5], []⟩
  | _ => ⟨[], []⟩
def k0_0 {ρ : Type} (K : Exit → St → Option ρ) (z1 : YU) (z2 : Int) (z3 : Int) (z4 : YU) : Option ρ := K (.exit 0) (mkS 23 (lv0 (.exit 0)).live [.c (.h 1)] [.box [cl z1, ci z2, ci z3], ro z4] [true])
noncomputable def L (W0 : (ρ : Type) → LA → LO → (YU → Int → Int → YU → Option ρ) → Option ρ) : Lor := fun ρ j st K => sel (Nat.beq j 0) (cutO Try.prog 23 ct0.live 1 [true] ct0.cmds st fun avs obs => W0 ρ avs obs (k0_0 K)) (Option.none)
theorem step0 {Q0 W0} {ρ : Type} {K : Exit → St → Option ρ} {W : LA → LO → Option ρ} {v1 v2 v3 v4 v5 v6} : exC Try.prog (O Q0) (L W0) [] 1 c0 (mkS 23 ct0.live [.c (.p 0 0), vi v1, .c (.h 1), vi v2] [.box [cl v3, ci v4, ci v5], ro v6] [true]) (bodyK Try.prog 23 1 [true] ct0 W lv0 K) =
    B0 (fun y1 y2 y3 => Q0 [.c (.p 0 0)] [.box [cl y1, ci y2, ci y3]]) v1 v2 v3 v4 v5 v6 (fun u1 u2 u3 u4 u5 u6 => W [.c (.p 0 0), vi u1, .c (.h 1), vi u2] [.box [cl u3, ci u4, ci u5], ro u6]) (k0_0 K) := by kernel_rfl
def enc0 (t : Int × Int × Vec (IK .u8) × Int × Int × Vec (IK .u8)) : LA × LO := ([.c (.p 0 0), vi t.1, .c (.h 1), vi t.2.1], [.box [cl t.2.2.1, ci t.2.2.2.1, ci t.2.2.2.2.1], ro t.2.2.2.2.2])
theorem enc0I (a b) (h : enc0 a = enc0 b) : a = b := by simp [enc0, encRw_iff] at h; simp [Prod.ext_iff, h]
noncomputable def V0 : (ρ : Type) → LA → LO → (YU → Int → Int → YU → Option ρ) → Option ρ := fun ρ avs obs k0 => ofC enc0 (fun t => un6 (F0 fuelN) t k0) (avs, obs)
theorem V0_enc (ρ : Type) : F0 fuelN = fun w1 w2 w3 w4 w5 w6 k0 => V0 ρ [.c (.p 0 0), vi w1, .c (.h 1), vi w2] [.box [cl w3, ci w4, ci w5], ro w6] k0 := by funext w1 w2 w3 w4 w5 w6 k0; exact Eq.symm (ofC_enc enc0I _ (w1, w2, w3, w4, w5, w6))
theorem main {Q0 W0} {ρ : Type} {K : AV → LO → Option ρ} {a1 a2 a3 a4} : exC Try.prog (O Q0) (L W0) [] 0 (bodyOf Try.f85) (entry 23 [.c (.p 0 0), vi a1] [.box [cl a2, ci a3, ci a4]] [true]) (finO Try.prog Try.f85.results.toList 1 [true] [] K) =
    B (fun w1 w2 w3 w4 w5 w6 k0 => W0 ρ [.c (.p 0 0), vi w1, .c (.h 1), vi w2] [.box [cl w3, ci w4, ci w5], ro w6] k0) a1 a2 a3 a4 (fun x1 x2 x3 x4 => K (vs x1) [.box [cl x2, ci x3, ci x4]]) := by kernel_rfl
theorem Gok : (O spec_l01Byte_s0451.Q).ok Try.prog := mkO_ok (by exact trivial) (by exact ⟨eE_ok (fun h => by cases h) spec_l01Byte_s0451.ac, trivial⟩)
theorem ok0 : OkL Try.prog (L V0) 0 (.loop c0) := fun ρ st K r h => loop_ok (ct := ct0) (lv := lv0) (L := (L V0)) Gok hmT (by rw [show atomsL [] 1 c0 = [] by kernel_rfl]; exact Lor.ok_nil _ _) enc0I (fun k t => un6 (F0 k) t (k0_0 K)) (fun t => rfl) (fun k t => by refine step0.trans ?_; rw [← spec_l01Byte_s0451.wrap]; exact congrFun (congrArg (B0 _ _ _ _ _ _ _) (fx6 fun t => ofC_enc enc0I _ t)) _) (fun _ => fuelN) h
theorem e : atomsL [] 0 (bodyOf Try.f85) = [(0, 0, .loop c0)] := by kernel_rfl
theorem acc : ∀ t x, un4 F t = some x → ACc Try.prog 85 (encA t).1 (encA t).2 true [true] fun rv obs => (rv, obs) = encR x := accT2 (T := Int × Vec (IK .u8) × Int × Int) (F := un4 F) (L := (L V0)) (cmds := []) (body := (bodyOf Try.f85)) 1 (fun _ => rfl) Gok hmT Try.func85 (by kernel_rfl) (by kernel_rfl) (by rw [e]; exact Lor.ok_cons ok0 (Lor.ok_nil _ _)) (fun t => by refine main.trans ?_; rw [← V0_enc]; exact congrArg (B _ _ _ _ _) (fx4 fun t => ofC_enc encRI some t))
theorem ac : ∀ a h x, Q a h = some x → AC Try.prog 85 a h true [true] fun rv obs => (rv, obs) = encR x := acT2 (body := (bodyOf Try.f85)) Try.func85 (by kernel_rfl) (by kernel_rfl) acc
end spec_l01Text_sb3e9
/-! loop.example/g00073/spec.l01Long -/
namespace spec_l01Long
noncomputable def B0 {ρ : Type} (v1 : Int) (v2 : Int) (v3 : Int) (v4 : YU) (W : Int → Int → Int → YU → Option ρ) (K0 : YU → Option ρ) : Option ρ :=
  sel (decide (v3 < v1)) (chk (decide (0 ≤ v3 ∧ v3 < (v4.n : Int))) (chk (decide (v3.toNat < v4.n)) (W v1 v2 (wr (v3 + (1 : Int))) (Vec.set v4 v3.toNat ⟨v2⟩)))) (K0 v4)
noncomputable def F0 {ρ : Type} : Nat → Int → Int → Int → YU → (YU → Option ρ) → Option ρ
  | 0, _, _, _, _, _ => none
  | k + 1, v1, v2, v3, v4, K0 => B0 v1 v2 v3 v4 (fun v1' v2' v3' v4' => F0 k v1' v2' v3' v4' K0) K0
noncomputable def B {ρ : Type} (L0 : Int → Int → Int → YU → (YU → Option ρ) → Option ρ) (a1 : Int) (a2 : Int) (K : ByteArray → Option ρ) : Option ρ :=
  chk (decide (a1 = a1 ∧ 0 ≤ a1)) (chk (mkOk a1 1) (L0 a1 a2 (0 : Int) (Vec.rep a1.toNat ⟨0⟩ : YU) (fun e01 => chk (okBytes e01) (K (toBytes e01)))))
noncomputable def F (a1 : Int) (a2 : Int) : Option ByteArray := B (F0 fuelN) a1 a2 (fun x1 => some (x1))
def encA (t : YD) : LA := [vi t.1, vk .u8 t.2]
def encR (x : ByteArray) : AV × LO := (vs x, [])
theorem encAI (a b) (h : encA a = encA b) : a = b := by simp [encA, encRw_iff] at h; simp [Prod.ext_iff, h]
theorem encRI (a b) (h : encR a = encR b) : a = b := by simpa [encR, encRw_iff] using h
noncomputable def Q (args : LA) : Option ByteArray := ofC encA (un2 F) args
theorem wrap : F = fun y1 y2 => Q [vi y1, vk .u8 y2] := by funext y1 y2; exact Eq.symm (ofC_enc encAI _ (y1, y2))
noncomputable abbrev O : Orc := mkO [] [] []
noncomputable def c0 : Code := loopC (atomN [] 0 (bodyOf Try.f87) 0)
def ct0 : Cut := ⟨[0, 1, 5, 6], []⟩
def lv0 : Exit → Cut
  | .exit 0 => ⟨[5], []⟩
  | _ => ⟨[], []⟩
def k0_0 {ρ : Type} (K : Exit → St → Option ρ) (z1 : YU) : Option ρ := K (.exit 0) (mkS 20 (lv0 (.exit 0)).live [.c (.h 0)] [ro z1] [])
noncomputable def L (W0 : (ρ : Type) → LA → LO → (YU → Option ρ) → Option ρ) : Lor := fun ρ j st K => sel (Nat.beq j 0) (cutO Try.prog 20 ct0.live 0 [] ct0.cmds st fun avs obs => W0 ρ avs obs (k0_0 K)) (Option.none)
theorem step0 {W0} {ρ : Type} {K : Exit → St → Option ρ} {W : LA → LO → Option ρ} {v1 v2 v3 v4} : exC Try.prog O (L W0) [] 1 c0 (mkS 20 ct0.live [vi v1, vk .u8 v2, .c (.h 0), vi v3] [ro v4] []) (bodyK Try.prog 20 0 [] ct0 W lv0 K) =
    B0 v1 v2 v3 v4 (fun u1 u2 u3 u4 => W [vi u1, vk .u8 u2, .c (.h 0), vi u3] [ro u4]) (k0_0 K) := by kernel_rfl
def enc0 (t : Int × Int × Int × Vec (IK .u8)) : LA × LO := ([vi t.1, vk .u8 t.2.1, .c (.h 0), vi t.2.2.1], [ro t.2.2.2])
theorem enc0I (a b) (h : enc0 a = enc0 b) : a = b := by simp [enc0, encRw_iff] at h; simp [Prod.ext_iff, h]
noncomputable def V0 : (ρ : Type) → LA → LO → (YU → Option ρ) → Option ρ := fun ρ avs obs k0 => ofC enc0 (fun t => un4 (F0 fuelN) t k0) (avs, obs)
theorem V0_enc (ρ : Type) : F0 fuelN = fun w1 w2 w3 w4 k0 => V0 ρ [vi w1, vk .u8 w2, .c (.h 0), vi w3] [ro w4] k0 := by funext w1 w2 w3 w4 k0; exact Eq.symm (ofC_enc enc0I _ (w1, w2, w3, w4))
theorem main {W0} {ρ : Type} {K : AV → LO → Option ρ} {a1 a2} : exC Try.prog O (L W0) [] 0 (bodyOf Try.f87) (entry 20 [vi a1, vk .u8 a2] [] []) (finO Try.prog Try.f87.results.toList 0 [] [] K) =
    B (fun w1 w2 w3 w4 k0 => W0 ρ [vi w1, vk .u8 w2, .c (.h 0), vi w3] [ro w4] k0) a1 a2 (fun x1 => K (vs x1) []) := by kernel_rfl
theorem Gok : O.ok Try.prog := mkO_ok (by exact trivial) (by exact trivial)
theorem ok0 : OkL Try.prog (L V0) 0 (.loop c0) := fun ρ st K r h => loop_ok (ct := ct0) (lv := lv0) (L := (L V0)) Gok hmT (by rw [show atomsL [] 1 c0 = [] by kernel_rfl]; exact Lor.ok_nil _ _) enc0I (fun k t => un4 (F0 k) t (k0_0 K)) (fun t => rfl) (fun k t => by refine step0.trans ?_; exact congrFun (congrArg (B0 _ _ _ _) (fx4 fun t => ofC_enc enc0I _ t)) _) (fun _ => fuelN) h
theorem e : atomsL [] 0 (bodyOf Try.f87) = [(0, 0, .loop c0)] := by kernel_rfl
theorem acc : ∀ t x, un2 F t = some x → ACc Try.prog 87 (encA t) [] true [] fun rv obs => (rv, obs) = encR x := accT (T := Int × Int) (F := un2 F) (L := (L V0)) (cmds := []) (body := (bodyOf Try.f87)) Gok hmT Try.func87 (by kernel_rfl) (by kernel_rfl) (by rw [e]; exact Lor.ok_cons ok0 (Lor.ok_nil _ _)) (fun t => by refine main.trans ?_; rw [← V0_enc]; exact congrArg (B _ _ _) (fx1 fun t => ofC_enc encRI some t))
theorem ac : ∀ a x, Q a = some x → AC Try.prog 87 a [] false [] fun rv obs => (rv, obs) = encR x := acF (body := (bodyOf Try.f87)) Try.func87 (by kernel_rfl) (by kernel_rfl) acc fun x => ⟨by simp [encR, AV.Flat, K.Flat, C.Flat], fl0⟩
end spec_l01Long
/-! loop.example/g00073/spec.l01Figure -/
namespace spec_l01Figure
noncomputable def B {ρ : Type} (a1 : Int) (K : Int → Option ρ) : Option ρ :=
  sel (decide (a1 < (10 : Int))) (K (IntKind.wrap .u8 (wr ((48 : Int) + a1)))) (K (IntKind.wrap .u8 (wr ((wr ((97 : Int) + a1)) - (10 : Int)))))
noncomputable def F (a1 : Int) : Option Int := B a1 (fun x1 => some (x1))
def encA (t : Int) : LA := [vi t]
def encR (x : Int) : AV × LO := (vk .u8 x, [])
theorem encAI (a b) (h : encA a = encA b) : a = b := by simpa [encA, encRw_iff] using h
theorem encRI (a b) (h : encR a = encR b) : a = b := by simpa [encR, encRw_iff] using h
noncomputable def Q (args : LA) : Option Int := ofC encA (un1 F) args
theorem wrap : F = fun y1 => Q [vi y1] := by funext y1; exact Eq.symm (ofC_enc encAI _ (y1))
noncomputable abbrev O : Orc := mkO [] [] []
noncomputable def L : Lor := fun _ _ _ _ => Option.none
theorem main {ρ : Type} {K : AV → LO → Option ρ} {a1} : exC Try.prog O L [] 0 (bodyOf Try.f116) (entry 12 [vi a1] [] []) (finO Try.prog Try.f116.results.toList 0 [] [] K) =
    B a1 (fun x1 => K (vk .u8 x1) []) := by kernel_rfl
theorem Gok : O.ok Try.prog := mkO_ok (by exact trivial) (by exact trivial)
theorem acc : ∀ t x, un1 F t = some x → ACc Try.prog 116 (encA t) [] true [] fun rv obs => (rv, obs) = encR x := accT (T := Int) (F := un1 F) (L := L) (cmds := []) (body := (bodyOf Try.f116)) Gok hmT Try.func116 (by kernel_rfl) (by kernel_rfl) (by rw [show atomsL [] 0 (bodyOf Try.f116) = [] by kernel_rfl]; exact Lor.ok_nil _ _) (fun t => by refine main.trans ?_; exact congrArg (B _) (fx1 fun t => ofC_enc encRI some t))
theorem ac : ∀ a x, Q a = some x → AC Try.prog 116 a [] false [] fun rv obs => (rv, obs) = encR x := acF (body := (bodyOf Try.f116)) Try.func116 (by kernel_rfl) (by kernel_rfl) acc fun x => ⟨by simp [encR, AV.Flat, K.Flat, C.Flat], fl0⟩
end spec_l01Figure
/-! loop.example/g00073/spec.Decimal -/
namespace spec_Decimal
noncomputable def B0 {ρ : Type} (C0 : Int → Option Int) (v1 : Int) (v2 : Bool) (v3 : ByteArray) (W : Int → Bool → ByteArray → Option ρ) (K0 : Bool → ByteArray → Option ρ) : Option ρ :=
  sel ((!decide (v1 = (0 : Int)))) (sel (decide ((Int.tmod v1 (10 : Int)) < (0 : Int))) ((C0 (wr (0 - (Int.tmod v1 (10 : Int))))).bind fun r1 => chk (okBytes (Vec.lit [⟨r1⟩] : YU)) (chk (decide ((toBytes (Vec.lit [⟨r1⟩] : YU)).size + v3.size ≤ maxN)) (W (wr (Int.tdiv v1 (10 : Int))) v2 ((toBytes (Vec.lit [⟨r1⟩] : YU)) ++ v3)))) ((C0 (Int.tmod v1 (10 : Int))).bind fun r2 => chk (okBytes (Vec.lit [⟨r2⟩] : YU)) (chk (decide ((toBytes (Vec.lit [⟨r2⟩] : YU)).size + v3.size ≤ maxN)) (W (wr (Int.tdiv v1 (10 : Int))) v2 ((toBytes (Vec.lit [⟨r2⟩] : YU)) ++ v3))))) (K0 v2 v3)
noncomputable def F0 {ρ : Type} : Nat → Int → Bool → ByteArray → (Bool → ByteArray → Option ρ) → Option ρ
  | 0, _, _, _, _ => none
  | k + 1, v1, v2, v3, K0 => B0 spec_l01Figure.F v1 v2 v3 (fun v1' v2' v3' => F0 k v1' v2' v3' K0) K0
noncomputable def B {ρ : Type} (L0 : Int → Bool → ByteArray → (Bool → ByteArray → Option ρ) → Option ρ) (a1 : Int) (K : ByteArray → Option ρ) : Option ρ :=
  sel (decide (a1 = (0 : Int))) (K (ByteArray.mk #[48])) (L0 a1 (decide (a1 < (0 : Int))) ByteArray.empty (fun e01 e02 => sel (e01) (chk (decide ((ByteArray.mk #[45]).size + e02.size ≤ maxN)) (K ((ByteArray.mk #[45]) ++ e02))) (K e02)))
noncomputable def F (a1 : Int) : Option ByteArray := B (F0 fuelN) a1 (fun x1 => some (x1))
def encA (t : Int) : LA := [vi t]
def encR (x : ByteArray) : AV × LO := (vs x, [])
theorem encAI (a b) (h : encA a = encA b) : a = b := by simpa [encA, encRw_iff] using h
theorem encRI (a b) (h : encR a = encR b) : a = b := by simpa [encR, encRw_iff] using h
noncomputable def Q (args : LA) : Option ByteArray := ofC encA (un1 F) args
theorem wrap : F = fun y1 => Q [vi y1] := by funext y1; exact Eq.symm (ofC_enc encAI _ (y1))
noncomputable abbrev O (Q0 : LA → Option Int) : Orc := mkO [qE 116 false spec_l01Figure.encR Q0] [] []
noncomputable def c0 : Code := loopC (atomN [] 0 (bodyOf Try.f88) 0)
def ct0 : Cut := ⟨[0, 3, 4], []⟩
def lv0 : Exit → Cut
  | .exit 0 => ⟨[3, 4], []⟩
  | _ => ⟨[], []⟩
def k0_0 {ρ : Type} (K : Exit → St → Option ρ) (z1 : Bool) (z2 : ByteArray) : Option ρ := K (.exit 0) (mkS 30 (lv0 (.exit 0)).live [vb z1, vs z2] [] [])
noncomputable def L (W0 : (ρ : Type) → LA → LO → (Bool → ByteArray → Option ρ) → Option ρ) : Lor := fun ρ j st K => sel (Nat.beq j 0) (cutO Try.prog 30 ct0.live 0 [] ct0.cmds st fun avs obs => W0 ρ avs obs (k0_0 K)) (Option.none)
theorem step0 {Q0 W0} {ρ : Type} {K : Exit → St → Option ρ} {W : LA → LO → Option ρ} {v1 v2 v3} : exC Try.prog (O Q0) (L W0) [] 1 c0 (mkS 30 ct0.live [vi v1, vb v2, vs v3] [] []) (bodyK Try.prog 30 0 [] ct0 W lv0 K) =
    B0 (fun y1 => Q0 [vi y1]) v1 v2 v3 (fun u1 u2 u3 => W [vi u1, vb u2, vs u3] []) (k0_0 K) := by kernel_rfl
def enc0 (t : Int × Bool × ByteArray) : LA × LO := ([vi t.1, vb t.2.1, vs t.2.2], [])
theorem enc0I (a b) (h : enc0 a = enc0 b) : a = b := by simp [enc0, encRw_iff] at h; simp [Prod.ext_iff, h]
noncomputable def V0 : (ρ : Type) → LA → LO → (Bool → ByteArray → Option ρ) → Option ρ := fun ρ avs obs k0 => ofC enc0 (fun t => un3 (F0 fuelN) t k0) (avs, obs)
theorem V0_enc (ρ : Type) : F0 fuelN = fun w1 w2 w3 k0 => V0 ρ [vi w1, vb w2, vs w3] [] k0 := by funext w1 w2 w3 k0; exact Eq.symm (ofC_enc enc0I _ (w1, w2, w3))
theorem main {Q0 W0} {ρ : Type} {K : AV → LO → Option ρ} {a1} : exC Try.prog (O Q0) (L W0) [] 0 (bodyOf Try.f88) (entry 30 [vi a1] [] []) (finO Try.prog Try.f88.results.toList 0 [] [] K) =
    B (fun w1 w2 w3 k0 => W0 ρ [vi w1, vb w2, vs w3] [] k0) a1 (fun x1 => K (vs x1) []) := by kernel_rfl
theorem Gok : (O spec_l01Figure.Q).ok Try.prog := mkO_ok (by exact ⟨qE_ok spec_l01Figure.ac, trivial⟩) (by exact trivial)
theorem ok0 : OkL Try.prog (L V0) 0 (.loop c0) := fun ρ st K r h => loop_ok (ct := ct0) (lv := lv0) (L := (L V0)) Gok hmT (by rw [show atomsL [] 1 c0 = [] by kernel_rfl]; exact Lor.ok_nil _ _) enc0I (fun k t => un3 (F0 k) t (k0_0 K)) (fun t => rfl) (fun k t => by refine step0.trans ?_; rw [← spec_l01Figure.wrap]; exact congrFun (congrArg (B0 _ _ _ _) (fx3 fun t => ofC_enc enc0I _ t)) _) (fun _ => fuelN) h
theorem e : atomsL [] 0 (bodyOf Try.f88) = [(0, 0, .loop c0)] := by kernel_rfl
theorem acc : ∀ t x, un1 F t = some x → ACc Try.prog 88 (encA t) [] true [] fun rv obs => (rv, obs) = encR x := accT (T := Int) (F := un1 F) (L := (L V0)) (cmds := []) (body := (bodyOf Try.f88)) Gok hmT Try.func88 (by kernel_rfl) (by kernel_rfl) (by rw [e]; exact Lor.ok_cons ok0 (Lor.ok_nil _ _)) (fun t => by refine main.trans ?_; rw [← V0_enc]; exact congrArg (B _ _) (fx1 fun t => ofC_enc encRI some t))
theorem ac : ∀ a x, Q a = some x → AC Try.prog 88 a [] false [] fun rv obs => (rv, obs) = encR x := acF (body := (bodyOf Try.f88)) Try.func88 (by kernel_rfl) (by kernel_rfl) acc fun x => ⟨by simp [encR, AV.Flat, K.Flat, C.Flat], fl0⟩
end spec_Decimal
end Go.Al
