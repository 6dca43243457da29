import Derived.Test.YtahffnkphppgoaaGreatAlE
import Derived.Test.YtahffnkphppgoaaGreatSC
import Derived.Test.YtahffnkphppgoaaGreatGWv
set_option linter.unusedVariables false
set_option linter.unusedSimpArgs false
set_option linter.constructorNameAsVariable false
set_option linter.unusedSectionVars false
set_option maxRecDepth 100000
namespace Go.Al
open Go.Proofs
namespace impl_Weave_linesAt
noncomputable def B0 {ρ : Type} (v1 : Vec YI) (v2 : Vec YB) (v3 : YI) (v4 : Int) (v5 : Int) (v6 : YS) (W : YG → YVB → YI → Int → Int → YS → Option ρ) (K0 : YS → Option ρ) : Option ρ :=
  sel (decide (v5 < v4)) (chk (decide (0 ≤ v5 ∧ v5 < (v3.n : Int))) (chk (decide (0 ≤ (v3.g v5.toNat) ∧ (v3.g v5.toNat) < (v2.n : Int))) (chk (decide ((v6.n + (Vec.lit [(v2.g (v3.g v5.toNat).toNat).1] : YS).n) * 17 ≤ maxN)) (W v1 v2 v3 v4 (wr (v5 + (1 : Int))) (Vec.app v6 (Vec.lit [(v2.g (v3.g v5.toNat).toNat).1] : YS)))))) (K0 v6)
noncomputable def F0 {ρ : Type} : Nat → YG → YVB → YI → Int → Int → YS → (YS → Option ρ) → Option ρ
  | 0, _, _, _, _, _, _, _ => none
  | k + 1, v1, v2, v3, v4, v5, v6, K0 => B0 v1 v2 v3 v4 v5 v6 (fun v1' v2' v3' v4' v5' v6' => F0 k v1' v2' v3' v4' v5' v6' K0) K0
noncomputable def B {ρ : Type} (L0 : YG → YVB → YI → Int → Int → YS → (YS → Option ρ) → Option ρ) (a1 : Vec YI) (a2 : Vec YB) (a3 : YI) (K : YS → Option ρ) : Option ρ :=
  L0 a1 a2 a3 (a3.n : Int) (0 : Int) (Vec.nil : YS) (fun e01 => K e01)
noncomputable def F (a1 : Vec YI) (a2 : Vec YB) (a3 : YI) : Option YS := B (F0 fuelN) a1 a2 a3 (fun x1 => some (x1))
def encA (t : Vec YI × YVB × Vec Int) : LA := [.ra [nl t.1, nl t.2.1], vl t.2.2]
def encR (x : YS) : AV × LO := (.c (.h 0), [ro x])
theorem encAI (a b) (h : encA a = encA b) : a = b := by simp [encA, encRw_iff] at h; simp [Prod.ext_iff, h]
theorem encRI (a b) (h : encR a = encR b) : a = b := by simpa [encR, encRw_iff] using h
noncomputable def Q (args : LA) : Option YS := ofC encA (un3 F) args
theorem wrap : F = fun y1 y2 y3 => Q [.ra [nl y1, nl y2], vl y3] := by funext y1 y2 y3; exact Eq.symm (ofC_enc encAI _ (y1, y2, y3))
noncomputable abbrev O : Orc := mkO [] [] []
noncomputable def c0 : Code := loopC (atomN [] 0 (bodyOf Tryz.f199) 0)
def ct0 : Cut := ⟨[0, 5, 8, 9, 10], [.ad (.s 5) 69]⟩
def lv0 : Exit → Cut
  | .exit 0 => ⟨[5], []⟩
  | _ => ⟨[], []⟩
def k0_0 {ρ : Type} (K : Exit → St → Option ρ) (z1 : YS) : Option ρ := K (.exit 0) (mkS 27 (lv0 (.exit 0)).live [.c (.h 0)] [ro z1] [])
noncomputable def L (W0 : (ρ : Type) → LA → LO → (YS → Option ρ) → Option ρ) : Lor := fun ρ j st K => sel (Nat.beq j 0) (cutO Tryz.prog 27 ct0.live 0 [] ct0.cmds st fun avs obs => W0 ρ avs obs (k0_0 K)) (Option.none)
theorem step0 {W0} {ρ : Type} {K : Exit → St → Option ρ} {W : LA → LO → Option ρ} {v1 v2 v3 v4 v5 v6} : exC Tryz.prog O (L W0) [] 1 c0 (mkS 27 ct0.live [.ra [nl v1, nl v2], .c (.h 0), vl v3, vi v4, vi v5] [ro v6] []) (bodyK Tryz.prog 27 0 [] ct0 W lv0 K) =
    B0 v1 v2 v3 v4 v5 v6 (fun u1 u2 u3 u4 u5 u6 => W [.ra [nl u1, nl u2], .c (.h 0), vl u3, vi u4, vi u5] [ro u6]) (k0_0 K) := by kernel_rfl
def enc0 (t : Vec YI × YVB × Vec Int × Int × Int × Vec ByteArray) : LA × LO := ([.ra [nl t.1, nl t.2.1], .c (.h 0), vl t.2.2.1, vi t.2.2.2.1, vi t.2.2.2.2.1], [ro t.2.2.2.2.2])
theorem enc0I (a b) (h : enc0 a = enc0 b) : a = b := by simp [enc0, encRw_iff] at h; simp [Prod.ext_iff, h]
noncomputable def V0 : (ρ : Type) → LA → LO → (YS → Option ρ) → Option ρ := fun ρ avs obs k0 => ofC enc0 (fun t => un6 (F0 fuelN) t k0) (avs, obs)
theorem V0_enc (ρ : Type) : F0 fuelN = fun w1 w2 w3 w4 w5 w6 k0 => V0 ρ [.ra [nl w1, nl w2], .c (.h 0), vl w3, vi w4, vi w5] [ro w6] k0 := by funext w1 w2 w3 w4 w5 w6 k0; exact Eq.symm (ofC_enc enc0I _ (w1, w2, w3, w4, w5, w6))
theorem main {W0} {ρ : Type} {K : AV → LO → Option ρ} {a1 a2 a3} : exC Tryz.prog O (L W0) [] 0 (bodyOf Tryz.f199) (entry 27 [.ra [nl a1, nl a2], vl a3] [] []) (finO Tryz.prog Tryz.f199.results.toList 0 [] [] K) =
    B (fun w1 w2 w3 w4 w5 w6 k0 => W0 ρ [.ra [nl w1, nl w2], .c (.h 0), vl w3, vi w4, vi w5] [ro w6] k0) a1 a2 a3 (fun x1 => K (.c (.h 0)) [ro x1]) := by kernel_rfl
theorem Gok : O.ok Tryz.prog := mkO_ok (by exact trivial) (by exact trivial)
theorem ok0 : OkL Tryz.prog (L V0) 0 (.loop c0) := fun ρ st K r h => loop_ok (ct := ct0) (lv := lv0) (L := (L V0)) Gok hmT (by rw [show atomsL [] 1 c0 = [] by kernel_rfl]; exact Lor.ok_nil _ _) enc0I (fun k t => un6 (F0 k) t (k0_0 K)) (fun t => rfl) (fun k t => by refine step0.trans ?_; exact congrFun (congrArg (B0 _ _ _ _ _ _) (fx6 fun t => ofC_enc enc0I _ t)) _) (fun _ => fuelN) h
theorem e : atomsL [] 0 (bodyOf Tryz.f199) = [(0, 0, .loop c0)] := by kernel_rfl
theorem acc : ∀ t x, un3 F t = some x → ACc Tryz.prog 199 (encA t) [] true [] fun rv obs => (rv, obs) = encR x := accT (T := Vec YI × YVB × Vec Int) (F := un3 F) (L := (L V0)) (cmds := []) (body := (bodyOf Tryz.f199)) Gok hmT Tryz.func199 (by kernel_rfl) (by kernel_rfl) (by rw [e]; exact Lor.ok_cons ok0 (Lor.ok_nil _ _)) (fun t => by refine main.trans ?_; rw [← V0_enc]; exact congrArg (B _ _ _ _) (fx1 fun t => ofC_enc encRI some t))
theorem ac : ∀ a x, Q a = some x → AC Tryz.prog 199 a [] false [] fun rv obs => (rv, obs) = encR x := acF (body := (bodyOf Tryz.f199)) Tryz.func199 (by kernel_rfl) (by kernel_rfl) acc fun x => ⟨by simp [encR, AV.Flat, K.Flat, C.Flat], flc (flat_rw rfl _) (fl0)⟩
end impl_Weave_linesAt
namespace impl_Weave_extract
noncomputable def B {ρ : Type} (C0 : YG → Option YK) (C1 : YG → YVB → Int → Option YI) (C2 : YG → YVB → YI → Option YS) (a1 : Vec YI) (a2 : Vec YB) (a3 : Int) (K : YS → Option ρ) : Option ρ :=
  (C0 a1).bind fun r1 => chk (decide (0 ≤ a3 ∧ a3 < (r1.n : Int))) (chk (decide (a3.toNat < r1.n)) ((C1 a1 a2 ((r1.g a3.toNat).v)).bind fun r2 => (C2 a1 a2 r2).bind fun r3 => K r3))
noncomputable def F (a1 : Vec YI) (a2 : Vec YB) (a3 : Int) : Option YS := B impl_closures.F impl_Weave_liveIn.F impl_Weave_linesAt.F a1 a2 a3 (fun x1 => some (x1))
def encA (t : Vec YI × YVB × Int) : LA := [.ra [nl t.1, nl t.2.1], vi t.2.2]
def encR (x : YS) : AV × LO := (.c (.h 0), [ro x])
theorem encAI (a b) (h : encA a = encA b) : a = b := by simp [encA, encRw_iff] at h; simp [Prod.ext_iff, h]
theorem encRI (a b) (h : encR a = encR b) : a = b := by simpa [encR, encRw_iff] using h
noncomputable def Q (args : LA) : Option YS := ofC encA (un3 F) args
theorem wrap : F = fun y1 y2 y3 => Q [.ra [nl y1, nl y2], vi y3] := by funext y1 y2 y3; exact Eq.symm (ofC_enc encAI _ (y1, y2, y3))
noncomputable abbrev O (Q0 : LA → Option YK) (Q1 : LA → Option YI) (Q2 : LA → Option YS) : Orc := mkO [qE 114 false impl_closures.encR Q0, qE 113 false impl_Weave_liveIn.encR Q1, qE 199 false impl_Weave_linesAt.encR Q2] [] []
noncomputable def L : Lor := fun _ _ _ _ => Option.none
theorem main {Q0 Q1 Q2} {ρ : Type} {K : AV → LO → Option ρ} {a1 a2 a3} : exC Tryz.prog (O Q0 Q1 Q2) L [] 0 (bodyOf Tryz.f165) (entry 17 [.ra [nl a1, nl a2], vi a3] [] []) (finO Tryz.prog Tryz.f165.results.toList 0 [] [] K) =
    B (fun y1 => Q0 [vl y1]) (fun y1 y2 y3 => Q1 [.ra [nl y1, nl y2], vk .u64 y3]) (fun y1 y2 y3 => Q2 [.ra [nl y1, nl y2], vl y3]) a1 a2 a3 (fun x1 => K (.c (.h 0)) [ro x1]) := by kernel_rfl
theorem Gok : (O impl_closures.Q impl_Weave_liveIn.Q impl_Weave_linesAt.Q).ok Tryz.prog := mkO_ok (by exact ⟨qE_ok impl_closures.ac, qE_ok impl_Weave_liveIn.ac, qE_ok impl_Weave_linesAt.ac, trivial⟩) (by exact trivial)
theorem acc : ∀ t x, un3 F t = some x → ACc Tryz.prog 165 (encA t) [] true [] fun rv obs => (rv, obs) = encR x := accT (T := Vec YI × YVB × Int) (F := un3 F) (L := L) (cmds := []) (body := (bodyOf Tryz.f165)) Gok hmT Tryz.func165 (by kernel_rfl) (by kernel_rfl) (by rw [show atomsL [] 0 (bodyOf Tryz.f165) = [] by kernel_rfl]; exact Lor.ok_nil _ _) (fun t => by refine main.trans ?_; rw [← impl_closures.wrap, ← impl_Weave_liveIn.wrap, ← impl_Weave_linesAt.wrap]; exact congrArg (B _ _ _ _ _ _) (fx1 fun t => ofC_enc encRI some t))
theorem ac : ∀ a x, Q a = some x → AC Tryz.prog 165 a [] false [] fun rv obs => (rv, obs) = encR x := acF (body := (bodyOf Tryz.f165)) Tryz.func165 (by kernel_rfl) (by kernel_rfl) acc fun x => ⟨by simp [encR, AV.Flat, K.Flat, C.Flat], flc (flat_rw rfl _) (fl0)⟩
end impl_Weave_extract
namespace spec_l06Lines
noncomputable def B0 {ρ : Type} (v1 : YI) (v2 : Int) (v3 : Vec YI) (v4 : Vec YB) (v5 : YS) (W : YI → Int → YG → YVB → YS → Option ρ) (K0 : YS → Option ρ) : Option ρ :=
  sel (decide (v2 < (v1.n : Int))) (chk (decide (0 ≤ v2 ∧ v2 < (v1.n : Int))) (chk (decide (0 ≤ (v1.g v2.toNat) ∧ (v1.g v2.toNat) < (v4.n : Int))) (chk (decide ((v5.n + (Vec.lit [(v4.g (v1.g v2.toNat).toNat).1] : YS).n) * 17 ≤ maxN)) (W v1 (wr (v2 + (1 : Int))) v3 v4 (Vec.app v5 (Vec.lit [(v4.g (v1.g v2.toNat).toNat).1] : YS)))))) (K0 v5)
noncomputable def F0 {ρ : Type} : Nat → YI → Int → YG → YVB → YS → (YS → Option ρ) → Option ρ
  | 0, _, _, _, _, _, _ => none
  | k + 1, v1, v2, v3, v4, v5, K0 => B0 v1 v2 v3 v4 v5 (fun v1' v2' v3' v4' v5' => F0 k v1' v2' v3' v4' v5' K0) K0
noncomputable def B {ρ : Type} (L0 : YI → Int → YG → YVB → YS → (YS → Option ρ) → Option ρ) (a1 : Vec YI) (a2 : Vec YB) (a3 : YI) (K : YS → Option ρ) : Option ρ :=
  L0 a3 (0 : Int) a1 a2 (Vec.nil : YS) (fun e01 => K e01)
noncomputable def F (a1 : Vec YI) (a2 : Vec YB) (a3 : YI) : Option YS := B (F0 fuelN) a1 a2 a3 (fun x1 => some (x1))
def encA (t : Vec YI × YVB × Vec Int) : LA := [.a [cl t.1, cl t.2.1], vl t.2.2]
def encR (x : YS) : AV × LO := (.c (.h 0), [ro x])
theorem encAI (a b) (h : encA a = encA b) : a = b := by simp [encA, encRw_iff] at h; simp [Prod.ext_iff, h]
theorem encRI (a b) (h : encR a = encR b) : a = b := by simpa [encR, encRw_iff] using h
noncomputable def Q (args : LA) : Option YS := ofC encA (un3 F) args
theorem wrap : F = fun y1 y2 y3 => Q [.a [cl y1, cl y2], vl y3] := by funext y1 y2 y3; exact Eq.symm (ofC_enc encAI _ (y1, y2, y3))
noncomputable abbrev O : Orc := mkO [] [] []
noncomputable def c0 : Code := loopC (atomN [] 0 (bodyOf Tryz.f154) 0)
def ct0 : Cut := ⟨[1, 2, 5, 6], [.ad (.s 5) 69]⟩
def lv0 : Exit → Cut
  | .exit 0 => ⟨[5], []⟩
  | _ => ⟨[], []⟩
def k0_0 {ρ : Type} (K : Exit → St → Option ρ) (z1 : YS) : Option ρ := K (.exit 0) (mkS 27 (lv0 (.exit 0)).live [.c (.h 0)] [ro z1] [])
noncomputable def L (W0 : (ρ : Type) → LA → LO → (YS → Option ρ) → Option ρ) : Lor := fun ρ j st K => sel (Nat.beq j 0) (cutO Tryz.prog 27 ct0.live 0 [] ct0.cmds st fun avs obs => W0 ρ avs obs (k0_0 K)) (Option.none)
theorem step0 {W0} {ρ : Type} {K : Exit → St → Option ρ} {W : LA → LO → Option ρ} {v1 v2 v3 v4 v5} : exC Tryz.prog O (L W0) [] 1 c0 (mkS 27 ct0.live [vl v1, .c (.p 0 0), .c (.h 1), vi v2] [.box [cl v3, cl v4], ro v5] []) (bodyK Tryz.prog 27 0 [] ct0 W lv0 K) =
    B0 v1 v2 v3 v4 v5 (fun u1 u2 u3 u4 u5 => W [vl u1, .c (.p 0 0), .c (.h 1), vi u2] [.box [cl u3, cl u4], ro u5]) (k0_0 K) := by kernel_rfl
def enc0 (t : Vec Int × Int × Vec YI × YVB × Vec ByteArray) : LA × LO := ([vl t.1, .c (.p 0 0), .c (.h 1), vi t.2.1], [.box [cl t.2.2.1, cl t.2.2.2.1], ro t.2.2.2.2])
theorem enc0I (a b) (h : enc0 a = enc0 b) : a = b := by simp [enc0, encRw_iff] at h; simp [Prod.ext_iff, h]
noncomputable def V0 : (ρ : Type) → LA → LO → (YS → Option ρ) → Option ρ := fun ρ avs obs k0 => ofC enc0 (fun t => un5 (F0 fuelN) t k0) (avs, obs)
theorem V0_enc (ρ : Type) : F0 fuelN = fun w1 w2 w3 w4 w5 k0 => V0 ρ [vl w1, .c (.p 0 0), .c (.h 1), vi w2] [.box [cl w3, cl w4], ro w5] k0 := by funext w1 w2 w3 w4 w5 k0; exact Eq.symm (ofC_enc enc0I _ (w1, w2, w3, w4, w5))
theorem main {W0} {ρ : Type} {K : AV → LO → Option ρ} {a1 a2 a3} : exC Tryz.prog O (L W0) [] 0 (bodyOf Tryz.f154) (entry 27 [.a [cl a1, cl a2], vl a3] [] []) (finO Tryz.prog Tryz.f154.results.toList 0 [] [] K) =
    B (fun w1 w2 w3 w4 w5 k0 => W0 ρ [vl w1, .c (.p 0 0), .c (.h 1), vi w2] [.box [cl w3, cl w4], ro w5] k0) a1 a2 a3 (fun x1 => K (.c (.h 0)) [ro x1]) := by kernel_rfl
theorem Gok : O.ok Tryz.prog := mkO_ok (by exact trivial) (by exact trivial)
theorem ok0 : OkL Tryz.prog (L V0) 0 (.loop c0) := fun ρ st K r h => loop_ok (ct := ct0) (lv := lv0) (L := (L V0)) Gok hmT (by rw [show atomsL [] 1 c0 = [] by kernel_rfl]; exact Lor.ok_nil _ _) enc0I (fun k t => un5 (F0 k) t (k0_0 K)) (fun t => rfl) (fun k t => by refine step0.trans ?_; exact congrFun (congrArg (B0 _ _ _ _ _) (fx5 fun t => ofC_enc enc0I _ t)) _) (fun _ => fuelN) h
theorem e : atomsL [] 0 (bodyOf Tryz.f154) = [(0, 0, .loop c0)] := by kernel_rfl
theorem acc : ∀ t x, un3 F t = some x → ACc Tryz.prog 154 (encA t) [] true [] fun rv obs => (rv, obs) = encR x := accT (T := Vec YI × YVB × Vec Int) (F := un3 F) (L := (L V0)) (cmds := []) (body := (bodyOf Tryz.f154)) Gok hmT Tryz.func154 (by kernel_rfl) (by kernel_rfl) (by rw [e]; exact Lor.ok_cons ok0 (Lor.ok_nil _ _)) (fun t => by refine main.trans ?_; rw [← V0_enc]; exact congrArg (B _ _ _ _) (fx1 fun t => ofC_enc encRI some t))
theorem ac : ∀ a x, Q a = some x → AC Tryz.prog 154 a [] false [] fun rv obs => (rv, obs) = encR x := acF (body := (bodyOf Tryz.f154)) Tryz.func154 (by kernel_rfl) (by kernel_rfl) acc fun x => ⟨by simp [encR, AV.Flat, K.Flat, C.Flat], flc (flat_rw rfl _) (fl0)⟩
end spec_l06Lines
end Go.Al
