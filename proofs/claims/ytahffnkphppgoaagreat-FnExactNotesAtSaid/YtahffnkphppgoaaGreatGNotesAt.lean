import Derived.Test.YtahffnkphppgoaaGreatAlE
import Derived.Test.YtahffnkphppgoaaGreatSC
import Derived.Test.YtahffnkphppgoaaGreatGAt
set_option linter.unusedVariables false
set_option linter.unusedSimpArgs false
set_option linter.constructorNameAsVariable false
set_option linter.unusedSectionVars false
set_option maxRecDepth 100000
namespace Go.Al
open Go.Proofs
namespace spec_l06Has
noncomputable def B {ρ : Type} (C0 : Int → Int → Int → Option Bool) (a1 : Vec YI) (a2 : Vec YB) (a3 : Int) (K : Bool → Option ρ) : Option ρ :=
  (C0 a3 (0 : Int) (wr ((a1.n : Int) - (1 : Int)))).bind fun r1 => K r1
noncomputable def F (a1 : Vec YI) (a2 : Vec YB) (a3 : Int) : Option Bool := B spec_l01In.F a1 a2 a3 (fun x1 => some (x1))
def encA (t : Vec YI × YVB × Int) : LA := [.a [cl t.1, cl t.2.1], vi t.2.2]
def encR (x : Bool) : AV × LO := (vb x, [])
theorem encAI (a b) (h : encA a = encA b) : a = b := by simp [encA, encRw_iff] at h; simp [Prod.ext_iff, h]
theorem encRI (a b) (h : encR a = encR b) : a = b := by simpa [encR, encRw_iff] using h
noncomputable def Q (args : LA) : Option Bool := ofC encA (un3 F) args
theorem wrap : F = fun y1 y2 y3 => Q [.a [cl y1, cl y2], vi y3] := by funext y1 y2 y3; exact Eq.symm (ofC_enc encAI _ (y1, y2, y3))
noncomputable abbrev O (Q0 : LA → Option Bool) : Orc := mkO [qE 119 false spec_l01In.encR Q0] [] []
noncomputable def L : Lor := fun _ _ _ _ => Option.none
theorem main {Q0} {ρ : Type} {K : AV → LO → Option ρ} {a1 a2 a3} : exC Tryz.prog (O Q0) L [] 0 (bodyOf Tryz.f106) (entry 11 [.a [cl a1, cl a2], vi a3] [] []) (finO Tryz.prog Tryz.f106.results.toList 0 [] [] K) =
    B (fun y1 y2 y3 => Q0 [vi y1, vi y2, vi y3]) a1 a2 a3 (fun x1 => K (vb x1) []) := by kernel_rfl
theorem Gok : (O spec_l01In.Q).ok Tryz.prog := mkO_ok (by exact ⟨qE_ok spec_l01In.ac, trivial⟩) (by exact trivial)
theorem acc : ∀ t x, un3 F t = some x → ACc Tryz.prog 106 (encA t) [] true [] fun rv obs => (rv, obs) = encR x := accT (T := Vec YI × YVB × Int) (F := un3 F) (L := L) (cmds := []) (body := (bodyOf Tryz.f106)) Gok hmT Tryz.func106 (by kernel_rfl) (by kernel_rfl) (by rw [show atomsL [] 0 (bodyOf Tryz.f106) = [] by kernel_rfl]; exact Lor.ok_nil _ _) (fun t => by refine main.trans ?_; rw [← spec_l01In.wrap]; exact congrArg (B _ _ _ _) (fx1 fun t => ofC_enc encRI some t))
theorem ac : ∀ a x, Q a = some x → AC Tryz.prog 106 a [] false [] fun rv obs => (rv, obs) = encR x := acF (body := (bodyOf Tryz.f106)) Tryz.func106 (by kernel_rfl) (by kernel_rfl) acc fun x => ⟨by simp [encR, AV.Flat, K.Flat, C.Flat], fl0⟩
end spec_l06Has
namespace spec_l09Note
noncomputable def B {ρ : Type} (a1 : ByteArray) (a2 : Int) (a3 : Int) (a4 : YI) (K : Int → Int → ByteArray → Option ρ) : Option ρ :=
  K a2 a3 a1
noncomputable def F (a1 : ByteArray) (a2 : Int) (a3 : Int) (a4 : YI) : Option YM := B a1 a2 a3 a4 (fun x1 x2 x3 => some (x1, x2, x3))
def encA (t : ByteArray × Int × Int × Vec Int) : LA := [.a [cs t.1, ci t.2.1, ci t.2.2.1, cl t.2.2.2]]
def encR (x : YM) : AV × LO := (.a [ci x.1, ci x.2.1, cs x.2.2], [])
theorem encAI (a b) (h : encA a = encA b) : a = b := by simp [encA, encRw_iff] at h; simp [Prod.ext_iff, h]
theorem encRI (a b) (h : encR a = encR b) : a = b := by simp [encR, encRw_iff] at h; simp [Prod.ext_iff, h]
noncomputable def Q (args : LA) : Option YM := ofC encA (un4 F) args
theorem wrap : F = fun y1 y2 y3 y4 => Q [.a [cs y1, ci y2, ci y3, cl y4]] := by funext y1 y2 y3 y4; exact Eq.symm (ofC_enc encAI _ (y1, y2, y3, y4))
noncomputable abbrev O : Orc := mkO [] [] []
noncomputable def L : Lor := fun _ _ _ _ => Option.none
theorem main {ρ : Type} {K : AV → LO → Option ρ} {a1 a2 a3 a4} : exC Tryz.prog O L [] 0 (bodyOf Tryz.f109) (entry 10 [.a [cs a1, ci a2, ci a3, cl a4]] [] []) (finO Tryz.prog Tryz.f109.results.toList 0 [] [] K) =
    B a1 a2 a3 a4 (fun x1 x2 x3 => K (.a [ci x1, ci x2, cs x3]) []) := by kernel_rfl
theorem Gok : O.ok Tryz.prog := mkO_ok (by exact trivial) (by exact trivial)
theorem acc : ∀ t x, un4 F t = some x → ACc Tryz.prog 109 (encA t) [] true [] fun rv obs => (rv, obs) = encR x := accT (T := ByteArray × Int × Int × Vec Int) (F := un4 F) (L := L) (cmds := []) (body := (bodyOf Tryz.f109)) Gok hmT Tryz.func109 (by kernel_rfl) (by kernel_rfl) (by rw [show atomsL [] 0 (bodyOf Tryz.f109) = [] by kernel_rfl]; exact Lor.ok_nil _ _) (fun t => by refine main.trans ?_; exact congrArg (B _ _ _ _) (fx3 fun t => ofC_enc encRI some t))
theorem ac : ∀ a x, Q a = some x → AC Tryz.prog 109 a [] false [] fun rv obs => (rv, obs) = encR x := acF (body := (bodyOf Tryz.f109)) Tryz.func109 (by kernel_rfl) (by kernel_rfl) acc fun x => ⟨by simp [encR, AV.Flat, K.Flat, C.Flat], fl0⟩
end spec_l09Note
namespace spec_Annotate
noncomputable def B0 {ρ : Type} (C4 : ByteArray → Int → Int → YI → Option YM) (v1 : Int) (v2 : Vec YI) (v3 : Vec YB) (v4 : Vec YM) (v5 : YI) (W : Int → YG → YVB → YVM → YI → Option ρ) (K0 : YVM → Option ρ) : Option ρ :=
  sel (decide (v1 < (v5.n : Int))) (chk (decide (0 ≤ v1 ∧ v1 < (v5.n : Int))) (chk (decide (v1.toNat < v5.n)) (chk (decide (0 ≤ (v5.g v1.toNat) ∧ (v5.g v1.toNat) < (v3.n : Int))) ((C4 ((v3.g (v5.g v1.toNat).toNat).1) ((v3.g (v5.g v1.toNat).toNat).2.1) ((v3.g (v5.g v1.toNat).toNat).2.2.1) ((v3.g (v5.g v1.toNat).toNat).2.2.2)).bind fun r5 => chk (decide ((v4.n + (Vec.lit [(r5.1, r5.2.1, r5.2.2)] : Vec YM).n) * 33 ≤ maxN)) (W (wr (v1 + (1 : Int))) v2 v3 (Vec.app v4 (Vec.lit [(r5.1, r5.2.1, r5.2.2)] : Vec YM)) v5))))) (K0 v4)
noncomputable def F0 {ρ : Type} : Nat → Int → YG → YVB → YVM → YI → (YVM → Option ρ) → Option ρ
  | 0, _, _, _, _, _, _ => none
  | k + 1, v1, v2, v3, v4, v5, K0 => B0 spec_l09Note.F v1 v2 v3 v4 v5 (fun v1' v2' v3' v4' v5' => F0 k v1' v2' v3' v4' v5' K0) K0
noncomputable def B {ρ : Type} (C0 : YG → YVB → Option Bool) (C1 : YG → YVB → Int → Option Bool) (C2 : YG → YVB → Int → Option YX) (C3 : YG → YVB → YX → Option YI) (L0 : Int → YG → YVB → YVM → YI → (YVM → Option ρ) → Option ρ) (a1 : Vec YI) (a2 : Vec YB) (a3 : Int) (K : Int → YVM → Option ρ) : Option ρ :=
  (C0 a1 a2).bind fun r1 => sel ((!r1)) (K (1 : Int) (Vec.nil : Vec YM)) ((C1 a1 a2 a3).bind fun r2 => sel ((!r2)) (K (2 : Int) (Vec.nil : Vec YM)) ((C2 a1 a2 a3).bind fun r3 => (C3 a1 a2 r3).bind fun r4 => L0 (0 : Int) a1 a2 (Vec.nil : Vec YM) r4 (fun e01 => K (0 : Int) e01)))
noncomputable def F (a1 : Vec YI) (a2 : Vec YB) (a3 : Int) : Option (Int × YVM) := B spec_WeaveOk.F spec_l06Has.F spec_l06Closure.F spec_l06Places.F (F0 fuelN) a1 a2 a3 (fun x1 x2 => some (x1, x2))
def encA (t : Vec YI × YVB × Int) : LA := [.a [cl t.1, cl t.2.1], vi t.2.2]
def encR (x : Int × YVM) : AV × LO := (.tup [.c (.h 0), .c (ci x.1)], [ro x.2])
theorem encAI (a b) (h : encA a = encA b) : a = b := by simp [encA, encRw_iff] at h; simp [Prod.ext_iff, h]
theorem encRI (a b) (h : encR a = encR b) : a = b := by simp [encR, encRw_iff] at h; simp [Prod.ext_iff, h]
noncomputable def Q (args : LA) : Option (Int × YVM) := ofC encA (un3 F) args
theorem wrap : F = fun y1 y2 y3 => Q [.a [cl y1, cl y2], vi y3] := by funext y1 y2 y3; exact Eq.symm (ofC_enc encAI _ (y1, y2, y3))
noncomputable abbrev O (Q0 : LA → Option Bool) (Q1 : LA → Option Bool) (Q2 : LA → Option YX) (Q3 : LA → Option YI) (Q4 : LA → Option YM) : Orc := mkO [qE 105 false spec_WeaveOk.encR Q0, qE 106 false spec_l06Has.encR Q1, qE 108 false spec_l06Closure.encR Q2, qE 107 false spec_l06Places.encR Q3, qE 109 false spec_l09Note.encR Q4] [] []
noncomputable def c0 : Code := loopC (atomN [] 0 (bodyOf Tryz.f51) 0)
def ct0 : Cut := ⟨[2, 6, 7, 8], [.ad (.s 6) 27]⟩
def lv0 : Exit → Cut
  | .exit 0 => ⟨[6], []⟩
  | _ => ⟨[], []⟩
def k0_0 {ρ : Type} (K : Exit → St → Option ρ) (z1 : Vec YM) : Option ρ := K (.exit 0) (mkS 43 (lv0 (.exit 0)).live [.c (.h 0)] [ro z1] [])
noncomputable def L (W0 : (ρ : Type) → LA → LO → (YVM → Option ρ) → Option ρ) : Lor := fun ρ j st K => sel (Nat.beq j 0) (cutO Tryz.prog 43 ct0.live 0 [] ct0.cmds st fun avs obs => W0 ρ avs obs (k0_0 K)) (Option.none)
theorem step0 {Q0 Q1 Q2 Q3 Q4 W0} {ρ : Type} {K : Exit → St → Option ρ} {W : LA → LO → Option ρ} {v1 v2 v3 v4 v5} : exC Tryz.prog (O Q0 Q1 Q2 Q3 Q4) (L W0) [] 1 c0 (mkS 43 ct0.live [.c (.p 0 0), .c (.h 1), .c (.h 2), vi v1] [.box [cl v2, cl v3], ro v4, ro v5] []) (bodyK Tryz.prog 43 0 [] ct0 W lv0 K) =
    B0 (fun y1 y2 y3 y4 => Q4 [.a [cs y1, ci y2, ci y3, cl y4]]) v1 v2 v3 v4 v5 (fun u1 u2 u3 u4 u5 => W [.c (.p 0 0), .c (.h 1), .c (.h 2), vi u1] [.box [cl u2, cl u3], ro u4, ro u5]) (k0_0 K) := by kernel_rfl
def enc0 (t : Int × Vec YI × YVB × YVM × Vec Int) : LA × LO := ([.c (.p 0 0), .c (.h 1), .c (.h 2), vi t.1], [.box [cl t.2.1, cl t.2.2.1], ro t.2.2.2.1, ro t.2.2.2.2])
theorem enc0I (a b) (h : enc0 a = enc0 b) : a = b := by simp [enc0, encRw_iff] at h; simp [Prod.ext_iff, h]
noncomputable def V0 : (ρ : Type) → LA → LO → (YVM → Option ρ) → Option ρ := fun ρ avs obs k0 => ofC enc0 (fun t => un5 (F0 fuelN) t k0) (avs, obs)
theorem V0_enc (ρ : Type) : F0 fuelN = fun w1 w2 w3 w4 w5 k0 => V0 ρ [.c (.p 0 0), .c (.h 1), .c (.h 2), vi w1] [.box [cl w2, cl w3], ro w4, ro w5] k0 := by funext w1 w2 w3 w4 w5 k0; exact Eq.symm (ofC_enc enc0I _ (w1, w2, w3, w4, w5))
theorem main {Q0 Q1 Q2 Q3 Q4 W0} {ρ : Type} {K : AV → LO → Option ρ} {a1 a2 a3} : exC Tryz.prog (O Q0 Q1 Q2 Q3 Q4) (L W0) [] 0 (bodyOf Tryz.f51) (entry 43 [.a [cl a1, cl a2], vi a3] [] []) (finO Tryz.prog Tryz.f51.results.toList 0 [] [.ad (.s 4) 27] K) =
    B (fun y1 y2 => Q0 [.a [cl y1, cl y2]]) (fun y1 y2 y3 => Q1 [.a [cl y1, cl y2], vi y3]) (fun y1 y2 y3 => Q2 [.a [cl y1, cl y2], vi y3]) (fun y1 y2 y3 => Q3 [.a [cl y1, cl y2], vl y3]) (fun w1 w2 w3 w4 w5 k0 => W0 ρ [.c (.p 0 0), .c (.h 1), .c (.h 2), vi w1] [.box [cl w2, cl w3], ro w4, ro w5] k0) a1 a2 a3 (fun x1 x2 => K (.tup [.c (.h 0), .c (ci x1)]) [ro x2]) := by kernel_rfl
theorem Gok : (O spec_WeaveOk.Q spec_l06Has.Q spec_l06Closure.Q spec_l06Places.Q spec_l09Note.Q).ok Tryz.prog := mkO_ok (by exact ⟨qE_ok spec_WeaveOk.ac, qE_ok spec_l06Has.ac, qE_ok spec_l06Closure.ac, qE_ok spec_l06Places.ac, qE_ok spec_l09Note.ac, trivial⟩) (by exact trivial)
theorem ok0 : OkL Tryz.prog (L V0) 0 (.loop c0) := fun ρ st K r h => loop_ok (ct := ct0) (lv := lv0) (L := (L V0)) Gok hmT (by rw [show atomsL [] 1 c0 = [] by kernel_rfl]; exact Lor.ok_nil _ _) enc0I (fun k t => un5 (F0 k) t (k0_0 K)) (fun t => rfl) (fun k t => by refine step0.trans ?_; rw [← spec_l09Note.wrap]; exact congrFun (congrArg (B0 _ _ _ _ _ _) (fx5 fun t => ofC_enc enc0I _ t)) _) (fun _ => fuelN) h
theorem e : atomsL [] 0 (bodyOf Tryz.f51) = [(0, 0, .loop c0)] := by kernel_rfl
theorem acc : ∀ t x, un3 F t = some x → ACc Tryz.prog 51 (encA t) [] true [] fun rv obs => (rv, obs) = encR x := accT (T := Vec YI × YVB × Int) (F := un3 F) (L := (L V0)) (cmds := [.ad (.s 4) 27]) (body := (bodyOf Tryz.f51)) Gok hmT Tryz.func51 (by kernel_rfl) (by kernel_rfl) (by rw [e]; exact Lor.ok_cons ok0 (Lor.ok_nil _ _)) (fun t => by refine main.trans ?_; rw [← spec_WeaveOk.wrap, ← spec_l06Has.wrap, ← spec_l06Closure.wrap, ← spec_l06Places.wrap, ← V0_enc]; exact congrArg (B _ _ _ _ _ _ _ _) (fx2 fun t => ofC_enc encRI some t))
theorem ac : ∀ a x, Q a = some x → AC Tryz.prog 51 a [] false [] fun rv obs => (rv, obs) = encR x := acF (body := (bodyOf Tryz.f51)) Tryz.func51 (by kernel_rfl) (by kernel_rfl) acc fun x => ⟨by simp [encR, AV.Flat, K.Flat, C.Flat], flc (flat_rw rfl _) (fl0)⟩
end spec_Annotate
namespace spec_NotesAt
noncomputable def B {ρ : Type} (C0 : YVC → YVW → Int → ByteArray → Option (ByteArray × Int × Int × Int)) (C1 : YG → YVB → Int → Option (Int × YVM)) (a1 : Vec YC) (a2 : Vec YW) (a3 : Int) (a4 : ByteArray) (K : Int → YVM → Option ρ) : Option ρ :=
  (C0 a1 a2 a3 a4).bind fun r1 => sel ((!decide (r1.2.2.2 = (0 : Int)))) (K r1.2.2.2 (Vec.nil : Vec YM)) (chk (decide (0 ≤ r1.2.1 ∧ r1.2.1 < (a2.n : Int))) ((C1 ((a2.g (r1.2.1).toNat).1) ((a2.g (r1.2.1).toNat).2) r1.2.2.1).bind fun r2 => K r2.1 r2.2))
noncomputable def F (a1 : Vec YC) (a2 : Vec YW) (a3 : Int) (a4 : ByteArray) : Option (Int × YVM) := B spec_l15Find.F spec_Annotate.F a1 a2 a3 a4 (fun x1 x2 => some (x1, x2))
def encA (t : YVC × YVW × Int × ByteArray) : LA := [.a [cl t.1, cl t.2.1], vi t.2.2.1, vs t.2.2.2]
def encR (x : Int × YVM) : AV × LO := (.tup [.c (.h 0), .c (ci x.1)], [ro x.2])
theorem encAI (a b) (h : encA a = encA b) : a = b := by simp [encA, encRw_iff] at h; simp [Prod.ext_iff, h]
theorem encRI (a b) (h : encR a = encR b) : a = b := by simp [encR, encRw_iff] at h; simp [Prod.ext_iff, h]
noncomputable def Q (args : LA) : Option (Int × YVM) := ofC encA (un4 F) args
theorem wrap : F = fun y1 y2 y3 y4 => Q [.a [cl y1, cl y2], vi y3, vs y4] := by funext y1 y2 y3 y4; exact Eq.symm (ofC_enc encAI _ (y1, y2, y3, y4))
noncomputable abbrev O (Q0 : LA → Option (ByteArray × Int × Int × Int)) (Q1 : LA → Option (Int × YVM)) : Orc := mkO [qE 50 false spec_l15Find.encR Q0, qE 51 false spec_Annotate.encR Q1] [] []
noncomputable def L : Lor := fun _ _ _ _ => Option.none
theorem main {Q0 Q1} {ρ : Type} {K : AV → LO → Option ρ} {a1 a2 a3 a4} : exC Tryz.prog (O Q0 Q1) L [] 0 (bodyOf Tryz.f8) (entry 32 [.a [cl a1, cl a2], vi a3, vs a4] [] []) (finO Tryz.prog Tryz.f8.results.toList 0 [] [.ad (.s 6) 27] K) =
    B (fun y1 y2 y3 y4 => Q0 [.a [cl y1, cl y2], vi y3, vs y4]) (fun y1 y2 y3 => Q1 [.a [cl y1, cl y2], vi y3]) a1 a2 a3 a4 (fun x1 x2 => K (.tup [.c (.h 0), .c (ci x1)]) [ro x2]) := by kernel_rfl
theorem Gok : (O spec_l15Find.Q spec_Annotate.Q).ok Tryz.prog := mkO_ok (by exact ⟨qE_ok spec_l15Find.ac, qE_ok spec_Annotate.ac, trivial⟩) (by exact trivial)
theorem acc : ∀ t x, un4 F t = some x → ACc Tryz.prog 8 (encA t) [] true [] fun rv obs => (rv, obs) = encR x := accT (T := YVC × YVW × Int × ByteArray) (F := un4 F) (L := L) (cmds := [.ad (.s 6) 27]) (body := (bodyOf Tryz.f8)) Gok hmT Tryz.func8 (by kernel_rfl) (by kernel_rfl) (by rw [show atomsL [] 0 (bodyOf Tryz.f8) = [] by kernel_rfl]; exact Lor.ok_nil _ _) (fun t => by refine main.trans ?_; rw [← spec_l15Find.wrap, ← spec_Annotate.wrap]; exact congrArg (B _ _ _ _ _ _) (fx2 fun t => ofC_enc encRI some t))
theorem ac : ∀ a x, Q a = some x → AC Tryz.prog 8 a [] false [] fun rv obs => (rv, obs) = encR x := acF (body := (bodyOf Tryz.f8)) Tryz.func8 (by kernel_rfl) (by kernel_rfl) acc fun x => ⟨by simp [encR, AV.Flat, K.Flat, C.Flat], flc (flat_rw rfl _) (fl0)⟩
end spec_NotesAt
namespace impl_Body_note
noncomputable def B {ρ : Type} (a1 : ByteArray) (a2 : Int) (a3 : Int) (a4 : YI) (K : Int → Int → ByteArray → Option ρ) : Option ρ :=
  K a2 a3 a1
noncomputable def F (a1 : ByteArray) (a2 : Int) (a3 : Int) (a4 : YI) : Option YM := B a1 a2 a3 a4 (fun x1 x2 x3 => some (x1, x2, x3))
def encA (t : ByteArray × Int × Int × Vec Int) : LA := [.a [cs t.1, ci t.2.1, ci t.2.2.1, cl t.2.2.2]]
def encR (x : YM) : AV × LO := (.a [ci x.1, ci x.2.1, cs x.2.2], [])
theorem encAI (a b) (h : encA a = encA b) : a = b := by simp [encA, encRw_iff] at h; simp [Prod.ext_iff, h]
theorem encRI (a b) (h : encR a = encR b) : a = b := by simp [encR, encRw_iff] at h; simp [Prod.ext_iff, h]
noncomputable def Q (args : LA) : Option YM := ofC encA (un4 F) args
theorem wrap : F = fun y1 y2 y3 y4 => Q [.a [cs y1, ci y2, ci y3, cl y4]] := by funext y1 y2 y3 y4; exact Eq.symm (ofC_enc encAI _ (y1, y2, y3, y4))
noncomputable abbrev O : Orc := mkO [] [] []
noncomputable def L : Lor := fun _ _ _ _ => Option.none
theorem main {ρ : Type} {K : AV → LO → Option ρ} {a1 a2 a3 a4} : exC Tryz.prog O L [] 0 (bodyOf Tryz.f115) (entry 10 [.a [cs a1, ci a2, ci a3, cl a4]] [] []) (finO Tryz.prog Tryz.f115.results.toList 0 [] [] K) =
    B a1 a2 a3 a4 (fun x1 x2 x3 => K (.a [ci x1, ci x2, cs x3]) []) := by kernel_rfl
theorem Gok : O.ok Tryz.prog := mkO_ok (by exact trivial) (by exact trivial)
theorem acc : ∀ t x, un4 F t = some x → ACc Tryz.prog 115 (encA t) [] true [] fun rv obs => (rv, obs) = encR x := accT (T := ByteArray × Int × Int × Vec Int) (F := un4 F) (L := L) (cmds := []) (body := (bodyOf Tryz.f115)) Gok hmT Tryz.func115 (by kernel_rfl) (by kernel_rfl) (by rw [show atomsL [] 0 (bodyOf Tryz.f115) = [] by kernel_rfl]; exact Lor.ok_nil _ _) (fun t => by refine main.trans ?_; exact congrArg (B _ _ _ _) (fx3 fun t => ofC_enc encRI some t))
theorem ac : ∀ a x, Q a = some x → AC Tryz.prog 115 a [] false [] fun rv obs => (rv, obs) = encR x := acF (body := (bodyOf Tryz.f115)) Tryz.func115 (by kernel_rfl) (by kernel_rfl) acc fun x => ⟨by simp [encR, AV.Flat, K.Flat, C.Flat], fl0⟩
end impl_Body_note
namespace impl_Weave_annotate
noncomputable def B0 {ρ : Type} (C2 : ByteArray → Int → Int → YI → Option YM) (v1 : Vec YI) (v2 : Vec YB) (v3 : Int) (v4 : Int) (v5 : Vec YM) (v6 : YI) (W : YG → YVB → Int → Int → YVM → YI → Option ρ) (K0 : YVM → Option ρ) : Option ρ :=
  sel (decide (v4 < v3)) (chk (decide (0 ≤ v4 ∧ v4 < (v6.n : Int))) (chk (decide (v4.toNat < v6.n)) (chk (decide (0 ≤ (v6.g v4.toNat) ∧ (v6.g v4.toNat) < (v2.n : Int))) ((C2 ((v2.g (v6.g v4.toNat).toNat).1) ((v2.g (v6.g v4.toNat).toNat).2.1) ((v2.g (v6.g v4.toNat).toNat).2.2.1) ((v2.g (v6.g v4.toNat).toNat).2.2.2)).bind fun r3 => chk (decide ((v5.n + (Vec.lit [(r3.1, r3.2.1, r3.2.2)] : Vec YM).n) * 33 ≤ maxN)) (W v1 v2 v3 (wr (v4 + (1 : Int))) (Vec.app v5 (Vec.lit [(r3.1, r3.2.1, r3.2.2)] : Vec YM)) v6))))) (K0 v5)
noncomputable def F0 {ρ : Type} : Nat → YG → YVB → Int → Int → YVM → YI → (YVM → Option ρ) → Option ρ
  | 0, _, _, _, _, _, _, _ => none
  | k + 1, v1, v2, v3, v4, v5, v6, K0 => B0 impl_Body_note.F v1 v2 v3 v4 v5 v6 (fun v1' v2' v3' v4' v5' v6' => F0 k v1' v2' v3' v4' v5' v6' K0) K0
noncomputable def B {ρ : Type} (C0 : YG → Option YK) (C1 : YG → YVB → Int → Option YI) (L0 : YG → YVB → Int → Int → YVM → YI → (YVM → Option ρ) → Option ρ) (a1 : Vec YI) (a2 : Vec YB) (a3 : Int) (K : YVM → Option ρ) : Option ρ :=
  (C0 a1).bind fun r1 => chk (decide (0 ≤ a3 ∧ a3 < (r1.n : Int))) (chk (decide (a3.toNat < r1.n)) ((C1 a1 a2 ((r1.g a3.toNat).v)).bind fun r2 => L0 a1 a2 (r2.n : Int) (0 : Int) (Vec.nil : Vec YM) r2 (fun e01 => K e01)))
noncomputable def F (a1 : Vec YI) (a2 : Vec YB) (a3 : Int) : Option YVM := B impl_closures.F impl_Weave_liveIn.F (F0 fuelN) a1 a2 a3 (fun x1 => some (x1))
def encA (t : Vec YI × YVB × Int) : LA := [.ra [nl t.1, nl t.2.1], vi t.2.2]
def encR (x : Vec YM) : AV × LO := (.c (.h 0), [ro x])
theorem encAI (a b) (h : encA a = encA b) : a = b := by simp [encA, encRw_iff] at h; simp [Prod.ext_iff, h]
theorem encRI (a b) (h : encR a = encR b) : a = b := by simpa [encR, encRw_iff] using h
noncomputable def Q (args : LA) : Option YVM := ofC encA (un3 F) args
theorem wrap : F = fun y1 y2 y3 => Q [.ra [nl y1, nl y2], vi y3] := by funext y1 y2 y3; exact Eq.symm (ofC_enc encAI _ (y1, y2, y3))
noncomputable abbrev O (Q0 : LA → Option YK) (Q1 : LA → Option YI) (Q2 : LA → Option YM) : Orc := mkO [qE 114 false impl_closures.encR Q0, qE 113 false impl_Weave_liveIn.encR Q1, qE 115 false impl_Body_note.encR Q2] [] []
noncomputable def c0 : Code := loopC (atomN [] 0 (bodyOf Tryz.f54) 0)
def ct0 : Cut := ⟨[0, 5, 17, 18, 19], [.ad (.s 5) 27]⟩
def lv0 : Exit → Cut
  | .exit 0 => ⟨[5], []⟩
  | _ => ⟨[], []⟩
def k0_0 {ρ : Type} (K : Exit → St → Option ρ) (z1 : Vec YM) : Option ρ := K (.exit 0) (mkS 36 (lv0 (.exit 0)).live [.c (.h 0)] [ro z1] [])
noncomputable def L (W0 : (ρ : Type) → LA → LO → (YVM → Option ρ) → Option ρ) : Lor := fun ρ j st K => sel (Nat.beq j 0) (cutO Tryz.prog 36 ct0.live 0 [] ct0.cmds st fun avs obs => W0 ρ avs obs (k0_0 K)) (Option.none)
theorem step0 {Q0 Q1 Q2 W0} {ρ : Type} {K : Exit → St → Option ρ} {W : LA → LO → Option ρ} {v1 v2 v3 v4 v5 v6} : exC Tryz.prog (O Q0 Q1 Q2) (L W0) [] 1 c0 (mkS 36 ct0.live [.ra [nl v1, nl v2], .c (.h 0), .c (.h 1), vi v3, vi v4] [ro v5, ro v6] []) (bodyK Tryz.prog 36 0 [] ct0 W lv0 K) =
    B0 (fun y1 y2 y3 y4 => Q2 [.a [cs y1, ci y2, ci y3, cl y4]]) v1 v2 v3 v4 v5 v6 (fun u1 u2 u3 u4 u5 u6 => W [.ra [nl u1, nl u2], .c (.h 0), .c (.h 1), vi u3, vi u4] [ro u5, ro u6]) (k0_0 K) := by kernel_rfl
def enc0 (t : Vec YI × YVB × Int × Int × YVM × Vec Int) : LA × LO := ([.ra [nl t.1, nl t.2.1], .c (.h 0), .c (.h 1), vi t.2.2.1, vi t.2.2.2.1], [ro t.2.2.2.2.1, ro t.2.2.2.2.2])
theorem enc0I (a b) (h : enc0 a = enc0 b) : a = b := by simp [enc0, encRw_iff] at h; simp [Prod.ext_iff, h]
noncomputable def V0 : (ρ : Type) → LA → LO → (YVM → Option ρ) → Option ρ := fun ρ avs obs k0 => ofC enc0 (fun t => un6 (F0 fuelN) t k0) (avs, obs)
theorem V0_enc (ρ : Type) : F0 fuelN = fun w1 w2 w3 w4 w5 w6 k0 => V0 ρ [.ra [nl w1, nl w2], .c (.h 0), .c (.h 1), vi w3, vi w4] [ro w5, ro w6] k0 := by funext w1 w2 w3 w4 w5 w6 k0; exact Eq.symm (ofC_enc enc0I _ (w1, w2, w3, w4, w5, w6))
theorem main {Q0 Q1 Q2 W0} {ρ : Type} {K : AV → LO → Option ρ} {a1 a2 a3} : exC Tryz.prog (O Q0 Q1 Q2) (L W0) [] 0 (bodyOf Tryz.f54) (entry 36 [.ra [nl a1, nl a2], vi a3] [] []) (finO Tryz.prog Tryz.f54.results.toList 0 [] [] K) =
    B (fun y1 => Q0 [vl y1]) (fun y1 y2 y3 => Q1 [.ra [nl y1, nl y2], vk .u64 y3]) (fun w1 w2 w3 w4 w5 w6 k0 => W0 ρ [.ra [nl w1, nl w2], .c (.h 0), .c (.h 1), vi w3, vi w4] [ro w5, ro w6] k0) a1 a2 a3 (fun x1 => K (.c (.h 0)) [ro x1]) := by kernel_rfl
theorem Gok : (O impl_closures.Q impl_Weave_liveIn.Q impl_Body_note.Q).ok Tryz.prog := mkO_ok (by exact ⟨qE_ok impl_closures.ac, qE_ok impl_Weave_liveIn.ac, qE_ok impl_Body_note.ac, trivial⟩) (by exact trivial)
theorem ok0 : OkL Tryz.prog (L V0) 0 (.loop c0) := fun ρ st K r h => loop_ok (ct := ct0) (lv := lv0) (L := (L V0)) Gok hmT (by rw [show atomsL [] 1 c0 = [] by kernel_rfl]; exact Lor.ok_nil _ _) enc0I (fun k t => un6 (F0 k) t (k0_0 K)) (fun t => rfl) (fun k t => by refine step0.trans ?_; rw [← impl_Body_note.wrap]; exact congrFun (congrArg (B0 _ _ _ _ _ _ _) (fx6 fun t => ofC_enc enc0I _ t)) _) (fun _ => fuelN) h
theorem e : atomsL [] 0 (bodyOf Tryz.f54) = [(0, 0, .loop c0)] := by kernel_rfl
theorem acc : ∀ t x, un3 F t = some x → ACc Tryz.prog 54 (encA t) [] true [] fun rv obs => (rv, obs) = encR x := accT (T := Vec YI × YVB × Int) (F := un3 F) (L := (L V0)) (cmds := []) (body := (bodyOf Tryz.f54)) Gok hmT Tryz.func54 (by kernel_rfl) (by kernel_rfl) (by rw [e]; exact Lor.ok_cons ok0 (Lor.ok_nil _ _)) (fun t => by refine main.trans ?_; rw [← impl_closures.wrap, ← impl_Weave_liveIn.wrap, ← V0_enc]; exact congrArg (B _ _ _ _ _ _) (fx1 fun t => ofC_enc encRI some t))
theorem ac : ∀ a x, Q a = some x → AC Tryz.prog 54 a [] false [] fun rv obs => (rv, obs) = encR x := acF (body := (bodyOf Tryz.f54)) Tryz.func54 (by kernel_rfl) (by kernel_rfl) acc fun x => ⟨by simp [encR, AV.Flat, K.Flat, C.Flat], flc (flat_rw rfl _) (fl0)⟩
end impl_Weave_annotate
namespace impl_NotesAt
noncomputable def B {ρ : Type} (C0 : YVC → YVW → Int → ByteArray → Option (ByteArray × Int × Int × Int)) (C1 : YG → YVB → Int → Option YVM) (a1 : Vec YC) (a2 : Vec YW) (a3 : Int) (a4 : ByteArray) (K : Int → YVM → Option ρ) : Option ρ :=
  (C0 a1 a2 a3 a4).bind fun r1 => sel ((!decide (r1.2.2.2 = (0 : Int)))) (K r1.2.2.2 (Vec.nil : Vec YM)) (chk (decide (0 ≤ r1.2.1 ∧ r1.2.1 < (a2.n : Int))) ((C1 ((a2.g (r1.2.1).toNat).1) ((a2.g (r1.2.1).toNat).2) r1.2.2.1).bind fun r2 => K (0 : Int) r2))
noncomputable def F (a1 : Vec YC) (a2 : Vec YW) (a3 : Int) (a4 : ByteArray) : Option (Int × YVM) := B impl_nameAt.F impl_Weave_annotate.F a1 a2 a3 a4 (fun x1 x2 => some (x1, x2))
def encA (t : YVC × YVW × Int × ByteArray) : LA := [.a [cl t.1, cl t.2.1], vi t.2.2.1, vs t.2.2.2]
def encR (x : Int × YVM) : AV × LO := (.tup [.c (.h 0), .c (ci x.1)], [ro x.2])
theorem encAI (a b) (h : encA a = encA b) : a = b := by simp [encA, encRw_iff] at h; simp [Prod.ext_iff, h]
theorem encRI (a b) (h : encR a = encR b) : a = b := by simp [encR, encRw_iff] at h; simp [Prod.ext_iff, h]
noncomputable def Q (args : LA) : Option (Int × YVM) := ofC encA (un4 F) args
theorem wrap : F = fun y1 y2 y3 y4 => Q [.a [cl y1, cl y2], vi y3, vs y4] := by funext y1 y2 y3 y4; exact Eq.symm (ofC_enc encAI _ (y1, y2, y3, y4))
noncomputable abbrev O (Q0 : LA → Option (ByteArray × Int × Int × Int)) (Q1 : LA → Option YVM) : Orc := mkO [qE 53 false impl_nameAt.encR Q0, qE 54 false impl_Weave_annotate.encR Q1] [] []
noncomputable def L : Lor := fun _ _ _ _ => Option.none
theorem main {Q0 Q1} {ρ : Type} {K : AV → LO → Option ρ} {a1 a2 a3 a4} : exC Tryz.prog (O Q0 Q1) L [] 0 (bodyOf Tryz.f10) (entry 28 [.a [cl a1, cl a2], vi a3, vs a4] [] []) (finO Tryz.prog Tryz.f10.results.toList 0 [] [.ad (.s 6) 27] K) =
    B (fun y1 y2 y3 y4 => Q0 [.a [cl y1, cl y2], vi y3, vs y4]) (fun y1 y2 y3 => Q1 [.ra [nl y1, nl y2], vi y3]) a1 a2 a3 a4 (fun x1 x2 => K (.tup [.c (.h 0), .c (ci x1)]) [ro x2]) := by kernel_rfl
theorem Gok : (O impl_nameAt.Q impl_Weave_annotate.Q).ok Tryz.prog := mkO_ok (by exact ⟨qE_ok impl_nameAt.ac, qE_ok impl_Weave_annotate.ac, trivial⟩) (by exact trivial)
theorem acc : ∀ t x, un4 F t = some x → ACc Tryz.prog 10 (encA t) [] true [] fun rv obs => (rv, obs) = encR x := accT (T := YVC × YVW × Int × ByteArray) (F := un4 F) (L := L) (cmds := [.ad (.s 6) 27]) (body := (bodyOf Tryz.f10)) Gok hmT Tryz.func10 (by kernel_rfl) (by kernel_rfl) (by rw [show atomsL [] 0 (bodyOf Tryz.f10) = [] by kernel_rfl]; exact Lor.ok_nil _ _) (fun t => by refine main.trans ?_; rw [← impl_nameAt.wrap, ← impl_Weave_annotate.wrap]; exact congrArg (B _ _ _ _ _ _) (fx2 fun t => ofC_enc encRI some t))
theorem ac : ∀ a x, Q a = some x → AC Tryz.prog 10 a [] false [] fun rv obs => (rv, obs) = encR x := acF (body := (bodyOf Tryz.f10)) Tryz.func10 (by kernel_rfl) (by kernel_rfl) acc fun x => ⟨by simp [encR, AV.Flat, K.Flat, C.Flat], flc (flat_rw rfl _) (fl0)⟩
end impl_NotesAt
namespace laws_eqNote
noncomputable def B {ρ : Type} (a1 : Int) (a2 : Int) (a3 : ByteArray) (a4 : Int) (a5 : Int) (a6 : ByteArray) (K : Bool → Option ρ) : Option ρ :=
  sel ((!decide (a1 = a4))) (K false) (sel ((!decide (a2 = a5))) (K false) (sel ((!decide (a3 = a6))) (K false) (K true)))
noncomputable def F (a1 : Int) (a2 : Int) (a3 : ByteArray) (a4 : Int) (a5 : Int) (a6 : ByteArray) : Option Bool := B a1 a2 a3 a4 a5 a6 (fun x1 => some (x1))
def encA (t : Int × Int × ByteArray × Int × Int × ByteArray) : LA := [.a [ci t.1, ci t.2.1, cs t.2.2.1], .a [ci t.2.2.2.1, ci t.2.2.2.2.1, cs t.2.2.2.2.2]]
def encR (x : Bool) : AV × LO := (vb x, [])
theorem encAI (a b) (h : encA a = encA b) : a = b := by simp [encA, encRw_iff] at h; simp [Prod.ext_iff, h]
theorem encRI (a b) (h : encR a = encR b) : a = b := by simpa [encR, encRw_iff] using h
noncomputable def Q (args : LA) : Option Bool := ofC encA (un6 F) args
theorem wrap : F = fun y1 y2 y3 y4 y5 y6 => Q [.a [ci y1, ci y2, cs y3], .a [ci y4, ci y5, cs y6]] := by funext y1 y2 y3 y4 y5 y6; exact Eq.symm (ofC_enc encAI _ (y1, y2, y3, y4, y5, y6))
noncomputable abbrev O : Orc := mkO [] [] []
noncomputable def L : Lor := fun _ _ _ _ => Option.none
theorem main {ρ : Type} {K : AV → LO → Option ρ} {a1 a2 a3 a4 a5 a6} : exC Tryz.prog O L [] 0 (bodyOf Tryz.f55) (entry 20 [.a [ci a1, ci a2, cs a3], .a [ci a4, ci a5, cs a6]] [] []) (finO Tryz.prog Tryz.f55.results.toList 0 [] [] K) =
    B a1 a2 a3 a4 a5 a6 (fun x1 => K (vb x1) []) := by kernel_rfl
theorem Gok : O.ok Tryz.prog := mkO_ok (by exact trivial) (by exact trivial)
theorem acc : ∀ t x, un6 F t = some x → ACc Tryz.prog 55 (encA t) [] true [] fun rv obs => (rv, obs) = encR x := accT (T := Int × Int × ByteArray × Int × Int × ByteArray) (F := un6 F) (L := L) (cmds := []) (body := (bodyOf Tryz.f55)) Gok hmT Tryz.func55 (by kernel_rfl) (by kernel_rfl) (by rw [show atomsL [] 0 (bodyOf Tryz.f55) = [] by kernel_rfl]; exact Lor.ok_nil _ _) (fun t => by refine main.trans ?_; exact congrArg (B _ _ _ _ _ _) (fx1 fun t => ofC_enc encRI some t))
theorem ac : ∀ a x, Q a = some x → AC Tryz.prog 55 a [] false [] fun rv obs => (rv, obs) = encR x := acF (body := (bodyOf Tryz.f55)) Tryz.func55 (by kernel_rfl) (by kernel_rfl) acc fun x => ⟨by simp [encR, AV.Flat, K.Flat, C.Flat], fl0⟩
end laws_eqNote
namespace laws_eqNoteS
noncomputable def B0 {ρ : Type} (C0 : Int → Int → ByteArray → Int → Int → ByteArray → Option Bool) (v1 : Vec YM) (v2 : Vec YM) (v3 : Int) (W : YVM → YVM → Int → Option ρ) (K0 : Unit → Option ρ) (Kr : Bool → Option ρ) : Option ρ :=
  sel (decide (v3 < (v1.n : Int))) (chk (decide (0 ≤ v3 ∧ v3 < (v1.n : Int))) (chk (decide (0 ≤ v3 ∧ v3 < (v2.n : Int))) ((C0 ((v1.g v3.toNat).1) ((v1.g v3.toNat).2.1) ((v1.g v3.toNat).2.2) ((v2.g v3.toNat).1) ((v2.g v3.toNat).2.1) ((v2.g v3.toNat).2.2)).bind fun r1 => sel ((!r1)) (Kr false) (W v1 v2 (wr (v3 + (1 : Int))))))) (K0 ())
noncomputable def F0 {ρ : Type} : Nat → YVM → YVM → Int → (Unit → Option ρ) → (Bool → Option ρ) → Option ρ
  | 0, _, _, _, _, _ => none
  | k + 1, v1, v2, v3, K0, Kr => B0 laws_eqNote.F v1 v2 v3 (fun v1' v2' v3' => F0 k v1' v2' v3' K0 Kr) K0 Kr
noncomputable def B {ρ : Type} (L0 : YVM → YVM → Int → (Unit → Option ρ) → (Bool → Option ρ) → Option ρ) (a1 : Vec YM) (a2 : Vec YM) (K : Bool → Option ρ) : Option ρ :=
  sel ((!decide ((a1.n : Int) = (a2.n : Int)))) (K false) (L0 a1 a2 (0 : Int) (fun _ => K true) (fun x01 => K x01))
noncomputable def F (a1 : Vec YM) (a2 : Vec YM) : Option Bool := B (F0 fuelN) a1 a2 (fun x1 => some (x1))
def encA (t : YVM × YVM) : LA := [vl t.1, vl t.2]
def encR (x : Bool) : AV × LO := (vb x, [])
theorem encAI (a b) (h : encA a = encA b) : a = b := by simp [encA, encRw_iff] at h; simp [Prod.ext_iff, h]
theorem encRI (a b) (h : encR a = encR b) : a = b := by simpa [encR, encRw_iff] using h
noncomputable def Q (args : LA) : Option Bool := ofC encA (un2 F) args
theorem wrap : F = fun y1 y2 => Q [vl y1, vl y2] := by funext y1 y2; exact Eq.symm (ofC_enc encAI _ (y1, y2))
noncomputable abbrev O (Q0 : LA → Option Bool) : Orc := mkO [qE 55 false laws_eqNote.encR Q0] [] []
noncomputable def c0 : Code := loopC (atomN [] 0 (bodyOf Tryz.f11) 0)
def ct0 : Cut := ⟨[0, 1, 5], []⟩
def lv0 : Exit → Cut
  | .exit 0 => ⟨[], []⟩
  | .ret => ⟨[4], []⟩
  | _ => ⟨[], []⟩
def k0_0 {ρ : Type} (K : Exit → St → Option ρ) (_ : Unit) : Option ρ := K (.exit 0) (mkS 27 (lv0 (.exit 0)).live [] [] [])
def k0_r {ρ : Type} (K : Exit → St → Option ρ) (z1 : Bool) : Option ρ := K .ret (mkS 27 (lv0 .ret).live [vb z1] [] [])
noncomputable def L (W0 : (ρ : Type) → LA → LO → (Unit → Option ρ) → (Bool → Option ρ) → Option ρ) : Lor := fun ρ j st K => sel (Nat.beq j 0) (cutO Tryz.prog 27 ct0.live 0 [] ct0.cmds st fun avs obs => W0 ρ avs obs (k0_0 K) (k0_r K)) (Option.none)
theorem step0 {Q0 W0} {ρ : Type} {K : Exit → St → Option ρ} {W : LA → LO → Option ρ} {v1 v2 v3} : exC Tryz.prog (O Q0) (L W0) [] 1 c0 (mkS 27 ct0.live [vl v1, vl v2, vi v3] [] []) (bodyK Tryz.prog 27 0 [] ct0 W lv0 K) =
    B0 (fun y1 y2 y3 y4 y5 y6 => Q0 [.a [ci y1, ci y2, cs y3], .a [ci y4, ci y5, cs y6]]) v1 v2 v3 (fun u1 u2 u3 => W [vl u1, vl u2, vi u3] []) (k0_0 K) (k0_r K) := by kernel_rfl
def enc0 (t : YVM × YVM × Int) : LA × LO := ([vl t.1, vl t.2.1, vi t.2.2], [])
theorem enc0I (a b) (h : enc0 a = enc0 b) : a = b := by simp [enc0, encRw_iff] at h; simp [Prod.ext_iff, h]
noncomputable def V0 : (ρ : Type) → LA → LO → (Unit → Option ρ) → (Bool → Option ρ) → Option ρ := fun ρ avs obs k0 kr => ofC enc0 (fun t => un3 (F0 fuelN) t k0 kr) (avs, obs)
theorem V0_enc (ρ : Type) : F0 fuelN = fun w1 w2 w3 k0 kr => V0 ρ [vl w1, vl w2, vi w3] [] k0 kr := by funext w1 w2 w3 k0 kr; exact Eq.symm (ofC_enc enc0I _ (w1, w2, w3))
theorem main {Q0 W0} {ρ : Type} {K : AV → LO → Option ρ} {a1 a2} : exC Tryz.prog (O Q0) (L W0) [] 0 (bodyOf Tryz.f11) (entry 27 [vl a1, vl a2] [] []) (finO Tryz.prog Tryz.f11.results.toList 0 [] [] K) =
    B (fun w1 w2 w3 k0 kr => W0 ρ [vl w1, vl w2, vi w3] [] k0 kr) a1 a2 (fun x1 => K (vb x1) []) := by kernel_rfl
theorem Gok : (O laws_eqNote.Q).ok Tryz.prog := mkO_ok (by exact ⟨qE_ok laws_eqNote.ac, trivial⟩) (by exact trivial)
theorem ok0 : OkL Tryz.prog (L V0) 0 (.loop c0) := fun ρ st K r h => loop_ok (ct := ct0) (lv := lv0) (L := (L V0)) Gok hmT (by rw [show atomsL [] 1 c0 = [] by kernel_rfl]; exact Lor.ok_nil _ _) enc0I (fun k t => un3 (F0 k) t (k0_0 K) (k0_r K)) (fun t => rfl) (fun k t => by refine step0.trans ?_; rw [← laws_eqNote.wrap]; exact congrFun (congrFun (congrArg (B0 _ _ _ _) (fx3 fun t => ofC_enc enc0I _ t)) _) _) (fun _ => fuelN) h
theorem e : atomsL [] 0 (bodyOf Tryz.f11) = [(0, 0, .loop c0)] := by kernel_rfl
theorem acc : ∀ t x, un2 F t = some x → ACc Tryz.prog 11 (encA t) [] true [] fun rv obs => (rv, obs) = encR x := accT (T := YVM × YVM) (F := un2 F) (L := (L V0)) (cmds := []) (body := (bodyOf Tryz.f11)) Gok hmT Tryz.func11 (by kernel_rfl) (by kernel_rfl) (by rw [e]; exact Lor.ok_cons ok0 (Lor.ok_nil _ _)) (fun t => by refine main.trans ?_; rw [← V0_enc]; exact congrArg (B _ _ _) (fx1 fun t => ofC_enc encRI some t))
theorem ac : ∀ a x, Q a = some x → AC Tryz.prog 11 a [] false [] fun rv obs => (rv, obs) = encR x := acF (body := (bodyOf Tryz.f11)) Tryz.func11 (by kernel_rfl) (by kernel_rfl) acc fun x => ⟨by simp [encR, AV.Flat, K.Flat, C.Flat], fl0⟩
end laws_eqNoteS
namespace laws_markIntS_s68b2
noncomputable def B0 {ρ : Type} (v1 : Int) (v2 : Int) (v3 : YI) (W : Int → Int → YI → Option ρ) (K0 : Int → YI → Option ρ) : Option ρ :=
  sel (decide (v2 < (v3.n : Int))) (chk (decide (0 ≤ v2 ∧ v2 < (v3.n : Int))) (chk (decide (v2.toNat < v3.n)) (W (wr (v1 + (1 : Int))) (wr (v2 + (1 : Int))) (Vec.set v3 v2.toNat v1)))) (K0 v1 v3)
noncomputable def F0 {ρ : Type} : Nat → Int → Int → YI → (Int → YI → Option ρ) → Option ρ
  | 0, _, _, _, _ => none
  | k + 1, v1, v2, v3, K0 => B0 v1 v2 v3 (fun v1' v2' v3' => F0 k v1' v2' v3' K0) K0
noncomputable def B {ρ : Type} (L0 : Int → Int → YI → (Int → YI → Option ρ) → Option ρ) (a1 : Int) (a2 : YI) (K : Int → YI → Option ρ) : Option ρ :=
  L0 a1 (0 : Int) a2 (fun e01 e02 => K e01 e02)
noncomputable def F (a1 : Int) (a2 : YI) : Option (Int × Vec Int) := B (F0 fuelN) a1 a2 (fun x1 x2 => some (x1, x2))
def encA (t : Int × Vec Int) : LA × LO := ([.c (.h 0), vi t.1], [ro t.2])
def encR (x : Int × Vec Int) : AV × LO := (vi x.1, [ro x.2])
theorem encAI (a b) (h : encA a = encA b) : a = b := by simp [encA, encRw_iff] at h; simp [Prod.ext_iff, h]
theorem encRI (a b) (h : encR a = encR b) : a = b := by simp [encR, encRw_iff] at h; simp [Prod.ext_iff, h]
noncomputable def Q (args : LA) (hin : LO) : Option (Int × Vec Int) := ofC encA (un2 F) (args, hin)
theorem wrap : F = fun y1 y2 => Q [.c (.h 0), vi y1] [ro y2] := by funext y1 y2; exact Eq.symm (ofC_enc encAI _ (y1, y2))
noncomputable abbrev O : Orc := mkO [] [] []
noncomputable def c0 : Code := loopC (atomN [] 0 (bodyOf Tryz.f34) 0)
def ct0 : Cut := ⟨[0, 1, 5], []⟩
def lv0 : Exit → Cut
  | .exit 0 => ⟨[1], []⟩
  | _ => ⟨[], []⟩
def k0_0 {ρ : Type} (K : Exit → St → Option ρ) (z1 : Int) (z2 : YI) : Option ρ := K (.exit 0) (mkS 19 (lv0 (.exit 0)).live [vi z1] [ro z2] [true])
noncomputable def L (W0 : (ρ : Type) → LA → LO → (Int → YI → Option ρ) → Option ρ) : Lor := fun ρ j st K => sel (Nat.beq j 0) (cutO Tryz.prog 19 ct0.live 1 [true] ct0.cmds st fun avs obs => W0 ρ avs obs (k0_0 K)) (Option.none)
theorem step0 {W0} {ρ : Type} {K : Exit → St → Option ρ} {W : LA → LO → Option ρ} {v1 v2 v3} : exC Tryz.prog O (L W0) [] 1 c0 (mkS 19 ct0.live [.c (.h 0), vi v1, vi v2] [ro v3] [true]) (bodyK Tryz.prog 19 1 [true] ct0 W lv0 K) =
    B0 v1 v2 v3 (fun u1 u2 u3 => W [.c (.h 0), vi u1, vi u2] [ro u3]) (k0_0 K) := by kernel_rfl
def enc0 (t : Int × Int × Vec Int) : LA × LO := ([.c (.h 0), vi t.1, vi t.2.1], [ro t.2.2])
theorem enc0I (a b) (h : enc0 a = enc0 b) : a = b := by simp [enc0, encRw_iff] at h; simp [Prod.ext_iff, h]
noncomputable def V0 : (ρ : Type) → LA → LO → (Int → YI → Option ρ) → Option ρ := fun ρ avs obs k0 => ofC enc0 (fun t => un3 (F0 fuelN) t k0) (avs, obs)
theorem V0_enc (ρ : Type) : F0 fuelN = fun w1 w2 w3 k0 => V0 ρ [.c (.h 0), vi w1, vi w2] [ro w3] k0 := by funext w1 w2 w3 k0; exact Eq.symm (ofC_enc enc0I _ (w1, w2, w3))
theorem main {W0} {ρ : Type} {K : AV → LO → Option ρ} {a1 a2} : exC Tryz.prog O (L W0) [] 0 (bodyOf Tryz.f34) (entry 19 [.c (.h 0), vi a1] [ro a2] [true]) (finO Tryz.prog Tryz.f34.results.toList 1 [true] [] K) =
    B (fun w1 w2 w3 k0 => W0 ρ [.c (.h 0), vi w1, vi w2] [ro w3] k0) a1 a2 (fun x1 x2 => K (vi x1) [ro x2]) := by kernel_rfl
theorem Gok : O.ok Tryz.prog := mkO_ok (by exact trivial) (by exact trivial)
theorem ok0 : OkL Tryz.prog (L V0) 0 (.loop c0) := fun ρ st K r h => loop_ok (ct := ct0) (lv := lv0) (L := (L V0)) Gok hmT (by rw [show atomsL [] 1 c0 = [] by kernel_rfl]; exact Lor.ok_nil _ _) enc0I (fun k t => un3 (F0 k) t (k0_0 K)) (fun t => rfl) (fun k t => by refine step0.trans ?_; exact congrFun (congrArg (B0 _ _ _) (fx3 fun t => ofC_enc enc0I _ t)) _) (fun _ => fuelN) h
theorem e : atomsL [] 0 (bodyOf Tryz.f34) = [(0, 0, .loop c0)] := by kernel_rfl
theorem acc : ∀ t x, un2 F t = some x → ACc Tryz.prog 34 (encA t).1 (encA t).2 true [true] fun rv obs => (rv, obs) = encR x := accT2 (T := Int × Vec Int) (F := un2 F) (L := (L V0)) (cmds := []) (body := (bodyOf Tryz.f34)) 1 (fun _ => rfl) Gok hmT Tryz.func34 (by kernel_rfl) (by kernel_rfl) (by rw [e]; exact Lor.ok_cons ok0 (Lor.ok_nil _ _)) (fun t => by refine main.trans ?_; rw [← V0_enc]; exact congrArg (B _ _ _) (fx2 fun t => ofC_enc encRI some t))
theorem ac : ∀ a h x, Q a h = some x → AC Tryz.prog 34 a h false [true] fun rv obs => (rv, obs) = encR x := acF2 (body := (bodyOf Tryz.f34)) Tryz.func34 (by kernel_rfl) (by kernel_rfl) acc fun x => ⟨by simp [encR, AV.Flat, K.Flat, C.Flat], flc (flat_rw rfl _) (fl0)⟩
end laws_markIntS_s68b2
namespace laws_markText
noncomputable def B0 {ρ : Type} (v1 : Int) (v2 : ByteArray) (W : Int → ByteArray → Option ρ) (K0 : ByteArray → Option ρ) : Option ρ :=
  sel (decide ((0 : Int) < v1)) (chk (okBytes (Vec.lit [⟨(IntKind.wrap .u8 (wr ((48 : Int) + (Int.tmod v1 (10 : Int)))))⟩] : YU)) (chk (decide ((toBytes (Vec.lit [⟨(IntKind.wrap .u8 (wr ((48 : Int) + (Int.tmod v1 (10 : Int)))))⟩] : YU)).size + v2.size ≤ maxN)) (W (wr (Int.tdiv v1 (10 : Int))) ((toBytes (Vec.lit [⟨(IntKind.wrap .u8 (wr ((48 : Int) + (Int.tmod v1 (10 : Int)))))⟩] : YU)) ++ v2)))) (K0 v2)
noncomputable def F0 {ρ : Type} : Nat → Int → ByteArray → (ByteArray → Option ρ) → Option ρ
  | 0, _, _, _ => none
  | k + 1, v1, v2, K0 => B0 v1 v2 (fun v1' v2' => F0 k v1' v2' K0) K0
noncomputable def B {ρ : Type} (L0 : Int → ByteArray → (ByteArray → Option ρ) → Option ρ) (a1 : Int) (K : ByteArray → Option ρ) : Option ρ :=
  sel (decide (a1 ≤ (0 : Int))) (K (ByteArray.mk #[109, 48])) (L0 a1 ByteArray.empty (fun e01 => chk (decide ((ByteArray.mk #[109]).size + e01.size ≤ maxN)) (K ((ByteArray.mk #[109]) ++ e01))))
noncomputable def F (a1 : Int) : Option ByteArray := B (F0 fuelN) a1 (fun x1 => some (x1))
def encA (t : Int) : LA := [vi t]
def encR (x : ByteArray) : AV × LO := (vs x, [])
theorem encAI (a b) (h : encA a = encA b) : a = b := by simpa [encA, encRw_iff] using h
theorem encRI (a b) (h : encR a = encR b) : a = b := by simpa [encR, encRw_iff] using h
noncomputable def Q (args : LA) : Option ByteArray := ofC encA (un1 F) args
theorem wrap : F = fun y1 => Q [vi y1] := by funext y1; exact Eq.symm (ofC_enc encAI _ (y1))
noncomputable abbrev O : Orc := mkO [] [] []
noncomputable def c0 : Code := loopC (atomN [] 0 (bodyOf Tryz.f58) 0)
def ct0 : Cut := ⟨[0, 3], []⟩
def lv0 : Exit → Cut
  | .exit 0 => ⟨[3], []⟩
  | _ => ⟨[], []⟩
def k0_0 {ρ : Type} (K : Exit → St → Option ρ) (z1 : ByteArray) : Option ρ := K (.exit 0) (mkS 20 (lv0 (.exit 0)).live [vs z1] [] [])
noncomputable def L (W0 : (ρ : Type) → LA → LO → (ByteArray → Option ρ) → Option ρ) : Lor := fun ρ j st K => sel (Nat.beq j 0) (cutO Tryz.prog 20 ct0.live 0 [] ct0.cmds st fun avs obs => W0 ρ avs obs (k0_0 K)) (Option.none)
theorem step0 {W0} {ρ : Type} {K : Exit → St → Option ρ} {W : LA → LO → Option ρ} {v1 v2} : exC Tryz.prog O (L W0) [] 1 c0 (mkS 20 ct0.live [vi v1, vs v2] [] []) (bodyK Tryz.prog 20 0 [] ct0 W lv0 K) =
    B0 v1 v2 (fun u1 u2 => W [vi u1, vs u2] []) (k0_0 K) := by kernel_rfl
def enc0 (t : YE) : LA × LO := ([vi t.1, vs t.2], [])
theorem enc0I (a b) (h : enc0 a = enc0 b) : a = b := by simp [enc0, encRw_iff] at h; simp [Prod.ext_iff, h]
noncomputable def V0 : (ρ : Type) → LA → LO → (ByteArray → Option ρ) → Option ρ := fun ρ avs obs k0 => ofC enc0 (fun t => un2 (F0 fuelN) t k0) (avs, obs)
theorem V0_enc (ρ : Type) : F0 fuelN = fun w1 w2 k0 => V0 ρ [vi w1, vs w2] [] k0 := by funext w1 w2 k0; exact Eq.symm (ofC_enc enc0I _ (w1, w2))
theorem main {W0} {ρ : Type} {K : AV → LO → Option ρ} {a1} : exC Tryz.prog O (L W0) [] 0 (bodyOf Tryz.f58) (entry 20 [vi a1] [] []) (finO Tryz.prog Tryz.f58.results.toList 0 [] [] K) =
    B (fun w1 w2 k0 => W0 ρ [vi w1, vs w2] [] k0) a1 (fun x1 => K (vs x1) []) := by kernel_rfl
theorem Gok : O.ok Tryz.prog := mkO_ok (by exact trivial) (by exact trivial)
theorem ok0 : OkL Tryz.prog (L V0) 0 (.loop c0) := fun ρ st K r h => loop_ok (ct := ct0) (lv := lv0) (L := (L V0)) Gok hmT (by rw [show atomsL [] 1 c0 = [] by kernel_rfl]; exact Lor.ok_nil _ _) enc0I (fun k t => un2 (F0 k) t (k0_0 K)) (fun t => rfl) (fun k t => by refine step0.trans ?_; exact congrFun (congrArg (B0 _ _) (fx2 fun t => ofC_enc enc0I _ t)) _) (fun _ => fuelN) h
theorem e : atomsL [] 0 (bodyOf Tryz.f58) = [(0, 0, .loop c0)] := by kernel_rfl
theorem acc : ∀ t x, un1 F t = some x → ACc Tryz.prog 58 (encA t) [] true [] fun rv obs => (rv, obs) = encR x := accT (T := Int) (F := un1 F) (L := (L V0)) (cmds := []) (body := (bodyOf Tryz.f58)) Gok hmT Tryz.func58 (by kernel_rfl) (by kernel_rfl) (by rw [e]; exact Lor.ok_cons ok0 (Lor.ok_nil _ _)) (fun t => by refine main.trans ?_; rw [← V0_enc]; exact congrArg (B _ _) (fx1 fun t => ofC_enc encRI some t))
theorem ac : ∀ a x, Q a = some x → AC Tryz.prog 58 a [] false [] fun rv obs => (rv, obs) = encR x := acF (body := (bodyOf Tryz.f58)) Tryz.func58 (by kernel_rfl) (by kernel_rfl) acc fun x => ⟨by simp [encR, AV.Flat, K.Flat, C.Flat], fl0⟩
end laws_markText
namespace laws_markNameS_s0773
noncomputable def B0 {ρ : Type} (C0 : Int → Option ByteArray) (v1 : Int) (v2 : Int) (v3 : Vec YN) (W : Int → Int → YVN → Option ρ) (K0 : Int → YVN → Option ρ) : Option ρ :=
  sel (decide (v2 < (v3.n : Int))) ((C0 v1).bind fun r1 => chk (decide (0 ≤ v2 ∧ v2 < (v3.n : Int))) (chk (decide (v2.toNat < v3.n)) (chk (decide (0 ≤ v2 ∧ v2 < ((Vec.set v3 v2.toNat (r1, (v3.g v2.toNat).2.1, (v3.g v2.toNat).2.2)).n : Int))) (chk (decide (v2.toNat < (Vec.set v3 v2.toNat (r1, (v3.g v2.toNat).2.1, (v3.g v2.toNat).2.2)).n)) (chk (decide (0 ≤ v2 ∧ v2 < ((Vec.set (Vec.set v3 v2.toNat (r1, (v3.g v2.toNat).2.1, (v3.g v2.toNat).2.2)) v2.toNat (((Vec.set v3 v2.toNat (r1, (v3.g v2.toNat).2.1, (v3.g v2.toNat).2.2)).g v2.toNat).1, (wr (v1 + (1 : Int))), ((Vec.set v3 v2.toNat (r1, (v3.g v2.toNat).2.1, (v3.g v2.toNat).2.2)).g v2.toNat).2.2)).n : Int))) (chk (decide (v2.toNat < (Vec.set (Vec.set v3 v2.toNat (r1, (v3.g v2.toNat).2.1, (v3.g v2.toNat).2.2)) v2.toNat (((Vec.set v3 v2.toNat (r1, (v3.g v2.toNat).2.1, (v3.g v2.toNat).2.2)).g v2.toNat).1, (wr (v1 + (1 : Int))), ((Vec.set v3 v2.toNat (r1, (v3.g v2.toNat).2.1, (v3.g v2.toNat).2.2)).g v2.toNat).2.2)).n)) (W (wr ((wr ((wr (v1 + (1 : Int))) + (1 : Int))) + (1 : Int))) (wr (v2 + (1 : Int))) (Vec.set (Vec.set (Vec.set v3 v2.toNat (r1, (v3.g v2.toNat).2.1, (v3.g v2.toNat).2.2)) v2.toNat (((Vec.set v3 v2.toNat (r1, (v3.g v2.toNat).2.1, (v3.g v2.toNat).2.2)).g v2.toNat).1, (wr (v1 + (1 : Int))), ((Vec.set v3 v2.toNat (r1, (v3.g v2.toNat).2.1, (v3.g v2.toNat).2.2)).g v2.toNat).2.2)) v2.toNat (((Vec.set (Vec.set v3 v2.toNat (r1, (v3.g v2.toNat).2.1, (v3.g v2.toNat).2.2)) v2.toNat (((Vec.set v3 v2.toNat (r1, (v3.g v2.toNat).2.1, (v3.g v2.toNat).2.2)).g v2.toNat).1, (wr (v1 + (1 : Int))), ((Vec.set v3 v2.toNat (r1, (v3.g v2.toNat).2.1, (v3.g v2.toNat).2.2)).g v2.toNat).2.2)).g v2.toNat).1, ((Vec.set (Vec.set v3 v2.toNat (r1, (v3.g v2.toNat).2.1, (v3.g v2.toNat).2.2)) v2.toNat (((Vec.set v3 v2.toNat (r1, (v3.g v2.toNat).2.1, (v3.g v2.toNat).2.2)).g v2.toNat).1, (wr (v1 + (1 : Int))), ((Vec.set v3 v2.toNat (r1, (v3.g v2.toNat).2.1, (v3.g v2.toNat).2.2)).g v2.toNat).2.2)).g v2.toNat).2.1, (wr ((wr (v1 + (1 : Int))) + (1 : Int)))))))))))) (K0 v1 v3)
noncomputable def F0 {ρ : Type} : Nat → Int → Int → YVN → (Int → YVN → Option ρ) → Option ρ
  | 0, _, _, _, _ => none
  | k + 1, v1, v2, v3, K0 => B0 laws_markText.F v1 v2 v3 (fun v1' v2' v3' => F0 k v1' v2' v3' K0) K0
noncomputable def B {ρ : Type} (L0 : Int → Int → YVN → (Int → YVN → Option ρ) → Option ρ) (a1 : Int) (a2 : Vec YN) (K : Int → YVN → Option ρ) : Option ρ :=
  L0 a1 (0 : Int) a2 (fun e01 e02 => K e01 e02)
noncomputable def F (a1 : Int) (a2 : Vec YN) : Option (Int × YVN) := B (F0 fuelN) a1 a2 (fun x1 x2 => some (x1, x2))
def encA (t : Int × YVN) : LA × LO := ([.c (.h 0), vi t.1], [ro t.2])
def encR (x : Int × YVN) : AV × LO := (vi x.1, [ro x.2])
theorem encAI (a b) (h : encA a = encA b) : a = b := by simp [encA, encRw_iff] at h; simp [Prod.ext_iff, h]
theorem encRI (a b) (h : encR a = encR b) : a = b := by simp [encR, encRw_iff] at h; simp [Prod.ext_iff, h]
noncomputable def Q (args : LA) (hin : LO) : Option (Int × YVN) := ofC encA (un2 F) (args, hin)
theorem wrap : F = fun y1 y2 => Q [.c (.h 0), vi y1] [ro y2] := by funext y1 y2; exact Eq.symm (ofC_enc encAI _ (y1, y2))
noncomputable abbrev O (Q0 : LA → Option ByteArray) : Orc := mkO [qE 58 false laws_markText.encR Q0] [] []
noncomputable def c0 : Code := loopC (atomN [] 0 (bodyOf Tryz.f35) 0)
def ct0 : Cut := ⟨[0, 1, 5], []⟩
def lv0 : Exit → Cut
  | .exit 0 => ⟨[1], []⟩
  | _ => ⟨[], []⟩
def k0_0 {ρ : Type} (K : Exit → St → Option ρ) (z1 : Int) (z2 : Vec YN) : Option ρ := K (.exit 0) (mkS 35 (lv0 (.exit 0)).live [vi z1] [ro z2] [true])
noncomputable def L (W0 : (ρ : Type) → LA → LO → (Int → YVN → Option ρ) → Option ρ) : Lor := fun ρ j st K => sel (Nat.beq j 0) (cutO Tryz.prog 35 ct0.live 1 [true] ct0.cmds st fun avs obs => W0 ρ avs obs (k0_0 K)) (Option.none)
theorem step0 {Q0 W0} {ρ : Type} {K : Exit → St → Option ρ} {W : LA → LO → Option ρ} {v1 v2 v3} : exC Tryz.prog (O Q0) (L W0) [] 1 c0 (mkS 35 ct0.live [.c (.h 0), vi v1, vi v2] [ro v3] [true]) (bodyK Tryz.prog 35 1 [true] ct0 W lv0 K) =
    B0 (fun y1 => Q0 [vi y1]) v1 v2 v3 (fun u1 u2 u3 => W [.c (.h 0), vi u1, vi u2] [ro u3]) (k0_0 K) := by kernel_rfl
def enc0 (t : Int × Int × YVN) : LA × LO := ([.c (.h 0), vi t.1, vi t.2.1], [ro t.2.2])
theorem enc0I (a b) (h : enc0 a = enc0 b) : a = b := by simp [enc0, encRw_iff] at h; simp [Prod.ext_iff, h]
noncomputable def V0 : (ρ : Type) → LA → LO → (Int → YVN → Option ρ) → Option ρ := fun ρ avs obs k0 => ofC enc0 (fun t => un3 (F0 fuelN) t k0) (avs, obs)
theorem V0_enc (ρ : Type) : F0 fuelN = fun w1 w2 w3 k0 => V0 ρ [.c (.h 0), vi w1, vi w2] [ro w3] k0 := by funext w1 w2 w3 k0; exact Eq.symm (ofC_enc enc0I _ (w1, w2, w3))
theorem main {Q0 W0} {ρ : Type} {K : AV → LO → Option ρ} {a1 a2} : exC Tryz.prog (O Q0) (L W0) [] 0 (bodyOf Tryz.f35) (entry 35 [.c (.h 0), vi a1] [ro a2] [true]) (finO Tryz.prog Tryz.f35.results.toList 1 [true] [] K) =
    B (fun w1 w2 w3 k0 => W0 ρ [.c (.h 0), vi w1, vi w2] [ro w3] k0) a1 a2 (fun x1 x2 => K (vi x1) [ro x2]) := by kernel_rfl
theorem Gok : (O laws_markText.Q).ok Tryz.prog := mkO_ok (by exact ⟨qE_ok laws_markText.ac, trivial⟩) (by exact trivial)
theorem ok0 : OkL Tryz.prog (L V0) 0 (.loop c0) := fun ρ st K r h => loop_ok (ct := ct0) (lv := lv0) (L := (L V0)) Gok hmT (by rw [show atomsL [] 1 c0 = [] by kernel_rfl]; exact Lor.ok_nil _ _) enc0I (fun k t => un3 (F0 k) t (k0_0 K)) (fun t => rfl) (fun k t => by refine step0.trans ?_; rw [← laws_markText.wrap]; exact congrFun (congrArg (B0 _ _ _ _) (fx3 fun t => ofC_enc enc0I _ t)) _) (fun _ => fuelN) h
theorem e : atomsL [] 0 (bodyOf Tryz.f35) = [(0, 0, .loop c0)] := by kernel_rfl
theorem acc : ∀ t x, un2 F t = some x → ACc Tryz.prog 35 (encA t).1 (encA t).2 true [true] fun rv obs => (rv, obs) = encR x := accT2 (T := Int × YVN) (F := un2 F) (L := (L V0)) (cmds := []) (body := (bodyOf Tryz.f35)) 1 (fun _ => rfl) Gok hmT Tryz.func35 (by kernel_rfl) (by kernel_rfl) (by rw [e]; exact Lor.ok_cons ok0 (Lor.ok_nil _ _)) (fun t => by refine main.trans ?_; rw [← V0_enc]; exact congrArg (B _ _ _) (fx2 fun t => ofC_enc encRI some t))
theorem ac : ∀ a h x, Q a h = some x → AC Tryz.prog 35 a h false [true] fun rv obs => (rv, obs) = encR x := acF2 (body := (bodyOf Tryz.f35)) Tryz.func35 (by kernel_rfl) (by kernel_rfl) acc fun x => ⟨by simp [encR, AV.Flat, K.Flat, C.Flat], flc (flat_rw rfl _) (fl0)⟩
end laws_markNameS_s0773
namespace laws_markCommitS_sffd8
noncomputable def B0 {ρ : Type} (C0 : Int → YI → Option (Int × Vec Int)) (C1 : Int → Option ByteArray) (C2 : Int → YVN → Option (Int × YVN)) (v1 : Int) (v2 : Int) (v3 : Vec YC) (W : Int → Int → YVC → Option ρ) (K0 : Int → YVC → Option ρ) : Option ρ :=
  sel (decide (v2 < (v3.n : Int))) (chk (decide (0 ≤ v2 ∧ v2 < (v3.n : Int))) (chk (decide (v2.toNat < v3.n)) ((C0 v1 ((v3.g v2.toNat).1)).bind fun r1 => (C1 r1.1).bind fun r2 => chk (decide (0 ≤ v2 ∧ v2 < ((Vec.set v3 v2.toNat (r1.2, (v3.g v2.toNat).2.1, (v3.g v2.toNat).2.2)).n : Int))) (chk (decide (v2.toNat < (Vec.set v3 v2.toNat (r1.2, (v3.g v2.toNat).2.1, (v3.g v2.toNat).2.2)).n)) (chk (decide (0 ≤ v2 ∧ v2 < ((Vec.set (Vec.set v3 v2.toNat (r1.2, (v3.g v2.toNat).2.1, (v3.g v2.toNat).2.2)) v2.toNat (((Vec.set v3 v2.toNat (r1.2, (v3.g v2.toNat).2.1, (v3.g v2.toNat).2.2)).g v2.toNat).1, r2, ((Vec.set v3 v2.toNat (r1.2, (v3.g v2.toNat).2.1, (v3.g v2.toNat).2.2)).g v2.toNat).2.2)).n : Int))) (chk (decide (v2.toNat < (Vec.set (Vec.set v3 v2.toNat (r1.2, (v3.g v2.toNat).2.1, (v3.g v2.toNat).2.2)) v2.toNat (((Vec.set v3 v2.toNat (r1.2, (v3.g v2.toNat).2.1, (v3.g v2.toNat).2.2)).g v2.toNat).1, r2, ((Vec.set v3 v2.toNat (r1.2, (v3.g v2.toNat).2.1, (v3.g v2.toNat).2.2)).g v2.toNat).2.2)).n)) ((C2 (wr (r1.1 + (1 : Int))) (((Vec.set (Vec.set v3 v2.toNat (r1.2, (v3.g v2.toNat).2.1, (v3.g v2.toNat).2.2)) v2.toNat (((Vec.set v3 v2.toNat (r1.2, (v3.g v2.toNat).2.1, (v3.g v2.toNat).2.2)).g v2.toNat).1, r2, ((Vec.set v3 v2.toNat (r1.2, (v3.g v2.toNat).2.1, (v3.g v2.toNat).2.2)).g v2.toNat).2.2)).g v2.toNat).2.2)).bind fun r3 => W r3.1 (wr (v2 + (1 : Int))) (Vec.set (Vec.set (Vec.set v3 v2.toNat (r1.2, (v3.g v2.toNat).2.1, (v3.g v2.toNat).2.2)) v2.toNat (((Vec.set v3 v2.toNat (r1.2, (v3.g v2.toNat).2.1, (v3.g v2.toNat).2.2)).g v2.toNat).1, r2, ((Vec.set v3 v2.toNat (r1.2, (v3.g v2.toNat).2.1, (v3.g v2.toNat).2.2)).g v2.toNat).2.2)) v2.toNat (((Vec.set (Vec.set v3 v2.toNat (r1.2, (v3.g v2.toNat).2.1, (v3.g v2.toNat).2.2)) v2.toNat (((Vec.set v3 v2.toNat (r1.2, (v3.g v2.toNat).2.1, (v3.g v2.toNat).2.2)).g v2.toNat).1, r2, ((Vec.set v3 v2.toNat (r1.2, (v3.g v2.toNat).2.1, (v3.g v2.toNat).2.2)).g v2.toNat).2.2)).g v2.toNat).1, ((Vec.set (Vec.set v3 v2.toNat (r1.2, (v3.g v2.toNat).2.1, (v3.g v2.toNat).2.2)) v2.toNat (((Vec.set v3 v2.toNat (r1.2, (v3.g v2.toNat).2.1, (v3.g v2.toNat).2.2)).g v2.toNat).1, r2, ((Vec.set v3 v2.toNat (r1.2, (v3.g v2.toNat).2.1, (v3.g v2.toNat).2.2)).g v2.toNat).2.2)).g v2.toNat).2.1, r3.2))))))))) (K0 v1 v3)
noncomputable def F0 {ρ : Type} : Nat → Int → Int → YVC → (Int → YVC → Option ρ) → Option ρ
  | 0, _, _, _, _ => none
  | k + 1, v1, v2, v3, K0 => B0 laws_markIntS_s68b2.F laws_markText.F laws_markNameS_s0773.F v1 v2 v3 (fun v1' v2' v3' => F0 k v1' v2' v3' K0) K0
noncomputable def B {ρ : Type} (L0 : Int → Int → YVC → (Int → YVC → Option ρ) → Option ρ) (a1 : Int) (a2 : Vec YC) (K : Int → YVC → Option ρ) : Option ρ :=
  L0 a1 (0 : Int) a2 (fun e01 e02 => K e01 e02)
noncomputable def F (a1 : Int) (a2 : Vec YC) : Option (Int × YVC) := B (F0 fuelN) a1 a2 (fun x1 x2 => some (x1, x2))
def encA (t : Int × YVC) : LA × LO := ([.c (.h 0), vi t.1], [ro t.2])
def encR (x : Int × YVC) : AV × LO := (vi x.1, [ro x.2])
theorem encAI (a b) (h : encA a = encA b) : a = b := by simp [encA, encRw_iff] at h; simp [Prod.ext_iff, h]
theorem encRI (a b) (h : encR a = encR b) : a = b := by simp [encR, encRw_iff] at h; simp [Prod.ext_iff, h]
noncomputable def Q (args : LA) (hin : LO) : Option (Int × YVC) := ofC encA (un2 F) (args, hin)
theorem wrap : F = fun y1 y2 => Q [.c (.h 0), vi y1] [ro y2] := by funext y1 y2; exact Eq.symm (ofC_enc encAI _ (y1, y2))
noncomputable abbrev O (Q1 : LA → Option ByteArray) (Q0 : LA → LO → Option (Int × Vec Int)) (Q2 : LA → LO → Option (Int × YVN)) : Orc := mkO [qE 58 false laws_markText.encR Q1] [eE Tryz.prog 34 [true, false] false [true] laws_markIntS_s68b2.encR Q0, eE Tryz.prog 35 [true, false] false [true] laws_markNameS_s0773.encR Q2] [16, 31]
noncomputable def c0 : Code := loopC (atomN [] 0 (bodyOf Tryz.f32) 0)
def ct0 : Cut := ⟨[0, 1, 5], []⟩
def lv0 : Exit → Cut
  | .exit 0 => ⟨[1], []⟩
  | _ => ⟨[], []⟩
def k0_0 {ρ : Type} (K : Exit → St → Option ρ) (z1 : Int) (z2 : Vec YC) : Option ρ := K (.exit 0) (mkS 35 (lv0 (.exit 0)).live [vi z1] [ro z2] [true])
noncomputable def L (W0 : (ρ : Type) → LA → LO → (Int → YVC → Option ρ) → Option ρ) : Lor := fun ρ j st K => sel (Nat.beq j 0) (cutO Tryz.prog 35 ct0.live 1 [true] ct0.cmds st fun avs obs => W0 ρ avs obs (k0_0 K)) (Option.none)
theorem step0 {Q0 Q1 Q2 W0} {ρ : Type} {K : Exit → St → Option ρ} {W : LA → LO → Option ρ} {v1 v2 v3} : exC Tryz.prog (O Q1 Q0 Q2) (L W0) [] 1 c0 (mkS 35 ct0.live [.c (.h 0), vi v1, vi v2] [ro v3] [true]) (bodyK Tryz.prog 35 1 [true] ct0 W lv0 K) =
    B0 (fun y1 y2 => Q0 [.c (.h 0), vi y1] [ro y2]) (fun y1 => Q1 [vi y1]) (fun y1 y2 => Q2 [.c (.h 0), vi y1] [ro y2]) v1 v2 v3 (fun u1 u2 u3 => W [.c (.h 0), vi u1, vi u2] [ro u3]) (k0_0 K) := by kernel_rfl
def enc0 (t : Int × Int × YVC) : LA × LO := ([.c (.h 0), vi t.1, vi t.2.1], [ro t.2.2])
theorem enc0I (a b) (h : enc0 a = enc0 b) : a = b := by simp [enc0, encRw_iff] at h; simp [Prod.ext_iff, h]
noncomputable def V0 : (ρ : Type) → LA → LO → (Int → YVC → Option ρ) → Option ρ := fun ρ avs obs k0 => ofC enc0 (fun t => un3 (F0 fuelN) t k0) (avs, obs)
theorem V0_enc (ρ : Type) : F0 fuelN = fun w1 w2 w3 k0 => V0 ρ [.c (.h 0), vi w1, vi w2] [ro w3] k0 := by funext w1 w2 w3 k0; exact Eq.symm (ofC_enc enc0I _ (w1, w2, w3))
theorem main {Q0 Q1 Q2 W0} {ρ : Type} {K : AV → LO → Option ρ} {a1 a2} : exC Tryz.prog (O Q1 Q0 Q2) (L W0) [] 0 (bodyOf Tryz.f32) (entry 35 [.c (.h 0), vi a1] [ro a2] [true]) (finO Tryz.prog Tryz.f32.results.toList 1 [true] [] K) =
    B (fun w1 w2 w3 k0 => W0 ρ [.c (.h 0), vi w1, vi w2] [ro w3] k0) a1 a2 (fun x1 x2 => K (vi x1) [ro x2]) := by kernel_rfl
theorem Gok : (O laws_markText.Q laws_markIntS_s68b2.Q laws_markNameS_s0773.Q).ok Tryz.prog := mkO_ok (by exact ⟨qE_ok laws_markText.ac, trivial⟩) (by exact ⟨eE_ok (fun h => by cases h) laws_markIntS_s68b2.ac, eE_ok (fun h => by cases h) laws_markNameS_s0773.ac, trivial⟩)
theorem ok0 : OkL Tryz.prog (L V0) 0 (.loop c0) := fun ρ st K r h => loop_ok (ct := ct0) (lv := lv0) (L := (L V0)) Gok hmT (by rw [show atomsL [] 1 c0 = [] by kernel_rfl]; exact Lor.ok_nil _ _) enc0I (fun k t => un3 (F0 k) t (k0_0 K)) (fun t => rfl) (fun k t => by refine step0.trans ?_; rw [← laws_markIntS_s68b2.wrap, ← laws_markText.wrap, ← laws_markNameS_s0773.wrap]; exact congrFun (congrArg (B0 _ _ _ _ _ _) (fx3 fun t => ofC_enc enc0I _ t)) _) (fun _ => fuelN) h
theorem e : atomsL [] 0 (bodyOf Tryz.f32) = [(0, 0, .loop c0)] := by kernel_rfl
theorem acc : ∀ t x, un2 F t = some x → ACc Tryz.prog 32 (encA t).1 (encA t).2 true [true] fun rv obs => (rv, obs) = encR x := accT2 (T := Int × YVC) (F := un2 F) (L := (L V0)) (cmds := []) (body := (bodyOf Tryz.f32)) 1 (fun _ => rfl) Gok hmT Tryz.func32 (by kernel_rfl) (by kernel_rfl) (by rw [e]; exact Lor.ok_cons ok0 (Lor.ok_nil _ _)) (fun t => by refine main.trans ?_; rw [← V0_enc]; exact congrArg (B _ _ _) (fx2 fun t => ofC_enc encRI some t))
theorem ac : ∀ a h x, Q a h = some x → AC Tryz.prog 32 a h false [true] fun rv obs => (rv, obs) = encR x := acF2 (body := (bodyOf Tryz.f32)) Tryz.func32 (by kernel_rfl) (by kernel_rfl) acc fun x => ⟨by simp [encR, AV.Flat, K.Flat, C.Flat], flc (flat_rw rfl _) (fl0)⟩
end laws_markCommitS_sffd8
namespace laws_markIntSS_s45a1
noncomputable def B0 {ρ : Type} (C0 : Int → YI → Option (Int × Vec Int)) (v1 : Int) (v2 : Int) (v3 : Vec YI) (W : Int → Int → YG → Option ρ) (K0 : Int → YG → Option ρ) : Option ρ :=
  sel (decide (v2 < (v3.n : Int))) (chk (decide (0 ≤ v2 ∧ v2 < (v3.n : Int))) (chk (decide (v2.toNat < v3.n)) ((C0 v1 (v3.g v2.toNat)).bind fun r1 => W r1.1 (wr (v2 + (1 : Int))) (Vec.set v3 v2.toNat r1.2)))) (K0 v1 v3)
noncomputable def F0 {ρ : Type} : Nat → Int → Int → YG → (Int → YG → Option ρ) → Option ρ
  | 0, _, _, _, _ => none
  | k + 1, v1, v2, v3, K0 => B0 laws_markIntS_s68b2.F v1 v2 v3 (fun v1' v2' v3' => F0 k v1' v2' v3' K0) K0
noncomputable def B {ρ : Type} (L0 : Int → Int → YG → (Int → YG → Option ρ) → Option ρ) (a1 : Int) (a2 : Vec YI) (K : Int → YG → Option ρ) : Option ρ :=
  L0 a1 (0 : Int) a2 (fun e01 e02 => K e01 e02)
noncomputable def F (a1 : Int) (a2 : Vec YI) : Option (Int × Vec YI) := B (F0 fuelN) a1 a2 (fun x1 x2 => some (x1, x2))
def encA (t : Int × Vec YI) : LA × LO := ([.c (.h 0), vi t.1], [ro t.2])
def encR (x : Int × Vec YI) : AV × LO := (vi x.1, [ro x.2])
theorem encAI (a b) (h : encA a = encA b) : a = b := by simp [encA, encRw_iff] at h; simp [Prod.ext_iff, h]
theorem encRI (a b) (h : encR a = encR b) : a = b := by simp [encR, encRw_iff] at h; simp [Prod.ext_iff, h]
noncomputable def Q (args : LA) (hin : LO) : Option (Int × Vec YI) := ofC encA (un2 F) (args, hin)
theorem wrap : F = fun y1 y2 => Q [.c (.h 0), vi y1] [ro y2] := by funext y1 y2; exact Eq.symm (ofC_enc encAI _ (y1, y2))
noncomputable abbrev O (Q0 : LA → LO → Option (Int × Vec Int)) : Orc := mkO [] [eE Tryz.prog 34 [true, false] false [true] laws_markIntS_s68b2.encR Q0] [15]
noncomputable def c0 : Code := loopC (atomN [] 0 (bodyOf Tryz.f83) 0)
def ct0 : Cut := ⟨[0, 1, 5], []⟩
def lv0 : Exit → Cut
  | .exit 0 => ⟨[1], []⟩
  | _ => ⟨[], []⟩
def k0_0 {ρ : Type} (K : Exit → St → Option ρ) (z1 : Int) (z2 : Vec YI) : Option ρ := K (.exit 0) (mkS 19 (lv0 (.exit 0)).live [vi z1] [ro z2] [true])
noncomputable def L (W0 : (ρ : Type) → LA → LO → (Int → YG → Option ρ) → Option ρ) : Lor := fun ρ j st K => sel (Nat.beq j 0) (cutO Tryz.prog 19 ct0.live 1 [true] ct0.cmds st fun avs obs => W0 ρ avs obs (k0_0 K)) (Option.none)
theorem step0 {Q0 W0} {ρ : Type} {K : Exit → St → Option ρ} {W : LA → LO → Option ρ} {v1 v2 v3} : exC Tryz.prog (O Q0) (L W0) [] 1 c0 (mkS 19 ct0.live [.c (.h 0), vi v1, vi v2] [ro v3] [true]) (bodyK Tryz.prog 19 1 [true] ct0 W lv0 K) =
    B0 (fun y1 y2 => Q0 [.c (.h 0), vi y1] [ro y2]) v1 v2 v3 (fun u1 u2 u3 => W [.c (.h 0), vi u1, vi u2] [ro u3]) (k0_0 K) := by kernel_rfl
def enc0 (t : Int × Int × Vec YI) : LA × LO := ([.c (.h 0), vi t.1, vi t.2.1], [ro t.2.2])
theorem enc0I (a b) (h : enc0 a = enc0 b) : a = b := by simp [enc0, encRw_iff] at h; simp [Prod.ext_iff, h]
noncomputable def V0 : (ρ : Type) → LA → LO → (Int → YG → Option ρ) → Option ρ := fun ρ avs obs k0 => ofC enc0 (fun t => un3 (F0 fuelN) t k0) (avs, obs)
theorem V0_enc (ρ : Type) : F0 fuelN = fun w1 w2 w3 k0 => V0 ρ [.c (.h 0), vi w1, vi w2] [ro w3] k0 := by funext w1 w2 w3 k0; exact Eq.symm (ofC_enc enc0I _ (w1, w2, w3))
theorem main {Q0 W0} {ρ : Type} {K : AV → LO → Option ρ} {a1 a2} : exC Tryz.prog (O Q0) (L W0) [] 0 (bodyOf Tryz.f83) (entry 19 [.c (.h 0), vi a1] [ro a2] [true]) (finO Tryz.prog Tryz.f83.results.toList 1 [true] [] K) =
    B (fun w1 w2 w3 k0 => W0 ρ [.c (.h 0), vi w1, vi w2] [ro w3] k0) a1 a2 (fun x1 x2 => K (vi x1) [ro x2]) := by kernel_rfl
theorem Gok : (O laws_markIntS_s68b2.Q).ok Tryz.prog := mkO_ok (by exact trivial) (by exact ⟨eE_ok (fun h => by cases h) laws_markIntS_s68b2.ac, trivial⟩)
theorem ok0 : OkL Tryz.prog (L V0) 0 (.loop c0) := fun ρ st K r h => loop_ok (ct := ct0) (lv := lv0) (L := (L V0)) Gok hmT (by rw [show atomsL [] 1 c0 = [] by kernel_rfl]; exact Lor.ok_nil _ _) enc0I (fun k t => un3 (F0 k) t (k0_0 K)) (fun t => rfl) (fun k t => by refine step0.trans ?_; rw [← laws_markIntS_s68b2.wrap]; exact congrFun (congrArg (B0 _ _ _ _) (fx3 fun t => ofC_enc enc0I _ t)) _) (fun _ => fuelN) h
theorem e : atomsL [] 0 (bodyOf Tryz.f83) = [(0, 0, .loop c0)] := by kernel_rfl
theorem acc : ∀ t x, un2 F t = some x → ACc Tryz.prog 83 (encA t).1 (encA t).2 true [true] fun rv obs => (rv, obs) = encR x := accT2 (T := Int × Vec YI) (F := un2 F) (L := (L V0)) (cmds := []) (body := (bodyOf Tryz.f83)) 1 (fun _ => rfl) Gok hmT Tryz.func83 (by kernel_rfl) (by kernel_rfl) (by rw [e]; exact Lor.ok_cons ok0 (Lor.ok_nil _ _)) (fun t => by refine main.trans ?_; rw [← V0_enc]; exact congrArg (B _ _ _) (fx2 fun t => ofC_enc encRI some t))
theorem ac : ∀ a h x, Q a h = some x → AC Tryz.prog 83 a h false [true] fun rv obs => (rv, obs) = encR x := acF2 (body := (bodyOf Tryz.f83)) Tryz.func83 (by kernel_rfl) (by kernel_rfl) acc fun x => ⟨by simp [encR, AV.Flat, K.Flat, C.Flat], flc (flat_rw rfl _) (fl0)⟩
end laws_markIntSS_s45a1
namespace laws_markBodyS_s669a
noncomputable def B0 {ρ : Type} (C0 : Int → Option ByteArray) (C1 : Int → YI → Option (Int × Vec Int)) (v1 : Int) (v2 : Int) (v3 : Vec YB) (W : Int → Int → YVB → Option ρ) (K0 : Int → YVB → Option ρ) : Option ρ :=
  let d1 := (wr (v1 + (1 : Int)))
  sel (decide (v2 < (v3.n : Int))) ((C0 v1).bind fun r1 => chk (decide (0 ≤ v2 ∧ v2 < (v3.n : Int))) (chk (decide (v2.toNat < v3.n)) (chk (decide (0 ≤ v2 ∧ v2 < ((Vec.set v3 v2.toNat (r1, (v3.g v2.toNat).2.1, (v3.g v2.toNat).2.2.1, (v3.g v2.toNat).2.2.2)).n : Int))) (chk (decide (v2.toNat < (Vec.set v3 v2.toNat (r1, (v3.g v2.toNat).2.1, (v3.g v2.toNat).2.2.1, (v3.g v2.toNat).2.2.2)).n)) (chk (decide (0 ≤ v2 ∧ v2 < ((Vec.set (Vec.set v3 v2.toNat (r1, (v3.g v2.toNat).2.1, (v3.g v2.toNat).2.2.1, (v3.g v2.toNat).2.2.2)) v2.toNat (((Vec.set v3 v2.toNat (r1, (v3.g v2.toNat).2.1, (v3.g v2.toNat).2.2.1, (v3.g v2.toNat).2.2.2)).g v2.toNat).1, d1, ((Vec.set v3 v2.toNat (r1, (v3.g v2.toNat).2.1, (v3.g v2.toNat).2.2.1, (v3.g v2.toNat).2.2.2)).g v2.toNat).2.2.1, ((Vec.set v3 v2.toNat (r1, (v3.g v2.toNat).2.1, (v3.g v2.toNat).2.2.1, (v3.g v2.toNat).2.2.2)).g v2.toNat).2.2.2)).n : Int))) (chk (decide (v2.toNat < (Vec.set (Vec.set v3 v2.toNat (r1, (v3.g v2.toNat).2.1, (v3.g v2.toNat).2.2.1, (v3.g v2.toNat).2.2.2)) v2.toNat (((Vec.set v3 v2.toNat (r1, (v3.g v2.toNat).2.1, (v3.g v2.toNat).2.2.1, (v3.g v2.toNat).2.2.2)).g v2.toNat).1, d1, ((Vec.set v3 v2.toNat (r1, (v3.g v2.toNat).2.1, (v3.g v2.toNat).2.2.1, (v3.g v2.toNat).2.2.2)).g v2.toNat).2.2.1, ((Vec.set v3 v2.toNat (r1, (v3.g v2.toNat).2.1, (v3.g v2.toNat).2.2.1, (v3.g v2.toNat).2.2.2)).g v2.toNat).2.2.2)).n)) (chk (decide (0 ≤ v2 ∧ v2 < ((Vec.set (Vec.set (Vec.set v3 v2.toNat (r1, (v3.g v2.toNat).2.1, (v3.g v2.toNat).2.2.1, (v3.g v2.toNat).2.2.2)) v2.toNat (((Vec.set v3 v2.toNat (r1, (v3.g v2.toNat).2.1, (v3.g v2.toNat).2.2.1, (v3.g v2.toNat).2.2.2)).g v2.toNat).1, d1, ((Vec.set v3 v2.toNat (r1, (v3.g v2.toNat).2.1, (v3.g v2.toNat).2.2.1, (v3.g v2.toNat).2.2.2)).g v2.toNat).2.2.1, ((Vec.set v3 v2.toNat (r1, (v3.g v2.toNat).2.1, (v3.g v2.toNat).2.2.1, (v3.g v2.toNat).2.2.2)).g v2.toNat).2.2.2)) v2.toNat (((Vec.set (Vec.set v3 v2.toNat (r1, (v3.g v2.toNat).2.1, (v3.g v2.toNat).2.2.1, (v3.g v2.toNat).2.2.2)) v2.toNat (((Vec.set v3 v2.toNat (r1, (v3.g v2.toNat).2.1, (v3.g v2.toNat).2.2.1, (v3.g v2.toNat).2.2.2)).g v2.toNat).1, d1, ((Vec.set v3 v2.toNat (r1, (v3.g v2.toNat).2.1, (v3.g v2.toNat).2.2.1, (v3.g v2.toNat).2.2.2)).g v2.toNat).2.2.1, ((Vec.set v3 v2.toNat (r1, (v3.g v2.toNat).2.1, (v3.g v2.toNat).2.2.1, (v3.g v2.toNat).2.2.2)).g v2.toNat).2.2.2)).g v2.toNat).1, ((Vec.set (Vec.set v3 v2.toNat (r1, (v3.g v2.toNat).2.1, (v3.g v2.toNat).2.2.1, (v3.g v2.toNat).2.2.2)) v2.toNat (((Vec.set v3 v2.toNat (r1, (v3.g v2.toNat).2.1, (v3.g v2.toNat).2.2.1, (v3.g v2.toNat).2.2.2)).g v2.toNat).1, d1, ((Vec.set v3 v2.toNat (r1, (v3.g v2.toNat).2.1, (v3.g v2.toNat).2.2.1, (v3.g v2.toNat).2.2.2)).g v2.toNat).2.2.1, ((Vec.set v3 v2.toNat (r1, (v3.g v2.toNat).2.1, (v3.g v2.toNat).2.2.1, (v3.g v2.toNat).2.2.2)).g v2.toNat).2.2.2)).g v2.toNat).2.1, (wr (d1 + (1 : Int))), ((Vec.set (Vec.set v3 v2.toNat (r1, (v3.g v2.toNat).2.1, (v3.g v2.toNat).2.2.1, (v3.g v2.toNat).2.2.2)) v2.toNat (((Vec.set v3 v2.toNat (r1, (v3.g v2.toNat).2.1, (v3.g v2.toNat).2.2.1, (v3.g v2.toNat).2.2.2)).g v2.toNat).1, d1, ((Vec.set v3 v2.toNat (r1, (v3.g v2.toNat).2.1, (v3.g v2.toNat).2.2.1, (v3.g v2.toNat).2.2.2)).g v2.toNat).2.2.1, ((Vec.set v3 v2.toNat (r1, (v3.g v2.toNat).2.1, (v3.g v2.toNat).2.2.1, (v3.g v2.toNat).2.2.2)).g v2.toNat).2.2.2)).g v2.toNat).2.2.2)).n : Int))) (chk (decide (v2.toNat < (Vec.set (Vec.set (Vec.set v3 v2.toNat (r1, (v3.g v2.toNat).2.1, (v3.g v2.toNat).2.2.1, (v3.g v2.toNat).2.2.2)) v2.toNat (((Vec.set v3 v2.toNat (r1, (v3.g v2.toNat).2.1, (v3.g v2.toNat).2.2.1, (v3.g v2.toNat).2.2.2)).g v2.toNat).1, d1, ((Vec.set v3 v2.toNat (r1, (v3.g v2.toNat).2.1, (v3.g v2.toNat).2.2.1, (v3.g v2.toNat).2.2.2)).g v2.toNat).2.2.1, ((Vec.set v3 v2.toNat (r1, (v3.g v2.toNat).2.1, (v3.g v2.toNat).2.2.1, (v3.g v2.toNat).2.2.2)).g v2.toNat).2.2.2)) v2.toNat (((Vec.set (Vec.set v3 v2.toNat (r1, (v3.g v2.toNat).2.1, (v3.g v2.toNat).2.2.1, (v3.g v2.toNat).2.2.2)) v2.toNat (((Vec.set v3 v2.toNat (r1, (v3.g v2.toNat).2.1, (v3.g v2.toNat).2.2.1, (v3.g v2.toNat).2.2.2)).g v2.toNat).1, d1, ((Vec.set v3 v2.toNat (r1, (v3.g v2.toNat).2.1, (v3.g v2.toNat).2.2.1, (v3.g v2.toNat).2.2.2)).g v2.toNat).2.2.1, ((Vec.set v3 v2.toNat (r1, (v3.g v2.toNat).2.1, (v3.g v2.toNat).2.2.1, (v3.g v2.toNat).2.2.2)).g v2.toNat).2.2.2)).g v2.toNat).1, ((Vec.set (Vec.set v3 v2.toNat (r1, (v3.g v2.toNat).2.1, (v3.g v2.toNat).2.2.1, (v3.g v2.toNat).2.2.2)) v2.toNat (((Vec.set v3 v2.toNat (r1, (v3.g v2.toNat).2.1, (v3.g v2.toNat).2.2.1, (v3.g v2.toNat).2.2.2)).g v2.toNat).1, d1, ((Vec.set v3 v2.toNat (r1, (v3.g v2.toNat).2.1, (v3.g v2.toNat).2.2.1, (v3.g v2.toNat).2.2.2)).g v2.toNat).2.2.1, ((Vec.set v3 v2.toNat (r1, (v3.g v2.toNat).2.1, (v3.g v2.toNat).2.2.1, (v3.g v2.toNat).2.2.2)).g v2.toNat).2.2.2)).g v2.toNat).2.1, (wr (d1 + (1 : Int))), ((Vec.set (Vec.set v3 v2.toNat (r1, (v3.g v2.toNat).2.1, (v3.g v2.toNat).2.2.1, (v3.g v2.toNat).2.2.2)) v2.toNat (((Vec.set v3 v2.toNat (r1, (v3.g v2.toNat).2.1, (v3.g v2.toNat).2.2.1, (v3.g v2.toNat).2.2.2)).g v2.toNat).1, d1, ((Vec.set v3 v2.toNat (r1, (v3.g v2.toNat).2.1, (v3.g v2.toNat).2.2.1, (v3.g v2.toNat).2.2.2)).g v2.toNat).2.2.1, ((Vec.set v3 v2.toNat (r1, (v3.g v2.toNat).2.1, (v3.g v2.toNat).2.2.1, (v3.g v2.toNat).2.2.2)).g v2.toNat).2.2.2)).g v2.toNat).2.2.2)).n)) ((C1 (wr ((wr (d1 + (1 : Int))) + (1 : Int))) (((Vec.set (Vec.set (Vec.set v3 v2.toNat (r1, (v3.g v2.toNat).2.1, (v3.g v2.toNat).2.2.1, (v3.g v2.toNat).2.2.2)) v2.toNat (((Vec.set v3 v2.toNat (r1, (v3.g v2.toNat).2.1, (v3.g v2.toNat).2.2.1, (v3.g v2.toNat).2.2.2)).g v2.toNat).1, d1, ((Vec.set v3 v2.toNat (r1, (v3.g v2.toNat).2.1, (v3.g v2.toNat).2.2.1, (v3.g v2.toNat).2.2.2)).g v2.toNat).2.2.1, ((Vec.set v3 v2.toNat (r1, (v3.g v2.toNat).2.1, (v3.g v2.toNat).2.2.1, (v3.g v2.toNat).2.2.2)).g v2.toNat).2.2.2)) v2.toNat (((Vec.set (Vec.set v3 v2.toNat (r1, (v3.g v2.toNat).2.1, (v3.g v2.toNat).2.2.1, (v3.g v2.toNat).2.2.2)) v2.toNat (((Vec.set v3 v2.toNat (r1, (v3.g v2.toNat).2.1, (v3.g v2.toNat).2.2.1, (v3.g v2.toNat).2.2.2)).g v2.toNat).1, d1, ((Vec.set v3 v2.toNat (r1, (v3.g v2.toNat).2.1, (v3.g v2.toNat).2.2.1, (v3.g v2.toNat).2.2.2)).g v2.toNat).2.2.1, ((Vec.set v3 v2.toNat (r1, (v3.g v2.toNat).2.1, (v3.g v2.toNat).2.2.1, (v3.g v2.toNat).2.2.2)).g v2.toNat).2.2.2)).g v2.toNat).1, ((Vec.set (Vec.set v3 v2.toNat (r1, (v3.g v2.toNat).2.1, (v3.g v2.toNat).2.2.1, (v3.g v2.toNat).2.2.2)) v2.toNat (((Vec.set v3 v2.toNat (r1, (v3.g v2.toNat).2.1, (v3.g v2.toNat).2.2.1, (v3.g v2.toNat).2.2.2)).g v2.toNat).1, d1, ((Vec.set v3 v2.toNat (r1, (v3.g v2.toNat).2.1, (v3.g v2.toNat).2.2.1, (v3.g v2.toNat).2.2.2)).g v2.toNat).2.2.1, ((Vec.set v3 v2.toNat (r1, (v3.g v2.toNat).2.1, (v3.g v2.toNat).2.2.1, (v3.g v2.toNat).2.2.2)).g v2.toNat).2.2.2)).g v2.toNat).2.1, (wr (d1 + (1 : Int))), ((Vec.set (Vec.set v3 v2.toNat (r1, (v3.g v2.toNat).2.1, (v3.g v2.toNat).2.2.1, (v3.g v2.toNat).2.2.2)) v2.toNat (((Vec.set v3 v2.toNat (r1, (v3.g v2.toNat).2.1, (v3.g v2.toNat).2.2.1, (v3.g v2.toNat).2.2.2)).g v2.toNat).1, d1, ((Vec.set v3 v2.toNat (r1, (v3.g v2.toNat).2.1, (v3.g v2.toNat).2.2.1, (v3.g v2.toNat).2.2.2)).g v2.toNat).2.2.1, ((Vec.set v3 v2.toNat (r1, (v3.g v2.toNat).2.1, (v3.g v2.toNat).2.2.1, (v3.g v2.toNat).2.2.2)).g v2.toNat).2.2.2)).g v2.toNat).2.2.2)).g v2.toNat).2.2.2)).bind fun r2 => W r2.1 (wr (v2 + (1 : Int))) (Vec.set (Vec.set (Vec.set (Vec.set v3 v2.toNat (r1, (v3.g v2.toNat).2.1, (v3.g v2.toNat).2.2.1, (v3.g v2.toNat).2.2.2)) v2.toNat (((Vec.set v3 v2.toNat (r1, (v3.g v2.toNat).2.1, (v3.g v2.toNat).2.2.1, (v3.g v2.toNat).2.2.2)).g v2.toNat).1, d1, ((Vec.set v3 v2.toNat (r1, (v3.g v2.toNat).2.1, (v3.g v2.toNat).2.2.1, (v3.g v2.toNat).2.2.2)).g v2.toNat).2.2.1, ((Vec.set v3 v2.toNat (r1, (v3.g v2.toNat).2.1, (v3.g v2.toNat).2.2.1, (v3.g v2.toNat).2.2.2)).g v2.toNat).2.2.2)) v2.toNat (((Vec.set (Vec.set v3 v2.toNat (r1, (v3.g v2.toNat).2.1, (v3.g v2.toNat).2.2.1, (v3.g v2.toNat).2.2.2)) v2.toNat (((Vec.set v3 v2.toNat (r1, (v3.g v2.toNat).2.1, (v3.g v2.toNat).2.2.1, (v3.g v2.toNat).2.2.2)).g v2.toNat).1, d1, ((Vec.set v3 v2.toNat (r1, (v3.g v2.toNat).2.1, (v3.g v2.toNat).2.2.1, (v3.g v2.toNat).2.2.2)).g v2.toNat).2.2.1, ((Vec.set v3 v2.toNat (r1, (v3.g v2.toNat).2.1, (v3.g v2.toNat).2.2.1, (v3.g v2.toNat).2.2.2)).g v2.toNat).2.2.2)).g v2.toNat).1, ((Vec.set (Vec.set v3 v2.toNat (r1, (v3.g v2.toNat).2.1, (v3.g v2.toNat).2.2.1, (v3.g v2.toNat).2.2.2)) v2.toNat (((Vec.set v3 v2.toNat (r1, (v3.g v2.toNat).2.1, (v3.g v2.toNat).2.2.1, (v3.g v2.toNat).2.2.2)).g v2.toNat).1, d1, ((Vec.set v3 v2.toNat (r1, (v3.g v2.toNat).2.1, (v3.g v2.toNat).2.2.1, (v3.g v2.toNat).2.2.2)).g v2.toNat).2.2.1, ((Vec.set v3 v2.toNat (r1, (v3.g v2.toNat).2.1, (v3.g v2.toNat).2.2.1, (v3.g v2.toNat).2.2.2)).g v2.toNat).2.2.2)).g v2.toNat).2.1, (wr (d1 + (1 : Int))), ((Vec.set (Vec.set v3 v2.toNat (r1, (v3.g v2.toNat).2.1, (v3.g v2.toNat).2.2.1, (v3.g v2.toNat).2.2.2)) v2.toNat (((Vec.set v3 v2.toNat (r1, (v3.g v2.toNat).2.1, (v3.g v2.toNat).2.2.1, (v3.g v2.toNat).2.2.2)).g v2.toNat).1, d1, ((Vec.set v3 v2.toNat (r1, (v3.g v2.toNat).2.1, (v3.g v2.toNat).2.2.1, (v3.g v2.toNat).2.2.2)).g v2.toNat).2.2.1, ((Vec.set v3 v2.toNat (r1, (v3.g v2.toNat).2.1, (v3.g v2.toNat).2.2.1, (v3.g v2.toNat).2.2.2)).g v2.toNat).2.2.2)).g v2.toNat).2.2.2)) v2.toNat (((Vec.set (Vec.set (Vec.set v3 v2.toNat (r1, (v3.g v2.toNat).2.1, (v3.g v2.toNat).2.2.1, (v3.g v2.toNat).2.2.2)) v2.toNat (((Vec.set v3 v2.toNat (r1, (v3.g v2.toNat).2.1, (v3.g v2.toNat).2.2.1, (v3.g v2.toNat).2.2.2)).g v2.toNat).1, d1, ((Vec.set v3 v2.toNat (r1, (v3.g v2.toNat).2.1, (v3.g v2.toNat).2.2.1, (v3.g v2.toNat).2.2.2)).g v2.toNat).2.2.1, ((Vec.set v3 v2.toNat (r1, (v3.g v2.toNat).2.1, (v3.g v2.toNat).2.2.1, (v3.g v2.toNat).2.2.2)).g v2.toNat).2.2.2)) v2.toNat (((Vec.set (Vec.set v3 v2.toNat (r1, (v3.g v2.toNat).2.1, (v3.g v2.toNat).2.2.1, (v3.g v2.toNat).2.2.2)) v2.toNat (((Vec.set v3 v2.toNat (r1, (v3.g v2.toNat).2.1, (v3.g v2.toNat).2.2.1, (v3.g v2.toNat).2.2.2)).g v2.toNat).1, d1, ((Vec.set v3 v2.toNat (r1, (v3.g v2.toNat).2.1, (v3.g v2.toNat).2.2.1, (v3.g v2.toNat).2.2.2)).g v2.toNat).2.2.1, ((Vec.set v3 v2.toNat (r1, (v3.g v2.toNat).2.1, (v3.g v2.toNat).2.2.1, (v3.g v2.toNat).2.2.2)).g v2.toNat).2.2.2)).g v2.toNat).1, ((Vec.set (Vec.set v3 v2.toNat (r1, (v3.g v2.toNat).2.1, (v3.g v2.toNat).2.2.1, (v3.g v2.toNat).2.2.2)) v2.toNat (((Vec.set v3 v2.toNat (r1, (v3.g v2.toNat).2.1, (v3.g v2.toNat).2.2.1, (v3.g v2.toNat).2.2.2)).g v2.toNat).1, d1, ((Vec.set v3 v2.toNat (r1, (v3.g v2.toNat).2.1, (v3.g v2.toNat).2.2.1, (v3.g v2.toNat).2.2.2)).g v2.toNat).2.2.1, ((Vec.set v3 v2.toNat (r1, (v3.g v2.toNat).2.1, (v3.g v2.toNat).2.2.1, (v3.g v2.toNat).2.2.2)).g v2.toNat).2.2.2)).g v2.toNat).2.1, (wr (d1 + (1 : Int))), ((Vec.set (Vec.set v3 v2.toNat (r1, (v3.g v2.toNat).2.1, (v3.g v2.toNat).2.2.1, (v3.g v2.toNat).2.2.2)) v2.toNat (((Vec.set v3 v2.toNat (r1, (v3.g v2.toNat).2.1, (v3.g v2.toNat).2.2.1, (v3.g v2.toNat).2.2.2)).g v2.toNat).1, d1, ((Vec.set v3 v2.toNat (r1, (v3.g v2.toNat).2.1, (v3.g v2.toNat).2.2.1, (v3.g v2.toNat).2.2.2)).g v2.toNat).2.2.1, ((Vec.set v3 v2.toNat (r1, (v3.g v2.toNat).2.1, (v3.g v2.toNat).2.2.1, (v3.g v2.toNat).2.2.2)).g v2.toNat).2.2.2)).g v2.toNat).2.2.2)).g v2.toNat).1, ((Vec.set (Vec.set (Vec.set v3 v2.toNat (r1, (v3.g v2.toNat).2.1, (v3.g v2.toNat).2.2.1, (v3.g v2.toNat).2.2.2)) v2.toNat (((Vec.set v3 v2.toNat (r1, (v3.g v2.toNat).2.1, (v3.g v2.toNat).2.2.1, (v3.g v2.toNat).2.2.2)).g v2.toNat).1, d1, ((Vec.set v3 v2.toNat (r1, (v3.g v2.toNat).2.1, (v3.g v2.toNat).2.2.1, (v3.g v2.toNat).2.2.2)).g v2.toNat).2.2.1, ((Vec.set v3 v2.toNat (r1, (v3.g v2.toNat).2.1, (v3.g v2.toNat).2.2.1, (v3.g v2.toNat).2.2.2)).g v2.toNat).2.2.2)) v2.toNat (((Vec.set (Vec.set v3 v2.toNat (r1, (v3.g v2.toNat).2.1, (v3.g v2.toNat).2.2.1, (v3.g v2.toNat).2.2.2)) v2.toNat (((Vec.set v3 v2.toNat (r1, (v3.g v2.toNat).2.1, (v3.g v2.toNat).2.2.1, (v3.g v2.toNat).2.2.2)).g v2.toNat).1, d1, ((Vec.set v3 v2.toNat (r1, (v3.g v2.toNat).2.1, (v3.g v2.toNat).2.2.1, (v3.g v2.toNat).2.2.2)).g v2.toNat).2.2.1, ((Vec.set v3 v2.toNat (r1, (v3.g v2.toNat).2.1, (v3.g v2.toNat).2.2.1, (v3.g v2.toNat).2.2.2)).g v2.toNat).2.2.2)).g v2.toNat).1, ((Vec.set (Vec.set v3 v2.toNat (r1, (v3.g v2.toNat).2.1, (v3.g v2.toNat).2.2.1, (v3.g v2.toNat).2.2.2)) v2.toNat (((Vec.set v3 v2.toNat (r1, (v3.g v2.toNat).2.1, (v3.g v2.toNat).2.2.1, (v3.g v2.toNat).2.2.2)).g v2.toNat).1, d1, ((Vec.set v3 v2.toNat (r1, (v3.g v2.toNat).2.1, (v3.g v2.toNat).2.2.1, (v3.g v2.toNat).2.2.2)).g v2.toNat).2.2.1, ((Vec.set v3 v2.toNat (r1, (v3.g v2.toNat).2.1, (v3.g v2.toNat).2.2.1, (v3.g v2.toNat).2.2.2)).g v2.toNat).2.2.2)).g v2.toNat).2.1, (wr (d1 + (1 : Int))), ((Vec.set (Vec.set v3 v2.toNat (r1, (v3.g v2.toNat).2.1, (v3.g v2.toNat).2.2.1, (v3.g v2.toNat).2.2.2)) v2.toNat (((Vec.set v3 v2.toNat (r1, (v3.g v2.toNat).2.1, (v3.g v2.toNat).2.2.1, (v3.g v2.toNat).2.2.2)).g v2.toNat).1, d1, ((Vec.set v3 v2.toNat (r1, (v3.g v2.toNat).2.1, (v3.g v2.toNat).2.2.1, (v3.g v2.toNat).2.2.2)).g v2.toNat).2.2.1, ((Vec.set v3 v2.toNat (r1, (v3.g v2.toNat).2.1, (v3.g v2.toNat).2.2.1, (v3.g v2.toNat).2.2.2)).g v2.toNat).2.2.2)).g v2.toNat).2.2.2)).g v2.toNat).2.1, ((Vec.set (Vec.set (Vec.set v3 v2.toNat (r1, (v3.g v2.toNat).2.1, (v3.g v2.toNat).2.2.1, (v3.g v2.toNat).2.2.2)) v2.toNat (((Vec.set v3 v2.toNat (r1, (v3.g v2.toNat).2.1, (v3.g v2.toNat).2.2.1, (v3.g v2.toNat).2.2.2)).g v2.toNat).1, d1, ((Vec.set v3 v2.toNat (r1, (v3.g v2.toNat).2.1, (v3.g v2.toNat).2.2.1, (v3.g v2.toNat).2.2.2)).g v2.toNat).2.2.1, ((Vec.set v3 v2.toNat (r1, (v3.g v2.toNat).2.1, (v3.g v2.toNat).2.2.1, (v3.g v2.toNat).2.2.2)).g v2.toNat).2.2.2)) v2.toNat (((Vec.set (Vec.set v3 v2.toNat (r1, (v3.g v2.toNat).2.1, (v3.g v2.toNat).2.2.1, (v3.g v2.toNat).2.2.2)) v2.toNat (((Vec.set v3 v2.toNat (r1, (v3.g v2.toNat).2.1, (v3.g v2.toNat).2.2.1, (v3.g v2.toNat).2.2.2)).g v2.toNat).1, d1, ((Vec.set v3 v2.toNat (r1, (v3.g v2.toNat).2.1, (v3.g v2.toNat).2.2.1, (v3.g v2.toNat).2.2.2)).g v2.toNat).2.2.1, ((Vec.set v3 v2.toNat (r1, (v3.g v2.toNat).2.1, (v3.g v2.toNat).2.2.1, (v3.g v2.toNat).2.2.2)).g v2.toNat).2.2.2)).g v2.toNat).1, ((Vec.set (Vec.set v3 v2.toNat (r1, (v3.g v2.toNat).2.1, (v3.g v2.toNat).2.2.1, (v3.g v2.toNat).2.2.2)) v2.toNat (((Vec.set v3 v2.toNat (r1, (v3.g v2.toNat).2.1, (v3.g v2.toNat).2.2.1, (v3.g v2.toNat).2.2.2)).g v2.toNat).1, d1, ((Vec.set v3 v2.toNat (r1, (v3.g v2.toNat).2.1, (v3.g v2.toNat).2.2.1, (v3.g v2.toNat).2.2.2)).g v2.toNat).2.2.1, ((Vec.set v3 v2.toNat (r1, (v3.g v2.toNat).2.1, (v3.g v2.toNat).2.2.1, (v3.g v2.toNat).2.2.2)).g v2.toNat).2.2.2)).g v2.toNat).2.1, (wr (d1 + (1 : Int))), ((Vec.set (Vec.set v3 v2.toNat (r1, (v3.g v2.toNat).2.1, (v3.g v2.toNat).2.2.1, (v3.g v2.toNat).2.2.2)) v2.toNat (((Vec.set v3 v2.toNat (r1, (v3.g v2.toNat).2.1, (v3.g v2.toNat).2.2.1, (v3.g v2.toNat).2.2.2)).g v2.toNat).1, d1, ((Vec.set v3 v2.toNat (r1, (v3.g v2.toNat).2.1, (v3.g v2.toNat).2.2.1, (v3.g v2.toNat).2.2.2)).g v2.toNat).2.2.1, ((Vec.set v3 v2.toNat (r1, (v3.g v2.toNat).2.1, (v3.g v2.toNat).2.2.1, (v3.g v2.toNat).2.2.2)).g v2.toNat).2.2.2)).g v2.toNat).2.2.2)).g v2.toNat).2.2.1, r2.2))))))))))) (K0 v1 v3)
noncomputable def F0 {ρ : Type} : Nat → Int → Int → YVB → (Int → YVB → Option ρ) → Option ρ
  | 0, _, _, _, _ => none
  | k + 1, v1, v2, v3, K0 => B0 laws_markText.F laws_markIntS_s68b2.F v1 v2 v3 (fun v1' v2' v3' => F0 k v1' v2' v3' K0) K0
noncomputable def B {ρ : Type} (L0 : Int → Int → YVB → (Int → YVB → Option ρ) → Option ρ) (a1 : Int) (a2 : Vec YB) (K : Int → YVB → Option ρ) : Option ρ :=
  L0 a1 (0 : Int) a2 (fun e01 e02 => K e01 e02)
noncomputable def F (a1 : Int) (a2 : Vec YB) : Option (Int × YVB) := B (F0 fuelN) a1 a2 (fun x1 x2 => some (x1, x2))
def encA (t : Int × YVB) : LA × LO := ([.c (.h 0), vi t.1], [ro t.2])
def encR (x : Int × YVB) : AV × LO := (vi x.1, [ro x.2])
theorem encAI (a b) (h : encA a = encA b) : a = b := by simp [encA, encRw_iff] at h; simp [Prod.ext_iff, h]
theorem encRI (a b) (h : encR a = encR b) : a = b := by simp [encR, encRw_iff] at h; simp [Prod.ext_iff, h]
noncomputable def Q (args : LA) (hin : LO) : Option (Int × YVB) := ofC encA (un2 F) (args, hin)
theorem wrap : F = fun y1 y2 => Q [.c (.h 0), vi y1] [ro y2] := by funext y1 y2; exact Eq.symm (ofC_enc encAI _ (y1, y2))
noncomputable abbrev O (Q0 : LA → Option ByteArray) (Q1 : LA → LO → Option (Int × Vec Int)) : Orc := mkO [qE 58 false laws_markText.encR Q0] [eE Tryz.prog 34 [true, false] false [true] laws_markIntS_s68b2.encR Q1] [38]
noncomputable def c0 : Code := loopC (atomN [] 0 (bodyOf Tryz.f117) 0)
def ct0 : Cut := ⟨[0, 1, 5], []⟩
def lv0 : Exit → Cut
  | .exit 0 => ⟨[1], []⟩
  | _ => ⟨[], []⟩
def k0_0 {ρ : Type} (K : Exit → St → Option ρ) (z1 : Int) (z2 : Vec YB) : Option ρ := K (.exit 0) (mkS 42 (lv0 (.exit 0)).live [vi z1] [ro z2] [true])
noncomputable def L (W0 : (ρ : Type) → LA → LO → (Int → YVB → Option ρ) → Option ρ) : Lor := fun ρ j st K => sel (Nat.beq j 0) (cutO Tryz.prog 42 ct0.live 1 [true] ct0.cmds st fun avs obs => W0 ρ avs obs (k0_0 K)) (Option.none)
theorem step0 {Q0 Q1 W0} {ρ : Type} {K : Exit → St → Option ρ} {W : LA → LO → Option ρ} {v1 v2 v3} : exC Tryz.prog (O Q0 Q1) (L W0) [] 1 c0 (mkS 42 ct0.live [.c (.h 0), vi v1, vi v2] [ro v3] [true]) (bodyK Tryz.prog 42 1 [true] ct0 W lv0 K) =
    B0 (fun y1 => Q0 [vi y1]) (fun y1 y2 => Q1 [.c (.h 0), vi y1] [ro y2]) v1 v2 v3 (fun u1 u2 u3 => W [.c (.h 0), vi u1, vi u2] [ro u3]) (k0_0 K) := by kernel_rfl
def enc0 (t : Int × Int × YVB) : LA × LO := ([.c (.h 0), vi t.1, vi t.2.1], [ro t.2.2])
theorem enc0I (a b) (h : enc0 a = enc0 b) : a = b := by simp [enc0, encRw_iff] at h; simp [Prod.ext_iff, h]
noncomputable def V0 : (ρ : Type) → LA → LO → (Int → YVB → Option ρ) → Option ρ := fun ρ avs obs k0 => ofC enc0 (fun t => un3 (F0 fuelN) t k0) (avs, obs)
theorem V0_enc (ρ : Type) : F0 fuelN = fun w1 w2 w3 k0 => V0 ρ [.c (.h 0), vi w1, vi w2] [ro w3] k0 := by funext w1 w2 w3 k0; exact Eq.symm (ofC_enc enc0I _ (w1, w2, w3))
theorem main {Q0 Q1 W0} {ρ : Type} {K : AV → LO → Option ρ} {a1 a2} : exC Tryz.prog (O Q0 Q1) (L W0) [] 0 (bodyOf Tryz.f117) (entry 42 [.c (.h 0), vi a1] [ro a2] [true]) (finO Tryz.prog Tryz.f117.results.toList 1 [true] [] K) =
    B (fun w1 w2 w3 k0 => W0 ρ [.c (.h 0), vi w1, vi w2] [ro w3] k0) a1 a2 (fun x1 x2 => K (vi x1) [ro x2]) := by kernel_rfl
theorem Gok : (O laws_markText.Q laws_markIntS_s68b2.Q).ok Tryz.prog := mkO_ok (by exact ⟨qE_ok laws_markText.ac, trivial⟩) (by exact ⟨eE_ok (fun h => by cases h) laws_markIntS_s68b2.ac, trivial⟩)
theorem ok0 : OkL Tryz.prog (L V0) 0 (.loop c0) := fun ρ st K r h => loop_ok (ct := ct0) (lv := lv0) (L := (L V0)) Gok hmT (by rw [show atomsL [] 1 c0 = [] by kernel_rfl]; exact Lor.ok_nil _ _) enc0I (fun k t => un3 (F0 k) t (k0_0 K)) (fun t => rfl) (fun k t => by refine step0.trans ?_; rw [← laws_markText.wrap, ← laws_markIntS_s68b2.wrap]; exact congrFun (congrArg (B0 _ _ _ _ _) (fx3 fun t => ofC_enc enc0I _ t)) _) (fun _ => fuelN) h
theorem e : atomsL [] 0 (bodyOf Tryz.f117) = [(0, 0, .loop c0)] := by kernel_rfl
theorem acc : ∀ t x, un2 F t = some x → ACc Tryz.prog 117 (encA t).1 (encA t).2 true [true] fun rv obs => (rv, obs) = encR x := accT2 (T := Int × YVB) (F := un2 F) (L := (L V0)) (cmds := []) (body := (bodyOf Tryz.f117)) 1 (fun _ => rfl) Gok hmT Tryz.func117 (by kernel_rfl) (by kernel_rfl) (by rw [e]; exact Lor.ok_cons ok0 (Lor.ok_nil _ _)) (fun t => by refine main.trans ?_; rw [← V0_enc]; exact congrArg (B _ _ _) (fx2 fun t => ofC_enc encRI some t))
theorem ac : ∀ a h x, Q a h = some x → AC Tryz.prog 117 a h false [true] fun rv obs => (rv, obs) = encR x := acF2 (body := (bodyOf Tryz.f117)) Tryz.func117 (by kernel_rfl) (by kernel_rfl) acc fun x => ⟨by simp [encR, AV.Flat, K.Flat, C.Flat], flc (flat_rw rfl _) (fl0)⟩
end laws_markBodyS_s669a
namespace laws_markWeaveS_s5cec
noncomputable def B0 {ρ : Type} (C0 : Int → YG → Option (Int × Vec YI)) (C1 : Int → YVB → Option (Int × YVB)) (v1 : Int) (v2 : Int) (v3 : Vec YW) (W : Int → Int → YVW → Option ρ) (K0 : Int → YVW → Option ρ) : Option ρ :=
  sel (decide (v2 < (v3.n : Int))) (chk (decide (0 ≤ v2 ∧ v2 < (v3.n : Int))) (chk (decide (v2.toNat < v3.n)) ((C0 v1 ((v3.g v2.toNat).1)).bind fun r1 => chk (decide (0 ≤ v2 ∧ v2 < ((Vec.set v3 v2.toNat (r1.2, (v3.g v2.toNat).2)).n : Int))) (chk (decide (v2.toNat < (Vec.set v3 v2.toNat (r1.2, (v3.g v2.toNat).2)).n)) ((C1 r1.1 (((Vec.set v3 v2.toNat (r1.2, (v3.g v2.toNat).2)).g v2.toNat).2)).bind fun r2 => W r2.1 (wr (v2 + (1 : Int))) (Vec.set (Vec.set v3 v2.toNat (r1.2, (v3.g v2.toNat).2)) v2.toNat (((Vec.set v3 v2.toNat (r1.2, (v3.g v2.toNat).2)).g v2.toNat).1, r2.2))))))) (K0 v1 v3)
noncomputable def F0 {ρ : Type} : Nat → Int → Int → YVW → (Int → YVW → Option ρ) → Option ρ
  | 0, _, _, _, _ => none
  | k + 1, v1, v2, v3, K0 => B0 laws_markIntSS_s45a1.F laws_markBodyS_s669a.F v1 v2 v3 (fun v1' v2' v3' => F0 k v1' v2' v3' K0) K0
noncomputable def B {ρ : Type} (L0 : Int → Int → YVW → (Int → YVW → Option ρ) → Option ρ) (a1 : Int) (a2 : Vec YW) (K : Int → YVW → Option ρ) : Option ρ :=
  L0 a1 (0 : Int) a2 (fun e01 e02 => K e01 e02)
noncomputable def F (a1 : Int) (a2 : Vec YW) : Option (Int × YVW) := B (F0 fuelN) a1 a2 (fun x1 x2 => some (x1, x2))
def encA (t : Int × YVW) : LA × LO := ([.c (.h 0), vi t.1], [ro t.2])
def encR (x : Int × YVW) : AV × LO := (vi x.1, [ro x.2])
theorem encAI (a b) (h : encA a = encA b) : a = b := by simp [encA, encRw_iff] at h; simp [Prod.ext_iff, h]
theorem encRI (a b) (h : encR a = encR b) : a = b := by simp [encR, encRw_iff] at h; simp [Prod.ext_iff, h]
noncomputable def Q (args : LA) (hin : LO) : Option (Int × YVW) := ofC encA (un2 F) (args, hin)
theorem wrap : F = fun y1 y2 => Q [.c (.h 0), vi y1] [ro y2] := by funext y1 y2; exact Eq.symm (ofC_enc encAI _ (y1, y2))
noncomputable abbrev O (Q0 : LA → LO → Option (Int × Vec YI)) (Q1 : LA → LO → Option (Int × YVB)) : Orc := mkO [] [eE Tryz.prog 83 [true, false] false [true] laws_markIntSS_s45a1.encR Q0, eE Tryz.prog 117 [true, false] false [true] laws_markBodyS_s669a.encR Q1] [16, 23]
noncomputable def c0 : Code := loopC (atomN [] 0 (bodyOf Tryz.f57) 0)
def ct0 : Cut := ⟨[0, 1, 5], []⟩
def lv0 : Exit → Cut
  | .exit 0 => ⟨[1], []⟩
  | _ => ⟨[], []⟩
def k0_0 {ρ : Type} (K : Exit → St → Option ρ) (z1 : Int) (z2 : Vec YW) : Option ρ := K (.exit 0) (mkS 27 (lv0 (.exit 0)).live [vi z1] [ro z2] [true])
noncomputable def L (W0 : (ρ : Type) → LA → LO → (Int → YVW → Option ρ) → Option ρ) : Lor := fun ρ j st K => sel (Nat.beq j 0) (cutO Tryz.prog 27 ct0.live 1 [true] ct0.cmds st fun avs obs => W0 ρ avs obs (k0_0 K)) (Option.none)
theorem step0 {Q0 Q1 W0} {ρ : Type} {K : Exit → St → Option ρ} {W : LA → LO → Option ρ} {v1 v2 v3} : exC Tryz.prog (O Q0 Q1) (L W0) [] 1 c0 (mkS 27 ct0.live [.c (.h 0), vi v1, vi v2] [ro v3] [true]) (bodyK Tryz.prog 27 1 [true] ct0 W lv0 K) =
    B0 (fun y1 y2 => Q0 [.c (.h 0), vi y1] [ro y2]) (fun y1 y2 => Q1 [.c (.h 0), vi y1] [ro y2]) v1 v2 v3 (fun u1 u2 u3 => W [.c (.h 0), vi u1, vi u2] [ro u3]) (k0_0 K) := by kernel_rfl
def enc0 (t : Int × Int × YVW) : LA × LO := ([.c (.h 0), vi t.1, vi t.2.1], [ro t.2.2])
theorem enc0I (a b) (h : enc0 a = enc0 b) : a = b := by simp [enc0, encRw_iff] at h; simp [Prod.ext_iff, h]
noncomputable def V0 : (ρ : Type) → LA → LO → (Int → YVW → Option ρ) → Option ρ := fun ρ avs obs k0 => ofC enc0 (fun t => un3 (F0 fuelN) t k0) (avs, obs)
theorem V0_enc (ρ : Type) : F0 fuelN = fun w1 w2 w3 k0 => V0 ρ [.c (.h 0), vi w1, vi w2] [ro w3] k0 := by funext w1 w2 w3 k0; exact Eq.symm (ofC_enc enc0I _ (w1, w2, w3))
theorem main {Q0 Q1 W0} {ρ : Type} {K : AV → LO → Option ρ} {a1 a2} : exC Tryz.prog (O Q0 Q1) (L W0) [] 0 (bodyOf Tryz.f57) (entry 27 [.c (.h 0), vi a1] [ro a2] [true]) (finO Tryz.prog Tryz.f57.results.toList 1 [true] [] K) =
    B (fun w1 w2 w3 k0 => W0 ρ [.c (.h 0), vi w1, vi w2] [ro w3] k0) a1 a2 (fun x1 x2 => K (vi x1) [ro x2]) := by kernel_rfl
theorem Gok : (O laws_markIntSS_s45a1.Q laws_markBodyS_s669a.Q).ok Tryz.prog := mkO_ok (by exact trivial) (by exact ⟨eE_ok (fun h => by cases h) laws_markIntSS_s45a1.ac, eE_ok (fun h => by cases h) laws_markBodyS_s669a.ac, trivial⟩)
theorem ok0 : OkL Tryz.prog (L V0) 0 (.loop c0) := fun ρ st K r h => loop_ok (ct := ct0) (lv := lv0) (L := (L V0)) Gok hmT (by rw [show atomsL [] 1 c0 = [] by kernel_rfl]; exact Lor.ok_nil _ _) enc0I (fun k t => un3 (F0 k) t (k0_0 K)) (fun t => rfl) (fun k t => by refine step0.trans ?_; rw [← laws_markIntSS_s45a1.wrap, ← laws_markBodyS_s669a.wrap]; exact congrFun (congrArg (B0 _ _ _ _ _) (fx3 fun t => ofC_enc enc0I _ t)) _) (fun _ => fuelN) h
theorem e : atomsL [] 0 (bodyOf Tryz.f57) = [(0, 0, .loop c0)] := by kernel_rfl
theorem acc : ∀ t x, un2 F t = some x → ACc Tryz.prog 57 (encA t).1 (encA t).2 true [true] fun rv obs => (rv, obs) = encR x := accT2 (T := Int × YVW) (F := un2 F) (L := (L V0)) (cmds := []) (body := (bodyOf Tryz.f57)) 1 (fun _ => rfl) Gok hmT Tryz.func57 (by kernel_rfl) (by kernel_rfl) (by rw [e]; exact Lor.ok_cons ok0 (Lor.ok_nil _ _)) (fun t => by refine main.trans ?_; rw [← V0_enc]; exact congrArg (B _ _ _) (fx2 fun t => ofC_enc encRI some t))
theorem ac : ∀ a h x, Q a h = some x → AC Tryz.prog 57 a h false [true] fun rv obs => (rv, obs) = encR x := acF2 (body := (bodyOf Tryz.f57)) Tryz.func57 (by kernel_rfl) (by kernel_rfl) acc fun x => ⟨by simp [encR, AV.Flat, K.Flat, C.Flat], flc (flat_rw rfl _) (fl0)⟩
end laws_markWeaveS_s5cec
namespace laws_markStore_sd1d9
noncomputable def B {ρ : Type} (C0 : Int → YVC → Option (Int × YVC)) (C1 : Int → YVW → Option (Int × YVW)) (a1 : Int) (a2 : Vec YC) (a3 : Vec YW) (K : Int → YVC → YVW → Option ρ) : Option ρ :=
  (C0 a1 a2).bind fun r1 => (C1 r1.1 a3).bind fun r2 => K r2.1 r1.2 r2.2
noncomputable def F (a1 : Int) (a2 : Vec YC) (a3 : Vec YW) : Option (Int × YVC × YVW) := B laws_markCommitS_sffd8.F laws_markWeaveS_s5cec.F a1 a2 a3 (fun x1 x2 x3 => some (x1, x2, x3))
def encA (t : Int × YVC × YVW) : LA × LO := ([.a [.h 0, .h 1], vi t.1], [ro t.2.1, ro t.2.2])
def encR (x : Int × YVC × YVW) : AV × LO := (vi x.1, [ro x.2.1, ro x.2.2])
theorem encAI (a b) (h : encA a = encA b) : a = b := by simp [encA, encRw_iff] at h; simp [Prod.ext_iff, h]
theorem encRI (a b) (h : encR a = encR b) : a = b := by simp [encR, encRw_iff] at h; simp [Prod.ext_iff, h]
noncomputable def Q (args : LA) (hin : LO) : Option (Int × YVC × YVW) := ofC encA (un3 F) (args, hin)
theorem wrap : F = fun y1 y2 y3 => Q [.a [.h 0, .h 1], vi y1] [ro y2, ro y3] := by funext y1 y2 y3; exact Eq.symm (ofC_enc encAI _ (y1, y2, y3))
noncomputable abbrev O (Q0 : LA → LO → Option (Int × YVC)) (Q1 : LA → LO → Option (Int × YVW)) : Orc := mkO [] [eE Tryz.prog 32 [true, false] false [true] laws_markCommitS_sffd8.encR Q0, eE Tryz.prog 57 [true, false] false [true] laws_markWeaveS_s5cec.encR Q1] []
noncomputable def L : Lor := fun _ _ _ _ => Option.none
theorem main {Q0 Q1} {ρ : Type} {K : AV → LO → Option ρ} {a1 a2 a3} : exC Tryz.prog (O Q0 Q1) L [] 0 (bodyOf Tryz.f13) (entry 14 [.a [.h 0, .h 1], vi a1] [ro a2, ro a3] [true, true]) (finO Tryz.prog Tryz.f13.results.toList 2 [true, true] [] K) =
    B (fun y1 y2 => Q0 [.c (.h 0), vi y1] [ro y2]) (fun y1 y2 => Q1 [.c (.h 0), vi y1] [ro y2]) a1 a2 a3 (fun x1 x2 x3 => K (vi x1) [ro x2, ro x3]) := by kernel_rfl
theorem Gok : (O laws_markCommitS_sffd8.Q laws_markWeaveS_s5cec.Q).ok Tryz.prog := mkO_ok (by exact trivial) (by exact ⟨eE_ok (fun h => by cases h) laws_markCommitS_sffd8.ac, eE_ok (fun h => by cases h) laws_markWeaveS_s5cec.ac, trivial⟩)
theorem acc : ∀ t x, un3 F t = some x → ACc Tryz.prog 13 (encA t).1 (encA t).2 true [true, true] fun rv obs => (rv, obs) = encR x := accT2 (T := Int × YVC × YVW) (F := un3 F) (L := L) (cmds := []) (body := (bodyOf Tryz.f13)) 2 (fun _ => rfl) Gok hmT Tryz.func13 (by kernel_rfl) (by kernel_rfl) (by rw [show atomsL [] 0 (bodyOf Tryz.f13) = [] by kernel_rfl]; exact Lor.ok_nil _ _) (fun t => by refine main.trans ?_; rw [← laws_markCommitS_sffd8.wrap, ← laws_markWeaveS_s5cec.wrap]; exact congrArg (B _ _ _ _ _) (fx3 fun t => ofC_enc encRI some t))
theorem ac : ∀ a h x, Q a h = some x → AC Tryz.prog 13 a h false [true, true] fun rv obs => (rv, obs) = encR x := acF2 (body := (bodyOf Tryz.f13)) Tryz.func13 (by kernel_rfl) (by kernel_rfl) acc fun x => ⟨by simp [encR, AV.Flat, K.Flat, C.Flat], flc (flat_rw rfl _) (flc (flat_rw rfl _) (fl0))⟩
end laws_markStore_sd1d9
namespace laws_markNoteS_s2747
noncomputable def B0 {ρ : Type} (C0 : Int → Option ByteArray) (v1 : Int) (v2 : Int) (v3 : Vec YM) (W : Int → Int → YVM → Option ρ) (K0 : Int → YVM → Option ρ) : Option ρ :=
  sel (decide (v2 < (v3.n : Int))) (chk (decide (0 ≤ v2 ∧ v2 < (v3.n : Int))) (chk (decide (v2.toNat < v3.n)) (chk (decide (0 ≤ v2 ∧ v2 < ((Vec.set v3 v2.toNat (v1, (v3.g v2.toNat).2.1, (v3.g v2.toNat).2.2)).n : Int))) (chk (decide (v2.toNat < (Vec.set v3 v2.toNat (v1, (v3.g v2.toNat).2.1, (v3.g v2.toNat).2.2)).n)) ((C0 (wr ((wr (v1 + (1 : Int))) + (1 : Int)))).bind fun r1 => chk (decide (0 ≤ v2 ∧ v2 < ((Vec.set (Vec.set v3 v2.toNat (v1, (v3.g v2.toNat).2.1, (v3.g v2.toNat).2.2)) v2.toNat (((Vec.set v3 v2.toNat (v1, (v3.g v2.toNat).2.1, (v3.g v2.toNat).2.2)).g v2.toNat).1, (wr (v1 + (1 : Int))), ((Vec.set v3 v2.toNat (v1, (v3.g v2.toNat).2.1, (v3.g v2.toNat).2.2)).g v2.toNat).2.2)).n : Int))) (chk (decide (v2.toNat < (Vec.set (Vec.set v3 v2.toNat (v1, (v3.g v2.toNat).2.1, (v3.g v2.toNat).2.2)) v2.toNat (((Vec.set v3 v2.toNat (v1, (v3.g v2.toNat).2.1, (v3.g v2.toNat).2.2)).g v2.toNat).1, (wr (v1 + (1 : Int))), ((Vec.set v3 v2.toNat (v1, (v3.g v2.toNat).2.1, (v3.g v2.toNat).2.2)).g v2.toNat).2.2)).n)) (W (wr ((wr ((wr (v1 + (1 : Int))) + (1 : Int))) + (1 : Int))) (wr (v2 + (1 : Int))) (Vec.set (Vec.set (Vec.set v3 v2.toNat (v1, (v3.g v2.toNat).2.1, (v3.g v2.toNat).2.2)) v2.toNat (((Vec.set v3 v2.toNat (v1, (v3.g v2.toNat).2.1, (v3.g v2.toNat).2.2)).g v2.toNat).1, (wr (v1 + (1 : Int))), ((Vec.set v3 v2.toNat (v1, (v3.g v2.toNat).2.1, (v3.g v2.toNat).2.2)).g v2.toNat).2.2)) v2.toNat (((Vec.set (Vec.set v3 v2.toNat (v1, (v3.g v2.toNat).2.1, (v3.g v2.toNat).2.2)) v2.toNat (((Vec.set v3 v2.toNat (v1, (v3.g v2.toNat).2.1, (v3.g v2.toNat).2.2)).g v2.toNat).1, (wr (v1 + (1 : Int))), ((Vec.set v3 v2.toNat (v1, (v3.g v2.toNat).2.1, (v3.g v2.toNat).2.2)).g v2.toNat).2.2)).g v2.toNat).1, ((Vec.set (Vec.set v3 v2.toNat (v1, (v3.g v2.toNat).2.1, (v3.g v2.toNat).2.2)) v2.toNat (((Vec.set v3 v2.toNat (v1, (v3.g v2.toNat).2.1, (v3.g v2.toNat).2.2)).g v2.toNat).1, (wr (v1 + (1 : Int))), ((Vec.set v3 v2.toNat (v1, (v3.g v2.toNat).2.1, (v3.g v2.toNat).2.2)).g v2.toNat).2.2)).g v2.toNat).2.1, r1))))))))) (K0 v1 v3)
noncomputable def F0 {ρ : Type} : Nat → Int → Int → YVM → (Int → YVM → Option ρ) → Option ρ
  | 0, _, _, _, _ => none
  | k + 1, v1, v2, v3, K0 => B0 laws_markText.F v1 v2 v3 (fun v1' v2' v3' => F0 k v1' v2' v3' K0) K0
noncomputable def B {ρ : Type} (L0 : Int → Int → YVM → (Int → YVM → Option ρ) → Option ρ) (a1 : Int) (a2 : Vec YM) (K : Int → YVM → Option ρ) : Option ρ :=
  L0 a1 (0 : Int) a2 (fun e01 e02 => K e01 e02)
noncomputable def F (a1 : Int) (a2 : Vec YM) : Option (Int × YVM) := B (F0 fuelN) a1 a2 (fun x1 x2 => some (x1, x2))
def encA (t : Int × YVM) : LA × LO := ([.c (.h 0), vi t.1], [ro t.2])
def encR (x : Int × YVM) : AV × LO := (vi x.1, [ro x.2])
theorem encAI (a b) (h : encA a = encA b) : a = b := by simp [encA, encRw_iff] at h; simp [Prod.ext_iff, h]
theorem encRI (a b) (h : encR a = encR b) : a = b := by simp [encR, encRw_iff] at h; simp [Prod.ext_iff, h]
noncomputable def Q (args : LA) (hin : LO) : Option (Int × YVM) := ofC encA (un2 F) (args, hin)
theorem wrap : F = fun y1 y2 => Q [.c (.h 0), vi y1] [ro y2] := by funext y1 y2; exact Eq.symm (ofC_enc encAI _ (y1, y2))
noncomputable abbrev O (Q0 : LA → Option ByteArray) : Orc := mkO [qE 58 false laws_markText.encR Q0] [] []
noncomputable def c0 : Code := loopC (atomN [] 0 (bodyOf Tryz.f14) 0)
def ct0 : Cut := ⟨[0, 1, 5], []⟩
def lv0 : Exit → Cut
  | .exit 0 => ⟨[1], []⟩
  | _ => ⟨[], []⟩
def k0_0 {ρ : Type} (K : Exit → St → Option ρ) (z1 : Int) (z2 : Vec YM) : Option ρ := K (.exit 0) (mkS 35 (lv0 (.exit 0)).live [vi z1] [ro z2] [true])
noncomputable def L (W0 : (ρ : Type) → LA → LO → (Int → YVM → Option ρ) → Option ρ) : Lor := fun ρ j st K => sel (Nat.beq j 0) (cutO Tryz.prog 35 ct0.live 1 [true] ct0.cmds st fun avs obs => W0 ρ avs obs (k0_0 K)) (Option.none)
theorem step0 {Q0 W0} {ρ : Type} {K : Exit → St → Option ρ} {W : LA → LO → Option ρ} {v1 v2 v3} : exC Tryz.prog (O Q0) (L W0) [] 1 c0 (mkS 35 ct0.live [.c (.h 0), vi v1, vi v2] [ro v3] [true]) (bodyK Tryz.prog 35 1 [true] ct0 W lv0 K) =
    B0 (fun y1 => Q0 [vi y1]) v1 v2 v3 (fun u1 u2 u3 => W [.c (.h 0), vi u1, vi u2] [ro u3]) (k0_0 K) := by kernel_rfl
def enc0 (t : Int × Int × YVM) : LA × LO := ([.c (.h 0), vi t.1, vi t.2.1], [ro t.2.2])
theorem enc0I (a b) (h : enc0 a = enc0 b) : a = b := by simp [enc0, encRw_iff] at h; simp [Prod.ext_iff, h]
noncomputable def V0 : (ρ : Type) → LA → LO → (Int → YVM → Option ρ) → Option ρ := fun ρ avs obs k0 => ofC enc0 (fun t => un3 (F0 fuelN) t k0) (avs, obs)
theorem V0_enc (ρ : Type) : F0 fuelN = fun w1 w2 w3 k0 => V0 ρ [.c (.h 0), vi w1, vi w2] [ro w3] k0 := by funext w1 w2 w3 k0; exact Eq.symm (ofC_enc enc0I _ (w1, w2, w3))
theorem main {Q0 W0} {ρ : Type} {K : AV → LO → Option ρ} {a1 a2} : exC Tryz.prog (O Q0) (L W0) [] 0 (bodyOf Tryz.f14) (entry 35 [.c (.h 0), vi a1] [ro a2] [true]) (finO Tryz.prog Tryz.f14.results.toList 1 [true] [] K) =
    B (fun w1 w2 w3 k0 => W0 ρ [.c (.h 0), vi w1, vi w2] [ro w3] k0) a1 a2 (fun x1 x2 => K (vi x1) [ro x2]) := by kernel_rfl
theorem Gok : (O laws_markText.Q).ok Tryz.prog := mkO_ok (by exact ⟨qE_ok laws_markText.ac, trivial⟩) (by exact trivial)
theorem ok0 : OkL Tryz.prog (L V0) 0 (.loop c0) := fun ρ st K r h => loop_ok (ct := ct0) (lv := lv0) (L := (L V0)) Gok hmT (by rw [show atomsL [] 1 c0 = [] by kernel_rfl]; exact Lor.ok_nil _ _) enc0I (fun k t => un3 (F0 k) t (k0_0 K)) (fun t => rfl) (fun k t => by refine step0.trans ?_; rw [← laws_markText.wrap]; exact congrFun (congrArg (B0 _ _ _ _) (fx3 fun t => ofC_enc enc0I _ t)) _) (fun _ => fuelN) h
theorem e : atomsL [] 0 (bodyOf Tryz.f14) = [(0, 0, .loop c0)] := by kernel_rfl
theorem acc : ∀ t x, un2 F t = some x → ACc Tryz.prog 14 (encA t).1 (encA t).2 true [true] fun rv obs => (rv, obs) = encR x := accT2 (T := Int × YVM) (F := un2 F) (L := (L V0)) (cmds := []) (body := (bodyOf Tryz.f14)) 1 (fun _ => rfl) Gok hmT Tryz.func14 (by kernel_rfl) (by kernel_rfl) (by rw [e]; exact Lor.ok_cons ok0 (Lor.ok_nil _ _)) (fun t => by refine main.trans ?_; rw [← V0_enc]; exact congrArg (B _ _ _) (fx2 fun t => ofC_enc encRI some t))
theorem ac : ∀ a h x, Q a h = some x → AC Tryz.prog 14 a h false [true] fun rv obs => (rv, obs) = encR x := acF2 (body := (bodyOf Tryz.f14)) Tryz.func14 (by kernel_rfl) (by kernel_rfl) acc fun x => ⟨by simp [encR, AV.Flat, K.Flat, C.Flat], flc (flat_rw rfl _) (fl0)⟩
end laws_markNoteS_s2747
namespace laws_heldNoteS
noncomputable def B0 {ρ : Type} (C0 : Int → Option ByteArray) (v1 : Vec YM) (v2 : Int) (v3 : Int) (W : YVM → Int → Int → Option ρ) (K0 : Int → Option ρ) (Kr : Int → Option ρ) : Option ρ :=
  sel (decide (v3 < (v1.n : Int))) (chk (decide (0 ≤ v3 ∧ v3 < (v1.n : Int))) (sel ((!decide ((v1.g v3.toNat).1 = v2))) (Kr (-1 : Int)) (chk (decide (0 ≤ v3 ∧ v3 < (v1.n : Int))) (sel ((!decide ((v1.g v3.toNat).2.1 = (wr (v2 + (1 : Int)))))) (Kr (-1 : Int)) (chk (decide (0 ≤ v3 ∧ v3 < (v1.n : Int))) ((C0 (wr ((wr (v2 + (1 : Int))) + (1 : Int)))).bind fun r1 => sel ((!decide ((v1.g v3.toNat).2.2 = r1))) (Kr (-1 : Int)) (W v1 (wr ((wr ((wr (v2 + (1 : Int))) + (1 : Int))) + (1 : Int))) (wr (v3 + (1 : Int)))))))))) (K0 v2)
noncomputable def F0 {ρ : Type} : Nat → YVM → Int → Int → (Int → Option ρ) → (Int → Option ρ) → Option ρ
  | 0, _, _, _, _, _ => none
  | k + 1, v1, v2, v3, K0, Kr => B0 laws_markText.F v1 v2 v3 (fun v1' v2' v3' => F0 k v1' v2' v3' K0 Kr) K0 Kr
noncomputable def B {ρ : Type} (L0 : YVM → Int → Int → (Int → Option ρ) → (Int → Option ρ) → Option ρ) (a1 : Vec YM) (a2 : Int) (K : Int → Option ρ) : Option ρ :=
  L0 a1 a2 (0 : Int) (fun e01 => K e01) (fun x01 => K x01)
noncomputable def F (a1 : Vec YM) (a2 : Int) : Option Int := B (F0 fuelN) a1 a2 (fun x1 => some (x1))
def encA (t : YVM × Int) : LA := [vl t.1, vi t.2]
def encR (x : Int) : AV × LO := (vi x, [])
theorem encAI (a b) (h : encA a = encA b) : a = b := by simp [encA, encRw_iff] at h; simp [Prod.ext_iff, h]
theorem encRI (a b) (h : encR a = encR b) : a = b := by simpa [encR, encRw_iff] using h
noncomputable def Q (args : LA) : Option Int := ofC encA (un2 F) args
theorem wrap : F = fun y1 y2 => Q [vl y1, vi y2] := by funext y1 y2; exact Eq.symm (ofC_enc encAI _ (y1, y2))
noncomputable abbrev O (Q0 : LA → Option ByteArray) : Orc := mkO [qE 58 false laws_markText.encR Q0] [] []
noncomputable def c0 : Code := loopC (atomN [] 0 (bodyOf Tryz.f15) 0)
def ct0 : Cut := ⟨[0, 1, 5], []⟩
def lv0 : Exit → Cut
  | .exit 0 => ⟨[1], []⟩
  | .ret => ⟨[4], []⟩
  | _ => ⟨[], []⟩
def k0_0 {ρ : Type} (K : Exit → St → Option ρ) (z1 : Int) : Option ρ := K (.exit 0) (mkS 41 (lv0 (.exit 0)).live [vi z1] [] [])
def k0_r {ρ : Type} (K : Exit → St → Option ρ) (z1 : Int) : Option ρ := K .ret (mkS 41 (lv0 .ret).live [vi z1] [] [])
noncomputable def L (W0 : (ρ : Type) → LA → LO → (Int → Option ρ) → (Int → Option ρ) → Option ρ) : Lor := fun ρ j st K => sel (Nat.beq j 0) (cutO Tryz.prog 41 ct0.live 0 [] ct0.cmds st fun avs obs => W0 ρ avs obs (k0_0 K) (k0_r K)) (Option.none)
theorem step0 {Q0 W0} {ρ : Type} {K : Exit → St → Option ρ} {W : LA → LO → Option ρ} {v1 v2 v3} : exC Tryz.prog (O Q0) (L W0) [] 1 c0 (mkS 41 ct0.live [vl v1, vi v2, vi v3] [] []) (bodyK Tryz.prog 41 0 [] ct0 W lv0 K) =
    B0 (fun y1 => Q0 [vi y1]) v1 v2 v3 (fun u1 u2 u3 => W [vl u1, vi u2, vi u3] []) (k0_0 K) (k0_r K) := by kernel_rfl
def enc0 (t : YVM × Int × Int) : LA × LO := ([vl t.1, vi t.2.1, vi t.2.2], [])
theorem enc0I (a b) (h : enc0 a = enc0 b) : a = b := by simp [enc0, encRw_iff] at h; simp [Prod.ext_iff, h]
noncomputable def V0 : (ρ : Type) → LA → LO → (Int → Option ρ) → (Int → Option ρ) → Option ρ := fun ρ avs obs k0 kr => ofC enc0 (fun t => un3 (F0 fuelN) t k0 kr) (avs, obs)
theorem V0_enc (ρ : Type) : F0 fuelN = fun w1 w2 w3 k0 kr => V0 ρ [vl w1, vi w2, vi w3] [] k0 kr := by funext w1 w2 w3 k0 kr; exact Eq.symm (ofC_enc enc0I _ (w1, w2, w3))
theorem main {Q0 W0} {ρ : Type} {K : AV → LO → Option ρ} {a1 a2} : exC Tryz.prog (O Q0) (L W0) [] 0 (bodyOf Tryz.f15) (entry 41 [vl a1, vi a2] [] []) (finO Tryz.prog Tryz.f15.results.toList 0 [] [] K) =
    B (fun w1 w2 w3 k0 kr => W0 ρ [vl w1, vi w2, vi w3] [] k0 kr) a1 a2 (fun x1 => K (vi x1) []) := by kernel_rfl
theorem Gok : (O laws_markText.Q).ok Tryz.prog := mkO_ok (by exact ⟨qE_ok laws_markText.ac, trivial⟩) (by exact trivial)
theorem ok0 : OkL Tryz.prog (L V0) 0 (.loop c0) := fun ρ st K r h => loop_ok (ct := ct0) (lv := lv0) (L := (L V0)) Gok hmT (by rw [show atomsL [] 1 c0 = [] by kernel_rfl]; exact Lor.ok_nil _ _) enc0I (fun k t => un3 (F0 k) t (k0_0 K) (k0_r K)) (fun t => rfl) (fun k t => by refine step0.trans ?_; rw [← laws_markText.wrap]; exact congrFun (congrFun (congrArg (B0 _ _ _ _) (fx3 fun t => ofC_enc enc0I _ t)) _) _) (fun _ => fuelN) h
theorem e : atomsL [] 0 (bodyOf Tryz.f15) = [(0, 0, .loop c0)] := by kernel_rfl
theorem acc : ∀ t x, un2 F t = some x → ACc Tryz.prog 15 (encA t) [] true [] fun rv obs => (rv, obs) = encR x := accT (T := YVM × Int) (F := un2 F) (L := (L V0)) (cmds := []) (body := (bodyOf Tryz.f15)) Gok hmT Tryz.func15 (by kernel_rfl) (by kernel_rfl) (by rw [e]; exact Lor.ok_cons ok0 (Lor.ok_nil _ _)) (fun t => by refine main.trans ?_; rw [← V0_enc]; exact congrArg (B _ _ _) (fx1 fun t => ofC_enc encRI some t))
theorem ac : ∀ a x, Q a = some x → AC Tryz.prog 15 a [] false [] fun rv obs => (rv, obs) = encR x := acF (body := (bodyOf Tryz.f15)) Tryz.func15 (by kernel_rfl) (by kernel_rfl) acc fun x => ⟨by simp [encR, AV.Flat, K.Flat, C.Flat], fl0⟩
end laws_heldNoteS
namespace laws_FnExactNotesAt
noncomputable def B {ρ : Type} (C0 : YVC → YVW → Int → Option Int) (C1 : YVC → YVW → Option (YVC × YVW)) (C2 : YVC → YVW → Int → ByteArray → Option (Int × YVM)) (C3 : YVC → YVW → Int → ByteArray → Option (Int × YVM)) (C4 : YVM → YVM → Option Bool) (C5 : YVC → YVW → YVC → YVW → Option Bool) (C6 : Int → YVC → YVW → Option (Int × YVC × YVW)) (C7 : Int → YVM → Option (Int × YVM)) (C8 : YVM → Int → Option Int) (a1 : Vec YC) (a2 : Vec YW) (a3 : Int) (a4 : ByteArray) (K : Bool → Option ρ) : Option ρ :=
  sel (decide ((1048576 : Int) < (a4.size : Int))) (K true) ((C0 a1 a2 (1048576 : Int)).bind fun r1 => sel (decide (r1 < (0 : Int))) (K true) ((C1 a1 a2).bind fun r2 => (C2 r2.1 r2.2 a3 a4).bind fun r3 => (C1 a1 a2).bind fun r4 => (C3 r4.1 r4.2 a3 a4).bind fun r5 => (C4 r5.2 r3.2).bind fun r6 => sel ((!r6)) (K false) (sel ((!decide (r5.1 = r3.1))) (K false) ((C1 a1 a2).bind fun r7 => (C5 r4.1 r4.2 r7.1 r7.2).bind fun r8 => sel ((!r8)) (K false) ((C6 (1 : Int) r4.1 r4.2).bind fun r9 => sel (decide (r9.1 < (0 : Int))) (K false) ((C4 r5.2 r3.2).bind fun r10 => sel ((!r10)) (K false) (sel ((!decide (r5.1 = r3.1))) (K false) ((C7 (1 : Int) r5.2).bind fun r11 => (C8 r11.2 (1 : Int)).bind fun r12 => sel (decide (r12 < (0 : Int))) (K false) (sel ((!decide (r12 = r11.1))) (K false) ((C1 a1 a2).bind fun r13 => (C3 r13.1 r13.2 a3 a4).bind fun r14 => (C4 r14.2 r3.2).bind fun r15 => sel ((!r15)) (K false) (sel ((!decide (r14.1 = r3.1))) (K false) ((C8 r11.2 (1 : Int)).bind fun r16 => sel (decide (r16 < (0 : Int))) (K false) (sel ((!decide (r16 = r11.1))) (K false) (K true))))))))))))))
noncomputable def F (a1 : Vec YC) (a2 : Vec YW) (a3 : Int) (a4 : ByteArray) : Option Bool := B laws_szStore.F laws_toStore.F spec_NotesAt.F impl_NotesAt.F laws_eqNoteS.F laws_eqStore.F laws_markStore_sd1d9.F laws_markNoteS_s2747.F laws_heldNoteS.F a1 a2 a3 a4 (fun x1 => some (x1))
def encA (t : YVC × YVW × Int × ByteArray) : LA := [.a [cl t.1, cl t.2.1], vi t.2.2.1, vs t.2.2.2]
def encR (x : Bool) : AV × LO := (vb x, [])
theorem encAI (a b) (h : encA a = encA b) : a = b := by simp [encA, encRw_iff] at h; simp [Prod.ext_iff, h]
theorem encRI (a b) (h : encR a = encR b) : a = b := by simpa [encR, encRw_iff] using h
noncomputable def Q (args : LA) : Option Bool := ofC encA (un4 F) args
theorem wrap : F = fun y1 y2 y3 y4 => Q [.a [cl y1, cl y2], vi y3, vs y4] := by funext y1 y2 y3 y4; exact Eq.symm (ofC_enc encAI _ (y1, y2, y3, y4))
noncomputable abbrev O (Q0 : LA → Option Int) (Q1 : LA → Option (YVC × YVW)) (Q2 : LA → Option (Int × YVM)) (Q3 : LA → Option (Int × YVM)) (Q4 : LA → Option Bool) (Q5 : LA → Option Bool) (Q8 : LA → Option Int) (Q6 : LA → LO → Option (Int × YVC × YVW)) (Q7 : LA → LO → Option (Int × YVM)) : Orc := mkO [qE 7 false laws_szStore.encR Q0, qE 9 false laws_toStore.encR Q1, qE 8 false spec_NotesAt.encR Q2, qE 10 false impl_NotesAt.encR Q3, qE 11 false laws_eqNoteS.encR Q4, qE 12 false laws_eqStore.encR Q5, qE 15 false laws_heldNoteS.encR Q8] [eE Tryz.prog 13 [true, false] false [true, true] laws_markStore_sd1d9.encR Q6, eE Tryz.prog 14 [true, false] false [true] laws_markNoteS_s2747.encR Q7] []
noncomputable def L : Lor := fun _ _ _ _ => Option.none
theorem main {Q0 Q1 Q2 Q3 Q4 Q5 Q6 Q7 Q8} {ρ : Type} {K : AV → LO → Option ρ} {a1 a2 a3 a4} : exC Tryz.prog (O Q0 Q1 Q2 Q3 Q4 Q5 Q8 Q6 Q7) L [] 0 (bodyOf Tryz.f3) (entry 109 [.a [cl a1, cl a2], vi a3, vs a4] [] []) (finO Tryz.prog Tryz.f3.results.toList 0 [] [] K) =
    B (fun y1 y2 y3 => Q0 [.a [cl y1, cl y2], vi y3]) (fun y1 y2 => Q1 [.a [cl y1, cl y2]]) (fun y1 y2 y3 y4 => Q2 [.a [cl y1, cl y2], vi y3, vs y4]) (fun y1 y2 y3 y4 => Q3 [.a [cl y1, cl y2], vi y3, vs y4]) (fun y1 y2 => Q4 [vl y1, vl y2]) (fun y1 y2 y3 y4 => Q5 [.a [cl y1, cl y2], .a [cl y3, cl y4]]) (fun y1 y2 y3 => Q6 [.a [.h 0, .h 1], vi y1] [ro y2, ro y3]) (fun y1 y2 => Q7 [.c (.h 0), vi y1] [ro y2]) (fun y1 y2 => Q8 [vl y1, vi y2]) a1 a2 a3 a4 (fun x1 => K (vb x1) []) := by kernel_rfl
theorem Gok : (O laws_szStore.Q laws_toStore.Q spec_NotesAt.Q impl_NotesAt.Q laws_eqNoteS.Q laws_eqStore.Q laws_heldNoteS.Q laws_markStore_sd1d9.Q laws_markNoteS_s2747.Q).ok Tryz.prog := mkO_ok (by exact ⟨qE_ok laws_szStore.ac, qE_ok laws_toStore.ac, qE_ok spec_NotesAt.ac, qE_ok impl_NotesAt.ac, qE_ok laws_eqNoteS.ac, qE_ok laws_eqStore.ac, qE_ok laws_heldNoteS.ac, trivial⟩) (by exact ⟨eE_ok (fun h => by cases h) laws_markStore_sd1d9.ac, eE_ok (fun h => by cases h) laws_markNoteS_s2747.ac, trivial⟩)
theorem acc : ∀ t x, un4 F t = some x → ACc Tryz.prog 3 (encA t) [] true [] fun rv obs => (rv, obs) = encR x := accT (T := YVC × YVW × Int × ByteArray) (F := un4 F) (L := L) (cmds := []) (body := (bodyOf Tryz.f3)) Gok hmT Tryz.func3 (by kernel_rfl) (by kernel_rfl) (by rw [show atomsL [] 0 (bodyOf Tryz.f3) = [] by kernel_rfl]; exact Lor.ok_nil _ _) (fun t => by refine main.trans ?_; rw [← laws_szStore.wrap, ← laws_toStore.wrap, ← spec_NotesAt.wrap, ← impl_NotesAt.wrap, ← laws_eqNoteS.wrap, ← laws_eqStore.wrap, ← laws_markStore_sd1d9.wrap, ← laws_markNoteS_s2747.wrap, ← laws_heldNoteS.wrap]; exact congrArg (B _ _ _ _ _ _ _ _ _ _ _ _ _) (fx1 fun t => ofC_enc encRI some t))
theorem ac : ∀ a x, Q a = some x → AC Tryz.prog 3 a [] false [] fun rv obs => (rv, obs) = encR x := acF (body := (bodyOf Tryz.f3)) Tryz.func3 (by kernel_rfl) (by kernel_rfl) acc fun x => ⟨by simp [encR, AV.Flat, K.Flat, C.Flat], fl0⟩
end laws_FnExactNotesAt
end Go.Al
