import Derived.Test.YtdiclekkkaaahaaGreatAlE
import Derived.Test.YtdiclekkkaaahaaGreatSC
import Derived.Test.YtdiclekkkaaahaaGreatGNamesAt
set_option linter.unusedVariables false
set_option linter.unusedSimpArgs false
set_option linter.constructorNameAsVariable false
set_option linter.unusedSectionVars false
set_option maxRecDepth 100000
namespace Go.Al
open Go.Proofs
namespace spec_l06Text
noncomputable def B {ρ : Type} (C0 : YG → YVB → Int → Option YX) (C1 : YG → YVB → YX → Option YI) (C2 : YG → YVB → YI → Option YS) (a1 : Vec YI) (a2 : Vec YB) (a3 : Int) (K : YS → Option ρ) : Option ρ :=
  (C0 a1 a2 a3).bind fun r1 => (C1 a1 a2 r1).bind fun r2 => (C2 a1 a2 r2).bind fun r3 => K r3
noncomputable def F (a1 : Vec YI) (a2 : Vec YB) (a3 : Int) : Option YS := B spec_l06Closure.F spec_l06Places.F spec_l06Lines.F a1 a2 a3 (fun x1 => some (x1))
def encA (t : Vec YI × YVB × Int) : LA := [.a [cl t.1, cl t.2.1], vi t.2.2]
def encR (x : YS) : AV × LO := (.c (.h 0), [ro x])
theorem encAI (a b) (h : encA a = encA b) : a = b := by simp [encA, encRw_iff] at h; simp [Prod.ext_iff, h]
theorem encRI (a b) (h : encR a = encR b) : a = b := by simpa [encR, encRw_iff] using h
noncomputable def Q (args : LA) : Option YS := ofC encA (un3 F) args
theorem wrap : F = fun y1 y2 y3 => Q [.a [cl y1, cl y2], vi y3] := by funext y1 y2 y3; exact Eq.symm (ofC_enc encAI _ (y1, y2, y3))
noncomputable abbrev O (Q0 : LA → Option YX) (Q1 : LA → Option YI) (Q2 : LA → Option YS) : Orc := mkO [qE 74 false spec_l06Closure.encR Q0, qE 73 false spec_l06Places.encR Q1, qE 72 false spec_l06Lines.encR Q2] [] []
noncomputable def L : Lor := fun _ _ _ _ => Option.none
theorem main {Q0 Q1 Q2} {ρ : Type} {K : AV → LO → Option ρ} {a1 a2 a3} : exC Tryz.prog (O Q0 Q1 Q2) L [] 0 (bodyOf Tryz.f45) (entry 12 [.a [cl a1, cl a2], vi a3] [] []) (finO Tryz.prog Tryz.f45.results.toList 0 [] [] K) =
    B (fun y1 y2 y3 => Q0 [.a [cl y1, cl y2], vi y3]) (fun y1 y2 y3 => Q1 [.a [cl y1, cl y2], vl y3]) (fun y1 y2 y3 => Q2 [.a [cl y1, cl y2], vl y3]) a1 a2 a3 (fun x1 => K (.c (.h 0)) [ro x1]) := by kernel_rfl
theorem Gok : (O spec_l06Closure.Q spec_l06Places.Q spec_l06Lines.Q).ok Tryz.prog := mkO_ok (by exact ⟨qE_ok spec_l06Closure.ac, qE_ok spec_l06Places.ac, qE_ok spec_l06Lines.ac, trivial⟩) (by exact trivial)
theorem acc : ∀ t x, un3 F t = some x → ACc Tryz.prog 45 (encA t) [] true [] fun rv obs => (rv, obs) = encR x := accT (T := Vec YI × YVB × Int) (F := un3 F) (L := L) (cmds := []) (body := (bodyOf Tryz.f45)) Gok hmT Tryz.func45 (by kernel_rfl) (by kernel_rfl) (by rw [show atomsL [] 0 (bodyOf Tryz.f45) = [] by kernel_rfl]; exact Lor.ok_nil _ _) (fun t => by refine main.trans ?_; rw [← spec_l06Closure.wrap, ← spec_l06Places.wrap, ← spec_l06Lines.wrap]; exact congrArg (B _ _ _ _ _ _) (fx1 fun t => ofC_enc encRI some t))
theorem ac : ∀ a x, Q a = some x → AC Tryz.prog 45 a [] false [] fun rv obs => (rv, obs) = encR x := acF (body := (bodyOf Tryz.f45)) Tryz.func45 (by kernel_rfl) (by kernel_rfl) acc fun x => ⟨by simp [encR, AV.Flat, K.Flat, C.Flat], flc (flat_rw rfl _) (fl0)⟩
end spec_l06Text
namespace spec_TextAt
noncomputable def B {ρ : Type} (C0 : YVC → YVW → Int → ByteArray → Option (ByteArray × Int × Int × Int)) (C1 : YG → YVB → Int → Option YS) (a1 : Vec YC) (a2 : Vec YW) (a3 : Int) (a4 : ByteArray) (K : Int → YS → Option ρ) : Option ρ :=
  (C0 a1 a2 a3 a4).bind fun r1 => sel ((!decide (r1.2.2.2 = (0 : Int)))) (K r1.2.2.2 (Vec.nil : YS)) (chk (decide (0 ≤ r1.2.1 ∧ r1.2.1 < (a2.n : Int))) ((C1 ((a2.g (r1.2.1).toNat).1) ((a2.g (r1.2.1).toNat).2) r1.2.2.1).bind fun r2 => K (0 : Int) r2))
noncomputable def F (a1 : Vec YC) (a2 : Vec YW) (a3 : Int) (a4 : ByteArray) : Option (Int × Vec ByteArray) := B spec_l15Find.F spec_l06Text.F a1 a2 a3 a4 (fun x1 x2 => some (x1, x2))
def encA (t : YVC × YVW × Int × ByteArray) : LA := [.a [cl t.1, cl t.2.1], vi t.2.2.1, vs t.2.2.2]
def encR (x : Int × Vec ByteArray) : AV × LO := (.tup [.c (.h 0), .c (ci x.1)], [ro x.2])
theorem encAI (a b) (h : encA a = encA b) : a = b := by simp [encA, encRw_iff] at h; simp [Prod.ext_iff, h]
theorem encRI (a b) (h : encR a = encR b) : a = b := by simp [encR, encRw_iff] at h; simp [Prod.ext_iff, h]
noncomputable def Q (args : LA) : Option (Int × Vec ByteArray) := ofC encA (un4 F) args
theorem wrap : F = fun y1 y2 y3 y4 => Q [.a [cl y1, cl y2], vi y3, vs y4] := by funext y1 y2 y3 y4; exact Eq.symm (ofC_enc encAI _ (y1, y2, y3, y4))
noncomputable abbrev O (Q0 : LA → Option (ByteArray × Int × Int × Int)) (Q1 : LA → Option YS) : Orc := mkO [qE 44 false spec_l15Find.encR Q0, qE 45 false spec_l06Text.encR Q1] [] []
noncomputable def L : Lor := fun _ _ _ _ => Option.none
theorem main {Q0 Q1} {ρ : Type} {K : AV → LO → Option ρ} {a1 a2 a3 a4} : exC Tryz.prog (O Q0 Q1) L [] 0 (bodyOf Tryz.f17) (entry 30 [.a [cl a1, cl a2], vi a3, vs a4] [] []) (finO Tryz.prog Tryz.f17.results.toList 0 [] [.ad (.s 6) 43] K) =
    B (fun y1 y2 y3 y4 => Q0 [.a [cl y1, cl y2], vi y3, vs y4]) (fun y1 y2 y3 => Q1 [.a [cl y1, cl y2], vi y3]) a1 a2 a3 a4 (fun x1 x2 => K (.tup [.c (.h 0), .c (ci x1)]) [ro x2]) := by kernel_rfl
theorem Gok : (O spec_l15Find.Q spec_l06Text.Q).ok Tryz.prog := mkO_ok (by exact ⟨qE_ok spec_l15Find.ac, qE_ok spec_l06Text.ac, trivial⟩) (by exact trivial)
theorem acc : ∀ t x, un4 F t = some x → ACc Tryz.prog 17 (encA t) [] true [] fun rv obs => (rv, obs) = encR x := accT (T := YVC × YVW × Int × ByteArray) (F := un4 F) (L := L) (cmds := [.ad (.s 6) 43]) (body := (bodyOf Tryz.f17)) Gok hmT Tryz.func17 (by kernel_rfl) (by kernel_rfl) (by rw [show atomsL [] 0 (bodyOf Tryz.f17) = [] by kernel_rfl]; exact Lor.ok_nil _ _) (fun t => by refine main.trans ?_; rw [← spec_l15Find.wrap, ← spec_l06Text.wrap]; exact congrArg (B _ _ _ _ _ _) (fx2 fun t => ofC_enc encRI some t))
theorem ac : ∀ a x, Q a = some x → AC Tryz.prog 17 a [] false [] fun rv obs => (rv, obs) = encR x := acF (body := (bodyOf Tryz.f17)) Tryz.func17 (by kernel_rfl) (by kernel_rfl) acc fun x => ⟨by simp [encR, AV.Flat, K.Flat, C.Flat], flc (flat_rw rfl _) (fl0)⟩
end spec_TextAt
namespace impl_TextAt
noncomputable def B {ρ : Type} (C0 : YVC → YVW → Int → ByteArray → Option (ByteArray × Int × Int × Int)) (C1 : YG → YVB → Int → Option YS) (a1 : Vec YC) (a2 : Vec YW) (a3 : Int) (a4 : ByteArray) (K : Int → YS → Option ρ) : Option ρ :=
  (C0 a1 a2 a3 a4).bind fun r1 => sel ((!decide (r1.2.2.2 = (0 : Int)))) (K r1.2.2.2 (Vec.nil : YS)) (chk (decide (0 ≤ r1.2.1 ∧ r1.2.1 < (a2.n : Int))) ((C1 ((a2.g (r1.2.1).toNat).1) ((a2.g (r1.2.1).toNat).2) r1.2.2.1).bind fun r2 => K (0 : Int) r2))
noncomputable def F (a1 : Vec YC) (a2 : Vec YW) (a3 : Int) (a4 : ByteArray) : Option (Int × Vec ByteArray) := B impl_nameAt.F impl_Weave_extract.F a1 a2 a3 a4 (fun x1 x2 => some (x1, x2))
def encA (t : YVC × YVW × Int × ByteArray) : LA := [.a [cl t.1, cl t.2.1], vi t.2.2.1, vs t.2.2.2]
def encR (x : Int × Vec ByteArray) : AV × LO := (.tup [.c (.h 0), .c (ci x.1)], [ro x.2])
theorem encAI (a b) (h : encA a = encA b) : a = b := by simp [encA, encRw_iff] at h; simp [Prod.ext_iff, h]
theorem encRI (a b) (h : encR a = encR b) : a = b := by simp [encR, encRw_iff] at h; simp [Prod.ext_iff, h]
noncomputable def Q (args : LA) : Option (Int × Vec ByteArray) := ofC encA (un4 F) args
theorem wrap : F = fun y1 y2 y3 y4 => Q [.a [cl y1, cl y2], vi y3, vs y4] := by funext y1 y2 y3 y4; exact Eq.symm (ofC_enc encAI _ (y1, y2, y3, y4))
noncomputable abbrev O (Q0 : LA → Option (ByteArray × Int × Int × Int)) (Q1 : LA → Option YS) : Orc := mkO [qE 46 false impl_nameAt.encR Q0, qE 47 false impl_Weave_extract.encR Q1] [] []
noncomputable def L : Lor := fun _ _ _ _ => Option.none
theorem main {Q0 Q1} {ρ : Type} {K : AV → LO → Option ρ} {a1 a2 a3 a4} : exC Tryz.prog (O Q0 Q1) L [] 0 (bodyOf Tryz.f18) (entry 28 [.a [cl a1, cl a2], vi a3, vs a4] [] []) (finO Tryz.prog Tryz.f18.results.toList 0 [] [.ad (.s 6) 43] K) =
    B (fun y1 y2 y3 y4 => Q0 [.a [cl y1, cl y2], vi y3, vs y4]) (fun y1 y2 y3 => Q1 [.ra [nl y1, nl y2], vi y3]) a1 a2 a3 a4 (fun x1 x2 => K (.tup [.c (.h 0), .c (ci x1)]) [ro x2]) := by kernel_rfl
theorem Gok : (O impl_nameAt.Q impl_Weave_extract.Q).ok Tryz.prog := mkO_ok (by exact ⟨qE_ok impl_nameAt.ac, qE_ok impl_Weave_extract.ac, trivial⟩) (by exact trivial)
theorem acc : ∀ t x, un4 F t = some x → ACc Tryz.prog 18 (encA t) [] true [] fun rv obs => (rv, obs) = encR x := accT (T := YVC × YVW × Int × ByteArray) (F := un4 F) (L := L) (cmds := [.ad (.s 6) 43]) (body := (bodyOf Tryz.f18)) Gok hmT Tryz.func18 (by kernel_rfl) (by kernel_rfl) (by rw [show atomsL [] 0 (bodyOf Tryz.f18) = [] by kernel_rfl]; exact Lor.ok_nil _ _) (fun t => by refine main.trans ?_; rw [← impl_nameAt.wrap, ← impl_Weave_extract.wrap]; exact congrArg (B _ _ _ _ _ _) (fx2 fun t => ofC_enc encRI some t))
theorem ac : ∀ a x, Q a = some x → AC Tryz.prog 18 a [] false [] fun rv obs => (rv, obs) = encR x := acF (body := (bodyOf Tryz.f18)) Tryz.func18 (by kernel_rfl) (by kernel_rfl) acc fun x => ⟨by simp [encR, AV.Flat, K.Flat, C.Flat], flc (flat_rw rfl _) (fl0)⟩
end impl_TextAt
namespace laws_eqStringS
noncomputable def B0 {ρ : Type} (v1 : YS) (v2 : YS) (v3 : Int) (W : YS → YS → Int → Option ρ) (K0 : Unit → Option ρ) (Kr : Bool → Option ρ) : Option ρ :=
  sel (decide (v3 < (v1.n : Int))) (chk (decide (0 ≤ v3 ∧ v3 < (v1.n : Int))) (chk (decide (0 ≤ v3 ∧ v3 < (v2.n : Int))) (sel ((!decide ((v1.g v3.toNat) = (v2.g v3.toNat)))) (Kr false) (W v1 v2 (wr (v3 + (1 : Int))))))) (K0 ())
noncomputable def F0 {ρ : Type} : Nat → YS → YS → Int → (Unit → Option ρ) → (Bool → Option ρ) → Option ρ
  | 0, _, _, _, _, _ => none
  | k + 1, v1, v2, v3, K0, Kr => B0 v1 v2 v3 (fun v1' v2' v3' => F0 k v1' v2' v3' K0 Kr) K0 Kr
noncomputable def B {ρ : Type} (L0 : YS → YS → Int → (Unit → Option ρ) → (Bool → Option ρ) → Option ρ) (a1 : YS) (a2 : YS) (K : Bool → Option ρ) : Option ρ :=
  sel ((!decide ((a1.n : Int) = (a2.n : Int)))) (K false) (L0 a1 a2 (0 : Int) (fun _ => K true) (fun x01 => K x01))
noncomputable def F (a1 : YS) (a2 : YS) : Option Bool := B (F0 fuelN) a1 a2 (fun x1 => some (x1))
def encA (t : Vec ByteArray × Vec ByteArray) : LA := [vl t.1, vl t.2]
def encR (x : Bool) : AV × LO := (vb x, [])
theorem encAI (a b) (h : encA a = encA b) : a = b := by simp [encA, encRw_iff] at h; simp [Prod.ext_iff, h]
theorem encRI (a b) (h : encR a = encR b) : a = b := by simpa [encR, encRw_iff] using h
noncomputable def Q (args : LA) : Option Bool := ofC encA (un2 F) args
theorem wrap : F = fun y1 y2 => Q [vl y1, vl y2] := by funext y1 y2; exact Eq.symm (ofC_enc encAI _ (y1, y2))
noncomputable abbrev O : Orc := mkO [] [] []
noncomputable def c0 : Code := loopC (atomN [] 0 (bodyOf Tryz.f19) 0)
def ct0 : Cut := ⟨[0, 1, 5], []⟩
def lv0 : Exit → Cut
  | .exit 0 => ⟨[], []⟩
  | .ret => ⟨[4], []⟩
  | _ => ⟨[], []⟩
def k0_0 {ρ : Type} (K : Exit → St → Option ρ) (_ : Unit) : Option ρ := K (.exit 0) (mkS 26 (lv0 (.exit 0)).live [] [] [])
def k0_r {ρ : Type} (K : Exit → St → Option ρ) (z1 : Bool) : Option ρ := K .ret (mkS 26 (lv0 .ret).live [vb z1] [] [])
noncomputable def L (W0 : (ρ : Type) → LA → LO → (Unit → Option ρ) → (Bool → Option ρ) → Option ρ) : Lor := fun ρ j st K => sel (Nat.beq j 0) (cutO Tryz.prog 26 ct0.live 0 [] ct0.cmds st fun avs obs => W0 ρ avs obs (k0_0 K) (k0_r K)) (Option.none)
theorem step0 {W0} {ρ : Type} {K : Exit → St → Option ρ} {W : LA → LO → Option ρ} {v1 v2 v3} : exC Tryz.prog O (L W0) [] 1 c0 (mkS 26 ct0.live [vl v1, vl v2, vi v3] [] []) (bodyK Tryz.prog 26 0 [] ct0 W lv0 K) =
    B0 v1 v2 v3 (fun u1 u2 u3 => W [vl u1, vl u2, vi u3] []) (k0_0 K) (k0_r K) := by kernel_rfl
def enc0 (t : Vec ByteArray × Vec ByteArray × Int) : LA × LO := ([vl t.1, vl t.2.1, vi t.2.2], [])
theorem enc0I (a b) (h : enc0 a = enc0 b) : a = b := by simp [enc0, encRw_iff] at h; simp [Prod.ext_iff, h]
noncomputable def V0 : (ρ : Type) → LA → LO → (Unit → Option ρ) → (Bool → Option ρ) → Option ρ := fun ρ avs obs k0 kr => ofC enc0 (fun t => un3 (F0 fuelN) t k0 kr) (avs, obs)
theorem V0_enc (ρ : Type) : F0 fuelN = fun w1 w2 w3 k0 kr => V0 ρ [vl w1, vl w2, vi w3] [] k0 kr := by funext w1 w2 w3 k0 kr; exact Eq.symm (ofC_enc enc0I _ (w1, w2, w3))
theorem main {W0} {ρ : Type} {K : AV → LO → Option ρ} {a1 a2} : exC Tryz.prog O (L W0) [] 0 (bodyOf Tryz.f19) (entry 26 [vl a1, vl a2] [] []) (finO Tryz.prog Tryz.f19.results.toList 0 [] [] K) =
    B (fun w1 w2 w3 k0 kr => W0 ρ [vl w1, vl w2, vi w3] [] k0 kr) a1 a2 (fun x1 => K (vb x1) []) := by kernel_rfl
theorem Gok : O.ok Tryz.prog := mkO_ok (by exact trivial) (by exact trivial)
theorem ok0 : OkL Tryz.prog (L V0) 0 (.loop c0) := fun ρ st K r h => loop_ok (ct := ct0) (lv := lv0) (L := (L V0)) Gok hmT (by rw [show atomsL [] 1 c0 = [] by kernel_rfl]; exact Lor.ok_nil _ _) enc0I (fun k t => un3 (F0 k) t (k0_0 K) (k0_r K)) (fun t => rfl) (fun k t => by refine step0.trans ?_; exact congrFun (congrFun (congrArg (B0 _ _ _) (fx3 fun t => ofC_enc enc0I _ t)) _) _) (fun _ => fuelN) h
theorem e : atomsL [] 0 (bodyOf Tryz.f19) = [(0, 0, .loop c0)] := by kernel_rfl
theorem acc : ∀ t x, un2 F t = some x → ACc Tryz.prog 19 (encA t) [] true [] fun rv obs => (rv, obs) = encR x := accT (T := Vec ByteArray × Vec ByteArray) (F := un2 F) (L := (L V0)) (cmds := []) (body := (bodyOf Tryz.f19)) Gok hmT Tryz.func19 (by kernel_rfl) (by kernel_rfl) (by rw [e]; exact Lor.ok_cons ok0 (Lor.ok_nil _ _)) (fun t => by refine main.trans ?_; rw [← V0_enc]; exact congrArg (B _ _ _) (fx1 fun t => ofC_enc encRI some t))
theorem ac : ∀ a x, Q a = some x → AC Tryz.prog 19 a [] false [] fun rv obs => (rv, obs) = encR x := acF (body := (bodyOf Tryz.f19)) Tryz.func19 (by kernel_rfl) (by kernel_rfl) acc fun x => ⟨by simp [encR, AV.Flat, K.Flat, C.Flat], fl0⟩
end laws_eqStringS
namespace laws_markStringS_s1401
noncomputable def B0 {ρ : Type} (C0 : Int → Option ByteArray) (v1 : Int) (v2 : Int) (v3 : YS) (W : Int → Int → YS → Option ρ) (K0 : Int → YS → Option ρ) : Option ρ :=
  sel (decide (v2 < (v3.n : Int))) ((C0 v1).bind fun r1 => chk (decide (0 ≤ v2 ∧ v2 < (v3.n : Int))) (chk (decide (v2.toNat < v3.n)) (W (wr (v1 + (1 : Int))) (wr (v2 + (1 : Int))) (Vec.set v3 v2.toNat r1)))) (K0 v1 v3)
noncomputable def F0 {ρ : Type} : Nat → Int → Int → YS → (Int → YS → Option ρ) → Option ρ
  | 0, _, _, _, _ => none
  | k + 1, v1, v2, v3, K0 => B0 laws_markText.F v1 v2 v3 (fun v1' v2' v3' => F0 k v1' v2' v3' K0) K0
noncomputable def B {ρ : Type} (L0 : Int → Int → YS → (Int → YS → Option ρ) → Option ρ) (a1 : Int) (a2 : YS) (K : Int → YS → Option ρ) : Option ρ :=
  L0 a1 (0 : Int) a2 (fun e01 e02 => K e01 e02)
noncomputable def F (a1 : Int) (a2 : YS) : Option (Int × Vec ByteArray) := B (F0 fuelN) a1 a2 (fun x1 x2 => some (x1, x2))
def encA (t : Int × Vec ByteArray) : LA × LO := ([.c (.h 0), vi t.1], [ro t.2])
def encR (x : Int × Vec ByteArray) : AV × LO := (vi x.1, [ro x.2])
theorem encAI (a b) (h : encA a = encA b) : a = b := by simp [encA, encRw_iff] at h; simp [Prod.ext_iff, h]
theorem encRI (a b) (h : encR a = encR b) : a = b := by simp [encR, encRw_iff] at h; simp [Prod.ext_iff, h]
noncomputable def Q (args : LA) (hin : LO) : Option (Int × Vec ByteArray) := ofC encA (un2 F) (args, hin)
theorem wrap : F = fun y1 y2 => Q [.c (.h 0), vi y1] [ro y2] := by funext y1 y2; exact Eq.symm (ofC_enc encAI _ (y1, y2))
noncomputable abbrev O (Q0 : LA → Option ByteArray) : Orc := mkO [qE 36 false laws_markText.encR Q0] [] []
noncomputable def c0 : Code := loopC (atomN [] 0 (bodyOf Tryz.f20) 0)
def ct0 : Cut := ⟨[0, 1, 5], []⟩
def lv0 : Exit → Cut
  | .exit 0 => ⟨[1], []⟩
  | _ => ⟨[], []⟩
def k0_0 {ρ : Type} (K : Exit → St → Option ρ) (z1 : Int) (z2 : YS) : Option ρ := K (.exit 0) (mkS 20 (lv0 (.exit 0)).live [vi z1] [ro z2] [true])
noncomputable def L (W0 : (ρ : Type) → LA → LO → (Int → YS → Option ρ) → Option ρ) : Lor := fun ρ j st K => sel (Nat.beq j 0) (cutO Tryz.prog 20 ct0.live 1 [true] ct0.cmds st fun avs obs => W0 ρ avs obs (k0_0 K)) (Option.none)
theorem step0 {Q0 W0} {ρ : Type} {K : Exit → St → Option ρ} {W : LA → LO → Option ρ} {v1 v2 v3} : exC Tryz.prog (O Q0) (L W0) [] 1 c0 (mkS 20 ct0.live [.c (.h 0), vi v1, vi v2] [ro v3] [true]) (bodyK Tryz.prog 20 1 [true] ct0 W lv0 K) =
    B0 (fun y1 => Q0 [vi y1]) v1 v2 v3 (fun u1 u2 u3 => W [.c (.h 0), vi u1, vi u2] [ro u3]) (k0_0 K) := by kernel_rfl
def enc0 (t : Int × Int × Vec ByteArray) : LA × LO := ([.c (.h 0), vi t.1, vi t.2.1], [ro t.2.2])
theorem enc0I (a b) (h : enc0 a = enc0 b) : a = b := by simp [enc0, encRw_iff] at h; simp [Prod.ext_iff, h]
noncomputable def V0 : (ρ : Type) → LA → LO → (Int → YS → Option ρ) → Option ρ := fun ρ avs obs k0 => ofC enc0 (fun t => un3 (F0 fuelN) t k0) (avs, obs)
theorem V0_enc (ρ : Type) : F0 fuelN = fun w1 w2 w3 k0 => V0 ρ [.c (.h 0), vi w1, vi w2] [ro w3] k0 := by funext w1 w2 w3 k0; exact Eq.symm (ofC_enc enc0I _ (w1, w2, w3))
theorem main {Q0 W0} {ρ : Type} {K : AV → LO → Option ρ} {a1 a2} : exC Tryz.prog (O Q0) (L W0) [] 0 (bodyOf Tryz.f20) (entry 20 [.c (.h 0), vi a1] [ro a2] [true]) (finO Tryz.prog Tryz.f20.results.toList 1 [true] [] K) =
    B (fun w1 w2 w3 k0 => W0 ρ [.c (.h 0), vi w1, vi w2] [ro w3] k0) a1 a2 (fun x1 x2 => K (vi x1) [ro x2]) := by kernel_rfl
theorem Gok : (O laws_markText.Q).ok Tryz.prog := mkO_ok (by exact ⟨qE_ok laws_markText.ac, trivial⟩) (by exact trivial)
theorem ok0 : OkL Tryz.prog (L V0) 0 (.loop c0) := fun ρ st K r h => loop_ok (ct := ct0) (lv := lv0) (L := (L V0)) Gok hmT (by rw [show atomsL [] 1 c0 = [] by kernel_rfl]; exact Lor.ok_nil _ _) enc0I (fun k t => un3 (F0 k) t (k0_0 K)) (fun t => rfl) (fun k t => by refine step0.trans ?_; rw [← laws_markText.wrap]; exact congrFun (congrArg (B0 _ _ _ _) (fx3 fun t => ofC_enc enc0I _ t)) _) (fun _ => fuelN) h
theorem e : atomsL [] 0 (bodyOf Tryz.f20) = [(0, 0, .loop c0)] := by kernel_rfl
theorem acc : ∀ t x, un2 F t = some x → ACc Tryz.prog 20 (encA t).1 (encA t).2 true [true] fun rv obs => (rv, obs) = encR x := accT2 (T := Int × Vec ByteArray) (F := un2 F) (L := (L V0)) (cmds := []) (body := (bodyOf Tryz.f20)) 1 (fun _ => rfl) Gok hmT Tryz.func20 (by kernel_rfl) (by kernel_rfl) (by rw [e]; exact Lor.ok_cons ok0 (Lor.ok_nil _ _)) (fun t => by refine main.trans ?_; rw [← V0_enc]; exact congrArg (B _ _ _) (fx2 fun t => ofC_enc encRI some t))
theorem ac : ∀ a h x, Q a h = some x → AC Tryz.prog 20 a h false [true] fun rv obs => (rv, obs) = encR x := acF2 (body := (bodyOf Tryz.f20)) Tryz.func20 (by kernel_rfl) (by kernel_rfl) acc fun x => ⟨by simp [encR, AV.Flat, K.Flat, C.Flat], flc (flat_rw rfl _) (fl0)⟩
end laws_markStringS_s1401
namespace laws_heldStringS
noncomputable def B0 {ρ : Type} (C0 : Int → Option ByteArray) (v1 : YS) (v2 : Int) (v3 : Int) (W : YS → Int → Int → Option ρ) (K0 : Int → Option ρ) (Kr : Int → Option ρ) : Option ρ :=
  sel (decide (v3 < (v1.n : Int))) (chk (decide (0 ≤ v3 ∧ v3 < (v1.n : Int))) ((C0 v2).bind fun r1 => sel ((!decide ((v1.g v3.toNat) = r1))) (Kr (-1 : Int)) (W v1 (wr (v2 + (1 : Int))) (wr (v3 + (1 : Int)))))) (K0 v2)
noncomputable def F0 {ρ : Type} : Nat → YS → Int → Int → (Int → Option ρ) → (Int → Option ρ) → Option ρ
  | 0, _, _, _, _, _ => none
  | k + 1, v1, v2, v3, K0, Kr => B0 laws_markText.F v1 v2 v3 (fun v1' v2' v3' => F0 k v1' v2' v3' K0 Kr) K0 Kr
noncomputable def B {ρ : Type} (L0 : YS → Int → Int → (Int → Option ρ) → (Int → Option ρ) → Option ρ) (a1 : YS) (a2 : Int) (K : Int → Option ρ) : Option ρ :=
  L0 a1 a2 (0 : Int) (fun e01 => K e01) (fun x01 => K x01)
noncomputable def F (a1 : YS) (a2 : Int) : Option Int := B (F0 fuelN) a1 a2 (fun x1 => some (x1))
def encA (t : Vec ByteArray × Int) : LA := [vl t.1, vi t.2]
def encR (x : Int) : AV × LO := (vi x, [])
theorem encAI (a b) (h : encA a = encA b) : a = b := by simp [encA, encRw_iff] at h; simp [Prod.ext_iff, h]
theorem encRI (a b) (h : encR a = encR b) : a = b := by simpa [encR, encRw_iff] using h
noncomputable def Q (args : LA) : Option Int := ofC encA (un2 F) args
theorem wrap : F = fun y1 y2 => Q [vl y1, vi y2] := by funext y1 y2; exact Eq.symm (ofC_enc encAI _ (y1, y2))
noncomputable abbrev O (Q0 : LA → Option ByteArray) : Orc := mkO [qE 36 false laws_markText.encR Q0] [] []
noncomputable def c0 : Code := loopC (atomN [] 0 (bodyOf Tryz.f21) 0)
def ct0 : Cut := ⟨[0, 1, 5], []⟩
def lv0 : Exit → Cut
  | .exit 0 => ⟨[1], []⟩
  | .ret => ⟨[4], []⟩
  | _ => ⟨[], []⟩
def k0_0 {ρ : Type} (K : Exit → St → Option ρ) (z1 : Int) : Option ρ := K (.exit 0) (mkS 22 (lv0 (.exit 0)).live [vi z1] [] [])
def k0_r {ρ : Type} (K : Exit → St → Option ρ) (z1 : Int) : Option ρ := K .ret (mkS 22 (lv0 .ret).live [vi z1] [] [])
noncomputable def L (W0 : (ρ : Type) → LA → LO → (Int → Option ρ) → (Int → Option ρ) → Option ρ) : Lor := fun ρ j st K => sel (Nat.beq j 0) (cutO Tryz.prog 22 ct0.live 0 [] ct0.cmds st fun avs obs => W0 ρ avs obs (k0_0 K) (k0_r K)) (Option.none)
theorem step0 {Q0 W0} {ρ : Type} {K : Exit → St → Option ρ} {W : LA → LO → Option ρ} {v1 v2 v3} : exC Tryz.prog (O Q0) (L W0) [] 1 c0 (mkS 22 ct0.live [vl v1, vi v2, vi v3] [] []) (bodyK Tryz.prog 22 0 [] ct0 W lv0 K) =
    B0 (fun y1 => Q0 [vi y1]) v1 v2 v3 (fun u1 u2 u3 => W [vl u1, vi u2, vi u3] []) (k0_0 K) (k0_r K) := by kernel_rfl
def enc0 (t : Vec ByteArray × Int × Int) : LA × LO := ([vl t.1, vi t.2.1, vi t.2.2], [])
theorem enc0I (a b) (h : enc0 a = enc0 b) : a = b := by simp [enc0, encRw_iff] at h; simp [Prod.ext_iff, h]
noncomputable def V0 : (ρ : Type) → LA → LO → (Int → Option ρ) → (Int → Option ρ) → Option ρ := fun ρ avs obs k0 kr => ofC enc0 (fun t => un3 (F0 fuelN) t k0 kr) (avs, obs)
theorem V0_enc (ρ : Type) : F0 fuelN = fun w1 w2 w3 k0 kr => V0 ρ [vl w1, vi w2, vi w3] [] k0 kr := by funext w1 w2 w3 k0 kr; exact Eq.symm (ofC_enc enc0I _ (w1, w2, w3))
theorem main {Q0 W0} {ρ : Type} {K : AV → LO → Option ρ} {a1 a2} : exC Tryz.prog (O Q0) (L W0) [] 0 (bodyOf Tryz.f21) (entry 22 [vl a1, vi a2] [] []) (finO Tryz.prog Tryz.f21.results.toList 0 [] [] K) =
    B (fun w1 w2 w3 k0 kr => W0 ρ [vl w1, vi w2, vi w3] [] k0 kr) a1 a2 (fun x1 => K (vi x1) []) := by kernel_rfl
theorem Gok : (O laws_markText.Q).ok Tryz.prog := mkO_ok (by exact ⟨qE_ok laws_markText.ac, trivial⟩) (by exact trivial)
theorem ok0 : OkL Tryz.prog (L V0) 0 (.loop c0) := fun ρ st K r h => loop_ok (ct := ct0) (lv := lv0) (L := (L V0)) Gok hmT (by rw [show atomsL [] 1 c0 = [] by kernel_rfl]; exact Lor.ok_nil _ _) enc0I (fun k t => un3 (F0 k) t (k0_0 K) (k0_r K)) (fun t => rfl) (fun k t => by refine step0.trans ?_; rw [← laws_markText.wrap]; exact congrFun (congrFun (congrArg (B0 _ _ _ _) (fx3 fun t => ofC_enc enc0I _ t)) _) _) (fun _ => fuelN) h
theorem e : atomsL [] 0 (bodyOf Tryz.f21) = [(0, 0, .loop c0)] := by kernel_rfl
theorem acc : ∀ t x, un2 F t = some x → ACc Tryz.prog 21 (encA t) [] true [] fun rv obs => (rv, obs) = encR x := accT (T := Vec ByteArray × Int) (F := un2 F) (L := (L V0)) (cmds := []) (body := (bodyOf Tryz.f21)) Gok hmT Tryz.func21 (by kernel_rfl) (by kernel_rfl) (by rw [e]; exact Lor.ok_cons ok0 (Lor.ok_nil _ _)) (fun t => by refine main.trans ?_; rw [← V0_enc]; exact congrArg (B _ _ _) (fx1 fun t => ofC_enc encRI some t))
theorem ac : ∀ a x, Q a = some x → AC Tryz.prog 21 a [] false [] fun rv obs => (rv, obs) = encR x := acF (body := (bodyOf Tryz.f21)) Tryz.func21 (by kernel_rfl) (by kernel_rfl) acc fun x => ⟨by simp [encR, AV.Flat, K.Flat, C.Flat], fl0⟩
end laws_heldStringS
namespace laws_FnExactTextAt
noncomputable def B {ρ : Type} (C0 : YVC → YVW → Int → Option Int) (C1 : YVC → YVW → Option (YVC × YVW)) (C2 : YVC → YVW → Int → ByteArray → Option (Int × Vec ByteArray)) (C3 : YVC → YVW → Int → ByteArray → Option (Int × Vec ByteArray)) (C4 : YS → YS → Option Bool) (C5 : YVC → YVW → YVC → YVW → Option Bool) (C6 : Int → YVC → YVW → Option (Int × YVC × YVW)) (C7 : Int → YS → Option (Int × Vec ByteArray)) (C8 : YS → Int → Option Int) (a1 : Vec YC) (a2 : Vec YW) (a3 : Int) (a4 : ByteArray) (K : Bool → Option ρ) : Option ρ :=
  sel (decide ((1048576 : Int) < (a4.size : Int))) (K true) ((C0 a1 a2 (1048576 : Int)).bind fun r1 => sel (decide (r1 < (0 : Int))) (K true) ((C1 a1 a2).bind fun r2 => (C2 r2.1 r2.2 a3 a4).bind fun r3 => (C1 a1 a2).bind fun r4 => (C3 r4.1 r4.2 a3 a4).bind fun r5 => (C4 r5.2 r3.2).bind fun r6 => sel ((!r6)) (K false) (sel ((!decide (r5.1 = r3.1))) (K false) ((C1 a1 a2).bind fun r7 => (C5 r4.1 r4.2 r7.1 r7.2).bind fun r8 => sel ((!r8)) (K false) ((C6 (1 : Int) r4.1 r4.2).bind fun r9 => sel (decide (r9.1 < (0 : Int))) (K false) ((C4 r5.2 r3.2).bind fun r10 => sel ((!r10)) (K false) (sel ((!decide (r5.1 = r3.1))) (K false) ((C7 (1 : Int) r5.2).bind fun r11 => (C8 r11.2 (1 : Int)).bind fun r12 => sel (decide (r12 < (0 : Int))) (K false) (sel ((!decide (r12 = r11.1))) (K false) ((C1 a1 a2).bind fun r13 => (C3 r13.1 r13.2 a3 a4).bind fun r14 => (C4 r14.2 r3.2).bind fun r15 => sel ((!r15)) (K false) (sel ((!decide (r14.1 = r3.1))) (K false) ((C8 r11.2 (1 : Int)).bind fun r16 => sel (decide (r16 < (0 : Int))) (K false) (sel ((!decide (r16 = r11.1))) (K false) (K true))))))))))))))
noncomputable def F (a1 : Vec YC) (a2 : Vec YW) (a3 : Int) (a4 : ByteArray) : Option Bool := B laws_szStore.F laws_toStore.F spec_TextAt.F impl_TextAt.F laws_eqStringS.F laws_eqStore.F laws_markStore_sd1d9.F laws_markStringS_s1401.F laws_heldStringS.F a1 a2 a3 a4 (fun x1 => some (x1))
def encA (t : YVC × YVW × Int × ByteArray) : LA := [.a [cl t.1, cl t.2.1], vi t.2.2.1, vs t.2.2.2]
def encR (x : Bool) : AV × LO := (vb x, [])
theorem encAI (a b) (h : encA a = encA b) : a = b := by simp [encA, encRw_iff] at h; simp [Prod.ext_iff, h]
theorem encRI (a b) (h : encR a = encR b) : a = b := by simpa [encR, encRw_iff] using h
noncomputable def Q (args : LA) : Option Bool := ofC encA (un4 F) args
theorem wrap : F = fun y1 y2 y3 y4 => Q [.a [cl y1, cl y2], vi y3, vs y4] := by funext y1 y2 y3 y4; exact Eq.symm (ofC_enc encAI _ (y1, y2, y3, y4))
noncomputable abbrev O (Q0 : LA → Option Int) (Q1 : LA → Option (YVC × YVW)) (Q2 : LA → Option (Int × Vec ByteArray)) (Q3 : LA → Option (Int × Vec ByteArray)) (Q4 : LA → Option Bool) (Q5 : LA → Option Bool) (Q8 : LA → Option Int) (Q6 : LA → LO → Option (Int × YVC × YVW)) (Q7 : LA → LO → Option (Int × Vec ByteArray)) : Orc := mkO [qE 6 false laws_szStore.encR Q0, qE 8 false laws_toStore.encR Q1, qE 17 false spec_TextAt.encR Q2, qE 18 false impl_TextAt.encR Q3, qE 19 false laws_eqStringS.encR Q4, qE 11 false laws_eqStore.encR Q5, qE 21 false laws_heldStringS.encR Q8] [eE Tryz.prog 12 [true, false] false [true, true] laws_markStore_sd1d9.encR Q6, eE Tryz.prog 20 [true, false] false [true] laws_markStringS_s1401.encR Q7] []
noncomputable def L : Lor := fun _ _ _ _ => Option.none
theorem main {Q0 Q1 Q2 Q3 Q4 Q5 Q6 Q7 Q8} {ρ : Type} {K : AV → LO → Option ρ} {a1 a2 a3 a4} : exC Tryz.prog (O Q0 Q1 Q2 Q3 Q4 Q5 Q8 Q6 Q7) L [] 0 (bodyOf Tryz.f5) (entry 109 [.a [cl a1, cl a2], vi a3, vs a4] [] []) (finO Tryz.prog Tryz.f5.results.toList 0 [] [] K) =
    B (fun y1 y2 y3 => Q0 [.a [cl y1, cl y2], vi y3]) (fun y1 y2 => Q1 [.a [cl y1, cl y2]]) (fun y1 y2 y3 y4 => Q2 [.a [cl y1, cl y2], vi y3, vs y4]) (fun y1 y2 y3 y4 => Q3 [.a [cl y1, cl y2], vi y3, vs y4]) (fun y1 y2 => Q4 [vl y1, vl y2]) (fun y1 y2 y3 y4 => Q5 [.a [cl y1, cl y2], .a [cl y3, cl y4]]) (fun y1 y2 y3 => Q6 [.a [.h 0, .h 1], vi y1] [ro y2, ro y3]) (fun y1 y2 => Q7 [.c (.h 0), vi y1] [ro y2]) (fun y1 y2 => Q8 [vl y1, vi y2]) a1 a2 a3 a4 (fun x1 => K (vb x1) []) := by kernel_rfl
theorem Gok : (O laws_szStore.Q laws_toStore.Q spec_TextAt.Q impl_TextAt.Q laws_eqStringS.Q laws_eqStore.Q laws_heldStringS.Q laws_markStore_sd1d9.Q laws_markStringS_s1401.Q).ok Tryz.prog := mkO_ok (by exact ⟨qE_ok laws_szStore.ac, qE_ok laws_toStore.ac, qE_ok spec_TextAt.ac, qE_ok impl_TextAt.ac, qE_ok laws_eqStringS.ac, qE_ok laws_eqStore.ac, qE_ok laws_heldStringS.ac, trivial⟩) (by exact ⟨eE_ok (fun h => by cases h) laws_markStore_sd1d9.ac, eE_ok (fun h => by cases h) laws_markStringS_s1401.ac, trivial⟩)
theorem acc : ∀ t x, un4 F t = some x → ACc Tryz.prog 5 (encA t) [] true [] fun rv obs => (rv, obs) = encR x := accT (T := YVC × YVW × Int × ByteArray) (F := un4 F) (L := L) (cmds := []) (body := (bodyOf Tryz.f5)) Gok hmT Tryz.func5 (by kernel_rfl) (by kernel_rfl) (by rw [show atomsL [] 0 (bodyOf Tryz.f5) = [] by kernel_rfl]; exact Lor.ok_nil _ _) (fun t => by refine main.trans ?_; rw [← laws_szStore.wrap, ← laws_toStore.wrap, ← spec_TextAt.wrap, ← impl_TextAt.wrap, ← laws_eqStringS.wrap, ← laws_eqStore.wrap, ← laws_markStore_sd1d9.wrap, ← laws_markStringS_s1401.wrap, ← laws_heldStringS.wrap]; exact congrArg (B _ _ _ _ _ _ _ _ _ _ _ _ _) (fx1 fun t => ofC_enc encRI some t))
theorem ac : ∀ a x, Q a = some x → AC Tryz.prog 5 a [] false [] fun rv obs => (rv, obs) = encR x := acF (body := (bodyOf Tryz.f5)) Tryz.func5 (by kernel_rfl) (by kernel_rfl) acc fun x => ⟨by simp [encR, AV.Flat, K.Flat, C.Flat], fl0⟩
end laws_FnExactTextAt
end Go.Al
