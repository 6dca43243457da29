import Derived.Test.YtahffnkphppgoaaGreatAlE
import Derived.Test.YtahffnkphppgoaaGreatSC
import Derived.Test.YtahffnkphppgoaaGreatGStoreOk
set_option linter.unusedVariables false
set_option linter.unusedSimpArgs false
set_option linter.constructorNameAsVariable false
set_option linter.unusedSectionVars false
set_option maxRecDepth 100000
namespace Go.Al
open Go.Proofs
namespace spec_l15Has
noncomputable def B {ρ : Type} (C0 : Int → Int → Int → Option Bool) (a1 : Vec YC) (a2 : Vec YW) (a3 : Int) (K : Bool → Option ρ) : Option ρ :=
  (C0 a3 (0 : Int) (wr ((a1.n : Int) - (1 : Int)))).bind fun r1 => K r1
noncomputable def F (a1 : Vec YC) (a2 : Vec YW) (a3 : Int) : Option Bool := B spec_l01In.F a1 a2 a3 (fun x1 => some (x1))
def encA (t : YVC × YVW × Int) : LA := [.a [cl t.1, cl t.2.1], vi t.2.2]
def encR (x : Bool) : AV × LO := (vb x, [])
theorem ZA (a b) (h : encA a = encA b) : a = b := by simp [encA, zA] at h; simp [Prod.ext_iff, h]
theorem ZB (a b) (h : encR a = encR b) : a = b := by simpa [encR, zA] using h
noncomputable def Q (args : LA) : Option Bool := ofC encA (un3 F) args
theorem wrap : F = fun y1 y2 y3 => Q [.a [cl y1, cl y2], vi y3] := by funext y1 y2 y3; exact Eq.symm (zD ZA _ (y1, y2, y3))
noncomputable abbrev O (Q0 : LA → Option Bool) : Orc := mkO [qE 119 false spec_l01In.encR Q0] [] []
noncomputable def L : Lor := fun _ _ _ _ => Option.none
theorem main {Q0} {ρ : Type} {K : AV → LO → Option ρ} {a1 a2 a3} : exC Tryz.prog (O Q0) L [] 0 (zB Tryz.f60) (entry 11 [.a [cl a1, cl a2], vi a3] [] []) (finO Tryz.prog Tryz.f60.results.toList 0 [] [] K) =
    B (fun y1 y2 y3 => Q0 [vi y1, vi y2, vi y3]) a1 a2 a3 (fun x1 => K (vb x1) []) := by kernel_rfl
theorem Gok : (O spec_l01In.Q).ok Tryz.prog := zH (by exact ⟨qE_ok spec_l01In.ac, trivial⟩) (by exact trivial)
theorem acc : ∀ t x, un3 F t = some x → ACc Tryz.prog 60 (encA t) [] true [] fun rv obs => (rv, obs) = encR x := accT (T := YVC × YVW × Int) (F := un3 F) (L := L) (cmds := []) (body := (zB Tryz.f60)) Gok hmT Tryz.func60 (by kernel_rfl) (by kernel_rfl) (by rw [show zE [] 0 (zB Tryz.f60) = [] by kernel_rfl]; exact Lor.zF _ _) (fun t => by refine main.trans ?_; rw [← spec_l01In.wrap]; exact congrArg (B _ _ _ _) (fx1 fun t => zD ZB some t))
theorem ac : ∀ a x, Q a = some x → AC Tryz.prog 60 a [] false [] fun rv obs => (rv, obs) = encR x := acF (body := (zB Tryz.f60)) Tryz.func60 (by kernel_rfl) (by kernel_rfl) acc fun x => ⟨by simp [encR, AV.Flat, K.Flat, C.Flat], fl0⟩
end spec_l15Has
namespace spec_NamesAt
noncomputable def B {ρ : Type} (C0 : YVC → YVW → Option Bool) (C1 : YVC → YVW → Int → Option Bool) (a1 : Vec YC) (a2 : Vec YW) (a3 : Int) (K : Int → YVN → Option ρ) : Option ρ :=
  (C0 a1 a2).bind fun r1 => sel ((!r1)) (K (1 : Int) (Vec.nil : Vec YN)) ((C1 a1 a2 a3).bind fun r2 => sel ((!r2)) (K (2 : Int) (Vec.nil : Vec YN)) (chk (decide (0 ≤ a3 ∧ a3 < (a1.n : Int))) (chk (decide (((a1.g a3.toNat).2.2).n * 33 ≤ maxN)) (K (0 : Int) ((a1.g a3.toNat).2.2)))))
noncomputable def F (a1 : Vec YC) (a2 : Vec YW) (a3 : Int) : Option (Int × YVN) := B spec_StoreOk.F spec_l15Has.F a1 a2 a3 (fun x1 x2 => some (x1, x2))
def encA (t : YVC × YVW × Int) : LA := [.a [cl t.1, cl t.2.1], vi t.2.2]
def encR (x : Int × YVN) : AV × LO := (.tup [.c (.h 0), .c (ci x.1)], [ro x.2])
theorem ZA (a b) (h : encA a = encA b) : a = b := by simp [encA, zA] at h; simp [Prod.ext_iff, h]
theorem ZB (a b) (h : encR a = encR b) : a = b := by simp [encR, zA] at h; simp [Prod.ext_iff, h]
noncomputable def Q (args : LA) : Option (Int × YVN) := ofC encA (un3 F) args
theorem wrap : F = fun y1 y2 y3 => Q [.a [cl y1, cl y2], vi y3] := by funext y1 y2 y3; exact Eq.symm (zD ZA _ (y1, y2, y3))
noncomputable abbrev O (Q0 : LA → Option Bool) (Q1 : LA → Option Bool) : Orc := mkO [qE 59 false spec_StoreOk.encR Q0, qE 60 false spec_l15Has.encR Q1] [] []
noncomputable def L : Lor := fun _ _ _ _ => Option.none
theorem main {Q0 Q1} {ρ : Type} {K : AV → LO → Option ρ} {a1 a2 a3} : exC Tryz.prog (O Q0 Q1) L [] 0 (zB Tryz.f103) (entry 23 [.a [cl a1, cl a2], vi a3] [] []) (finO Tryz.prog Tryz.f103.results.toList 0 [] [.ad (.s 4) 50] K) =
    B (fun y1 y2 => Q0 [.a [cl y1, cl y2]]) (fun y1 y2 y3 => Q1 [.a [cl y1, cl y2], vi y3]) a1 a2 a3 (fun x1 x2 => K (.tup [.c (.h 0), .c (ci x1)]) [ro x2]) := by kernel_rfl
theorem Gok : (O spec_StoreOk.Q spec_l15Has.Q).ok Tryz.prog := zH (by exact ⟨qE_ok spec_StoreOk.ac, qE_ok spec_l15Has.ac, trivial⟩) (by exact trivial)
theorem acc : ∀ t x, un3 F t = some x → ACc Tryz.prog 103 (encA t) [] true [] fun rv obs => (rv, obs) = encR x := accT (T := YVC × YVW × Int) (F := un3 F) (L := L) (cmds := [.ad (.s 4) 50]) (body := (zB Tryz.f103)) Gok hmT Tryz.func103 (by kernel_rfl) (by kernel_rfl) (by rw [show zE [] 0 (zB Tryz.f103) = [] by kernel_rfl]; exact Lor.zF _ _) (fun t => by refine main.trans ?_; rw [← spec_StoreOk.wrap, ← spec_l15Has.wrap]; exact congrArg (B _ _ _ _ _) (fx2 fun t => zD ZB some t))
theorem ac : ∀ a x, Q a = some x → AC Tryz.prog 103 a [] false [] fun rv obs => (rv, obs) = encR x := acF (body := (zB Tryz.f103)) Tryz.func103 (by kernel_rfl) (by kernel_rfl) acc fun x => ⟨by simp [encR, AV.Flat, K.Flat, C.Flat], flc (zN rfl _) (fl0)⟩
end spec_NamesAt
namespace spec_l13Path
noncomputable def B0 {ρ : Type} (v1 : Vec YN) (v2 : ByteArray) (v3 : Int) (W : YVN → ByteArray → Int → Option ρ) (K0 : Unit → Option ρ) (Kr : Int → Option ρ) : Option ρ :=
  sel (decide (v3 < (v1.n : Int))) (chk (decide (0 ≤ v3 ∧ v3 < (v1.n : Int))) (sel (decide ((v1.g v3.toNat).1 = v2)) (Kr v3) (W v1 v2 (wr (v3 + (1 : Int)))))) (K0 ())
noncomputable def F0 {ρ : Type} : Nat → YVN → ByteArray → Int → (Unit → Option ρ) → (Int → Option ρ) → Option ρ
  | 0, _, _, _, _, _ => none
  | k + 1, v1, v2, v3, K0, Kr => B0 v1 v2 v3 (fun v1' v2' v3' => F0 k v1' v2' v3' K0 Kr) K0 Kr
noncomputable def B {ρ : Type} (L0 : YVN → ByteArray → Int → (Unit → Option ρ) → (Int → Option ρ) → Option ρ) (a1 : Vec YN) (a2 : ByteArray) (K : Int → Option ρ) : Option ρ :=
  L0 a1 a2 (0 : Int) (fun _ => K (-1 : Int)) (fun x01 => K x01)
noncomputable def F (a1 : Vec YN) (a2 : ByteArray) : Option Int := B (F0 fuelN) a1 a2 (fun x1 => some (x1))
def encA (t : YVN × ByteArray) : LA := [vl t.1, vs t.2]
def encR (x : Int) : AV × LO := (vi x, [])
theorem ZA (a b) (h : encA a = encA b) : a = b := by simp [encA, zA] at h; simp [Prod.ext_iff, h]
theorem ZB (a b) (h : encR a = encR b) : a = b := by simpa [encR, zA] using h
noncomputable def Q (args : LA) : Option Int := ofC encA (un2 F) args
theorem wrap : F = fun y1 y2 => Q [vl y1, vs y2] := by funext y1 y2; exact Eq.symm (zD ZA _ (y1, y2))
noncomputable abbrev O : Orc := mkO [] [] []
noncomputable def c0 : Code := loopC (atomN [] 0 (zB Tryz.f104) 0)
def ct0 : Cut := ⟨[0, 1, 5], []⟩
def lv0 : Exit → Cut
  | .exit 0 => ⟨[], []⟩
  | .ret => ⟨[4], []⟩
  | _ => ⟨[], []⟩
def k0_0 {ρ : Type} (K : Exit → St → Option ρ) (_ : Unit) : Option ρ := K (.exit 0) (mkS 20 (lv0 (.exit 0)).live [] [] [])
def k0_r {ρ : Type} (K : Exit → St → Option ρ) (z1 : Int) : Option ρ := K .ret (mkS 20 (lv0 .ret).live [vi z1] [] [])
noncomputable def L (W0 : (ρ : Type) → LA → LO → (Unit → Option ρ) → (Int → Option ρ) → Option ρ) : Lor := fun ρ j st K => sel (Nat.beq j 0) (cutO Tryz.prog 20 ct0.live 0 [] ct0.cmds st fun avs obs => W0 ρ avs obs (k0_0 K) (k0_r K)) (Option.none)
theorem step0 {W0} {ρ : Type} {K : Exit → St → Option ρ} {W : LA → LO → Option ρ} {v1 v2 v3} : exC Tryz.prog O (L W0) [] 1 c0 (mkS 20 ct0.live [vl v1, vs v2, vi v3] [] []) (bodyK Tryz.prog 20 0 [] ct0 W lv0 K) =
    B0 v1 v2 v3 (fun u1 u2 u3 => W [vl u1, vs u2, vi u3] []) (k0_0 K) (k0_r K) := by kernel_rfl
def enc0 (t : YVN × ByteArray × Int) : LA × LO := ([vl t.1, vs t.2.1, vi t.2.2], [])
theorem enc0I (a b) (h : enc0 a = enc0 b) : a = b := by simp [enc0, zA] at h; simp [Prod.ext_iff, h]
noncomputable def V0 : (ρ : Type) → LA → LO → (Unit → Option ρ) → (Int → Option ρ) → Option ρ := fun ρ avs obs k0 kr => ofC enc0 (fun t => un3 (F0 fuelN) t k0 kr) (avs, obs)
theorem zG (ρ : Type) : F0 fuelN = fun w1 w2 w3 k0 kr => V0 ρ [vl w1, vs w2, vi w3] [] k0 kr := by funext w1 w2 w3 k0 kr; exact Eq.symm (zD enc0I _ (w1, w2, w3))
theorem main {W0} {ρ : Type} {K : AV → LO → Option ρ} {a1 a2} : exC Tryz.prog O (L W0) [] 0 (zB Tryz.f104) (entry 20 [vl a1, vs a2] [] []) (finO Tryz.prog Tryz.f104.results.toList 0 [] [] K) =
    B (fun w1 w2 w3 k0 kr => W0 ρ [vl w1, vs w2, vi w3] [] k0 kr) a1 a2 (fun x1 => K (vi x1) []) := by kernel_rfl
theorem Gok : O.ok Tryz.prog := zH (by exact trivial) (by exact trivial)
theorem ok0 : OkL Tryz.prog (L V0) 0 (.loop c0) := fun ρ st K r h => zJ (ct := ct0) (lv := lv0) (L := (L V0)) Gok hmT (by rw [show zE [] 1 c0 = [] by kernel_rfl]; exact Lor.zF _ _) enc0I (fun k t => un3 (F0 k) t (k0_0 K) (k0_r K)) (fun t => rfl) (fun k t => by refine step0.trans ?_; exact congrFun (congrFun (congrArg (B0 _ _ _) (fx3 fun t => zD enc0I _ t)) _) _) (fun _ => fuelN) h
theorem e : zE [] 0 (zB Tryz.f104) = [(0, 0, .loop c0)] := by kernel_rfl
theorem acc : ∀ t x, un2 F t = some x → ACc Tryz.prog 104 (encA t) [] true [] fun rv obs => (rv, obs) = encR x := accT (T := YVN × ByteArray) (F := un2 F) (L := (L V0)) (cmds := []) (body := (zB Tryz.f104)) Gok hmT Tryz.func104 (by kernel_rfl) (by kernel_rfl) (by rw [e]; exact Lor.zI ok0 (Lor.zF _ _)) (fun t => by refine main.trans ?_; rw [← zG]; exact congrArg (B _ _ _) (fx1 fun t => zD ZB some t))
theorem ac : ∀ a x, Q a = some x → AC Tryz.prog 104 a [] false [] fun rv obs => (rv, obs) = encR x := acF (body := (zB Tryz.f104)) Tryz.func104 (by kernel_rfl) (by kernel_rfl) acc fun x => ⟨by simp [encR, AV.Flat, K.Flat, C.Flat], fl0⟩
end spec_l13Path
namespace spec_l15Find
noncomputable def B {ρ : Type} (C0 : YVC → YVW → Int → Option (Int × YVN)) (C1 : YVN → ByteArray → Option Int) (a1 : Vec YC) (a2 : Vec YW) (a3 : Int) (a4 : ByteArray) (K : ByteArray → Int → Int → Int → Option ρ) : Option ρ :=
  (C0 a1 a2 a3).bind fun r1 => sel ((!decide (r1.1 = (0 : Int)))) (K ByteArray.empty (0 : Int) (0 : Int) r1.1) ((C1 r1.2 a4).bind fun r2 => sel (decide (r2 < (0 : Int))) (K ByteArray.empty (0 : Int) (0 : Int) (3 : Int)) (chk (decide (0 ≤ r2 ∧ r2 < (r1.2.n : Int))) (chk (decide (r2.toNat < r1.2.n)) (K ((r1.2.g r2.toNat).1) ((r1.2.g r2.toNat).2.1) ((r1.2.g r2.toNat).2.2) (0 : Int)))))
noncomputable def F (a1 : Vec YC) (a2 : Vec YW) (a3 : Int) (a4 : ByteArray) : Option (ByteArray × Int × Int × Int) := B spec_NamesAt.F spec_l13Path.F a1 a2 a3 a4 (fun x1 x2 x3 x4 => some (x1, x2, x3, x4))
def encA (t : YVC × YVW × Int × ByteArray) : LA := [.a [cl t.1, cl t.2.1], vi t.2.2.1, vs t.2.2.2]
def encR (x : ByteArray × Int × Int × Int) : AV × LO := (.tup [.a [cs x.1, ci x.2.1, ci x.2.2.1], .c (ci x.2.2.2)], [])
theorem ZA (a b) (h : encA a = encA b) : a = b := by simp [encA, zA] at h; simp [Prod.ext_iff, h]
theorem ZB (a b) (h : encR a = encR b) : a = b := by simp [encR, zA] at h; simp [Prod.ext_iff, h]
noncomputable def Q (args : LA) : Option (ByteArray × Int × Int × Int) := ofC encA (un4 F) args
theorem wrap : F = fun y1 y2 y3 y4 => Q [.a [cl y1, cl y2], vi y3, vs y4] := by funext y1 y2 y3 y4; exact Eq.symm (zD ZA _ (y1, y2, y3, y4))
noncomputable abbrev O (Q0 : LA → Option (Int × YVN)) (Q1 : LA → Option Int) : Orc := mkO [qE 103 false spec_NamesAt.encR Q0, qE 104 false spec_l13Path.encR Q1] [] []
noncomputable def L : Lor := fun _ _ _ _ => Option.none
theorem main {Q0 Q1} {ρ : Type} {K : AV → LO → Option ρ} {a1 a2 a3 a4} : exC Tryz.prog (O Q0 Q1) L [] 0 (zB Tryz.f50) (entry 31 [.a [cl a1, cl a2], vi a3, vs a4] [] []) (finO Tryz.prog Tryz.f50.results.toList 0 [] [] K) =
    B (fun y1 y2 y3 => Q0 [.a [cl y1, cl y2], vi y3]) (fun y1 y2 => Q1 [vl y1, vs y2]) a1 a2 a3 a4 (fun x1 x2 x3 x4 => K (.tup [.a [cs x1, ci x2, ci x3], .c (ci x4)]) []) := by kernel_rfl
theorem Gok : (O spec_NamesAt.Q spec_l13Path.Q).ok Tryz.prog := zH (by exact ⟨qE_ok spec_NamesAt.ac, qE_ok spec_l13Path.ac, trivial⟩) (by exact trivial)
theorem acc : ∀ t x, un4 F t = some x → ACc Tryz.prog 50 (encA t) [] true [] fun rv obs => (rv, obs) = encR x := accT (T := YVC × YVW × Int × ByteArray) (F := un4 F) (L := L) (cmds := []) (body := (zB Tryz.f50)) Gok hmT Tryz.func50 (by kernel_rfl) (by kernel_rfl) (by rw [show zE [] 0 (zB Tryz.f50) = [] by kernel_rfl]; exact Lor.zF _ _) (fun t => by refine main.trans ?_; rw [← spec_NamesAt.wrap, ← spec_l13Path.wrap]; exact congrArg (B _ _ _ _ _ _) (fx4 fun t => zD ZB some t))
theorem ac : ∀ a x, Q a = some x → AC Tryz.prog 50 a [] false [] fun rv obs => (rv, obs) = encR x := acF (body := (zB Tryz.f50)) Tryz.func50 (by kernel_rfl) (by kernel_rfl) acc fun x => ⟨by simp [encR, AV.Flat, K.Flat, C.Flat], fl0⟩
end spec_l15Find
namespace slices_Clone_impl_Name
noncomputable def F (a1 : Vec (ByteArray × Int × Int)) : Option (Vec (ByteArray × Int × Int)) := sel (decide (a1.n * 33 ≤ maxN)) (some a1) none
def encA (t : Vec (ByteArray × Int × Int)) : List AV := [vl t]
def encR (x : Vec (ByteArray × Int × Int)) : AV × List Ob := (.c (.h 0), [.row 3 (encRw x) []])
theorem ZA : ∀ a b, encA a = encA b → a = b := by
  intro a b h
  simp [encA, zA] at h
  simp_all
noncomputable def Q (args : List AV) : Option (Vec (ByteArray × Int × Int)) := ofC encA (fun t => F t) args
theorem wrap : (fun (y1 : Vec (ByteArray × Int × Int)) => Q [vl y1]) = F := by
  funext y1
  exact zD ZA _ y1
theorem ac0 (a : Vec (ByteArray × Int × Int)) (h : a.n * 33 ≤ maxN) : AC Tryz.prog 173 [vl a] [] true [] fun rv obs => rv = .c (.h 0) ∧ ∃ u : Vec (ByteArray × Int × Int), obs = [Go.Al.rw u] ∧ Vec.Same u a := by
  refine ACc.ac (body := zB Tryz.f173) Tryz.func173 (by kernel_rfl) (by kernel_rfl) (ACc_intro (body := zB Tryz.f173) Tryz.func173 (by kernel_rfl) (by kernel_rfl) ?_)
  refine AW.post (Φ := fun e st' => e = .ret ∧ ∃ (cmds : List Cmd) (u : Vec (ByteArray × Int × Int)), retO Tryz.prog Tryz.f173.results.toList 0 [] cmds st' (fun rv obs => some (rv, obs)) = some (.c (.h 0), [Go.Al.rw u]) ∧ Vec.Same u a) ?_ ?_
  · refine vcC_sound _ _ _ ?_
    refine ⟨by kernel_rfl, fun b hb => ?_⟩
    cases b with
    | true =>
      have h0 := hb rfl
      exact ⟨rfl, [.ad (.s 2) 50], Vec.nil, by kernel_rfl, h0.symm, fun i hi => absurd hi (Nat.not_lt_zero i)⟩
    | false =>
      repeat (refine ⟨by first | kernel_rfl | decide +kernel, ?_⟩)
      refine (show (3 = 3) ∧ (a.n * 33 ≤ maxN) ∧ _ from ⟨rfl, h, ?_⟩)
      exact ⟨rfl, [], a, by kernel_rfl, rfl, fun i hi => rfl⟩
  · rintro e st' ⟨rfl, cmds, u, h1, h2⟩
    obtain ⟨st'', q1, q2⟩ := retO_vc h1
    refine ⟨st'', q1, q2.1, ZK q2.2 ?_⟩
    rintro rv0 ⟨ids, rv, obs, p1, p2, p3, p4, p5, p6, p7⟩
    simp only [Option.some.injEq, Prod.mk.injEq] at p7
    exact ⟨ids, rv, obs, p1, p2, p3, p4, p5, p6, p7.1, u, p7.2, h2⟩
theorem ac (args : List AV) (x : Vec (ByteArray × Int × Int)) (h : Q args = some x) : AC Tryz.prog 173 args [] false [] fun rv obs => (rv, obs) = encR x := by
  obtain ⟨t, rfl, h2⟩ := ZF h
  rcases sel_cases h2 with ⟨hb, h3⟩ | ⟨-, h3⟩
  · simp only [Option.some.injEq] at h3
    subst h3
    refine (AC.row (ac0 t (by simpa using hb))).flat fun rv obs e => ?_
    obtain rfl : rv = (encR t).1 := congrArg Prod.fst e
    obtain rfl : obs = (encR t).2 := congrArg Prod.snd e
    refine ⟨by simp [encR, AV.Flat, K.Flat, C.Flat], ?_⟩
    intro o ho
    simp only [encR, List.mem_cons, List.not_mem_nil, or_false] at ho
    subst ho
    exact zN rfl _
  · cases h3
end slices_Clone_impl_Name
namespace impl_NamesAt
noncomputable def B {ρ : Type} (C0 : YVC → YVW → Option Bool) (C1 : Int → Int → Option Bool) (C2 : YVN → Option YVN) (a1 : Vec YC) (a2 : Vec YW) (a3 : Int) (K : Int → YVN → Option ρ) : Option ρ :=
  (C0 a1 a2).bind fun r1 => sel ((!r1)) (K (1 : Int) (Vec.nil : Vec YN)) ((C1 a3 (a1.n : Int)).bind fun r2 => sel ((!r2)) (K (2 : Int) (Vec.nil : Vec YN)) (chk (decide (0 ≤ a3 ∧ a3 < (a1.n : Int))) ((C2 ((a1.g a3.toNat).2.2)).bind fun r3 => K (0 : Int) r3)))
noncomputable def F (a1 : Vec YC) (a2 : Vec YW) (a3 : Int) : Option (Int × YVN) := B impl_StoreOk.F impl_isPlace.F slices_Clone_impl_Name.F a1 a2 a3 (fun x1 x2 => some (x1, x2))
def encA (t : YVC × YVW × Int) : LA := [.a [cl t.1, cl t.2.1], vi t.2.2]
def encR (x : Int × YVN) : AV × LO := (.tup [.c (.h 0), .c (ci x.1)], [ro x.2])
theorem ZA (a b) (h : encA a = encA b) : a = b := by simp [encA, zA] at h; simp [Prod.ext_iff, h]
theorem ZB (a b) (h : encR a = encR b) : a = b := by simp [encR, zA] at h; simp [Prod.ext_iff, h]
noncomputable def Q (args : LA) : Option (Int × YVN) := ofC encA (un3 F) args
theorem wrap : F = fun y1 y2 y3 => Q [.a [cl y1, cl y2], vi y3] := by funext y1 y2 y3; exact Eq.symm (zD ZA _ (y1, y2, y3))
noncomputable abbrev O (Q0 : LA → Option Bool) (Q1 : LA → Option Bool) (Q2 : LA → Option YVN) : Orc := mkO [qE 63 false impl_StoreOk.encR Q0, qE 64 false impl_isPlace.encR Q1, qE 173 false slices_Clone_impl_Name.encR Q2] [] []
noncomputable def L : Lor := fun _ _ _ _ => Option.none
theorem main {Q0 Q1 Q2} {ρ : Type} {K : AV → LO → Option ρ} {a1 a2 a3} : exC Tryz.prog (O Q0 Q1 Q2) L [] 0 (zB Tryz.f111) (entry 24 [.a [cl a1, cl a2], vi a3] [] []) (finO Tryz.prog Tryz.f111.results.toList 0 [] [.ad (.s 4) 50] K) =
    B (fun y1 y2 => Q0 [.a [cl y1, cl y2]]) (fun y1 y2 => Q1 [vi y1, vi y2]) (fun y1 => Q2 [vl y1]) a1 a2 a3 (fun x1 x2 => K (.tup [.c (.h 0), .c (ci x1)]) [ro x2]) := by kernel_rfl
theorem Gok : (O impl_StoreOk.Q impl_isPlace.Q slices_Clone_impl_Name.Q).ok Tryz.prog := zH (by exact ⟨qE_ok impl_StoreOk.ac, qE_ok impl_isPlace.ac, qE_ok slices_Clone_impl_Name.ac, trivial⟩) (by exact trivial)
theorem acc : ∀ t x, un3 F t = some x → ACc Tryz.prog 111 (encA t) [] true [] fun rv obs => (rv, obs) = encR x := accT (T := YVC × YVW × Int) (F := un3 F) (L := L) (cmds := [.ad (.s 4) 50]) (body := (zB Tryz.f111)) Gok hmT Tryz.func111 (by kernel_rfl) (by kernel_rfl) (by rw [show zE [] 0 (zB Tryz.f111) = [] by kernel_rfl]; exact Lor.zF _ _) (fun t => by refine main.trans ?_; rw [← impl_StoreOk.wrap, ← impl_isPlace.wrap, slices_Clone_impl_Name.wrap]; exact congrArg (B _ _ _ _ _ _) (fx2 fun t => zD ZB some t))
theorem ac : ∀ a x, Q a = some x → AC Tryz.prog 111 a [] false [] fun rv obs => (rv, obs) = encR x := acF (body := (zB Tryz.f111)) Tryz.func111 (by kernel_rfl) (by kernel_rfl) acc fun x => ⟨by simp [encR, AV.Flat, K.Flat, C.Flat], flc (zN rfl _) (fl0)⟩
end impl_NamesAt
namespace impl_pathAt_1_sbb22
noncomputable def B {ρ : Type} (a1 : ByteArray) (a2 : Int) (a3 : Int) (a4 : ByteArray) (K : Bool → Option ρ) : Option ρ :=
  K (decide (a1 = a4))
noncomputable def F (a1 : ByteArray) (a2 : Int) (a3 : Int) (a4 : ByteArray) : Option Bool := B a1 a2 a3 a4 (fun x1 => some (x1))
def encA (t : ByteArray × Int × Int × ByteArray) : LA := [.a [cs t.1, ci t.2.1, ci t.2.2.1], .ra [.v (.string t.2.2.2)]]
def encR (x : Bool) : AV × LO := (vb x, [])
theorem ZA (a b) (h : encA a = encA b) : a = b := by simp [encA, zA] at h; simp [Prod.ext_iff, h]
theorem ZB (a b) (h : encR a = encR b) : a = b := by simpa [encR, zA] using h
noncomputable def Q (args : LA) : Option Bool := ofC encA (un4 F) args
theorem wrap : F = fun y1 y2 y3 y4 => Q [.a [cs y1, ci y2, ci y3], .ra [.v (.string y4)]] := by funext y1 y2 y3 y4; exact Eq.symm (zD ZA _ (y1, y2, y3, y4))
noncomputable abbrev O : Orc := mkO [] [] []
noncomputable def L : Lor := fun _ _ _ _ => Option.none
theorem main {ρ : Type} {K : AV → LO → Option ρ} {a1 a2 a3 a4} : exC Tryz.prog O L [] 0 (zB Tryz.f174) (entry 8 [.a [cs a1, ci a2, ci a3], .ra [.v (.string a4)]] [] []) (finO Tryz.prog Tryz.f174.results.toList 0 [] [] K) =
    B a1 a2 a3 a4 (fun x1 => K (vb x1) []) := by kernel_rfl
theorem Gok : O.ok Tryz.prog := zH (by exact trivial) (by exact trivial)
theorem acc : ∀ t x, un4 F t = some x → ACc Tryz.prog 174 (encA t) [] true [] fun rv obs => (rv, obs) = encR x := accT (T := ByteArray × Int × Int × ByteArray) (F := un4 F) (L := L) (cmds := []) (body := (zB Tryz.f174)) Gok hmT Tryz.func174 (by kernel_rfl) (by kernel_rfl) (by rw [show zE [] 0 (zB Tryz.f174) = [] by kernel_rfl]; exact Lor.zF _ _) (fun t => by refine main.trans ?_; exact congrArg (B _ _ _ _) (fx1 fun t => zD ZB some t))
theorem ac : ∀ a x, Q a = some x → AC Tryz.prog 174 a [] false [] fun rv obs => (rv, obs) = encR x := acF (body := (zB Tryz.f174)) Tryz.func174 (by kernel_rfl) (by kernel_rfl) acc fun x => ⟨by simp [encR, AV.Flat, K.Flat, C.Flat], fl0⟩
end impl_pathAt_1_sbb22
namespace slices_IndexFunc_impl_Name_sb609
noncomputable def B0 {ρ : Type} (C0 : ByteArray → Int → Int → ByteArray → Option Bool) (v1 : Vec YN) (v2 : Int) (v3 : Int) (v4 : ByteArray) (W : YVN → Int → Int → ByteArray → Option ρ) (K0 : ByteArray → Option ρ) (Kr : Int → ByteArray → Option ρ) : Option ρ :=
  sel (decide (v3 < v2)) (chk (decide (0 ≤ v3 ∧ v3 < (v1.n : Int))) ((C0 ((v1.g v3.toNat).1) ((v1.g v3.toNat).2.1) ((v1.g v3.toNat).2.2) v4).bind fun r1 => sel (r1) (Kr v3 v4) (W v1 v2 (wr (v3 + (1 : Int))) v4))) (K0 v4)
noncomputable def F0 {ρ : Type} : Nat → YVN → Int → Int → ByteArray → (ByteArray → Option ρ) → (Int → ByteArray → Option ρ) → Option ρ
  | 0, _, _, _, _, _, _ => none
  | k + 1, v1, v2, v3, v4, K0, Kr => B0 impl_pathAt_1_sbb22.F v1 v2 v3 v4 (fun v1' v2' v3' v4' => F0 k v1' v2' v3' v4' K0 Kr) K0 Kr
noncomputable def B {ρ : Type} (L0 : YVN → Int → Int → ByteArray → (ByteArray → Option ρ) → (Int → ByteArray → Option ρ) → Option ρ) (a1 : Vec YN) (a2 : ByteArray) (K : Int → ByteArray → Option ρ) : Option ρ :=
  L0 a1 (a1.n : Int) (0 : Int) a2 (fun e01 => K (-1 : Int) e01) (fun x01 x02 => K x01 x02)
noncomputable def F (a1 : Vec YN) (a2 : ByteArray) : Option YE := B (F0 fuelN) a1 a2 (fun x1 x2 => some (x1, x2))
def encA (t : YVN × ByteArray) : LA × LO := ([vl t.1, .fn 174 [.p 0 0]], [.box [cs t.2]])
def encR (x : YE) : AV × LO := (vi x.1, [.box [cs x.2]])
theorem ZA (a b) (h : encA a = encA b) : a = b := by simp [encA, zA] at h; simp [Prod.ext_iff, h]
theorem ZB (a b) (h : encR a = encR b) : a = b := by simp [encR, zA] at h; simp [Prod.ext_iff, h]
noncomputable def Q (args : LA) (hin : LO) : Option YE := ofC encA (un2 F) (args, hin)
theorem wrap : F = fun y1 y2 => Q [vl y1, .fn 174 [.p 0 0]] [.box [cs y2]] := by funext y1 y2; exact Eq.symm (zD ZA _ (y1, y2))
noncomputable abbrev O (Q0 : LA → Option Bool) : Orc := mkO [qE 174 false impl_pathAt_1_sbb22.encR Q0] [] []
noncomputable def c0 : Code := loopC (atomN [] 0 (zB Tryz.f127) 0)
def ct0 : Cut := ⟨[0, 1, 7, 8], []⟩
def lv0 : Exit → Cut
  | .exit 0 => ⟨[], []⟩
  | .ret => ⟨[4], []⟩
  | _ => ⟨[], []⟩
def k0_0 {ρ : Type} (K : Exit → St → Option ρ) (z1 : ByteArray) : Option ρ := K (.exit 0) (mkS 19 (lv0 (.exit 0)).live [] [.box [cs z1]] [true])
def k0_r {ρ : Type} (K : Exit → St → Option ρ) (z1 : Int) (z2 : ByteArray) : Option ρ := K .ret (mkS 19 (lv0 .ret).live [vi z1] [.box [cs z2]] [true])
noncomputable def L (W0 : (ρ : Type) → LA → LO → (ByteArray → Option ρ) → (Int → ByteArray → Option ρ) → Option ρ) : Lor := fun ρ j st K => sel (Nat.beq j 0) (cutO Tryz.prog 19 ct0.live 1 [true] ct0.cmds st fun avs obs => W0 ρ avs obs (k0_0 K) (k0_r K)) (Option.none)
theorem step0 {Q0 W0} {ρ : Type} {K : Exit → St → Option ρ} {W : LA → LO → Option ρ} {v1 v2 v3 v4} : exC Tryz.prog (O Q0) (L W0) [] 1 c0 (mkS 19 ct0.live [vl v1, .fn 174 [.p 0 0], vi v2, vi v3] [.box [cs v4]] [true]) (bodyK Tryz.prog 19 1 [true] ct0 W lv0 K) =
    B0 (fun y1 y2 y3 y4 => Q0 [.a [cs y1, ci y2, ci y3], .ra [.v (.string y4)]]) v1 v2 v3 v4 (fun u1 u2 u3 u4 => W [vl u1, .fn 174 [.p 0 0], vi u2, vi u3] [.box [cs u4]]) (k0_0 K) (k0_r K) := by kernel_rfl
def enc0 (t : YVN × Int × Int × ByteArray) : LA × LO := ([vl t.1, .fn 174 [.p 0 0], vi t.2.1, vi t.2.2.1], [.box [cs t.2.2.2]])
theorem enc0I (a b) (h : enc0 a = enc0 b) : a = b := by simp [enc0, zA] at h; simp [Prod.ext_iff, h]
noncomputable def V0 : (ρ : Type) → LA → LO → (ByteArray → Option ρ) → (Int → ByteArray → Option ρ) → Option ρ := fun ρ avs obs k0 kr => ofC enc0 (fun t => un4 (F0 fuelN) t k0 kr) (avs, obs)
theorem zG (ρ : Type) : F0 fuelN = fun w1 w2 w3 w4 k0 kr => V0 ρ [vl w1, .fn 174 [.p 0 0], vi w2, vi w3] [.box [cs w4]] k0 kr := by funext w1 w2 w3 w4 k0 kr; exact Eq.symm (zD enc0I _ (w1, w2, w3, w4))
theorem main {Q0 W0} {ρ : Type} {K : AV → LO → Option ρ} {a1 a2} : exC Tryz.prog (O Q0) (L W0) [] 0 (zB Tryz.f127) (entry 19 [vl a1, .fn 174 [.p 0 0]] [.box [cs a2]] [true]) (finO Tryz.prog Tryz.f127.results.toList 1 [true] [] K) =
    B (fun w1 w2 w3 w4 k0 kr => W0 ρ [vl w1, .fn 174 [.p 0 0], vi w2, vi w3] [.box [cs w4]] k0 kr) a1 a2 (fun x1 x2 => K (vi x1) [.box [cs x2]]) := by kernel_rfl
theorem Gok : (O impl_pathAt_1_sbb22.Q).ok Tryz.prog := zH (by exact ⟨qE_ok impl_pathAt_1_sbb22.ac, trivial⟩) (by exact trivial)
theorem ok0 : OkL Tryz.prog (L V0) 0 (.loop c0) := fun ρ st K r h => zJ (ct := ct0) (lv := lv0) (L := (L V0)) Gok hmT (by rw [show zE [] 1 c0 = [] by kernel_rfl]; exact Lor.zF _ _) enc0I (fun k t => un4 (F0 k) t (k0_0 K) (k0_r K)) (fun t => rfl) (fun k t => by refine step0.trans ?_; rw [← impl_pathAt_1_sbb22.wrap]; exact congrFun (congrFun (congrArg (B0 _ _ _ _ _) (fx4 fun t => zD enc0I _ t)) _) _) (fun _ => fuelN) h
theorem e : zE [] 0 (zB Tryz.f127) = [(0, 0, .loop c0)] := by kernel_rfl
theorem acc : ∀ t x, un2 F t = some x → ACc Tryz.prog 127 (encA t).1 (encA t).2 true [true] fun rv obs => (rv, obs) = encR x := accT2 (T := YVN × ByteArray) (F := un2 F) (L := (L V0)) (cmds := []) (body := (zB Tryz.f127)) 1 (fun _ => rfl) Gok hmT Tryz.func127 (by kernel_rfl) (by kernel_rfl) (by rw [e]; exact Lor.zI ok0 (Lor.zF _ _)) (fun t => by refine main.trans ?_; rw [← zG]; exact congrArg (B _ _ _) (fx2 fun t => zD ZB some t))
theorem ac : ∀ a h x, Q a h = some x → AC Tryz.prog 127 a h false [true] fun rv obs => (rv, obs) = encR x := acF2 (body := (zB Tryz.f127)) Tryz.func127 (by kernel_rfl) (by kernel_rfl) acc fun x => ⟨by simp [encR, AV.Flat, K.Flat, C.Flat], flc (by simp [Ob.Flat, C.Flat, N.Flat]) (fl0)⟩
end slices_IndexFunc_impl_Name_sb609
namespace impl_pathAt
noncomputable def B {ρ : Type} (C0 : YVN → ByteArray → Option YE) (a1 : Vec YN) (a2 : ByteArray) (K : Int → Option ρ) : Option ρ :=
  (C0 a1 a2).bind fun r1 => K r1.1
noncomputable def F (a1 : Vec YN) (a2 : ByteArray) : Option Int := B slices_IndexFunc_impl_Name_sb609.F a1 a2 (fun x1 => some (x1))
def encA (t : YVN × ByteArray) : LA := [vl t.1, vs t.2]
def encR (x : Int) : AV × LO := (vi x, [])
theorem ZA (a b) (h : encA a = encA b) : a = b := by simp [encA, zA] at h; simp [Prod.ext_iff, h]
theorem ZB (a b) (h : encR a = encR b) : a = b := by simpa [encR, zA] using h
noncomputable def Q (args : LA) : Option Int := ofC encA (un2 F) args
theorem wrap : F = fun y1 y2 => Q [vl y1, vs y2] := by funext y1 y2; exact Eq.symm (zD ZA _ (y1, y2))
noncomputable abbrev O (Q0 : LA → LO → Option YE) : Orc := mkO [] [eE Tryz.prog 127 [false, true] false [true] slices_IndexFunc_impl_Name_sb609.encR Q0] []
noncomputable def L : Lor := fun _ _ _ _ => Option.none
theorem main {Q0} {ρ : Type} {K : AV → LO → Option ρ} {a1 a2} : exC Tryz.prog (O Q0) L [] 0 (zB Tryz.f112) (entry 8 [vl a1, vs a2] [] []) (finO Tryz.prog Tryz.f112.results.toList 0 [] [] K) =
    B (fun y1 y2 => Q0 [vl y1, .fn 174 [.p 0 0]] [.box [cs y2]]) a1 a2 (fun x1 => K (vi x1) []) := by kernel_rfl
theorem Gok : (O slices_IndexFunc_impl_Name_sb609.Q).ok Tryz.prog := zH (by exact trivial) (by exact ⟨eE_ok (fun h => by cases h) slices_IndexFunc_impl_Name_sb609.ac, trivial⟩)
theorem acc : ∀ t x, un2 F t = some x → ACc Tryz.prog 112 (encA t) [] true [] fun rv obs => (rv, obs) = encR x := accT (T := YVN × ByteArray) (F := un2 F) (L := L) (cmds := []) (body := (zB Tryz.f112)) Gok hmT Tryz.func112 (by kernel_rfl) (by kernel_rfl) (by rw [show zE [] 0 (zB Tryz.f112) = [] by kernel_rfl]; exact Lor.zF _ _) (fun t => by refine main.trans ?_; rw [← slices_IndexFunc_impl_Name_sb609.wrap]; exact congrArg (B _ _ _) (fx1 fun t => zD ZB some t))
theorem ac : ∀ a x, Q a = some x → AC Tryz.prog 112 a [] false [] fun rv obs => (rv, obs) = encR x := acF (body := (zB Tryz.f112)) Tryz.func112 (by kernel_rfl) (by kernel_rfl) acc fun x => ⟨by simp [encR, AV.Flat, K.Flat, C.Flat], fl0⟩
end impl_pathAt
namespace impl_nameAt
noncomputable def B {ρ : Type} (C0 : YVC → YVW → Int → Option (Int × YVN)) (C1 : YVN → ByteArray → Option Int) (a1 : Vec YC) (a2 : Vec YW) (a3 : Int) (a4 : ByteArray) (K : ByteArray → Int → Int → Int → Option ρ) : Option ρ :=
  (C0 a1 a2 a3).bind fun r1 => sel ((!decide (r1.1 = (0 : Int)))) (K ByteArray.empty (0 : Int) (0 : Int) r1.1) ((C1 r1.2 a4).bind fun r2 => sel (decide (r2 < (0 : Int))) (K ByteArray.empty (0 : Int) (0 : Int) (3 : Int)) (chk (decide (0 ≤ r2 ∧ r2 < (r1.2.n : Int))) (chk (decide (r2.toNat < r1.2.n)) (K ((r1.2.g r2.toNat).1) ((r1.2.g r2.toNat).2.1) ((r1.2.g r2.toNat).2.2) (0 : Int)))))
noncomputable def F (a1 : Vec YC) (a2 : Vec YW) (a3 : Int) (a4 : ByteArray) : Option (ByteArray × Int × Int × Int) := B impl_NamesAt.F impl_pathAt.F a1 a2 a3 a4 (fun x1 x2 x3 x4 => some (x1, x2, x3, x4))
def encA (t : YVC × YVW × Int × ByteArray) : LA := [.a [cl t.1, cl t.2.1], vi t.2.2.1, vs t.2.2.2]
def encR (x : ByteArray × Int × Int × Int) : AV × LO := (.tup [.a [cs x.1, ci x.2.1, ci x.2.2.1], .c (ci x.2.2.2)], [])
theorem ZA (a b) (h : encA a = encA b) : a = b := by simp [encA, zA] at h; simp [Prod.ext_iff, h]
theorem ZB (a b) (h : encR a = encR b) : a = b := by simp [encR, zA] at h; simp [Prod.ext_iff, h]
noncomputable def Q (args : LA) : Option (ByteArray × Int × Int × Int) := ofC encA (un4 F) args
theorem wrap : F = fun y1 y2 y3 y4 => Q [.a [cl y1, cl y2], vi y3, vs y4] := by funext y1 y2 y3 y4; exact Eq.symm (zD ZA _ (y1, y2, y3, y4))
noncomputable abbrev O (Q0 : LA → Option (Int × YVN)) (Q1 : LA → Option Int) : Orc := mkO [qE 111 false impl_NamesAt.encR Q0, qE 112 false impl_pathAt.encR Q1] [] []
noncomputable def L : Lor := fun _ _ _ _ => Option.none
theorem main {Q0 Q1} {ρ : Type} {K : AV → LO → Option ρ} {a1 a2 a3 a4} : exC Tryz.prog (O Q0 Q1) L [] 0 (zB Tryz.f53) (entry 31 [.a [cl a1, cl a2], vi a3, vs a4] [] []) (finO Tryz.prog Tryz.f53.results.toList 0 [] [] K) =
    B (fun y1 y2 y3 => Q0 [.a [cl y1, cl y2], vi y3]) (fun y1 y2 => Q1 [vl y1, vs y2]) a1 a2 a3 a4 (fun x1 x2 x3 x4 => K (.tup [.a [cs x1, ci x2, ci x3], .c (ci x4)]) []) := by kernel_rfl
theorem Gok : (O impl_NamesAt.Q impl_pathAt.Q).ok Tryz.prog := zH (by exact ⟨qE_ok impl_NamesAt.ac, qE_ok impl_pathAt.ac, trivial⟩) (by exact trivial)
theorem acc : ∀ t x, un4 F t = some x → ACc Tryz.prog 53 (encA t) [] true [] fun rv obs => (rv, obs) = encR x := accT (T := YVC × YVW × Int × ByteArray) (F := un4 F) (L := L) (cmds := []) (body := (zB Tryz.f53)) Gok hmT Tryz.func53 (by kernel_rfl) (by kernel_rfl) (by rw [show zE [] 0 (zB Tryz.f53) = [] by kernel_rfl]; exact Lor.zF _ _) (fun t => by refine main.trans ?_; rw [← impl_NamesAt.wrap, ← impl_pathAt.wrap]; exact congrArg (B _ _ _ _ _ _) (fx4 fun t => zD ZB some t))
theorem ac : ∀ a x, Q a = some x → AC Tryz.prog 53 a [] false [] fun rv obs => (rv, obs) = encR x := acF (body := (zB Tryz.f53)) Tryz.func53 (by kernel_rfl) (by kernel_rfl) acc fun x => ⟨by simp [encR, AV.Flat, K.Flat, C.Flat], fl0⟩
end impl_nameAt
end Go.Al
