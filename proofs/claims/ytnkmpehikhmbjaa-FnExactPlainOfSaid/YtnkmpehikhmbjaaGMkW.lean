import Derived.Test.YtnkmpehikhmbjaaAlE
import Derived.Test.YtnkmpehikhmbjaaSC
import Derived.Test.YtnkmpehikhmbjaaGWl
import Derived.Test.YtnkmpehikhmbjaaGCmp
set_option linter.unusedVariables false
set_option linter.unusedSimpArgs false
set_option linter.constructorNameAsVariable false
set_option linter.unusedSectionVars false
set_option maxRecDepth 100000
namespace Go.Al
open Go.Proofs

/-! loop.example/g00073/laws.markIntS -/
namespace laws_markIntS_s68b2
noncomputable def B0 {ρ : Type} (v1 : Int) (v2 : Int) (v3 : Vec Int) (W : Int → Int → (Vec Int) → Option ρ) (K0 : Int → (Vec Int) → Option ρ) : Option ρ :=
  sel (decide (v2 < (v3.n : Int))) (chk (decide (0 ≤ v2 ∧ v2 < (v3.n : Int))) (chk (decide (v2.toNat < v3.n)) (W (wr (v1 + (1 : Int))) (wr (v2 + (1 : Int))) (Vec.set v3 v2.toNat v1)))) (K0 v1 v3)
noncomputable def F0 {ρ : Type} : Nat → Int → Int → (Vec Int) → (Int → (Vec Int) → Option ρ) → Option ρ
  | 0, _, _, _, _ => none
  | k + 1, v1, v2, v3, K0 => B0 v1 v2 v3 (fun v1' v2' v3' => F0 k v1' v2' v3' K0) K0
noncomputable def B {ρ : Type} (L0 : Int → Int → (Vec Int) → (Int → (Vec Int) → Option ρ) → Option ρ) (a1 : Int) (a2 : Vec Int) (K : Int → (Vec Int) → Option ρ) : Option ρ :=
  L0 a1 (0 : Int) a2 (fun e01 e02 => K e01 e02)
noncomputable def F (a1 : Int) (a2 : Vec Int) : Option (Int × Vec Int) := B (F0 fuelN) a1 a2 (fun x1 x2 => some (x1, x2))
def encA (t : Int × Vec Int) : List AV × List Ob := ([.c (.h 0), vi t.1], [ro t.2])
def encR (x : Int × Vec Int) : AV × List Ob := (vi x.1, [ro x.2])
theorem encAI : ∀ a b, encA a = encA b → a = b := by
  intro a b h
  obtain ⟨a0, a1⟩ := a
  obtain ⟨b0, b1⟩ := b
  simp [encA, encRw_iff] at h
  simp_all
theorem encRI : ∀ a b, encR a = encR b → a = b := by
  intro a b h
  obtain ⟨a0, a1⟩ := a
  obtain ⟨b0, b1⟩ := b
  simp [encR, encRw_iff] at h
  simp_all
noncomputable def Q (args : List AV) (hin : List Ob) : Option (Int × Vec Int) := ofC encA (fun t => F t.1 t.2) (args, hin)
theorem wrap : (fun (y1 : Int) (y2 : Vec Int) => Q [.c (.h 0), vi y1] [ro y2]) = F := by
  funext y1 y2
  exact ofC_enc encAI _ (y1, y2)
noncomputable def G : Orc := ⟨fun f => 9, fun ρ f args K => Option.none, noE, false⟩
noncomputable def L (W0 : (ρ : Type) → List AV → List Ob → (Int → (Vec Int) → Option ρ) → Option ρ) : Lor := fun ρ j st K => sel (Nat.beq j 0) (cutO Try.prog 19 [0, 1, 5] 1 [true] [] st fun avs obs => W0 ρ avs obs (fun z1 z2 => K (.exit 0) (mkS 19 [1] [vi z1] [ro z2] [true]))) (Option.none)
noncomputable def c0 : Code := loopC (atomN [] 0 (bodyOf Try.f17) 0)
def ct0 : Cut := ⟨[0, 1, 5], []⟩
def lv0 : Exit → Cut
  | .exit 0 => ⟨[1], []⟩
  | _ => ⟨[], []⟩
theorem step0 (W0) {ρ : Type} (K : Exit → St → Option ρ) (W : List AV → List Ob → Option ρ) (v1 v2 v3) : exC Try.prog (G) (L W0) [] 1 c0 (mkS 19 [0, 1, 5] [.c (.h 0), vi v1, vi v2] [ro v3] [true]) (bodyK Try.prog 19 1 [true] ct0 W lv0 K) =
    B0 v1 v2 v3 (fun u1 u2 u3 => W [.c (.h 0), vi u1, vi u2] [ro u3]) (fun z1 z2 => K (.exit 0) (mkS 19 [1] [vi z1] [ro z2] [true])) := by kernel_rfl
def enc0 (t : Int × Int × Vec Int) : List AV × List Ob := ([.c (.h 0), vi t.1, vi t.2.1], [ro t.2.2])
theorem enc0I : ∀ a b, enc0 a = enc0 b → a = b := by
  intro a b h
  obtain ⟨a0, a1, a2⟩ := a
  obtain ⟨b0, b1, b2⟩ := b
  simp [enc0, encRw_iff] at h
  simp_all
noncomputable def V0 : (ρ : Type) → List AV → List Ob → (Int → (Vec Int) → Option ρ) → Option ρ := fun ρ avs obs k0 => ofC enc0 (fun t => F0 fuelN t.1 t.2.1 t.2.2 k0) (avs, obs)
theorem V0_enc (ρ : Type) : (fun w1 w2 w3 k0 => V0 ρ [.c (.h 0), vi w1, vi w2] [ro w3] k0) = F0 fuelN := by
  funext w1 w2 w3 k0
  exact ofC_enc enc0I _ (w1, w2, w3)
theorem main (W0) {ρ : Type} (K : AV → List Ob → Option ρ) (a1 a2) : exC Try.prog (G) (L W0) [] 0 (bodyOf Try.f17) (entry 19 [.c (.h 0), vi a1] [ro a2] [true]) (finO Try.prog Try.f17.results.toList 1 [true] [] K) =
    B (fun w1 w2 w3 k0 => W0 ρ [.c (.h 0), vi w1, vi w2] [ro w3] k0) a1 a2 (fun x1 x2 => K (vi x1) [ro x2]) := by kernel_rfl
theorem Gok : (G).ok Try.prog := ⟨(fun ρ f args K r h => (by cases h)),
  (fun ρ f args K => rfl),
  (fun ρ f st caps args dst K r h => (by cases h))⟩
theorem hm : Try.prog.follows .mixedOrders = true := by kernel_rfl
theorem e0 : atomsL [] 1 c0 = [] := by kernel_rfl
theorem ok0 (ρ : Type) (st : St) (K : Exit → St → Option ρ) (r : ρ) (h : (L V0) ρ 0 st K = some r) : AW Try.prog (.loop c0) st fun e st' => K e st' = some r := by
  refine loop_ok (ct := ct0) (lv := lv0) (n := 19) (m := 1) (ks := [true]) (j := 0) (jn := []) (L := (L V0)) Gok hm (by rw [e0]; exact Lor.ok_nil _ _) enc0I (fun k t => F0 k t.1 t.2.1 t.2.2 (fun z1 z2 => K (.exit 0) (mkS 19 [1] [vi z1] [ro z2] [true]))) (fun t => rfl) (fun k t => ?_) (fun _ => fuelN) h
  refine (step0 V0 K _ t.1 t.2.1 t.2.2).trans ?_
  refine congrArg (fun W => B0 t.1 t.2.1 t.2.2 W (fun z1 z2 => K (.exit 0) (mkS 19 [1] [vi z1] [ro z2] [true]))) ?_
  funext u1 u2 u3
  exact ofC_enc enc0I _ (u1, u2, u3)
theorem e : atomsL [] 0 (bodyOf Try.f17) = [(0, 0, .loop c0)] := by kernel_rfl
theorem acc (t : Int × Vec Int) (x : Int × Vec Int) (h : F t.1 t.2 = some x) : ACc Try.prog 17 (encA t).1 (encA t).2 true [true] fun rv obs => (rv, obs) = encR x := by
  refine fun_okc (L := (L V0)) (jn := []) (cmds := []) (ks := [true]) (hin := (encA t).2) (fn := Try.f17) (body := (bodyOf Try.f17)) Gok hm Try.func17 (by kernel_rfl) (by kernel_rfl) (by rw [e]; exact Lor.ok_cons ok0 (Lor.ok_nil _ _)) ?_ h
  refine (main V0 _ t.1 t.2).trans ?_
  rw [V0_enc]
  refine congrArg (fun K => B (F0 fuelN) t.1 t.2 K) ?_
  funext x1 x2
  exact ofC_enc encRI some (x1, x2)
theorem ac0 (t : Int × Vec Int) (x : Int × Vec Int) (h : F t.1 t.2 = some x) : AC Try.prog 17 (encA t).1 (encA t).2 true [true] fun rv obs => (rv, obs) = encR x := ACc.ac (body := bodyOf Try.f17) Try.func17 (by kernel_rfl) (by kernel_rfl) (acc t x h)
theorem ac (args : List AV) (hin : List Ob) (x : Int × Vec Int) (h : Q args hin = some x) : AC Try.prog 17 args hin false [true] fun rv obs => (rv, obs) = encR x := by
  obtain ⟨t, he, h2⟩ := ofC_some h
  obtain rfl : args = (encA t).1 := (congrArg Prod.fst he).symm
  obtain rfl : hin = (encA t).2 := (congrArg Prod.snd he).symm
  refine (ac0 t x h2).flat fun rv obs e => ?_
  obtain rfl : rv = (encR x).1 := congrArg Prod.fst e
  obtain rfl : obs = (encR x).2 := congrArg Prod.snd e
  refine ⟨by simp [encR, AV.Flat, K.Flat, C.Flat], ?_⟩
  intro o ho
  simp only [encR, List.mem_cons, List.not_mem_nil, or_false] at ho
  subst ho
  exact flat_rw rfl _
end laws_markIntS_s68b2
/-! loop.example/g00073/laws.markIntSS -/
namespace laws_markIntSS_s45a1
noncomputable def B0 {ρ : Type} (C0 : Int → (Vec Int) → Option (Int × Vec Int)) (v1 : Int) (v2 : Int) (v3 : Vec (Vec Int)) (W : Int → Int → (Vec (Vec Int)) → Option ρ) (K0 : Int → (Vec (Vec Int)) → Option ρ) : Option ρ :=
  sel (decide (v2 < (v3.n : Int))) (chk (decide (0 ≤ v2 ∧ v2 < (v3.n : Int))) (chk (decide (v2.toNat < v3.n)) ((C0 v1 (v3.g v2.toNat)).bind fun r1 => W r1.1 (wr (v2 + (1 : Int))) (Vec.set v3 v2.toNat r1.2)))) (K0 v1 v3)
noncomputable def F0 {ρ : Type} : Nat → Int → Int → (Vec (Vec Int)) → (Int → (Vec (Vec Int)) → Option ρ) → Option ρ
  | 0, _, _, _, _ => none
  | k + 1, v1, v2, v3, K0 => B0 laws_markIntS_s68b2.F v1 v2 v3 (fun v1' v2' v3' => F0 k v1' v2' v3' K0) K0
noncomputable def B {ρ : Type} (L0 : Int → Int → (Vec (Vec Int)) → (Int → (Vec (Vec Int)) → Option ρ) → Option ρ) (a1 : Int) (a2 : Vec (Vec Int)) (K : Int → (Vec (Vec Int)) → Option ρ) : Option ρ :=
  L0 a1 (0 : Int) a2 (fun e01 e02 => K e01 e02)
noncomputable def F (a1 : Int) (a2 : Vec (Vec Int)) : Option (Int × Vec (Vec Int)) := B (F0 fuelN) a1 a2 (fun x1 x2 => some (x1, x2))
def encA (t : Int × Vec (Vec Int)) : List AV × List Ob := ([.c (.h 0), vi t.1], [ro t.2])
def encR (x : Int × Vec (Vec Int)) : AV × List Ob := (vi x.1, [ro x.2])
theorem encAI : ∀ a b, encA a = encA b → a = b := by
  intro a b h
  obtain ⟨a0, a1⟩ := a
  obtain ⟨b0, b1⟩ := b
  simp [encA, encRw_iff] at h
  simp_all
theorem encRI : ∀ a b, encR a = encR b → a = b := by
  intro a b h
  obtain ⟨a0, a1⟩ := a
  obtain ⟨b0, b1⟩ := b
  simp [encR, encRw_iff] at h
  simp_all
noncomputable def Q (args : List AV) (hin : List Ob) : Option (Int × Vec (Vec Int)) := ofC encA (fun t => F t.1 t.2) (args, hin)
theorem wrap : (fun (y1 : Int) (y2 : Vec (Vec Int)) => Q [.c (.h 0), vi y1] [ro y2]) = F := by
  funext y1 y2
  exact ofC_enc encAI _ (y1, y2)
noncomputable def G (Q0 : List AV → List Ob → Option (Int × Vec Int)) : Orc := ⟨fun f => 9, fun ρ f args K => Option.none, fun ρ f st args dst K => sel (Nat.beq f 17) (callE Try.prog 17 [true, false] false [true] laws_markIntS_s68b2.encR Q0 st args dst K) (Option.none), true⟩
noncomputable def L (W0 : (ρ : Type) → List AV → List Ob → (Int → (Vec (Vec Int)) → Option ρ) → Option ρ) : Lor := fun ρ j st K => sel (Nat.beq j 0) (cutO Try.prog 19 [0, 1, 5] 1 [true] [] st fun avs obs => W0 ρ avs obs (fun z1 z2 => K (.exit 0) (mkS 19 [1] [vi z1] [ro z2] [true]))) (Option.none)
noncomputable def c0 : Code := loopC (atomN [] 0 (bodyOf Try.f64) 0)
def ct0 : Cut := ⟨[0, 1, 5], []⟩
def lv0 : Exit → Cut
  | .exit 0 => ⟨[1], []⟩
  | _ => ⟨[], []⟩
theorem step0 (Q0) (W0) {ρ : Type} (K : Exit → St → Option ρ) (W : List AV → List Ob → Option ρ) (v1 v2 v3) : exC Try.prog (G Q0) (L W0) [] 1 c0 (mkS 19 [0, 1, 5] [.c (.h 0), vi v1, vi v2] [ro v3] [true]) (bodyK Try.prog 19 1 [true] ct0 W lv0 K) =
    B0 (fun y1 y2 => Q0 [.c (.h 0), vi y1] [ro y2]) v1 v2 v3 (fun u1 u2 u3 => W [.c (.h 0), vi u1, vi u2] [ro u3]) (fun z1 z2 => K (.exit 0) (mkS 19 [1] [vi z1] [ro z2] [true])) := by kernel_rfl
def enc0 (t : Int × Int × Vec (Vec Int)) : List AV × List Ob := ([.c (.h 0), vi t.1, vi t.2.1], [ro t.2.2])
theorem enc0I : ∀ a b, enc0 a = enc0 b → a = b := by
  intro a b h
  obtain ⟨a0, a1, a2⟩ := a
  obtain ⟨b0, b1, b2⟩ := b
  simp [enc0, encRw_iff] at h
  simp_all
noncomputable def V0 : (ρ : Type) → List AV → List Ob → (Int → (Vec (Vec Int)) → Option ρ) → Option ρ := fun ρ avs obs k0 => ofC enc0 (fun t => F0 fuelN t.1 t.2.1 t.2.2 k0) (avs, obs)
theorem V0_enc (ρ : Type) : (fun w1 w2 w3 k0 => V0 ρ [.c (.h 0), vi w1, vi w2] [ro w3] k0) = F0 fuelN := by
  funext w1 w2 w3 k0
  exact ofC_enc enc0I _ (w1, w2, w3)
theorem main (Q0) (W0) {ρ : Type} (K : AV → List Ob → Option ρ) (a1 a2) : exC Try.prog (G Q0) (L W0) [] 0 (bodyOf Try.f64) (entry 19 [.c (.h 0), vi a1] [ro a2] [true]) (finO Try.prog Try.f64.results.toList 1 [true] [] K) =
    B (fun w1 w2 w3 k0 => W0 ρ [.c (.h 0), vi w1, vi w2] [ro w3] k0) a1 a2 (fun x1 x2 => K (vi x1) [ro x2]) := by kernel_rfl
theorem Gok : (G laws_markIntS_s68b2.Q).ok Try.prog := ⟨(fun ρ f args K r h => (by cases h)),
  (fun ρ f args K => rfl),
  (by
    intro ρ f st caps args dst K r h
    rcases sel_cases h with ⟨hb, h⟩ | ⟨-, h⟩
    · obtain rfl := beq_nat hb
      exact callE_ok (fun h => by cases h) laws_markIntS_s68b2.ac h
    cases h)⟩
theorem hm : Try.prog.follows .mixedOrders = true := by kernel_rfl
theorem e0 : atomsL [] 1 c0 = [] := by kernel_rfl
theorem ok0 (ρ : Type) (st : St) (K : Exit → St → Option ρ) (r : ρ) (h : (L V0) ρ 0 st K = some r) : AW Try.prog (.loop c0) st fun e st' => K e st' = some r := by
  refine loop_ok (ct := ct0) (lv := lv0) (n := 19) (m := 1) (ks := [true]) (j := 0) (jn := []) (L := (L V0)) Gok hm (by rw [e0]; exact Lor.ok_nil _ _) enc0I (fun k t => F0 k t.1 t.2.1 t.2.2 (fun z1 z2 => K (.exit 0) (mkS 19 [1] [vi z1] [ro z2] [true]))) (fun t => rfl) (fun k t => ?_) (fun _ => fuelN) h
  refine (step0 laws_markIntS_s68b2.Q V0 K _ t.1 t.2.1 t.2.2).trans ?_
  rw [laws_markIntS_s68b2.wrap]
  refine congrArg (fun W => B0 laws_markIntS_s68b2.F t.1 t.2.1 t.2.2 W (fun z1 z2 => K (.exit 0) (mkS 19 [1] [vi z1] [ro z2] [true]))) ?_
  funext u1 u2 u3
  exact ofC_enc enc0I _ (u1, u2, u3)
theorem e : atomsL [] 0 (bodyOf Try.f64) = [(0, 0, .loop c0)] := by kernel_rfl
theorem acc (t : Int × Vec (Vec Int)) (x : Int × Vec (Vec Int)) (h : F t.1 t.2 = some x) : ACc Try.prog 64 (encA t).1 (encA t).2 true [true] fun rv obs => (rv, obs) = encR x := by
  refine fun_okc (L := (L V0)) (jn := []) (cmds := []) (ks := [true]) (hin := (encA t).2) (fn := Try.f64) (body := (bodyOf Try.f64)) Gok hm Try.func64 (by kernel_rfl) (by kernel_rfl) (by rw [e]; exact Lor.ok_cons ok0 (Lor.ok_nil _ _)) ?_ h
  refine (main laws_markIntS_s68b2.Q V0 _ t.1 t.2).trans ?_
  rw [V0_enc]
  refine congrArg (fun K => B (F0 fuelN) t.1 t.2 K) ?_
  funext x1 x2
  exact ofC_enc encRI some (x1, x2)
theorem ac0 (t : Int × Vec (Vec Int)) (x : Int × Vec (Vec Int)) (h : F t.1 t.2 = some x) : AC Try.prog 64 (encA t).1 (encA t).2 true [true] fun rv obs => (rv, obs) = encR x := ACc.ac (body := bodyOf Try.f64) Try.func64 (by kernel_rfl) (by kernel_rfl) (acc t x h)
theorem ac (args : List AV) (hin : List Ob) (x : Int × Vec (Vec Int)) (h : Q args hin = some x) : AC Try.prog 64 args hin false [true] fun rv obs => (rv, obs) = encR x := by
  obtain ⟨t, he, h2⟩ := ofC_some h
  obtain rfl : args = (encA t).1 := (congrArg Prod.fst he).symm
  obtain rfl : hin = (encA t).2 := (congrArg Prod.snd he).symm
  refine (ac0 t x h2).flat fun rv obs e => ?_
  obtain rfl : rv = (encR x).1 := congrArg Prod.fst e
  obtain rfl : obs = (encR x).2 := congrArg Prod.snd e
  refine ⟨by simp [encR, AV.Flat, K.Flat, C.Flat], ?_⟩
  intro o ho
  simp only [encR, List.mem_cons, List.not_mem_nil, or_false] at ho
  subst ho
  exact flat_rw rfl _
end laws_markIntSS_s45a1
/-! loop.example/g00073/laws.markText -/
namespace laws_markText
noncomputable def B0 {ρ : Type} (v1 : Int) (v2 : ByteArray) (W : Int → ByteArray → Option ρ) (K0 : ByteArray → Option ρ) : Option ρ :=
  sel (decide ((0 : Int) < v1)) (chk (okBytes (Vec.lit [⟨(IntKind.wrap .u8 (wr ((48 : Int) + (Int.tmod v1 (10 : Int)))))⟩] : Vec (IK .u8))) (chk (decide ((toBytes (Vec.lit [⟨(IntKind.wrap .u8 (wr ((48 : Int) + (Int.tmod v1 (10 : Int)))))⟩] : Vec (IK .u8))).size + v2.size ≤ maxN)) (W (wr (Int.tdiv v1 (10 : Int))) ((toBytes (Vec.lit [⟨(IntKind.wrap .u8 (wr ((48 : Int) + (Int.tmod v1 (10 : Int)))))⟩] : Vec (IK .u8))) ++ v2)))) (K0 v2)
noncomputable def F0 {ρ : Type} : Nat → Int → ByteArray → (ByteArray → Option ρ) → Option ρ
  | 0, _, _, _ => none
  | k + 1, v1, v2, K0 => B0 v1 v2 (fun v1' v2' => F0 k v1' v2' K0) K0
noncomputable def B {ρ : Type} (L0 : Int → ByteArray → (ByteArray → Option ρ) → Option ρ) (a1 : Int) (K : ByteArray → Option ρ) : Option ρ :=
  sel (decide (a1 ≤ (0 : Int))) (K (ByteArray.mk #[109, 48])) (L0 a1 ByteArray.empty (fun e01 => chk (decide ((ByteArray.mk #[109]).size + e01.size ≤ maxN)) (K ((ByteArray.mk #[109]) ++ e01))))
noncomputable def F (a1 : Int) : Option ByteArray := B (F0 fuelN) a1 (fun x1 => some (x1))
def encA (t : Int) : List AV := [vi t]
def encR (x : ByteArray) : AV × List Ob := (vs x, [])
theorem encAI : ∀ a b, encA a = encA b → a = b := by
  intro a b h
  simp [encA, encRw_iff] at h
  simp_all
theorem encRI : ∀ a b, encR a = encR b → a = b := by
  intro a b h
  simp [encR, encRw_iff] at h
  simp_all
noncomputable def Q (args : List AV) : Option ByteArray := ofC encA (fun t => F t) args
theorem wrap : (fun (y1 : Int) => Q [vi y1]) = F := by
  funext y1
  exact ofC_enc encAI _ (y1)
noncomputable def G : Orc := ⟨fun f => 9, fun ρ f args K => Option.none, noE, false⟩
noncomputable def L (W0 : (ρ : Type) → List AV → List Ob → (ByteArray → Option ρ) → Option ρ) : Lor := fun ρ j st K => sel (Nat.beq j 0) (cutO Try.prog 20 [0, 3] 0 [] [] st fun avs obs => W0 ρ avs obs (fun z1 => K (.exit 0) (mkS 20 [3] [vs z1] [] []))) (Option.none)
noncomputable def c0 : Code := loopC (atomN [] 0 (bodyOf Try.f51) 0)
def ct0 : Cut := ⟨[0, 3], []⟩
def lv0 : Exit → Cut
  | .exit 0 => ⟨[3], []⟩
  | _ => ⟨[], []⟩
theorem step0 (W0) {ρ : Type} (K : Exit → St → Option ρ) (W : List AV → List Ob → Option ρ) (v1 v2) : exC Try.prog (G) (L W0) [] 1 c0 (mkS 20 [0, 3] [vi v1, vs v2] [] []) (bodyK Try.prog 20 0 [] ct0 W lv0 K) =
    B0 v1 v2 (fun u1 u2 => W [vi u1, vs u2] []) (fun z1 => K (.exit 0) (mkS 20 [3] [vs z1] [] [])) := by kernel_rfl
def enc0 (t : Int × ByteArray) : List AV × List Ob := ([vi t.1, vs t.2], [])
theorem enc0I : ∀ a b, enc0 a = enc0 b → a = b := by
  intro a b h
  obtain ⟨a0, a1⟩ := a
  obtain ⟨b0, b1⟩ := b
  simp [enc0, encRw_iff] at h
  simp_all
noncomputable def V0 : (ρ : Type) → List AV → List Ob → (ByteArray → Option ρ) → Option ρ := fun ρ avs obs k0 => ofC enc0 (fun t => F0 fuelN t.1 t.2 k0) (avs, obs)
theorem V0_enc (ρ : Type) : (fun w1 w2 k0 => V0 ρ [vi w1, vs w2] [] k0) = F0 fuelN := by
  funext w1 w2 k0
  exact ofC_enc enc0I _ (w1, w2)
theorem main (W0) {ρ : Type} (K : AV → List Ob → Option ρ) (a1) : exC Try.prog (G) (L W0) [] 0 (bodyOf Try.f51) (entry 20 [vi a1] [] []) (finO Try.prog Try.f51.results.toList 0 [] [] K) =
    B (fun w1 w2 k0 => W0 ρ [vi w1, vs w2] [] k0) a1 (fun x1 => K (vs x1) []) := by kernel_rfl
theorem Gok : (G).ok Try.prog := ⟨(fun ρ f args K r h => (by cases h)),
  (fun ρ f args K => rfl),
  (fun ρ f st caps args dst K r h => (by cases h))⟩
theorem hm : Try.prog.follows .mixedOrders = true := by kernel_rfl
theorem e0 : atomsL [] 1 c0 = [] := by kernel_rfl
theorem ok0 (ρ : Type) (st : St) (K : Exit → St → Option ρ) (r : ρ) (h : (L V0) ρ 0 st K = some r) : AW Try.prog (.loop c0) st fun e st' => K e st' = some r := by
  refine loop_ok (ct := ct0) (lv := lv0) (n := 20) (m := 0) (ks := []) (j := 0) (jn := []) (L := (L V0)) Gok hm (by rw [e0]; exact Lor.ok_nil _ _) enc0I (fun k t => F0 k t.1 t.2 (fun z1 => K (.exit 0) (mkS 20 [3] [vs z1] [] []))) (fun t => rfl) (fun k t => ?_) (fun _ => fuelN) h
  refine (step0 V0 K _ t.1 t.2).trans ?_
  refine congrArg (fun W => B0 t.1 t.2 W (fun z1 => K (.exit 0) (mkS 20 [3] [vs z1] [] []))) ?_
  funext u1 u2
  exact ofC_enc enc0I _ (u1, u2)
theorem e : atomsL [] 0 (bodyOf Try.f51) = [(0, 0, .loop c0)] := by kernel_rfl
theorem acc (t : Int) (x : ByteArray) (h : F t = some x) : ACc Try.prog 51 (encA t) [] true [] fun rv obs => (rv, obs) = encR x := by
  refine fun_okc (L := (L V0)) (jn := []) (cmds := []) (ks := []) (hin := []) (fn := Try.f51) (body := (bodyOf Try.f51)) Gok hm Try.func51 (by kernel_rfl) (by kernel_rfl) (by rw [e]; exact Lor.ok_cons ok0 (Lor.ok_nil _ _)) ?_ h
  refine (main V0 _ t).trans ?_
  rw [V0_enc]
  refine congrArg (fun K => B (F0 fuelN) t K) ?_
  funext x1
  exact ofC_enc encRI some (x1)
theorem ac0 (t : Int) (x : ByteArray) (h : F t = some x) : AC Try.prog 51 (encA t) [] true [] fun rv obs => (rv, obs) = encR x := ACc.ac (body := bodyOf Try.f51) Try.func51 (by kernel_rfl) (by kernel_rfl) (acc t x h)
theorem ac (args : List AV) (x : ByteArray) (h : Q args = some x) : AC Try.prog 51 args [] false [] fun rv obs => (rv, obs) = encR x := by
  obtain ⟨t, rfl, h2⟩ := ofC_some h
  refine (ac0 t x h2).flat fun rv obs e => ?_
  obtain rfl : rv = (encR x).1 := congrArg Prod.fst e
  obtain rfl : obs = (encR x).2 := congrArg Prod.snd e
  refine ⟨by simp [encR, AV.Flat, K.Flat, C.Flat], ?_⟩
  simp [encR]
end laws_markText
/-! loop.example/g00073/laws.markBodyS -/
namespace laws_markBodyS_s669a
noncomputable def B0 {ρ : Type} (C0 : Int → Option ByteArray) (C1 : Int → (Vec Int) → Option (Int × Vec Int)) (v1 : Int) (v2 : Int) (v3 : Vec (ByteArray × Int × Int × (Vec Int))) (W : Int → Int → (Vec (ByteArray × Int × Int × (Vec Int))) → Option ρ) (K0 : Int → (Vec (ByteArray × Int × Int × (Vec Int))) → Option ρ) : Option ρ :=
  let d1 := (wr (v1 + (1 : Int)))
  sel (decide (v2 < (v3.n : Int))) ((C0 v1).bind fun r1 => chk (decide (0 ≤ v2 ∧ v2 < (v3.n : Int))) (chk (decide (v2.toNat < v3.n)) (chk (decide (0 ≤ v2 ∧ v2 < ((Vec.set v3 v2.toNat (r1, (v3.g v2.toNat).2.1, (v3.g v2.toNat).2.2.1, (v3.g v2.toNat).2.2.2)).n : Int))) (chk (decide (v2.toNat < (Vec.set v3 v2.toNat (r1, (v3.g v2.toNat).2.1, (v3.g v2.toNat).2.2.1, (v3.g v2.toNat).2.2.2)).n)) (chk (decide (0 ≤ v2 ∧ v2 < ((Vec.set (Vec.set v3 v2.toNat (r1, (v3.g v2.toNat).2.1, (v3.g v2.toNat).2.2.1, (v3.g v2.toNat).2.2.2)) v2.toNat (((Vec.set v3 v2.toNat (r1, (v3.g v2.toNat).2.1, (v3.g v2.toNat).2.2.1, (v3.g v2.toNat).2.2.2)).g v2.toNat).1, d1, ((Vec.set v3 v2.toNat (r1, (v3.g v2.toNat).2.1, (v3.g v2.toNat).2.2.1, (v3.g v2.toNat).2.2.2)).g v2.toNat).2.2.1, ((Vec.set v3 v2.toNat (r1, (v3.g v2.toNat).2.1, (v3.g v2.toNat).2.2.1, (v3.g v2.toNat).2.2.2)).g v2.toNat).2.2.2)).n : Int))) (chk (decide (v2.toNat < (Vec.set (Vec.set v3 v2.toNat (r1, (v3.g v2.toNat).2.1, (v3.g v2.toNat).2.2.1, (v3.g v2.toNat).2.2.2)) v2.toNat (((Vec.set v3 v2.toNat (r1, (v3.g v2.toNat).2.1, (v3.g v2.toNat).2.2.1, (v3.g v2.toNat).2.2.2)).g v2.toNat).1, d1, ((Vec.set v3 v2.toNat (r1, (v3.g v2.toNat).2.1, (v3.g v2.toNat).2.2.1, (v3.g v2.toNat).2.2.2)).g v2.toNat).2.2.1, ((Vec.set v3 v2.toNat (r1, (v3.g v2.toNat).2.1, (v3.g v2.toNat).2.2.1, (v3.g v2.toNat).2.2.2)).g v2.toNat).2.2.2)).n)) (chk (decide (0 ≤ v2 ∧ v2 < ((Vec.set (Vec.set (Vec.set v3 v2.toNat (r1, (v3.g v2.toNat).2.1, (v3.g v2.toNat).2.2.1, (v3.g v2.toNat).2.2.2)) v2.toNat (((Vec.set v3 v2.toNat (r1, (v3.g v2.toNat).2.1, (v3.g v2.toNat).2.2.1, (v3.g v2.toNat).2.2.2)).g v2.toNat).1, d1, ((Vec.set v3 v2.toNat (r1, (v3.g v2.toNat).2.1, (v3.g v2.toNat).2.2.1, (v3.g v2.toNat).2.2.2)).g v2.toNat).2.2.1, ((Vec.set v3 v2.toNat (r1, (v3.g v2.toNat).2.1, (v3.g v2.toNat).2.2.1, (v3.g v2.toNat).2.2.2)).g v2.toNat).2.2.2)) v2.toNat (((Vec.set (Vec.set v3 v2.toNat (r1, (v3.g v2.toNat).2.1, (v3.g v2.toNat).2.2.1, (v3.g v2.toNat).2.2.2)) v2.toNat (((Vec.set v3 v2.toNat (r1, (v3.g v2.toNat).2.1, (v3.g v2.toNat).2.2.1, (v3.g v2.toNat).2.2.2)).g v2.toNat).1, d1, ((Vec.set v3 v2.toNat (r1, (v3.g v2.toNat).2.1, (v3.g v2.toNat).2.2.1, (v3.g v2.toNat).2.2.2)).g v2.toNat).2.2.1, ((Vec.set v3 v2.toNat (r1, (v3.g v2.toNat).2.1, (v3.g v2.toNat).2.2.1, (v3.g v2.toNat).2.2.2)).g v2.toNat).2.2.2)).g v2.toNat).1, ((Vec.set (Vec.set v3 v2.toNat (r1, (v3.g v2.toNat).2.1, (v3.g v2.toNat).2.2.1, (v3.g v2.toNat).2.2.2)) v2.toNat (((Vec.set v3 v2.toNat (r1, (v3.g v2.toNat).2.1, (v3.g v2.toNat).2.2.1, (v3.g v2.toNat).2.2.2)).g v2.toNat).1, d1, ((Vec.set v3 v2.toNat (r1, (v3.g v2.toNat).2.1, (v3.g v2.toNat).2.2.1, (v3.g v2.toNat).2.2.2)).g v2.toNat).2.2.1, ((Vec.set v3 v2.toNat (r1, (v3.g v2.toNat).2.1, (v3.g v2.toNat).2.2.1, (v3.g v2.toNat).2.2.2)).g v2.toNat).2.2.2)).g v2.toNat).2.1, (wr (d1 + (1 : Int))), ((Vec.set (Vec.set v3 v2.toNat (r1, (v3.g v2.toNat).2.1, (v3.g v2.toNat).2.2.1, (v3.g v2.toNat).2.2.2)) v2.toNat (((Vec.set v3 v2.toNat (r1, (v3.g v2.toNat).2.1, (v3.g v2.toNat).2.2.1, (v3.g v2.toNat).2.2.2)).g v2.toNat).1, d1, ((Vec.set v3 v2.toNat (r1, (v3.g v2.toNat).2.1, (v3.g v2.toNat).2.2.1, (v3.g v2.toNat).2.2.2)).g v2.toNat).2.2.1, ((Vec.set v3 v2.toNat (r1, (v3.g v2.toNat).2.1, (v3.g v2.toNat).2.2.1, (v3.g v2.toNat).2.2.2)).g v2.toNat).2.2.2)).g v2.toNat).2.2.2)).n : Int))) (chk (decide (v2.toNat < (Vec.set (Vec.set (Vec.set v3 v2.toNat (r1, (v3.g v2.toNat).2.1, (v3.g v2.toNat).2.2.1, (v3.g v2.toNat).2.2.2)) v2.toNat (((Vec.set v3 v2.toNat (r1, (v3.g v2.toNat).2.1, (v3.g v2.toNat).2.2.1, (v3.g v2.toNat).2.2.2)).g v2.toNat).1, d1, ((Vec.set v3 v2.toNat (r1, (v3.g v2.toNat).2.1, (v3.g v2.toNat).2.2.1, (v3.g v2.toNat).2.2.2)).g v2.toNat).2.2.1, ((Vec.set v3 v2.toNat (r1, (v3.g v2.toNat).2.1, (v3.g v2.toNat).2.2.1, (v3.g v2.toNat).2.2.2)).g v2.toNat).2.2.2)) v2.toNat (((Vec.set (Vec.set v3 v2.toNat (r1, (v3.g v2.toNat).2.1, (v3.g v2.toNat).2.2.1, (v3.g v2.toNat).2.2.2)) v2.toNat (((Vec.set v3 v2.toNat (r1, (v3.g v2.toNat).2.1, (v3.g v2.toNat).2.2.1, (v3.g v2.toNat).2.2.2)).g v2.toNat).1, d1, ((Vec.set v3 v2.toNat (r1, (v3.g v2.toNat).2.1, (v3.g v2.toNat).2.2.1, (v3.g v2.toNat).2.2.2)).g v2.toNat).2.2.1, ((Vec.set v3 v2.toNat (r1, (v3.g v2.toNat).2.1, (v3.g v2.toNat).2.2.1, (v3.g v2.toNat).2.2.2)).g v2.toNat).2.2.2)).g v2.toNat).1, ((Vec.set (Vec.set v3 v2.toNat (r1, (v3.g v2.toNat).2.1, (v3.g v2.toNat).2.2.1, (v3.g v2.toNat).2.2.2)) v2.toNat (((Vec.set v3 v2.toNat (r1, (v3.g v2.toNat).2.1, (v3.g v2.toNat).2.2.1, (v3.g v2.toNat).2.2.2)).g v2.toNat).1, d1, ((Vec.set v3 v2.toNat (r1, (v3.g v2.toNat).2.1, (v3.g v2.toNat).2.2.1, (v3.g v2.toNat).2.2.2)).g v2.toNat).2.2.1, ((Vec.set v3 v2.toNat (r1, (v3.g v2.toNat).2.1, (v3.g v2.toNat).2.2.1, (v3.g v2.toNat).2.2.2)).g v2.toNat).2.2.2)).g v2.toNat).2.1, (wr (d1 + (1 : Int))), ((Vec.set (Vec.set v3 v2.toNat (r1, (v3.g v2.toNat).2.1, (v3.g v2.toNat).2.2.1, (v3.g v2.toNat).2.2.2)) v2.toNat (((Vec.set v3 v2.toNat (r1, (v3.g v2.toNat).2.1, (v3.g v2.toNat).2.2.1, (v3.g v2.toNat).2.2.2)).g v2.toNat).1, d1, ((Vec.set v3 v2.toNat (r1, (v3.g v2.toNat).2.1, (v3.g v2.toNat).2.2.1, (v3.g v2.toNat).2.2.2)).g v2.toNat).2.2.1, ((Vec.set v3 v2.toNat (r1, (v3.g v2.toNat).2.1, (v3.g v2.toNat).2.2.1, (v3.g v2.toNat).2.2.2)).g v2.toNat).2.2.2)).g v2.toNat).2.2.2)).n)) ((C1 (wr ((wr (d1 + (1 : Int))) + (1 : Int))) (((Vec.set (Vec.set (Vec.set v3 v2.toNat (r1, (v3.g v2.toNat).2.1, (v3.g v2.toNat).2.2.1, (v3.g v2.toNat).2.2.2)) v2.toNat (((Vec.set v3 v2.toNat (r1, (v3.g v2.toNat).2.1, (v3.g v2.toNat).2.2.1, (v3.g v2.toNat).2.2.2)).g v2.toNat).1, d1, ((Vec.set v3 v2.toNat (r1, (v3.g v2.toNat).2.1, (v3.g v2.toNat).2.2.1, (v3.g v2.toNat).2.2.2)).g v2.toNat).2.2.1, ((Vec.set v3 v2.toNat (r1, (v3.g v2.toNat).2.1, (v3.g v2.toNat).2.2.1, (v3.g v2.toNat).2.2.2)).g v2.toNat).2.2.2)) v2.toNat (((Vec.set (Vec.set v3 v2.toNat (r1, (v3.g v2.toNat).2.1, (v3.g v2.toNat).2.2.1, (v3.g v2.toNat).2.2.2)) v2.toNat (((Vec.set v3 v2.toNat (r1, (v3.g v2.toNat).2.1, (v3.g v2.toNat).2.2.1, (v3.g v2.toNat).2.2.2)).g v2.toNat).1, d1, ((Vec.set v3 v2.toNat (r1, (v3.g v2.toNat).2.1, (v3.g v2.toNat).2.2.1, (v3.g v2.toNat).2.2.2)).g v2.toNat).2.2.1, ((Vec.set v3 v2.toNat (r1, (v3.g v2.toNat).2.1, (v3.g v2.toNat).2.2.1, (v3.g v2.toNat).2.2.2)).g v2.toNat).2.2.2)).g v2.toNat).1, ((Vec.set (Vec.set v3 v2.toNat (r1, (v3.g v2.toNat).2.1, (v3.g v2.toNat).2.2.1, (v3.g v2.toNat).2.2.2)) v2.toNat (((Vec.set v3 v2.toNat (r1, (v3.g v2.toNat).2.1, (v3.g v2.toNat).2.2.1, (v3.g v2.toNat).2.2.2)).g v2.toNat).1, d1, ((Vec.set v3 v2.toNat (r1, (v3.g v2.toNat).2.1, (v3.g v2.toNat).2.2.1, (v3.g v2.toNat).2.2.2)).g v2.toNat).2.2.1, ((Vec.set v3 v2.toNat (r1, (v3.g v2.toNat).2.1, (v3.g v2.toNat).2.2.1, (v3.g v2.toNat).2.2.2)).g v2.toNat).2.2.2)).g v2.toNat).2.1, (wr (d1 + (1 : Int))), ((Vec.set (Vec.set v3 v2.toNat (r1, (v3.g v2.toNat).2.1, (v3.g v2.toNat).2.2.1, (v3.g v2.toNat).2.2.2)) v2.toNat (((Vec.set v3 v2.toNat (r1, (v3.g v2.toNat).2.1, (v3.g v2.toNat).2.2.1, (v3.g v2.toNat).2.2.2)).g v2.toNat).1, d1, ((Vec.set v3 v2.toNat (r1, (v3.g v2.toNat).2.1, (v3.g v2.toNat).2.2.1, (v3.g v2.toNat).2.2.2)).g v2.toNat).2.2.1, ((Vec.set v3 v2.toNat (r1, (v3.g v2.toNat).2.1, (v3.g v2.toNat).2.2.1, (v3.g v2.toNat).2.2.2)).g v2.toNat).2.2.2)).g v2.toNat).2.2.2)).g v2.toNat).2.2.2)).bind fun r2 => W r2.1 (wr (v2 + (1 : Int))) (Vec.set (Vec.set (Vec.set (Vec.set v3 v2.toNat (r1, (v3.g v2.toNat).2.1, (v3.g v2.toNat).2.2.1, (v3.g v2.toNat).2.2.2)) v2.toNat (((Vec.set v3 v2.toNat (r1, (v3.g v2.toNat).2.1, (v3.g v2.toNat).2.2.1, (v3.g v2.toNat).2.2.2)).g v2.toNat).1, d1, ((Vec.set v3 v2.toNat (r1, (v3.g v2.toNat).2.1, (v3.g v2.toNat).2.2.1, (v3.g v2.toNat).2.2.2)).g v2.toNat).2.2.1, ((Vec.set v3 v2.toNat (r1, (v3.g v2.toNat).2.1, (v3.g v2.toNat).2.2.1, (v3.g v2.toNat).2.2.2)).g v2.toNat).2.2.2)) v2.toNat (((Vec.set (Vec.set v3 v2.toNat (r1, (v3.g v2.toNat).2.1, (v3.g v2.toNat).2.2.1, (v3.g v2.toNat).2.2.2)) v2.toNat (((Vec.set v3 v2.toNat (r1, (v3.g v2.toNat).2.1, (v3.g v2.toNat).2.2.1, (v3.g v2.toNat).2.2.2)).g v2.toNat).1, d1, ((Vec.set v3 v2.toNat (r1, (v3.g v2.toNat).2.1, (v3.g v2.toNat).2.2.1, (v3.g v2.toNat).2.2.2)).g v2.toNat).2.2.1, ((Vec.set v3 v2.toNat (r1, (v3.g v2.toNat).2.1, (v3.g v2.toNat).2.2.1, (v3.g v2.toNat).2.2.2)).g v2.toNat).2.2.2)).g v2.toNat).1, ((Vec.set (Vec.set v3 v2.toNat (r1, (v3.g v2.toNat).2.1, (v3.g v2.toNat).2.2.1, (v3.g v2.toNat).2.2.2)) v2.toNat (((Vec.set v3 v2.toNat (r1, (v3.g v2.toNat).2.1, (v3.g v2.toNat).2.2.1, (v3.g v2.toNat).2.2.2)).g v2.toNat).1, d1, ((Vec.set v3 v2.toNat (r1, (v3.g v2.toNat).2.1, (v3.g v2.toNat).2.2.1, (v3.g v2.toNat).2.2.2)).g v2.toNat).2.2.1, ((Vec.set v3 v2.toNat (r1, (v3.g v2.toNat).2.1, (v3.g v2.toNat).2.2.1, (v3.g v2.toNat).2.2.2)).g v2.toNat).2.2.2)).g v2.toNat).2.1, (wr (d1 + (1 : Int))), ((Vec.set (Vec.set v3 v2.toNat (r1, (v3.g v2.toNat).2.1, (v3.g v2.toNat).2.2.1, (v3.g v2.toNat).2.2.2)) v2.toNat (((Vec.set v3 v2.toNat (r1, (v3.g v2.toNat).2.1, (v3.g v2.toNat).2.2.1, (v3.g v2.toNat).2.2.2)).g v2.toNat).1, d1, ((Vec.set v3 v2.toNat (r1, (v3.g v2.toNat).2.1, (v3.g v2.toNat).2.2.1, (v3.g v2.toNat).2.2.2)).g v2.toNat).2.2.1, ((Vec.set v3 v2.toNat (r1, (v3.g v2.toNat).2.1, (v3.g v2.toNat).2.2.1, (v3.g v2.toNat).2.2.2)).g v2.toNat).2.2.2)).g v2.toNat).2.2.2)) v2.toNat (((Vec.set (Vec.set (Vec.set v3 v2.toNat (r1, (v3.g v2.toNat).2.1, (v3.g v2.toNat).2.2.1, (v3.g v2.toNat).2.2.2)) v2.toNat (((Vec.set v3 v2.toNat (r1, (v3.g v2.toNat).2.1, (v3.g v2.toNat).2.2.1, (v3.g v2.toNat).2.2.2)).g v2.toNat).1, d1, ((Vec.set v3 v2.toNat (r1, (v3.g v2.toNat).2.1, (v3.g v2.toNat).2.2.1, (v3.g v2.toNat).2.2.2)).g v2.toNat).2.2.1, ((Vec.set v3 v2.toNat (r1, (v3.g v2.toNat).2.1, (v3.g v2.toNat).2.2.1, (v3.g v2.toNat).2.2.2)).g v2.toNat).2.2.2)) v2.toNat (((Vec.set (Vec.set v3 v2.toNat (r1, (v3.g v2.toNat).2.1, (v3.g v2.toNat).2.2.1, (v3.g v2.toNat).2.2.2)) v2.toNat (((Vec.set v3 v2.toNat (r1, (v3.g v2.toNat).2.1, (v3.g v2.toNat).2.2.1, (v3.g v2.toNat).2.2.2)).g v2.toNat).1, d1, ((Vec.set v3 v2.toNat (r1, (v3.g v2.toNat).2.1, (v3.g v2.toNat).2.2.1, (v3.g v2.toNat).2.2.2)).g v2.toNat).2.2.1, ((Vec.set v3 v2.toNat (r1, (v3.g v2.toNat).2.1, (v3.g v2.toNat).2.2.1, (v3.g v2.toNat).2.2.2)).g v2.toNat).2.2.2)).g v2.toNat).1, ((Vec.set (Vec.set v3 v2.toNat (r1, (v3.g v2.toNat).2.1, (v3.g v2.toNat).2.2.1, (v3.g v2.toNat).2.2.2)) v2.toNat (((Vec.set v3 v2.toNat (r1, (v3.g v2.toNat).2.1, (v3.g v2.toNat).2.2.1, (v3.g v2.toNat).2.2.2)).g v2.toNat).1, d1, ((Vec.set v3 v2.toNat (r1, (v3.g v2.toNat).2.1, (v3.g v2.toNat).2.2.1, (v3.g v2.toNat).2.2.2)).g v2.toNat).2.2.1, ((Vec.set v3 v2.toNat (r1, (v3.g v2.toNat).2.1, (v3.g v2.toNat).2.2.1, (v3.g v2.toNat).2.2.2)).g v2.toNat).2.2.2)).g v2.toNat).2.1, (wr (d1 + (1 : Int))), ((Vec.set (Vec.set v3 v2.toNat (r1, (v3.g v2.toNat).2.1, (v3.g v2.toNat).2.2.1, (v3.g v2.toNat).2.2.2)) v2.toNat (((Vec.set v3 v2.toNat (r1, (v3.g v2.toNat).2.1, (v3.g v2.toNat).2.2.1, (v3.g v2.toNat).2.2.2)).g v2.toNat).1, d1, ((Vec.set v3 v2.toNat (r1, (v3.g v2.toNat).2.1, (v3.g v2.toNat).2.2.1, (v3.g v2.toNat).2.2.2)).g v2.toNat).2.2.1, ((Vec.set v3 v2.toNat (r1, (v3.g v2.toNat).2.1, (v3.g v2.toNat).2.2.1, (v3.g v2.toNat).2.2.2)).g v2.toNat).2.2.2)).g v2.toNat).2.2.2)).g v2.toNat).1, ((Vec.set (Vec.set (Vec.set v3 v2.toNat (r1, (v3.g v2.toNat).2.1, (v3.g v2.toNat).2.2.1, (v3.g v2.toNat).2.2.2)) v2.toNat (((Vec.set v3 v2.toNat (r1, (v3.g v2.toNat).2.1, (v3.g v2.toNat).2.2.1, (v3.g v2.toNat).2.2.2)).g v2.toNat).1, d1, ((Vec.set v3 v2.toNat (r1, (v3.g v2.toNat).2.1, (v3.g v2.toNat).2.2.1, (v3.g v2.toNat).2.2.2)).g v2.toNat).2.2.1, ((Vec.set v3 v2.toNat (r1, (v3.g v2.toNat).2.1, (v3.g v2.toNat).2.2.1, (v3.g v2.toNat).2.2.2)).g v2.toNat).2.2.2)) v2.toNat (((Vec.set (Vec.set v3 v2.toNat (r1, (v3.g v2.toNat).2.1, (v3.g v2.toNat).2.2.1, (v3.g v2.toNat).2.2.2)) v2.toNat (((Vec.set v3 v2.toNat (r1, (v3.g v2.toNat).2.1, (v3.g v2.toNat).2.2.1, (v3.g v2.toNat).2.2.2)).g v2.toNat).1, d1, ((Vec.set v3 v2.toNat (r1, (v3.g v2.toNat).2.1, (v3.g v2.toNat).2.2.1, (v3.g v2.toNat).2.2.2)).g v2.toNat).2.2.1, ((Vec.set v3 v2.toNat (r1, (v3.g v2.toNat).2.1, (v3.g v2.toNat).2.2.1, (v3.g v2.toNat).2.2.2)).g v2.toNat).2.2.2)).g v2.toNat).1, ((Vec.set (Vec.set v3 v2.toNat (r1, (v3.g v2.toNat).2.1, (v3.g v2.toNat).2.2.1, (v3.g v2.toNat).2.2.2)) v2.toNat (((Vec.set v3 v2.toNat (r1, (v3.g v2.toNat).2.1, (v3.g v2.toNat).2.2.1, (v3.g v2.toNat).2.2.2)).g v2.toNat).1, d1, ((Vec.set v3 v2.toNat (r1, (v3.g v2.toNat).2.1, (v3.g v2.toNat).2.2.1, (v3.g v2.toNat).2.2.2)).g v2.toNat).2.2.1, ((Vec.set v3 v2.toNat (r1, (v3.g v2.toNat).2.1, (v3.g v2.toNat).2.2.1, (v3.g v2.toNat).2.2.2)).g v2.toNat).2.2.2)).g v2.toNat).2.1, (wr (d1 + (1 : Int))), ((Vec.set (Vec.set v3 v2.toNat (r1, (v3.g v2.toNat).2.1, (v3.g v2.toNat).2.2.1, (v3.g v2.toNat).2.2.2)) v2.toNat (((Vec.set v3 v2.toNat (r1, (v3.g v2.toNat).2.1, (v3.g v2.toNat).2.2.1, (v3.g v2.toNat).2.2.2)).g v2.toNat).1, d1, ((Vec.set v3 v2.toNat (r1, (v3.g v2.toNat).2.1, (v3.g v2.toNat).2.2.1, (v3.g v2.toNat).2.2.2)).g v2.toNat).2.2.1, ((Vec.set v3 v2.toNat (r1, (v3.g v2.toNat).2.1, (v3.g v2.toNat).2.2.1, (v3.g v2.toNat).2.2.2)).g v2.toNat).2.2.2)).g v2.toNat).2.2.2)).g v2.toNat).2.1, ((Vec.set (Vec.set (Vec.set v3 v2.toNat (r1, (v3.g v2.toNat).2.1, (v3.g v2.toNat).2.2.1, (v3.g v2.toNat).2.2.2)) v2.toNat (((Vec.set v3 v2.toNat (r1, (v3.g v2.toNat).2.1, (v3.g v2.toNat).2.2.1, (v3.g v2.toNat).2.2.2)).g v2.toNat).1, d1, ((Vec.set v3 v2.toNat (r1, (v3.g v2.toNat).2.1, (v3.g v2.toNat).2.2.1, (v3.g v2.toNat).2.2.2)).g v2.toNat).2.2.1, ((Vec.set v3 v2.toNat (r1, (v3.g v2.toNat).2.1, (v3.g v2.toNat).2.2.1, (v3.g v2.toNat).2.2.2)).g v2.toNat).2.2.2)) v2.toNat (((Vec.set (Vec.set v3 v2.toNat (r1, (v3.g v2.toNat).2.1, (v3.g v2.toNat).2.2.1, (v3.g v2.toNat).2.2.2)) v2.toNat (((Vec.set v3 v2.toNat (r1, (v3.g v2.toNat).2.1, (v3.g v2.toNat).2.2.1, (v3.g v2.toNat).2.2.2)).g v2.toNat).1, d1, ((Vec.set v3 v2.toNat (r1, (v3.g v2.toNat).2.1, (v3.g v2.toNat).2.2.1, (v3.g v2.toNat).2.2.2)).g v2.toNat).2.2.1, ((Vec.set v3 v2.toNat (r1, (v3.g v2.toNat).2.1, (v3.g v2.toNat).2.2.1, (v3.g v2.toNat).2.2.2)).g v2.toNat).2.2.2)).g v2.toNat).1, ((Vec.set (Vec.set v3 v2.toNat (r1, (v3.g v2.toNat).2.1, (v3.g v2.toNat).2.2.1, (v3.g v2.toNat).2.2.2)) v2.toNat (((Vec.set v3 v2.toNat (r1, (v3.g v2.toNat).2.1, (v3.g v2.toNat).2.2.1, (v3.g v2.toNat).2.2.2)).g v2.toNat).1, d1, ((Vec.set v3 v2.toNat (r1, (v3.g v2.toNat).2.1, (v3.g v2.toNat).2.2.1, (v3.g v2.toNat).2.2.2)).g v2.toNat).2.2.1, ((Vec.set v3 v2.toNat (r1, (v3.g v2.toNat).2.1, (v3.g v2.toNat).2.2.1, (v3.g v2.toNat).2.2.2)).g v2.toNat).2.2.2)).g v2.toNat).2.1, (wr (d1 + (1 : Int))), ((Vec.set (Vec.set v3 v2.toNat (r1, (v3.g v2.toNat).2.1, (v3.g v2.toNat).2.2.1, (v3.g v2.toNat).2.2.2)) v2.toNat (((Vec.set v3 v2.toNat (r1, (v3.g v2.toNat).2.1, (v3.g v2.toNat).2.2.1, (v3.g v2.toNat).2.2.2)).g v2.toNat).1, d1, ((Vec.set v3 v2.toNat (r1, (v3.g v2.toNat).2.1, (v3.g v2.toNat).2.2.1, (v3.g v2.toNat).2.2.2)).g v2.toNat).2.2.1, ((Vec.set v3 v2.toNat (r1, (v3.g v2.toNat).2.1, (v3.g v2.toNat).2.2.1, (v3.g v2.toNat).2.2.2)).g v2.toNat).2.2.2)).g v2.toNat).2.2.2)).g v2.toNat).2.2.1, r2.2))))))))))) (K0 v1 v3)
noncomputable def F0 {ρ : Type} : Nat → Int → Int → (Vec (ByteArray × Int × Int × (Vec Int))) → (Int → (Vec (ByteArray × Int × Int × (Vec Int))) → Option ρ) → Option ρ
  | 0, _, _, _, _ => none
  | k + 1, v1, v2, v3, K0 => B0 laws_markText.F laws_markIntS_s68b2.F v1 v2 v3 (fun v1' v2' v3' => F0 k v1' v2' v3' K0) K0
noncomputable def B {ρ : Type} (L0 : Int → Int → (Vec (ByteArray × Int × Int × (Vec Int))) → (Int → (Vec (ByteArray × Int × Int × (Vec Int))) → Option ρ) → Option ρ) (a1 : Int) (a2 : Vec (ByteArray × Int × Int × (Vec Int))) (K : Int → (Vec (ByteArray × Int × Int × (Vec Int))) → Option ρ) : Option ρ :=
  L0 a1 (0 : Int) a2 (fun e01 e02 => K e01 e02)
noncomputable def F (a1 : Int) (a2 : Vec (ByteArray × Int × Int × (Vec Int))) : Option (Int × (Vec (ByteArray × Int × Int × (Vec Int)))) := B (F0 fuelN) a1 a2 (fun x1 x2 => some (x1, x2))
def encA (t : Int × (Vec (ByteArray × Int × Int × (Vec Int)))) : List AV × List Ob := ([.c (.h 0), vi t.1], [ro t.2])
def encR (x : Int × (Vec (ByteArray × Int × Int × (Vec Int)))) : AV × List Ob := (vi x.1, [ro x.2])
theorem encAI : ∀ a b, encA a = encA b → a = b := by
  intro a b h
  obtain ⟨a0, a1⟩ := a
  obtain ⟨b0, b1⟩ := b
  simp [encA, encRw_iff] at h
  simp_all
theorem encRI : ∀ a b, encR a = encR b → a = b := by
  intro a b h
  obtain ⟨a0, a1⟩ := a
  obtain ⟨b0, b1⟩ := b
  simp [encR, encRw_iff] at h
  simp_all
noncomputable def Q (args : List AV) (hin : List Ob) : Option (Int × (Vec (ByteArray × Int × Int × (Vec Int)))) := ofC encA (fun t => F t.1 t.2) (args, hin)
theorem wrap : (fun (y1 : Int) (y2 : Vec (ByteArray × Int × Int × (Vec Int))) => Q [.c (.h 0), vi y1] [ro y2]) = F := by
  funext y1 y2
  exact ofC_enc encAI _ (y1, y2)
noncomputable def G (Q0 : List AV → Option ByteArray) (Q1 : List AV → List Ob → Option (Int × Vec Int)) : Orc := ⟨fun f => sel (Nat.beq f 51) 0 (9), fun ρ f args K => sel (Nat.beq f 51) (qEntry laws_markText.encR Q0 args K) (Option.none), fun ρ f st args dst K => sel (Nat.beq f 17) (callE Try.prog 17 [true, false] false [true] laws_markIntS_s68b2.encR Q1 st args dst K) (Option.none), true⟩
noncomputable def L (W0 : (ρ : Type) → List AV → List Ob → (Int → (Vec (ByteArray × Int × Int × (Vec Int))) → Option ρ) → Option ρ) : Lor := fun ρ j st K => sel (Nat.beq j 0) (cutO Try.prog 42 [0, 1, 5] 1 [true] [] st fun avs obs => W0 ρ avs obs (fun z1 z2 => K (.exit 0) (mkS 42 [1] [vi z1] [ro z2] [true]))) (Option.none)
noncomputable def c0 : Code := loopC (atomN [] 0 (bodyOf Try.f65) 0)
def ct0 : Cut := ⟨[0, 1, 5], []⟩
def lv0 : Exit → Cut
  | .exit 0 => ⟨[1], []⟩
  | _ => ⟨[], []⟩
theorem step0 (Q0 Q1) (W0) {ρ : Type} (K : Exit → St → Option ρ) (W : List AV → List Ob → Option ρ) (v1 v2 v3) : exC Try.prog (G Q0 Q1) (L W0) [] 1 c0 (mkS 42 [0, 1, 5] [.c (.h 0), vi v1, vi v2] [ro v3] [true]) (bodyK Try.prog 42 1 [true] ct0 W lv0 K) =
    B0 (fun y1 => Q0 [vi y1]) (fun y1 y2 => Q1 [.c (.h 0), vi y1] [ro y2]) v1 v2 v3 (fun u1 u2 u3 => W [.c (.h 0), vi u1, vi u2] [ro u3]) (fun z1 z2 => K (.exit 0) (mkS 42 [1] [vi z1] [ro z2] [true])) := by kernel_rfl
def enc0 (t : Int × Int × (Vec (ByteArray × Int × Int × (Vec Int)))) : List AV × List Ob := ([.c (.h 0), vi t.1, vi t.2.1], [ro t.2.2])
theorem enc0I : ∀ a b, enc0 a = enc0 b → a = b := by
  intro a b h
  obtain ⟨a0, a1, a2⟩ := a
  obtain ⟨b0, b1, b2⟩ := b
  simp [enc0, encRw_iff] at h
  simp_all
noncomputable def V0 : (ρ : Type) → List AV → List Ob → (Int → (Vec (ByteArray × Int × Int × (Vec Int))) → Option ρ) → Option ρ := fun ρ avs obs k0 => ofC enc0 (fun t => F0 fuelN t.1 t.2.1 t.2.2 k0) (avs, obs)
theorem V0_enc (ρ : Type) : (fun w1 w2 w3 k0 => V0 ρ [.c (.h 0), vi w1, vi w2] [ro w3] k0) = F0 fuelN := by
  funext w1 w2 w3 k0
  exact ofC_enc enc0I _ (w1, w2, w3)
theorem main (Q0 Q1) (W0) {ρ : Type} (K : AV → List Ob → Option ρ) (a1 a2) : exC Try.prog (G Q0 Q1) (L W0) [] 0 (bodyOf Try.f65) (entry 42 [.c (.h 0), vi a1] [ro a2] [true]) (finO Try.prog Try.f65.results.toList 1 [true] [] K) =
    B (fun w1 w2 w3 k0 => W0 ρ [.c (.h 0), vi w1, vi w2] [ro w3] k0) a1 a2 (fun x1 x2 => K (vi x1) [ro x2]) := by kernel_rfl
theorem Gok : (G laws_markText.Q laws_markIntS_s68b2.Q).ok Try.prog := ⟨(by
    intro ρ f args K r h
    rcases sel_cases h with ⟨hb, h⟩ | ⟨-, h⟩
    · obtain rfl := beq_nat hb
      exact qEntry_ok laws_markText.ac h
    cases h),
  (by
    intro ρ f args K
    simp only [G]
    cases Nat.beq f 51 with
    | true => exact qEntry_nat args K
    | false =>
    simp only [sel]
    rfl),
  (by
    intro ρ f st caps args dst K r h
    rcases sel_cases h with ⟨hb, h⟩ | ⟨-, h⟩
    · obtain rfl := beq_nat hb
      exact callE_ok (fun h => by cases h) laws_markIntS_s68b2.ac h
    cases h)⟩
theorem hm : Try.prog.follows .mixedOrders = true := by kernel_rfl
theorem e0 : atomsL [] 1 c0 = [] := by kernel_rfl
theorem ok0 (ρ : Type) (st : St) (K : Exit → St → Option ρ) (r : ρ) (h : (L V0) ρ 0 st K = some r) : AW Try.prog (.loop c0) st fun e st' => K e st' = some r := by
  refine loop_ok (ct := ct0) (lv := lv0) (n := 42) (m := 1) (ks := [true]) (j := 0) (jn := []) (L := (L V0)) Gok hm (by rw [e0]; exact Lor.ok_nil _ _) enc0I (fun k t => F0 k t.1 t.2.1 t.2.2 (fun z1 z2 => K (.exit 0) (mkS 42 [1] [vi z1] [ro z2] [true]))) (fun t => rfl) (fun k t => ?_) (fun _ => fuelN) h
  refine (step0 laws_markText.Q laws_markIntS_s68b2.Q V0 K _ t.1 t.2.1 t.2.2).trans ?_
  rw [laws_markText.wrap, laws_markIntS_s68b2.wrap]
  refine congrArg (fun W => B0 laws_markText.F laws_markIntS_s68b2.F t.1 t.2.1 t.2.2 W (fun z1 z2 => K (.exit 0) (mkS 42 [1] [vi z1] [ro z2] [true]))) ?_
  funext u1 u2 u3
  exact ofC_enc enc0I _ (u1, u2, u3)
theorem e : atomsL [] 0 (bodyOf Try.f65) = [(0, 0, .loop c0)] := by kernel_rfl
theorem acc (t : Int × (Vec (ByteArray × Int × Int × (Vec Int)))) (x : Int × (Vec (ByteArray × Int × Int × (Vec Int)))) (h : F t.1 t.2 = some x) : ACc Try.prog 65 (encA t).1 (encA t).2 true [true] fun rv obs => (rv, obs) = encR x := by
  refine fun_okc (L := (L V0)) (jn := []) (cmds := []) (ks := [true]) (hin := (encA t).2) (fn := Try.f65) (body := (bodyOf Try.f65)) Gok hm Try.func65 (by kernel_rfl) (by kernel_rfl) (by rw [e]; exact Lor.ok_cons ok0 (Lor.ok_nil _ _)) ?_ h
  refine (main laws_markText.Q laws_markIntS_s68b2.Q V0 _ t.1 t.2).trans ?_
  rw [V0_enc]
  refine congrArg (fun K => B (F0 fuelN) t.1 t.2 K) ?_
  funext x1 x2
  exact ofC_enc encRI some (x1, x2)
theorem ac0 (t : Int × (Vec (ByteArray × Int × Int × (Vec Int)))) (x : Int × (Vec (ByteArray × Int × Int × (Vec Int)))) (h : F t.1 t.2 = some x) : AC Try.prog 65 (encA t).1 (encA t).2 true [true] fun rv obs => (rv, obs) = encR x := ACc.ac (body := bodyOf Try.f65) Try.func65 (by kernel_rfl) (by kernel_rfl) (acc t x h)
theorem ac (args : List AV) (hin : List Ob) (x : Int × (Vec (ByteArray × Int × Int × (Vec Int)))) (h : Q args hin = some x) : AC Try.prog 65 args hin false [true] fun rv obs => (rv, obs) = encR x := by
  obtain ⟨t, he, h2⟩ := ofC_some h
  obtain rfl : args = (encA t).1 := (congrArg Prod.fst he).symm
  obtain rfl : hin = (encA t).2 := (congrArg Prod.snd he).symm
  refine (ac0 t x h2).flat fun rv obs e => ?_
  obtain rfl : rv = (encR x).1 := congrArg Prod.fst e
  obtain rfl : obs = (encR x).2 := congrArg Prod.snd e
  refine ⟨by simp [encR, AV.Flat, K.Flat, C.Flat], ?_⟩
  intro o ho
  simp only [encR, List.mem_cons, List.not_mem_nil, or_false] at ho
  subst ho
  exact flat_rw rfl _
end laws_markBodyS_s669a
/-! loop.example/g00073/laws.markWeave -/
namespace laws_markWeave_saeda
noncomputable def B {ρ : Type} (C0 : Int → (Vec (Vec Int)) → Option (Int × Vec (Vec Int))) (C1 : Int → (Vec (ByteArray × Int × Int × (Vec Int))) → Option (Int × (Vec (ByteArray × Int × Int × (Vec Int))))) (a1 : Int) (a2 : Vec (Vec Int)) (a3 : Vec (ByteArray × Int × Int × (Vec Int))) (K : Int → (Vec (Vec Int)) → (Vec (ByteArray × Int × Int × (Vec Int))) → Option ρ) : Option ρ :=
  (C0 a1 a2).bind fun r1 => (C1 r1.1 a3).bind fun r2 => K r2.1 r1.2 r2.2
noncomputable def F (a1 : Int) (a2 : Vec (Vec Int)) (a3 : Vec (ByteArray × Int × Int × (Vec Int))) : Option (Int × Vec (Vec Int) × (Vec (ByteArray × Int × Int × (Vec Int)))) := B laws_markIntSS_s45a1.F laws_markBodyS_s669a.F a1 a2 a3 (fun x1 x2 x3 => some (x1, x2, x3))
def encA (t : Int × Vec (Vec Int) × (Vec (ByteArray × Int × Int × (Vec Int)))) : List AV × List Ob := ([.a [.h 0, .h 1], vi t.1], [ro t.2.1, ro t.2.2])
def encR (x : Int × Vec (Vec Int) × (Vec (ByteArray × Int × Int × (Vec Int)))) : AV × List Ob := (vi x.1, [ro x.2.1, ro x.2.2])
theorem encAI : ∀ a b, encA a = encA b → a = b := by
  intro a b h
  obtain ⟨a0, a1, a2⟩ := a
  obtain ⟨b0, b1, b2⟩ := b
  simp [encA, encRw_iff] at h
  simp_all
theorem encRI : ∀ a b, encR a = encR b → a = b := by
  intro a b h
  obtain ⟨a0, a1, a2⟩ := a
  obtain ⟨b0, b1, b2⟩ := b
  simp [encR, encRw_iff] at h
  simp_all
noncomputable def Q (args : List AV) (hin : List Ob) : Option (Int × Vec (Vec Int) × (Vec (ByteArray × Int × Int × (Vec Int)))) := ofC encA (fun t => F t.1 t.2.1 t.2.2) (args, hin)
theorem wrap : (fun (y1 : Int) (y2 : Vec (Vec Int)) (y3 : Vec (ByteArray × Int × Int × (Vec Int))) => Q [.a [.h 0, .h 1], vi y1] [ro y2, ro y3]) = F := by
  funext y1 y2 y3
  exact ofC_enc encAI _ (y1, y2, y3)
noncomputable def G (Q0 : List AV → List Ob → Option (Int × Vec (Vec Int))) (Q1 : List AV → List Ob → Option (Int × (Vec (ByteArray × Int × Int × (Vec Int))))) : Orc := ⟨fun f => 9, fun ρ f args K => Option.none, fun ρ f st args dst K => sel (Nat.beq f 64) (callE Try.prog 64 [true, false] false [true] laws_markIntSS_s45a1.encR Q0 st args dst K) (sel (Nat.beq f 65) (callE Try.prog 65 [true, false] false [true] laws_markBodyS_s669a.encR Q1 st args dst K) (Option.none)), false⟩
noncomputable def L : Lor := fun ρ j st K => Option.none
theorem main (Q0 Q1) {ρ : Type} (K : AV → List Ob → Option ρ) (a1 a2 a3) : exC Try.prog (G Q0 Q1) (L) [] 0 (bodyOf Try.f25) (entry 14 [.a [.h 0, .h 1], vi a1] [ro a2, ro a3] [true, true]) (finO Try.prog Try.f25.results.toList 2 [true, true] [] K) =
    B (fun y1 y2 => Q0 [.c (.h 0), vi y1] [ro y2]) (fun y1 y2 => Q1 [.c (.h 0), vi y1] [ro y2]) a1 a2 a3 (fun x1 x2 x3 => K (vi x1) [ro x2, ro x3]) := by kernel_rfl
theorem Gok : (G laws_markIntSS_s45a1.Q laws_markBodyS_s669a.Q).ok Try.prog := ⟨(fun ρ f args K r h => (by cases h)),
  (fun ρ f args K => rfl),
  (by
    intro ρ f st caps args dst K r h
    rcases sel_cases h with ⟨hb, h⟩ | ⟨-, h⟩
    · obtain rfl := beq_nat hb
      exact callE_ok (fun h => by cases h) laws_markIntSS_s45a1.ac h
    rcases sel_cases h with ⟨hb, h⟩ | ⟨-, h⟩
    · obtain rfl := beq_nat hb
      exact callE_ok (fun h => by cases h) laws_markBodyS_s669a.ac h
    cases h)⟩
theorem hm : Try.prog.follows .mixedOrders = true := by kernel_rfl
theorem e : atomsL [] 0 (bodyOf Try.f25) = [] := by kernel_rfl
theorem acc (t : Int × Vec (Vec Int) × (Vec (ByteArray × Int × Int × (Vec Int)))) (x : Int × Vec (Vec Int) × (Vec (ByteArray × Int × Int × (Vec Int)))) (h : F t.1 t.2.1 t.2.2 = some x) : ACc Try.prog 25 (encA t).1 (encA t).2 true [true, true] fun rv obs => (rv, obs) = encR x := by
  refine fun_okc (L := (L)) (jn := []) (cmds := []) (ks := [true, true]) (hin := (encA t).2) (fn := Try.f25) (body := (bodyOf Try.f25)) Gok hm Try.func25 (by kernel_rfl) (by kernel_rfl) (by rw [e]; exact Lor.ok_nil _ _) ?_ h
  refine (main laws_markIntSS_s45a1.Q laws_markBodyS_s669a.Q _ t.1 t.2.1 t.2.2).trans ?_
  rw [laws_markIntSS_s45a1.wrap, laws_markBodyS_s669a.wrap]
  refine congrArg (fun K => B laws_markIntSS_s45a1.F laws_markBodyS_s669a.F t.1 t.2.1 t.2.2 K) ?_
  funext x1 x2 x3
  exact ofC_enc encRI some (x1, x2, x3)
theorem ac0 (t : Int × Vec (Vec Int) × (Vec (ByteArray × Int × Int × (Vec Int)))) (x : Int × Vec (Vec Int) × (Vec (ByteArray × Int × Int × (Vec Int)))) (h : F t.1 t.2.1 t.2.2 = some x) : AC Try.prog 25 (encA t).1 (encA t).2 true [true, true] fun rv obs => (rv, obs) = encR x := ACc.ac (body := bodyOf Try.f25) Try.func25 (by kernel_rfl) (by kernel_rfl) (acc t x h)
theorem ac (args : List AV) (hin : List Ob) (x : Int × Vec (Vec Int) × (Vec (ByteArray × Int × Int × (Vec Int)))) (h : Q args hin = some x) : AC Try.prog 25 args hin false [true, true] fun rv obs => (rv, obs) = encR x := by
  obtain ⟨t, he, h2⟩ := ofC_some h
  obtain rfl : args = (encA t).1 := (congrArg Prod.fst he).symm
  obtain rfl : hin = (encA t).2 := (congrArg Prod.snd he).symm
  refine (ac0 t x h2).flat fun rv obs e => ?_
  obtain rfl : rv = (encR x).1 := congrArg Prod.fst e
  obtain rfl : obs = (encR x).2 := congrArg Prod.snd e
  refine ⟨by simp [encR, AV.Flat, K.Flat, C.Flat], ?_⟩
  intro o ho
  simp only [encR, List.mem_cons, List.not_mem_nil, or_false] at ho
  rcases ho with rfl | rfl
  · exact flat_rw rfl _
  · exact flat_rw rfl _
end laws_markWeave_saeda
end Go.Al
