import Derived.Test.YtefdhjnlnmljpaaAlF
import Derived.Test.YtefdhjnlnmljpaaSC
import Derived.Test.YtefdhjnlnmljpaaGWv
import Derived.Test.YtefdhjnlnmljpaaGWl
import Derived.Test.YtefdhjnlnmljpaaGCmp
import Derived.Test.YtefdhjnlnmljpaaGAnnotate
set_option linter.unusedVariables false
set_option linter.unusedSimpArgs false
set_option linter.constructorNameAsVariable false
set_option linter.unusedSectionVars false
set_option maxRecDepth 100000
namespace Go.Al
open Go.Proofs

/-! loop.example/g00073/spec.CompareEdits -/
namespace spec_CompareEdits
noncomputable def B0 {ρ : Type} (v1 : Int) (v2 : Int) (v3 : Vec (Int × Int × Int × ByteArray)) (v4 : Vec (Int × ByteArray)) (W : Int → Int → (Vec (Int × Int × Int × ByteArray)) → (Vec (Int × ByteArray)) → Option ρ) (K0 : Int → (Vec (Int × ByteArray)) → Option ρ) : Option ρ :=
  sel (decide (v2 < (v3.n : Int))) (chk (decide (0 ≤ v2 ∧ v2 < (v3.n : Int))) (chk (decide (v2.toNat < v3.n)) (chk (decide (0 ≤ v2 ∧ v2 < (v3.n : Int))) (chk (decide (v2.toNat < v3.n)) (chk (decide ((v4.n + (Vec.lit [((v3.g v2.toNat).1, (v3.g v2.toNat).2.2.2)] : Vec (Int × ByteArray)).n) * 25 ≤ maxN)) (W v1 (wr (v2 + (1 : Int))) v3 (Vec.app v4 (Vec.lit [((v3.g v2.toNat).1, (v3.g v2.toNat).2.2.2)] : Vec (Int × ByteArray))))))))) (K0 v1 v4)
noncomputable def F0 {ρ : Type} : Nat → Int → Int → (Vec (Int × Int × Int × ByteArray)) → (Vec (Int × ByteArray)) → (Int → (Vec (Int × ByteArray)) → Option ρ) → Option ρ
  | 0, _, _, _, _, _ => none
  | k + 1, v1, v2, v3, v4, K0 => B0 v1 v2 v3 v4 (fun v1' v2' v3' v4' => F0 k v1' v2' v3' v4' K0) K0
noncomputable def B {ρ : Type} (C_spec_Compare : (Vec (Vec Int)) → (Vec (ByteArray × Int × Int × (Vec Int))) → Int → Int → Option (Int × (Vec (Int × Int × Int × ByteArray)))) (L0 : Int → Int → (Vec (Int × Int × Int × ByteArray)) → (Vec (Int × ByteArray)) → (Int → (Vec (Int × ByteArray)) → Option ρ) → Option ρ) (a1 : Vec (Vec Int)) (a2 : Vec (ByteArray × Int × Int × (Vec Int))) (a3 : Int) (a4 : Int) (K : Int → (Vec (Int × ByteArray)) → Option ρ) : Option ρ :=
  (C_spec_Compare a1 a2 a3 a4).bind fun r1 => L0 r1.1 (0 : Int) r1.2 (Vec.nil : Vec (Int × ByteArray)) (fun e01 e02 => K e01 e02)
noncomputable def F (a1 : Vec (Vec Int)) (a2 : Vec (ByteArray × Int × Int × (Vec Int))) (a3 : Int) (a4 : Int) : Option (Int × (Vec (Int × ByteArray))) := B spec_Compare.F (F0 fuelN) a1 a2 a3 a4 (fun x1 x2 => some (x1, x2))
def encA (t : Vec (Vec Int) × (Vec (ByteArray × Int × Int × (Vec Int))) × Int × Int) : List AV := [.a [.n (.sl 1 (encRw t.1)), .n (.sl 4 (encRw t.2.1))], .c (.n (.v (.int .i64 t.2.2.1))), .c (.n (.v (.int .i64 t.2.2.2)))]
def encR (x : Int × (Vec (Int × ByteArray))) : AV × List Ob := (.tup [.c (.h 0), .c (.n (.v (.int .i64 x.1)))], [.row 2 (encRw x.2) []])
theorem encAI : ∀ a b, encA a = encA b → a = b := by
  intro a b h
  obtain ⟨a0, a1, a2, a3⟩ := a
  obtain ⟨b0, b1, b2, b3⟩ := b
  simp [encA, encRw_iff] at h
  simp_all
theorem encRI : ∀ a b, encR a = encR b → a = b := by
  intro a b h
  obtain ⟨a0, a1⟩ := a
  obtain ⟨b0, b1⟩ := b
  simp [encR, encRw_iff] at h
  simp_all
noncomputable def Q (args : List AV) : Option (Int × (Vec (Int × ByteArray))) := ofC encA (fun t => F t.1 t.2.1 t.2.2.1 t.2.2.2) args
theorem wrap : (fun (y1 : Vec (Vec Int)) (y2 : Vec (ByteArray × Int × Int × (Vec Int))) (y3 : Int) (y4 : Int) => Q [.a [.n (.sl 1 (encRw y1)), .n (.sl 4 (encRw y2))], .c (.n (.v (.int .i64 y3))), .c (.n (.v (.int .i64 y4)))]) = F := by
  funext y1 y2 y3 y4
  exact ofC_enc encAI _ (y1, y2, y3, y4)
noncomputable def G (q_spec_Compare : List AV → Option (Int × (Vec (Int × Int × Int × ByteArray)))) : Orc := ⟨fun f => sel (Nat.beq f 29) 0 (9), fun ρ f args K => sel (Nat.beq f 29) (qEntry spec_Compare.encR q_spec_Compare args K) (Option.none), noE, false⟩
noncomputable def L (W0 : (ρ : Type) → List AV → List Ob → (Int → (Vec (Int × ByteArray)) → Option ρ) → Option ρ) : Lor := fun ρ j st K => sel (Nat.beq j 0) (cutO Try.prog 43 [8, 9, 10, 11] 0 [] [.ad (.s 10) 51] st fun avs obs => W0 ρ avs obs (fun z1 z2 => K (.exit 0) (mkS 43 [9, 10] [.c (.n (.v (.int .i64 z1))), .c (.h 0)] [.row 2 (encRw z2) []] []))) (Option.none)
noncomputable def c0 : Code := loopC (atomN [] 0 (bodyOf Try.f34) 0)
def ct0 : Cut := ⟨[8, 9, 10, 11], [.ad (.s 10) 51]⟩
def lv0 : Exit → Cut
  | .exit 0 => ⟨[9, 10], []⟩
  | _ => ⟨[], []⟩
theorem step0 (q_spec_Compare : List AV → Option (Int × (Vec (Int × Int × Int × ByteArray)))) (W0 : (ρ : Type) → List AV → List Ob → (Int → (Vec (Int × ByteArray)) → Option ρ) → Option ρ) {ρ : Type} (K : Exit → St → Option ρ) (W : List AV → List Ob → Option ρ) (v1 : Int) (v2 : Int) (v3 : Vec (Int × Int × Int × ByteArray)) (v4 : Vec (Int × ByteArray)) : exC Try.prog (G q_spec_Compare) (L W0) [] 1 c0 (mkS 43 [8, 9, 10, 11] [.c (.h 0), .c (.n (.v (.int .i64 v1))), .c (.h 1), .c (.n (.v (.int .i64 v2)))] [.row 4 (encRw v3) [], .row 2 (encRw v4) []] []) (bodyK Try.prog 43 0 [] ct0 W lv0 K) =
    B0 v1 v2 v3 v4 (fun u1 u2 u3 u4 => W [.c (.h 0), .c (.n (.v (.int .i64 u1))), .c (.h 1), .c (.n (.v (.int .i64 u2)))] [.row 4 (encRw u3) [], .row 2 (encRw u4) []]) (fun z1 z2 => K (.exit 0) (mkS 43 [9, 10] [.c (.n (.v (.int .i64 z1))), .c (.h 0)] [.row 2 (encRw z2) []] [])) := by kernel_rfl
def enc0 (t : Int × Int × (Vec (Int × Int × Int × ByteArray)) × (Vec (Int × ByteArray))) : List AV × List Ob := ([.c (.h 0), .c (.n (.v (.int .i64 t.1))), .c (.h 1), .c (.n (.v (.int .i64 t.2.1)))], [.row 4 (encRw t.2.2.1) [], .row 2 (encRw t.2.2.2) []])
theorem enc0I : ∀ a b, enc0 a = enc0 b → a = b := by
  intro a b h
  obtain ⟨a0, a1, a2, a3⟩ := a
  obtain ⟨b0, b1, b2, b3⟩ := b
  simp [enc0, encRw_iff] at h
  simp_all
noncomputable def V0 : (ρ : Type) → List AV → List Ob → (Int → (Vec (Int × ByteArray)) → Option ρ) → Option ρ := fun ρ avs obs k0 => ofC enc0 (fun t => F0 fuelN t.1 t.2.1 t.2.2.1 t.2.2.2 k0) (avs, obs)
theorem V0_enc (ρ : Type) : (fun w1 w2 w3 w4 k0 => V0 ρ [.c (.h 0), .c (.n (.v (.int .i64 w1))), .c (.h 1), .c (.n (.v (.int .i64 w2)))] [.row 4 (encRw w3) [], .row 2 (encRw w4) []] k0) = F0 fuelN := by
  funext w1 w2 w3 w4 k0
  exact ofC_enc enc0I _ (w1, w2, w3, w4)
theorem main (q_spec_Compare : List AV → Option (Int × (Vec (Int × Int × Int × ByteArray)))) (W0 : (ρ : Type) → List AV → List Ob → (Int → (Vec (Int × ByteArray)) → Option ρ) → Option ρ) {ρ : Type} (K : AV → List Ob → Option ρ) (a1 : Vec (Vec Int)) (a2 : Vec (ByteArray × Int × Int × (Vec Int))) (a3 : Int) (a4 : Int) : exC Try.prog (G q_spec_Compare) (L W0) [] 0 (bodyOf Try.f34) (entry 43 [.a [.n (.sl 1 (encRw a1)), .n (.sl 4 (encRw a2))], .c (.n (.v (.int .i64 a3))), .c (.n (.v (.int .i64 a4)))] [] []) (finO Try.prog Try.f34.results.toList 0 [] [] K) =
    B (fun y1 y2 y3 y4 => q_spec_Compare [.a [.n (.sl 1 (encRw y1)), .n (.sl 4 (encRw y2))], .c (.n (.v (.int .i64 y3))), .c (.n (.v (.int .i64 y4)))]) (fun w1 w2 w3 w4 k0 => W0 ρ [.c (.h 0), .c (.n (.v (.int .i64 w1))), .c (.h 1), .c (.n (.v (.int .i64 w2)))] [.row 4 (encRw w3) [], .row 2 (encRw w4) []] k0) a1 a2 a3 a4 (fun x1 x2 => K (.tup [.c (.h 0), .c (.n (.v (.int .i64 x1)))]) [.row 2 (encRw x2) []]) := by kernel_rfl
theorem Gok : (G spec_Compare.Q).ok Try.prog := ⟨(by
    intro ρ f args K r h
    rcases sel_cases h with ⟨hb, h⟩ | ⟨-, h⟩
    · obtain rfl := beq_nat hb
      exact qEntry_ok spec_Compare.ac h
    cases h),
  (by
    intro ρ f args K
    simp only [G]
    cases Nat.beq f 29 with
    | true => exact qEntry_nat args K
    | false =>
    simp only [sel]
    rfl),
  (fun ρ f st caps args dst K r h => (by cases h))⟩
theorem hm : Try.prog.follows .mixedOrders = true := by kernel_rfl
theorem e0 : atomsL [] 1 c0 = [] := by kernel_rfl
theorem ok0 (ρ : Type) (st : St) (K : Exit → St → Option ρ) (r : ρ) (h : (L V0) ρ 0 st K = some r) : AW Try.prog (.loop c0) st fun e st' => K e st' = some r := by
  refine loop_ok (ct := ct0) (lv := lv0) (n := 43) (m := 0) (ks := []) (j := 0) (jn := []) (L := (L V0)) Gok hm (by rw [e0]; exact Lor.ok_nil _ _) enc0I (fun k t => F0 k t.1 t.2.1 t.2.2.1 t.2.2.2 (fun z1 z2 => K (.exit 0) (mkS 43 [9, 10] [.c (.n (.v (.int .i64 z1))), .c (.h 0)] [.row 2 (encRw z2) []] []))) (fun t => rfl) (fun k t => ?_) (fun _ => fuelN) h
  refine (step0 spec_Compare.Q V0 K _ t.1 t.2.1 t.2.2.1 t.2.2.2).trans ?_
  refine congrArg (fun W => B0 t.1 t.2.1 t.2.2.1 t.2.2.2 W (fun z1 z2 => K (.exit 0) (mkS 43 [9, 10] [.c (.n (.v (.int .i64 z1))), .c (.h 0)] [.row 2 (encRw z2) []] []))) ?_
  funext u1 u2 u3 u4
  exact ofC_enc enc0I _ (u1, u2, u3, u4)
theorem e : atomsL [] 0 (bodyOf Try.f34) = [(0, 0, .loop c0)] := by kernel_rfl
theorem acc (t : Vec (Vec Int) × (Vec (ByteArray × Int × Int × (Vec Int))) × Int × Int) (x : Int × (Vec (Int × ByteArray))) (h : F t.1 t.2.1 t.2.2.1 t.2.2.2 = some x) : ACc Try.prog 34 (encA t) [] true [] fun rv obs => (rv, obs) = encR x := by
  refine fun_okc (L := (L V0)) (jn := []) (cmds := []) (ks := []) (hin := []) (fn := Try.f34) (body := (bodyOf Try.f34)) Gok hm Try.func34 (by kernel_rfl) (by kernel_rfl) (by rw [e]; exact Lor.ok_cons ok0 (Lor.ok_nil _ _)) ?_ h
  refine (main spec_Compare.Q V0 _ t.1 t.2.1 t.2.2.1 t.2.2.2).trans ?_
  rw [spec_Compare.wrap, V0_enc]
  refine congrArg (fun K => B spec_Compare.F (F0 fuelN) t.1 t.2.1 t.2.2.1 t.2.2.2 K) ?_
  funext x1 x2
  exact ofC_enc encRI some (x1, x2)
theorem ac0 (t : Vec (Vec Int) × (Vec (ByteArray × Int × Int × (Vec Int))) × Int × Int) (x : Int × (Vec (Int × ByteArray))) (h : F t.1 t.2.1 t.2.2.1 t.2.2.2 = some x) : AC Try.prog 34 (encA t) [] true [] fun rv obs => (rv, obs) = encR x := ACc.ac (body := bodyOf Try.f34) Try.func34 (by kernel_rfl) (by kernel_rfl) (acc t x h)
theorem ac (args : List AV) (x : Int × (Vec (Int × ByteArray))) (h : Q args = some x) : AC Try.prog 34 args [] false [] fun rv obs => (rv, obs) = encR x := by
  obtain ⟨t, rfl, h2⟩ := ofC_some h
  refine (ac0 t x h2).flat fun rv obs e => ?_
  obtain rfl : rv = (encR x).1 := congrArg Prod.fst e
  obtain rfl : obs = (encR x).2 := congrArg Prod.snd e
  refine ⟨by simp [encR, AV.Flat, K.Flat, C.Flat], ?_⟩
  intro o ho
  simp only [encR, List.mem_cons, List.not_mem_nil, or_false] at ho
  subst ho
  exact flat_rw rfl _
end spec_CompareEdits
/-! loop.example/g00073/impl.CompareEdits -/
namespace impl_CompareEdits
noncomputable def B0 {ρ : Type} (v1 : Int) (v2 : Int) (v3 : Vec (Int × ByteArray)) (v4 : Vec (Int × Int × Int × ByteArray)) (W : Int → Int → (Vec (Int × ByteArray)) → (Vec (Int × Int × Int × ByteArray)) → Option ρ) (K0 : (Vec (Int × ByteArray)) → Option ρ) : Option ρ :=
  sel (decide (v2 < v1)) (chk (decide (0 ≤ v2 ∧ v2 < (v4.n : Int))) (chk (decide (v2.toNat < v4.n)) (sel (decide ((v4.g v2.toNat).1 = (2 : Int))) (chk (decide ((v3.n + (Vec.lit [((2 : Int), (v4.g v2.toNat).2.2.2)] : Vec (Int × ByteArray)).n) * 25 ≤ maxN)) (W v1 (wr (v2 + (1 : Int))) (Vec.app v3 (Vec.lit [((2 : Int), (v4.g v2.toNat).2.2.2)] : Vec (Int × ByteArray))) v4)) (sel (decide ((v4.g v2.toNat).1 = (3 : Int))) (chk (decide ((v3.n + (Vec.lit [((3 : Int), (v4.g v2.toNat).2.2.2)] : Vec (Int × ByteArray)).n) * 25 ≤ maxN)) (W v1 (wr (v2 + (1 : Int))) (Vec.app v3 (Vec.lit [((3 : Int), (v4.g v2.toNat).2.2.2)] : Vec (Int × ByteArray))) v4)) (chk (decide ((v3.n + (Vec.lit [((1 : Int), (v4.g v2.toNat).2.2.2)] : Vec (Int × ByteArray)).n) * 25 ≤ maxN)) (W v1 (wr (v2 + (1 : Int))) (Vec.app v3 (Vec.lit [((1 : Int), (v4.g v2.toNat).2.2.2)] : Vec (Int × ByteArray))) v4)))))) (K0 v3)
noncomputable def F0 {ρ : Type} : Nat → Int → Int → (Vec (Int × ByteArray)) → (Vec (Int × Int × Int × ByteArray)) → ((Vec (Int × ByteArray)) → Option ρ) → Option ρ
  | 0, _, _, _, _, _ => none
  | k + 1, v1, v2, v3, v4, K0 => B0 v1 v2 v3 v4 (fun v1' v2' v3' v4' => F0 k v1' v2' v3' v4' K0) K0
noncomputable def B {ρ : Type} (C_impl_Compare : (Vec (Vec Int)) → (Vec (ByteArray × Int × Int × (Vec Int))) → Int → Int → Option (Int × (Vec (Int × Int × Int × ByteArray)))) (L0 : Int → Int → (Vec (Int × ByteArray)) → (Vec (Int × Int × Int × ByteArray)) → ((Vec (Int × ByteArray)) → Option ρ) → Option ρ) (a1 : Vec (Vec Int)) (a2 : Vec (ByteArray × Int × Int × (Vec Int))) (a3 : Int) (a4 : Int) (K : Int → (Vec (Int × ByteArray)) → Option ρ) : Option ρ :=
  (C_impl_Compare a1 a2 a3 a4).bind fun r1 => sel ((!decide (r1.1 = (0 : Int)))) (K r1.1 (Vec.nil : Vec (Int × ByteArray))) (L0 (r1.2.n : Int) (0 : Int) (Vec.nil : Vec (Int × ByteArray)) r1.2 (fun e01 => K (0 : Int) e01))
noncomputable def F (a1 : Vec (Vec Int)) (a2 : Vec (ByteArray × Int × Int × (Vec Int))) (a3 : Int) (a4 : Int) : Option (Int × (Vec (Int × ByteArray))) := B impl_Compare.F (F0 fuelN) a1 a2 a3 a4 (fun x1 x2 => some (x1, x2))
def encA (t : Vec (Vec Int) × (Vec (ByteArray × Int × Int × (Vec Int))) × Int × Int) : List AV := [.a [.n (.sl 1 (encRw t.1)), .n (.sl 4 (encRw t.2.1))], .c (.n (.v (.int .i64 t.2.2.1))), .c (.n (.v (.int .i64 t.2.2.2)))]
def encR (x : Int × (Vec (Int × ByteArray))) : AV × List Ob := (.tup [.c (.h 0), .c (.n (.v (.int .i64 x.1)))], [.row 2 (encRw x.2) []])
theorem encAI : ∀ a b, encA a = encA b → a = b := by
  intro a b h
  obtain ⟨a0, a1, a2, a3⟩ := a
  obtain ⟨b0, b1, b2, b3⟩ := b
  simp [encA, encRw_iff] at h
  simp_all
theorem encRI : ∀ a b, encR a = encR b → a = b := by
  intro a b h
  obtain ⟨a0, a1⟩ := a
  obtain ⟨b0, b1⟩ := b
  simp [encR, encRw_iff] at h
  simp_all
noncomputable def Q (args : List AV) : Option (Int × (Vec (Int × ByteArray))) := ofC encA (fun t => F t.1 t.2.1 t.2.2.1 t.2.2.2) args
theorem wrap : (fun (y1 : Vec (Vec Int)) (y2 : Vec (ByteArray × Int × Int × (Vec Int))) (y3 : Int) (y4 : Int) => Q [.a [.n (.sl 1 (encRw y1)), .n (.sl 4 (encRw y2))], .c (.n (.v (.int .i64 y3))), .c (.n (.v (.int .i64 y4)))]) = F := by
  funext y1 y2 y3 y4
  exact ofC_enc encAI _ (y1, y2, y3, y4)
noncomputable def G (q_impl_Compare : List AV → Option (Int × (Vec (Int × Int × Int × ByteArray)))) : Orc := ⟨fun f => sel (Nat.beq f 30) 0 (9), fun ρ f args K => sel (Nat.beq f 30) (qEntry impl_Compare.encR q_impl_Compare args K) (Option.none), noE, false⟩
noncomputable def L (W0 : (ρ : Type) → List AV → List Ob → ((Vec (Int × ByteArray)) → Option ρ) → Option ρ) : Lor := fun ρ j st K => sel (Nat.beq j 0) (cutO Try.prog 48 [10, 24, 25, 26] 0 [] [.ad (.s 10) 51] st fun avs obs => W0 ρ avs obs (fun z1 => K (.exit 0) (mkS 48 [10] [.c (.h 0)] [.row 2 (encRw z1) []] []))) (Option.none)
noncomputable def c0 : Code := loopC (atomN [] 0 (bodyOf Try.f35) 0)
def ct0 : Cut := ⟨[10, 24, 25, 26], [.ad (.s 10) 51]⟩
def lv0 : Exit → Cut
  | .exit 0 => ⟨[10], []⟩
  | _ => ⟨[], []⟩
theorem step0 (q_impl_Compare : List AV → Option (Int × (Vec (Int × Int × Int × ByteArray)))) (W0 : (ρ : Type) → List AV → List Ob → ((Vec (Int × ByteArray)) → Option ρ) → Option ρ) {ρ : Type} (K : Exit → St → Option ρ) (W : List AV → List Ob → Option ρ) (v1 : Int) (v2 : Int) (v3 : Vec (Int × ByteArray)) (v4 : Vec (Int × Int × Int × ByteArray)) : exC Try.prog (G q_impl_Compare) (L W0) [] 1 c0 (mkS 48 [10, 24, 25, 26] [.c (.h 0), .c (.h 1), .c (.n (.v (.int .i64 v1))), .c (.n (.v (.int .i64 v2)))] [.row 2 (encRw v3) [], .row 4 (encRw v4) []] []) (bodyK Try.prog 48 0 [] ct0 W lv0 K) =
    B0 v1 v2 v3 v4 (fun u1 u2 u3 u4 => W [.c (.h 0), .c (.h 1), .c (.n (.v (.int .i64 u1))), .c (.n (.v (.int .i64 u2)))] [.row 2 (encRw u3) [], .row 4 (encRw u4) []]) (fun z1 => K (.exit 0) (mkS 48 [10] [.c (.h 0)] [.row 2 (encRw z1) []] [])) := by kernel_rfl
def enc0 (t : Int × Int × (Vec (Int × ByteArray)) × (Vec (Int × Int × Int × ByteArray))) : List AV × List Ob := ([.c (.h 0), .c (.h 1), .c (.n (.v (.int .i64 t.1))), .c (.n (.v (.int .i64 t.2.1)))], [.row 2 (encRw t.2.2.1) [], .row 4 (encRw t.2.2.2) []])
theorem enc0I : ∀ a b, enc0 a = enc0 b → a = b := by
  intro a b h
  obtain ⟨a0, a1, a2, a3⟩ := a
  obtain ⟨b0, b1, b2, b3⟩ := b
  simp [enc0, encRw_iff] at h
  simp_all
noncomputable def V0 : (ρ : Type) → List AV → List Ob → ((Vec (Int × ByteArray)) → Option ρ) → Option ρ := fun ρ avs obs k0 => ofC enc0 (fun t => F0 fuelN t.1 t.2.1 t.2.2.1 t.2.2.2 k0) (avs, obs)
theorem V0_enc (ρ : Type) : (fun w1 w2 w3 w4 k0 => V0 ρ [.c (.h 0), .c (.h 1), .c (.n (.v (.int .i64 w1))), .c (.n (.v (.int .i64 w2)))] [.row 2 (encRw w3) [], .row 4 (encRw w4) []] k0) = F0 fuelN := by
  funext w1 w2 w3 w4 k0
  exact ofC_enc enc0I _ (w1, w2, w3, w4)
theorem main (q_impl_Compare : List AV → Option (Int × (Vec (Int × Int × Int × ByteArray)))) (W0 : (ρ : Type) → List AV → List Ob → ((Vec (Int × ByteArray)) → Option ρ) → Option ρ) {ρ : Type} (K : AV → List Ob → Option ρ) (a1 : Vec (Vec Int)) (a2 : Vec (ByteArray × Int × Int × (Vec Int))) (a3 : Int) (a4 : Int) : exC Try.prog (G q_impl_Compare) (L W0) [] 0 (bodyOf Try.f35) (entry 48 [.a [.n (.sl 1 (encRw a1)), .n (.sl 4 (encRw a2))], .c (.n (.v (.int .i64 a3))), .c (.n (.v (.int .i64 a4)))] [] []) (finO Try.prog Try.f35.results.toList 0 [] [.ad (.s 6) 51] K) =
    B (fun y1 y2 y3 y4 => q_impl_Compare [.a [.n (.sl 1 (encRw y1)), .n (.sl 4 (encRw y2))], .c (.n (.v (.int .i64 y3))), .c (.n (.v (.int .i64 y4)))]) (fun w1 w2 w3 w4 k0 => W0 ρ [.c (.h 0), .c (.h 1), .c (.n (.v (.int .i64 w1))), .c (.n (.v (.int .i64 w2)))] [.row 2 (encRw w3) [], .row 4 (encRw w4) []] k0) a1 a2 a3 a4 (fun x1 x2 => K (.tup [.c (.h 0), .c (.n (.v (.int .i64 x1)))]) [.row 2 (encRw x2) []]) := by kernel_rfl
theorem Gok : (G impl_Compare.Q).ok Try.prog := ⟨(by
    intro ρ f args K r h
    rcases sel_cases h with ⟨hb, h⟩ | ⟨-, h⟩
    · obtain rfl := beq_nat hb
      exact qEntry_ok impl_Compare.ac h
    cases h),
  (by
    intro ρ f args K
    simp only [G]
    cases Nat.beq f 30 with
    | true => exact qEntry_nat args K
    | false =>
    simp only [sel]
    rfl),
  (fun ρ f st caps args dst K r h => (by cases h))⟩
theorem hm : Try.prog.follows .mixedOrders = true := by kernel_rfl
theorem e0 : atomsL [] 1 c0 = [] := by kernel_rfl
theorem ok0 (ρ : Type) (st : St) (K : Exit → St → Option ρ) (r : ρ) (h : (L V0) ρ 0 st K = some r) : AW Try.prog (.loop c0) st fun e st' => K e st' = some r := by
  refine loop_ok (ct := ct0) (lv := lv0) (n := 48) (m := 0) (ks := []) (j := 0) (jn := []) (L := (L V0)) Gok hm (by rw [e0]; exact Lor.ok_nil _ _) enc0I (fun k t => F0 k t.1 t.2.1 t.2.2.1 t.2.2.2 (fun z1 => K (.exit 0) (mkS 48 [10] [.c (.h 0)] [.row 2 (encRw z1) []] []))) (fun t => rfl) (fun k t => ?_) (fun _ => fuelN) h
  refine (step0 impl_Compare.Q V0 K _ t.1 t.2.1 t.2.2.1 t.2.2.2).trans ?_
  refine congrArg (fun W => B0 t.1 t.2.1 t.2.2.1 t.2.2.2 W (fun z1 => K (.exit 0) (mkS 48 [10] [.c (.h 0)] [.row 2 (encRw z1) []] []))) ?_
  funext u1 u2 u3 u4
  exact ofC_enc enc0I _ (u1, u2, u3, u4)
theorem e : atomsL [] 0 (bodyOf Try.f35) = [(0, 0, .loop c0)] := by kernel_rfl
theorem acc (t : Vec (Vec Int) × (Vec (ByteArray × Int × Int × (Vec Int))) × Int × Int) (x : Int × (Vec (Int × ByteArray))) (h : F t.1 t.2.1 t.2.2.1 t.2.2.2 = some x) : ACc Try.prog 35 (encA t) [] true [] fun rv obs => (rv, obs) = encR x := by
  refine fun_okc (L := (L V0)) (jn := []) (cmds := [.ad (.s 6) 51]) (ks := []) (hin := []) (fn := Try.f35) (body := (bodyOf Try.f35)) Gok hm Try.func35 (by kernel_rfl) (by kernel_rfl) (by rw [e]; exact Lor.ok_cons ok0 (Lor.ok_nil _ _)) ?_ h
  refine (main impl_Compare.Q V0 _ t.1 t.2.1 t.2.2.1 t.2.2.2).trans ?_
  rw [impl_Compare.wrap, V0_enc]
  refine congrArg (fun K => B impl_Compare.F (F0 fuelN) t.1 t.2.1 t.2.2.1 t.2.2.2 K) ?_
  funext x1 x2
  exact ofC_enc encRI some (x1, x2)
theorem ac0 (t : Vec (Vec Int) × (Vec (ByteArray × Int × Int × (Vec Int))) × Int × Int) (x : Int × (Vec (Int × ByteArray))) (h : F t.1 t.2.1 t.2.2.1 t.2.2.2 = some x) : AC Try.prog 35 (encA t) [] true [] fun rv obs => (rv, obs) = encR x := ACc.ac (body := bodyOf Try.f35) Try.func35 (by kernel_rfl) (by kernel_rfl) (acc t x h)
theorem ac (args : List AV) (x : Int × (Vec (Int × ByteArray))) (h : Q args = some x) : AC Try.prog 35 args [] false [] fun rv obs => (rv, obs) = encR x := by
  obtain ⟨t, rfl, h2⟩ := ofC_some h
  refine (ac0 t x h2).flat fun rv obs e => ?_
  obtain rfl : rv = (encR x).1 := congrArg Prod.fst e
  obtain rfl : obs = (encR x).2 := congrArg Prod.snd e
  refine ⟨by simp [encR, AV.Flat, K.Flat, C.Flat], ?_⟩
  intro o ho
  simp only [encR, List.mem_cons, List.not_mem_nil, or_false] at ho
  subst ho
  exact flat_rw rfl _
end impl_CompareEdits
/-! loop.example/g00073/laws.eqEdit -/
namespace laws_eqEdit
noncomputable def B {ρ : Type} (a1 : Int) (a2 : ByteArray) (a3 : Int) (a4 : ByteArray) (K : Bool → Option ρ) : Option ρ :=
  sel ((!decide (a1 = a3))) (K false) (sel ((!decide (a2 = a4))) (K false) (K true))
noncomputable def F (a1 : Int) (a2 : ByteArray) (a3 : Int) (a4 : ByteArray) : Option Bool := B a1 a2 a3 a4 (fun x1 => some (x1))
def encA (t : Int × ByteArray × Int × ByteArray) : List AV := [.a [.n (.v (.int .i64 t.1)), .n (.v (.string t.2.1))], .a [.n (.v (.int .i64 t.2.2.1)), .n (.v (.string t.2.2.2))]]
def encR (x : Bool) : AV × List Ob := (.c (.n (.v (.bool x))), [])
theorem encAI : ∀ a b, encA a = encA b → a = b := by
  intro a b h
  obtain ⟨a0, a1, a2, a3⟩ := a
  obtain ⟨b0, b1, b2, b3⟩ := b
  simp [encA, encRw_iff] at h
  simp_all
theorem encRI : ∀ a b, encR a = encR b → a = b := by
  intro a b h
  simp [encR, encRw_iff] at h
  simp_all
noncomputable def Q (args : List AV) : Option Bool := ofC encA (fun t => F t.1 t.2.1 t.2.2.1 t.2.2.2) args
theorem wrap : (fun (y1 : Int) (y2 : ByteArray) (y3 : Int) (y4 : ByteArray) => Q [.a [.n (.v (.int .i64 y1)), .n (.v (.string y2))], .a [.n (.v (.int .i64 y3)), .n (.v (.string y4))]]) = F := by
  funext y1 y2 y3 y4
  exact ofC_enc encAI _ (y1, y2, y3, y4)
noncomputable def G : Orc := ⟨fun f => 9, fun ρ f args K => Option.none, noE, false⟩
noncomputable def L : Lor := fun ρ j st K => Option.none
theorem main {ρ : Type} (K : AV → List Ob → Option ρ) (a1 : Int) (a2 : ByteArray) (a3 : Int) (a4 : ByteArray) : exC Try.prog (G) (L) [] 0 (bodyOf Try.f73) (entry 15 [.a [.n (.v (.int .i64 a1)), .n (.v (.string a2))], .a [.n (.v (.int .i64 a3)), .n (.v (.string a4))]] [] []) (finO Try.prog Try.f73.results.toList 0 [] [] K) =
    B a1 a2 a3 a4 (fun x1 => K (.c (.n (.v (.bool x1)))) []) := by kernel_rfl
theorem Gok : (G).ok Try.prog := ⟨(fun ρ f args K r h => (by cases h)),
  (fun ρ f args K => rfl),
  (fun ρ f st caps args dst K r h => (by cases h))⟩
theorem hm : Try.prog.follows .mixedOrders = true := by kernel_rfl
theorem e : atomsL [] 0 (bodyOf Try.f73) = [] := by kernel_rfl
theorem acc (t : Int × ByteArray × Int × ByteArray) (x : Bool) (h : F t.1 t.2.1 t.2.2.1 t.2.2.2 = some x) : ACc Try.prog 73 (encA t) [] true [] fun rv obs => (rv, obs) = encR x := by
  refine fun_okc (L := (L)) (jn := []) (cmds := []) (ks := []) (hin := []) (fn := Try.f73) (body := (bodyOf Try.f73)) Gok hm Try.func73 (by kernel_rfl) (by kernel_rfl) (by rw [e]; exact Lor.ok_nil _ _) ?_ h
  refine (main _ t.1 t.2.1 t.2.2.1 t.2.2.2).trans ?_
  refine congrArg (fun K => B t.1 t.2.1 t.2.2.1 t.2.2.2 K) ?_
  funext x1
  exact ofC_enc encRI some (x1)
theorem ac0 (t : Int × ByteArray × Int × ByteArray) (x : Bool) (h : F t.1 t.2.1 t.2.2.1 t.2.2.2 = some x) : AC Try.prog 73 (encA t) [] true [] fun rv obs => (rv, obs) = encR x := ACc.ac (body := bodyOf Try.f73) Try.func73 (by kernel_rfl) (by kernel_rfl) (acc t x h)
theorem ac (args : List AV) (x : Bool) (h : Q args = some x) : AC Try.prog 73 args [] false [] fun rv obs => (rv, obs) = encR x := by
  obtain ⟨t, rfl, h2⟩ := ofC_some h
  refine (ac0 t x h2).flat fun rv obs e => ?_
  obtain rfl : rv = (encR x).1 := congrArg Prod.fst e
  obtain rfl : obs = (encR x).2 := congrArg Prod.snd e
  refine ⟨by simp [encR, AV.Flat, K.Flat, C.Flat], ?_⟩
  simp [encR]
end laws_eqEdit
/-! loop.example/g00073/laws.eqEditS -/
namespace laws_eqEditS
noncomputable def B0 {ρ : Type} (C_laws_eqEdit : Int → ByteArray → Int → ByteArray → Option Bool) (v1 : Vec (Int × ByteArray)) (v2 : Vec (Int × ByteArray)) (v3 : Int) (W : (Vec (Int × ByteArray)) → (Vec (Int × ByteArray)) → Int → Option ρ) (K0 : Unit → Option ρ) (Kr : Bool → Option ρ) : Option ρ :=
  sel (decide (v3 < (v1.n : Int))) (chk (decide (0 ≤ v3 ∧ v3 < (v1.n : Int))) (chk (decide (0 ≤ v3 ∧ v3 < (v2.n : Int))) ((C_laws_eqEdit ((v1.g v3.toNat).1) ((v1.g v3.toNat).2) ((v2.g v3.toNat).1) ((v2.g v3.toNat).2)).bind fun r1 => sel ((!r1)) (Kr false) (W v1 v2 (wr (v3 + (1 : Int))))))) (K0 ())
noncomputable def F0 {ρ : Type} : Nat → (Vec (Int × ByteArray)) → (Vec (Int × ByteArray)) → Int → (Unit → Option ρ) → (Bool → Option ρ) → Option ρ
  | 0, _, _, _, _, _ => none
  | k + 1, v1, v2, v3, K0, Kr => B0 laws_eqEdit.F v1 v2 v3 (fun v1' v2' v3' => F0 k v1' v2' v3' K0 Kr) K0 Kr
noncomputable def B {ρ : Type} (L0 : (Vec (Int × ByteArray)) → (Vec (Int × ByteArray)) → Int → (Unit → Option ρ) → (Bool → Option ρ) → Option ρ) (a1 : Vec (Int × ByteArray)) (a2 : Vec (Int × ByteArray)) (K : Bool → Option ρ) : Option ρ :=
  sel ((!decide ((a1.n : Int) = (a2.n : Int)))) (K false) (L0 a1 a2 (0 : Int) (fun _ => K true) (fun x01 => K x01))
noncomputable def F (a1 : Vec (Int × ByteArray)) (a2 : Vec (Int × ByteArray)) : Option Bool := B (F0 fuelN) a1 a2 (fun x1 => some (x1))
def encA (t : (Vec (Int × ByteArray)) × (Vec (Int × ByteArray))) : List AV := [.c (.n (.sl 2 (encRw t.1))), .c (.n (.sl 2 (encRw t.2)))]
def encR (x : Bool) : AV × List Ob := (.c (.n (.v (.bool x))), [])
theorem encAI : ∀ a b, encA a = encA b → a = b := by
  intro a b h
  obtain ⟨a0, a1⟩ := a
  obtain ⟨b0, b1⟩ := b
  simp [encA, encRw_iff] at h
  simp_all
theorem encRI : ∀ a b, encR a = encR b → a = b := by
  intro a b h
  simp [encR, encRw_iff] at h
  simp_all
noncomputable def Q (args : List AV) : Option Bool := ofC encA (fun t => F t.1 t.2) args
theorem wrap : (fun (y1 : Vec (Int × ByteArray)) (y2 : Vec (Int × ByteArray)) => Q [.c (.n (.sl 2 (encRw y1))), .c (.n (.sl 2 (encRw y2)))]) = F := by
  funext y1 y2
  exact ofC_enc encAI _ (y1, y2)
noncomputable def G (q_laws_eqEdit : List AV → Option Bool) : Orc := ⟨fun f => sel (Nat.beq f 73) 0 (9), fun ρ f args K => sel (Nat.beq f 73) (qEntry laws_eqEdit.encR q_laws_eqEdit args K) (Option.none), noE, false⟩
noncomputable def L (W0 : (ρ : Type) → List AV → List Ob → (Unit → Option ρ) → (Bool → Option ρ) → Option ρ) : Lor := fun ρ j st K => sel (Nat.beq j 0) (cutO Try.prog 27 [0, 1, 5] 0 [] [] st fun avs obs => W0 ρ avs obs (fun _ => K (.exit 0) (mkS 27 [] [] [] [])) (fun z1 => K .ret (mkS 27 [4] [.c (.n (.v (.bool z1)))] [] []))) (Option.none)
noncomputable def c0 : Code := loopC (atomN [] 0 (bodyOf Try.f36) 0)
def ct0 : Cut := ⟨[0, 1, 5], []⟩
def lv0 : Exit → Cut
  | .exit 0 => ⟨[], []⟩
  | .ret => ⟨[4], []⟩
  | _ => ⟨[], []⟩
theorem step0 (q_laws_eqEdit : List AV → Option Bool) (W0 : (ρ : Type) → List AV → List Ob → (Unit → Option ρ) → (Bool → Option ρ) → Option ρ) {ρ : Type} (K : Exit → St → Option ρ) (W : List AV → List Ob → Option ρ) (v1 : Vec (Int × ByteArray)) (v2 : Vec (Int × ByteArray)) (v3 : Int) : exC Try.prog (G q_laws_eqEdit) (L W0) [] 1 c0 (mkS 27 [0, 1, 5] [.c (.n (.sl 2 (encRw v1))), .c (.n (.sl 2 (encRw v2))), .c (.n (.v (.int .i64 v3)))] [] []) (bodyK Try.prog 27 0 [] ct0 W lv0 K) =
    B0 (fun y1 y2 y3 y4 => q_laws_eqEdit [.a [.n (.v (.int .i64 y1)), .n (.v (.string y2))], .a [.n (.v (.int .i64 y3)), .n (.v (.string y4))]]) v1 v2 v3 (fun u1 u2 u3 => W [.c (.n (.sl 2 (encRw u1))), .c (.n (.sl 2 (encRw u2))), .c (.n (.v (.int .i64 u3)))] []) (fun _ => K (.exit 0) (mkS 27 [] [] [] [])) (fun z1 => K .ret (mkS 27 [4] [.c (.n (.v (.bool z1)))] [] [])) := by kernel_rfl
def enc0 (t : (Vec (Int × ByteArray)) × (Vec (Int × ByteArray)) × Int) : List AV × List Ob := ([.c (.n (.sl 2 (encRw t.1))), .c (.n (.sl 2 (encRw t.2.1))), .c (.n (.v (.int .i64 t.2.2)))], [])
theorem enc0I : ∀ a b, enc0 a = enc0 b → a = b := by
  intro a b h
  obtain ⟨a0, a1, a2⟩ := a
  obtain ⟨b0, b1, b2⟩ := b
  simp [enc0, encRw_iff] at h
  simp_all
noncomputable def V0 : (ρ : Type) → List AV → List Ob → (Unit → Option ρ) → (Bool → Option ρ) → Option ρ := fun ρ avs obs k0 kr => ofC enc0 (fun t => F0 fuelN t.1 t.2.1 t.2.2 k0 kr) (avs, obs)
theorem V0_enc (ρ : Type) : (fun w1 w2 w3 k0 kr => V0 ρ [.c (.n (.sl 2 (encRw w1))), .c (.n (.sl 2 (encRw w2))), .c (.n (.v (.int .i64 w3)))] [] k0 kr) = F0 fuelN := by
  funext w1 w2 w3 k0 kr
  exact ofC_enc enc0I _ (w1, w2, w3)
theorem main (q_laws_eqEdit : List AV → Option Bool) (W0 : (ρ : Type) → List AV → List Ob → (Unit → Option ρ) → (Bool → Option ρ) → Option ρ) {ρ : Type} (K : AV → List Ob → Option ρ) (a1 : Vec (Int × ByteArray)) (a2 : Vec (Int × ByteArray)) : exC Try.prog (G q_laws_eqEdit) (L W0) [] 0 (bodyOf Try.f36) (entry 27 [.c (.n (.sl 2 (encRw a1))), .c (.n (.sl 2 (encRw a2)))] [] []) (finO Try.prog Try.f36.results.toList 0 [] [] K) =
    B (fun w1 w2 w3 k0 kr => W0 ρ [.c (.n (.sl 2 (encRw w1))), .c (.n (.sl 2 (encRw w2))), .c (.n (.v (.int .i64 w3)))] [] k0 kr) a1 a2 (fun x1 => K (.c (.n (.v (.bool x1)))) []) := by kernel_rfl
theorem Gok : (G laws_eqEdit.Q).ok Try.prog := ⟨(by
    intro ρ f args K r h
    rcases sel_cases h with ⟨hb, h⟩ | ⟨-, h⟩
    · obtain rfl := beq_nat hb
      exact qEntry_ok laws_eqEdit.ac h
    cases h),
  (by
    intro ρ f args K
    simp only [G]
    cases Nat.beq f 73 with
    | true => exact qEntry_nat args K
    | false =>
    simp only [sel]
    rfl),
  (fun ρ f st caps args dst K r h => (by cases h))⟩
theorem hm : Try.prog.follows .mixedOrders = true := by kernel_rfl
theorem e0 : atomsL [] 1 c0 = [] := by kernel_rfl
theorem ok0 (ρ : Type) (st : St) (K : Exit → St → Option ρ) (r : ρ) (h : (L V0) ρ 0 st K = some r) : AW Try.prog (.loop c0) st fun e st' => K e st' = some r := by
  refine loop_ok (ct := ct0) (lv := lv0) (n := 27) (m := 0) (ks := []) (j := 0) (jn := []) (L := (L V0)) Gok hm (by rw [e0]; exact Lor.ok_nil _ _) enc0I (fun k t => F0 k t.1 t.2.1 t.2.2 (fun _ => K (.exit 0) (mkS 27 [] [] [] [])) (fun z1 => K .ret (mkS 27 [4] [.c (.n (.v (.bool z1)))] [] []))) (fun t => rfl) (fun k t => ?_) (fun _ => fuelN) h
  refine (step0 laws_eqEdit.Q V0 K _ t.1 t.2.1 t.2.2).trans ?_
  rw [laws_eqEdit.wrap]
  refine congrArg (fun W => B0 laws_eqEdit.F t.1 t.2.1 t.2.2 W (fun _ => K (.exit 0) (mkS 27 [] [] [] [])) (fun z1 => K .ret (mkS 27 [4] [.c (.n (.v (.bool z1)))] [] []))) ?_
  funext u1 u2 u3
  exact ofC_enc enc0I _ (u1, u2, u3)
theorem e : atomsL [] 0 (bodyOf Try.f36) = [(0, 0, .loop c0)] := by kernel_rfl
theorem acc (t : (Vec (Int × ByteArray)) × (Vec (Int × ByteArray))) (x : Bool) (h : F t.1 t.2 = some x) : ACc Try.prog 36 (encA t) [] true [] fun rv obs => (rv, obs) = encR x := by
  refine fun_okc (L := (L V0)) (jn := []) (cmds := []) (ks := []) (hin := []) (fn := Try.f36) (body := (bodyOf Try.f36)) Gok hm Try.func36 (by kernel_rfl) (by kernel_rfl) (by rw [e]; exact Lor.ok_cons ok0 (Lor.ok_nil _ _)) ?_ h
  refine (main laws_eqEdit.Q V0 _ t.1 t.2).trans ?_
  rw [V0_enc]
  refine congrArg (fun K => B (F0 fuelN) t.1 t.2 K) ?_
  funext x1
  exact ofC_enc encRI some (x1)
theorem ac0 (t : (Vec (Int × ByteArray)) × (Vec (Int × ByteArray))) (x : Bool) (h : F t.1 t.2 = some x) : AC Try.prog 36 (encA t) [] true [] fun rv obs => (rv, obs) = encR x := ACc.ac (body := bodyOf Try.f36) Try.func36 (by kernel_rfl) (by kernel_rfl) (acc t x h)
theorem ac (args : List AV) (x : Bool) (h : Q args = some x) : AC Try.prog 36 args [] false [] fun rv obs => (rv, obs) = encR x := by
  obtain ⟨t, rfl, h2⟩ := ofC_some h
  refine (ac0 t x h2).flat fun rv obs e => ?_
  obtain rfl : rv = (encR x).1 := congrArg Prod.fst e
  obtain rfl : obs = (encR x).2 := congrArg Prod.snd e
  refine ⟨by simp [encR, AV.Flat, K.Flat, C.Flat], ?_⟩
  simp [encR]
end laws_eqEditS
/-! loop.example/g00073/laws.markEditS -/
namespace laws_markEditS_s9726
noncomputable def B0 {ρ : Type} (C_laws_markText : Int → Option ByteArray) (v1 : Int) (v2 : Int) (v3 : Vec (Int × ByteArray)) (W : Int → Int → (Vec (Int × ByteArray)) → Option ρ) (K0 : Int → (Vec (Int × ByteArray)) → Option ρ) : Option ρ :=
  sel (decide (v2 < (v3.n : Int))) (chk (decide (0 ≤ v2 ∧ v2 < (v3.n : Int))) (chk (decide (v2.toNat < v3.n)) ((C_laws_markText (wr (v1 + (1 : Int)))).bind fun r1 => chk (decide (0 ≤ v2 ∧ v2 < ((Vec.set v3 v2.toNat (v1, (v3.g v2.toNat).2)).n : Int))) (chk (decide (v2.toNat < (Vec.set v3 v2.toNat (v1, (v3.g v2.toNat).2)).n)) (W (wr ((wr (v1 + (1 : Int))) + (1 : Int))) (wr (v2 + (1 : Int))) (Vec.set (Vec.set v3 v2.toNat (v1, (v3.g v2.toNat).2)) v2.toNat (((Vec.set v3 v2.toNat (v1, (v3.g v2.toNat).2)).g v2.toNat).1, r1))))))) (K0 v1 v3)
noncomputable def F0 {ρ : Type} : Nat → Int → Int → (Vec (Int × ByteArray)) → (Int → (Vec (Int × ByteArray)) → Option ρ) → Option ρ
  | 0, _, _, _, _ => none
  | k + 1, v1, v2, v3, K0 => B0 laws_markText.F v1 v2 v3 (fun v1' v2' v3' => F0 k v1' v2' v3' K0) K0
noncomputable def B {ρ : Type} (L0 : Int → Int → (Vec (Int × ByteArray)) → (Int → (Vec (Int × ByteArray)) → Option ρ) → Option ρ) (a1 : Int) (a2 : Vec (Int × ByteArray)) (K : Int → (Vec (Int × ByteArray)) → Option ρ) : Option ρ :=
  L0 a1 (0 : Int) a2 (fun e01 e02 => K e01 e02)
noncomputable def F (a1 : Int) (a2 : Vec (Int × ByteArray)) : Option (Int × (Vec (Int × ByteArray))) := B (F0 fuelN) a1 a2 (fun x1 x2 => some (x1, x2))
def encA (t : Int × (Vec (Int × ByteArray))) : List AV × List Ob := ([.c (.h 0), .c (.n (.v (.int .i64 t.1)))], [.row 2 (encRw t.2) []])
def encR (x : Int × (Vec (Int × ByteArray))) : AV × List Ob := (.c (.n (.v (.int .i64 x.1))), [.row 2 (encRw x.2) []])
theorem encAI : ∀ a b, encA a = encA b → a = b := by
  intro a b h
  obtain ⟨a0, a1⟩ := a
  obtain ⟨b0, b1⟩ := b
  simp [encA, encRw_iff] at h
  simp_all
theorem encRI : ∀ a b, encR a = encR b → a = b := by
  intro a b h
  obtain ⟨a0, a1⟩ := a
  obtain ⟨b0, b1⟩ := b
  simp [encR, encRw_iff] at h
  simp_all
noncomputable def Q (args : List AV) (hin : List Ob) : Option (Int × (Vec (Int × ByteArray))) := ofC encA (fun t => F t.1 t.2) (args, hin)
theorem wrap : (fun (y1 : Int) (y2 : Vec (Int × ByteArray)) => Q [.c (.h 0), .c (.n (.v (.int .i64 y1)))] [.row 2 (encRw y2) []]) = F := by
  funext y1 y2
  exact ofC_enc encAI _ (y1, y2)
noncomputable def G (q_laws_markText : List AV → Option ByteArray) : Orc := ⟨fun f => sel (Nat.beq f 70) 0 (9), fun ρ f args K => sel (Nat.beq f 70) (qEntry laws_markText.encR q_laws_markText args K) (Option.none), noE, false⟩
noncomputable def L (W0 : (ρ : Type) → List AV → List Ob → (Int → (Vec (Int × ByteArray)) → Option ρ) → Option ρ) : Lor := fun ρ j st K => sel (Nat.beq j 0) (cutO Try.prog 28 [0, 1, 5] 1 [true] [] st fun avs obs => W0 ρ avs obs (fun z1 z2 => K (.exit 0) (mkS 28 [1] [.c (.n (.v (.int .i64 z1)))] [.row 2 (encRw z2) []] [true]))) (Option.none)
noncomputable def c0 : Code := loopC (atomN [] 0 (bodyOf Try.f37) 0)
def ct0 : Cut := ⟨[0, 1, 5], []⟩
def lv0 : Exit → Cut
  | .exit 0 => ⟨[1], []⟩
  | _ => ⟨[], []⟩
theorem step0 (q_laws_markText : List AV → Option ByteArray) (W0 : (ρ : Type) → List AV → List Ob → (Int → (Vec (Int × ByteArray)) → Option ρ) → Option ρ) {ρ : Type} (K : Exit → St → Option ρ) (W : List AV → List Ob → Option ρ) (v1 : Int) (v2 : Int) (v3 : Vec (Int × ByteArray)) : exC Try.prog (G q_laws_markText) (L W0) [] 1 c0 (mkS 28 [0, 1, 5] [.c (.h 0), .c (.n (.v (.int .i64 v1))), .c (.n (.v (.int .i64 v2)))] [.row 2 (encRw v3) []] [true]) (bodyK Try.prog 28 1 [true] ct0 W lv0 K) =
    B0 (fun y1 => q_laws_markText [.c (.n (.v (.int .i64 y1)))]) v1 v2 v3 (fun u1 u2 u3 => W [.c (.h 0), .c (.n (.v (.int .i64 u1))), .c (.n (.v (.int .i64 u2)))] [.row 2 (encRw u3) []]) (fun z1 z2 => K (.exit 0) (mkS 28 [1] [.c (.n (.v (.int .i64 z1)))] [.row 2 (encRw z2) []] [true])) := by kernel_rfl
def enc0 (t : Int × Int × (Vec (Int × ByteArray))) : List AV × List Ob := ([.c (.h 0), .c (.n (.v (.int .i64 t.1))), .c (.n (.v (.int .i64 t.2.1)))], [.row 2 (encRw t.2.2) []])
theorem enc0I : ∀ a b, enc0 a = enc0 b → a = b := by
  intro a b h
  obtain ⟨a0, a1, a2⟩ := a
  obtain ⟨b0, b1, b2⟩ := b
  simp [enc0, encRw_iff] at h
  simp_all
noncomputable def V0 : (ρ : Type) → List AV → List Ob → (Int → (Vec (Int × ByteArray)) → Option ρ) → Option ρ := fun ρ avs obs k0 => ofC enc0 (fun t => F0 fuelN t.1 t.2.1 t.2.2 k0) (avs, obs)
theorem V0_enc (ρ : Type) : (fun w1 w2 w3 k0 => V0 ρ [.c (.h 0), .c (.n (.v (.int .i64 w1))), .c (.n (.v (.int .i64 w2)))] [.row 2 (encRw w3) []] k0) = F0 fuelN := by
  funext w1 w2 w3 k0
  exact ofC_enc enc0I _ (w1, w2, w3)
theorem main (q_laws_markText : List AV → Option ByteArray) (W0 : (ρ : Type) → List AV → List Ob → (Int → (Vec (Int × ByteArray)) → Option ρ) → Option ρ) {ρ : Type} (K : AV → List Ob → Option ρ) (a1 : Int) (a2 : Vec (Int × ByteArray)) : exC Try.prog (G q_laws_markText) (L W0) [] 0 (bodyOf Try.f37) (entry 28 [.c (.h 0), .c (.n (.v (.int .i64 a1)))] [.row 2 (encRw a2) []] [true]) (finO Try.prog Try.f37.results.toList 1 [true] [] K) =
    B (fun w1 w2 w3 k0 => W0 ρ [.c (.h 0), .c (.n (.v (.int .i64 w1))), .c (.n (.v (.int .i64 w2)))] [.row 2 (encRw w3) []] k0) a1 a2 (fun x1 x2 => K (.c (.n (.v (.int .i64 x1)))) [.row 2 (encRw x2) []]) := by kernel_rfl
theorem Gok : (G laws_markText.Q).ok Try.prog := ⟨(by
    intro ρ f args K r h
    rcases sel_cases h with ⟨hb, h⟩ | ⟨-, h⟩
    · obtain rfl := beq_nat hb
      exact qEntry_ok laws_markText.ac h
    cases h),
  (by
    intro ρ f args K
    simp only [G]
    cases Nat.beq f 70 with
    | true => exact qEntry_nat args K
    | false =>
    simp only [sel]
    rfl),
  (fun ρ f st caps args dst K r h => (by cases h))⟩
theorem hm : Try.prog.follows .mixedOrders = true := by kernel_rfl
theorem e0 : atomsL [] 1 c0 = [] := by kernel_rfl
theorem ok0 (ρ : Type) (st : St) (K : Exit → St → Option ρ) (r : ρ) (h : (L V0) ρ 0 st K = some r) : AW Try.prog (.loop c0) st fun e st' => K e st' = some r := by
  refine loop_ok (ct := ct0) (lv := lv0) (n := 28) (m := 1) (ks := [true]) (j := 0) (jn := []) (L := (L V0)) Gok hm (by rw [e0]; exact Lor.ok_nil _ _) enc0I (fun k t => F0 k t.1 t.2.1 t.2.2 (fun z1 z2 => K (.exit 0) (mkS 28 [1] [.c (.n (.v (.int .i64 z1)))] [.row 2 (encRw z2) []] [true]))) (fun t => rfl) (fun k t => ?_) (fun _ => fuelN) h
  refine (step0 laws_markText.Q V0 K _ t.1 t.2.1 t.2.2).trans ?_
  rw [laws_markText.wrap]
  refine congrArg (fun W => B0 laws_markText.F t.1 t.2.1 t.2.2 W (fun z1 z2 => K (.exit 0) (mkS 28 [1] [.c (.n (.v (.int .i64 z1)))] [.row 2 (encRw z2) []] [true]))) ?_
  funext u1 u2 u3
  exact ofC_enc enc0I _ (u1, u2, u3)
theorem e : atomsL [] 0 (bodyOf Try.f37) = [(0, 0, .loop c0)] := by kernel_rfl
theorem acc (t : Int × (Vec (Int × ByteArray))) (x : Int × (Vec (Int × ByteArray))) (h : F t.1 t.2 = some x) : ACc Try.prog 37 (encA t).1 (encA t).2 true [true] fun rv obs => (rv, obs) = encR x := by
  refine fun_okc (L := (L V0)) (jn := []) (cmds := []) (ks := [true]) (hin := (encA t).2) (fn := Try.f37) (body := (bodyOf Try.f37)) Gok hm Try.func37 (by kernel_rfl) (by kernel_rfl) (by rw [e]; exact Lor.ok_cons ok0 (Lor.ok_nil _ _)) ?_ h
  refine (main laws_markText.Q V0 _ t.1 t.2).trans ?_
  rw [V0_enc]
  refine congrArg (fun K => B (F0 fuelN) t.1 t.2 K) ?_
  funext x1 x2
  exact ofC_enc encRI some (x1, x2)
theorem ac0 (t : Int × (Vec (Int × ByteArray))) (x : Int × (Vec (Int × ByteArray))) (h : F t.1 t.2 = some x) : AC Try.prog 37 (encA t).1 (encA t).2 true [true] fun rv obs => (rv, obs) = encR x := ACc.ac (body := bodyOf Try.f37) Try.func37 (by kernel_rfl) (by kernel_rfl) (acc t x h)
theorem ac (args : List AV) (hin : List Ob) (x : Int × (Vec (Int × ByteArray))) (h : Q args hin = some x) : AC Try.prog 37 args hin false [true] fun rv obs => (rv, obs) = encR x := by
  obtain ⟨t, he, h2⟩ := ofC_some h
  obtain rfl : args = (encA t).1 := (congrArg Prod.fst he).symm
  obtain rfl : hin = (encA t).2 := (congrArg Prod.snd he).symm
  refine (ac0 t x h2).flat fun rv obs e => ?_
  obtain rfl : rv = (encR x).1 := congrArg Prod.fst e
  obtain rfl : obs = (encR x).2 := congrArg Prod.snd e
  refine ⟨by simp [encR, AV.Flat, K.Flat, C.Flat], ?_⟩
  intro o ho
  simp only [encR, List.mem_cons, List.not_mem_nil, or_false] at ho
  subst ho
  exact flat_rw rfl _
end laws_markEditS_s9726
/-! loop.example/g00073/laws.heldEditS -/
namespace laws_heldEditS
noncomputable def B0 {ρ : Type} (C_laws_markText : Int → Option ByteArray) (v1 : Vec (Int × ByteArray)) (v2 : Int) (v3 : Int) (W : (Vec (Int × ByteArray)) → Int → Int → Option ρ) (K0 : Int → Option ρ) (Kr : Int → Option ρ) : Option ρ :=
  sel (decide (v3 < (v1.n : Int))) (chk (decide (0 ≤ v3 ∧ v3 < (v1.n : Int))) (sel ((!decide ((v1.g v3.toNat).1 = v2))) (Kr (-1 : Int)) (chk (decide (0 ≤ v3 ∧ v3 < (v1.n : Int))) ((C_laws_markText (wr (v2 + (1 : Int)))).bind fun r1 => sel ((!decide ((v1.g v3.toNat).2 = r1))) (Kr (-1 : Int)) (W v1 (wr ((wr (v2 + (1 : Int))) + (1 : Int))) (wr (v3 + (1 : Int)))))))) (K0 v2)
noncomputable def F0 {ρ : Type} : Nat → (Vec (Int × ByteArray)) → Int → Int → (Int → Option ρ) → (Int → Option ρ) → Option ρ
  | 0, _, _, _, _, _ => none
  | k + 1, v1, v2, v3, K0, Kr => B0 laws_markText.F v1 v2 v3 (fun v1' v2' v3' => F0 k v1' v2' v3' K0 Kr) K0 Kr
noncomputable def B {ρ : Type} (L0 : (Vec (Int × ByteArray)) → Int → Int → (Int → Option ρ) → (Int → Option ρ) → Option ρ) (a1 : Vec (Int × ByteArray)) (a2 : Int) (K : Int → Option ρ) : Option ρ :=
  L0 a1 a2 (0 : Int) (fun e01 => K e01) (fun x01 => K x01)
noncomputable def F (a1 : Vec (Int × ByteArray)) (a2 : Int) : Option Int := B (F0 fuelN) a1 a2 (fun x1 => some (x1))
def encA (t : (Vec (Int × ByteArray)) × Int) : List AV := [.c (.n (.sl 2 (encRw t.1))), .c (.n (.v (.int .i64 t.2)))]
def encR (x : Int) : AV × List Ob := (.c (.n (.v (.int .i64 x))), [])
theorem encAI : ∀ a b, encA a = encA b → a = b := by
  intro a b h
  obtain ⟨a0, a1⟩ := a
  obtain ⟨b0, b1⟩ := b
  simp [encA, encRw_iff] at h
  simp_all
theorem encRI : ∀ a b, encR a = encR b → a = b := by
  intro a b h
  simp [encR, encRw_iff] at h
  simp_all
noncomputable def Q (args : List AV) : Option Int := ofC encA (fun t => F t.1 t.2) args
theorem wrap : (fun (y1 : Vec (Int × ByteArray)) (y2 : Int) => Q [.c (.n (.sl 2 (encRw y1))), .c (.n (.v (.int .i64 y2)))]) = F := by
  funext y1 y2
  exact ofC_enc encAI _ (y1, y2)
noncomputable def G (q_laws_markText : List AV → Option ByteArray) : Orc := ⟨fun f => sel (Nat.beq f 70) 0 (9), fun ρ f args K => sel (Nat.beq f 70) (qEntry laws_markText.encR q_laws_markText args K) (Option.none), noE, false⟩
noncomputable def L (W0 : (ρ : Type) → List AV → List Ob → (Int → Option ρ) → (Int → Option ρ) → Option ρ) : Lor := fun ρ j st K => sel (Nat.beq j 0) (cutO Try.prog 32 [0, 1, 5] 0 [] [] st fun avs obs => W0 ρ avs obs (fun z1 => K (.exit 0) (mkS 32 [1] [.c (.n (.v (.int .i64 z1)))] [] [])) (fun z1 => K .ret (mkS 32 [4] [.c (.n (.v (.int .i64 z1)))] [] []))) (Option.none)
noncomputable def c0 : Code := loopC (atomN [] 0 (bodyOf Try.f38) 0)
def ct0 : Cut := ⟨[0, 1, 5], []⟩
def lv0 : Exit → Cut
  | .exit 0 => ⟨[1], []⟩
  | .ret => ⟨[4], []⟩
  | _ => ⟨[], []⟩
theorem step0 (q_laws_markText : List AV → Option ByteArray) (W0 : (ρ : Type) → List AV → List Ob → (Int → Option ρ) → (Int → Option ρ) → Option ρ) {ρ : Type} (K : Exit → St → Option ρ) (W : List AV → List Ob → Option ρ) (v1 : Vec (Int × ByteArray)) (v2 : Int) (v3 : Int) : exC Try.prog (G q_laws_markText) (L W0) [] 1 c0 (mkS 32 [0, 1, 5] [.c (.n (.sl 2 (encRw v1))), .c (.n (.v (.int .i64 v2))), .c (.n (.v (.int .i64 v3)))] [] []) (bodyK Try.prog 32 0 [] ct0 W lv0 K) =
    B0 (fun y1 => q_laws_markText [.c (.n (.v (.int .i64 y1)))]) v1 v2 v3 (fun u1 u2 u3 => W [.c (.n (.sl 2 (encRw u1))), .c (.n (.v (.int .i64 u2))), .c (.n (.v (.int .i64 u3)))] []) (fun z1 => K (.exit 0) (mkS 32 [1] [.c (.n (.v (.int .i64 z1)))] [] [])) (fun z1 => K .ret (mkS 32 [4] [.c (.n (.v (.int .i64 z1)))] [] [])) := by kernel_rfl
def enc0 (t : (Vec (Int × ByteArray)) × Int × Int) : List AV × List Ob := ([.c (.n (.sl 2 (encRw t.1))), .c (.n (.v (.int .i64 t.2.1))), .c (.n (.v (.int .i64 t.2.2)))], [])
theorem enc0I : ∀ a b, enc0 a = enc0 b → a = b := by
  intro a b h
  obtain ⟨a0, a1, a2⟩ := a
  obtain ⟨b0, b1, b2⟩ := b
  simp [enc0, encRw_iff] at h
  simp_all
noncomputable def V0 : (ρ : Type) → List AV → List Ob → (Int → Option ρ) → (Int → Option ρ) → Option ρ := fun ρ avs obs k0 kr => ofC enc0 (fun t => F0 fuelN t.1 t.2.1 t.2.2 k0 kr) (avs, obs)
theorem V0_enc (ρ : Type) : (fun w1 w2 w3 k0 kr => V0 ρ [.c (.n (.sl 2 (encRw w1))), .c (.n (.v (.int .i64 w2))), .c (.n (.v (.int .i64 w3)))] [] k0 kr) = F0 fuelN := by
  funext w1 w2 w3 k0 kr
  exact ofC_enc enc0I _ (w1, w2, w3)
theorem main (q_laws_markText : List AV → Option ByteArray) (W0 : (ρ : Type) → List AV → List Ob → (Int → Option ρ) → (Int → Option ρ) → Option ρ) {ρ : Type} (K : AV → List Ob → Option ρ) (a1 : Vec (Int × ByteArray)) (a2 : Int) : exC Try.prog (G q_laws_markText) (L W0) [] 0 (bodyOf Try.f38) (entry 32 [.c (.n (.sl 2 (encRw a1))), .c (.n (.v (.int .i64 a2)))] [] []) (finO Try.prog Try.f38.results.toList 0 [] [] K) =
    B (fun w1 w2 w3 k0 kr => W0 ρ [.c (.n (.sl 2 (encRw w1))), .c (.n (.v (.int .i64 w2))), .c (.n (.v (.int .i64 w3)))] [] k0 kr) a1 a2 (fun x1 => K (.c (.n (.v (.int .i64 x1)))) []) := by kernel_rfl
theorem Gok : (G laws_markText.Q).ok Try.prog := ⟨(by
    intro ρ f args K r h
    rcases sel_cases h with ⟨hb, h⟩ | ⟨-, h⟩
    · obtain rfl := beq_nat hb
      exact qEntry_ok laws_markText.ac h
    cases h),
  (by
    intro ρ f args K
    simp only [G]
    cases Nat.beq f 70 with
    | true => exact qEntry_nat args K
    | false =>
    simp only [sel]
    rfl),
  (fun ρ f st caps args dst K r h => (by cases h))⟩
theorem hm : Try.prog.follows .mixedOrders = true := by kernel_rfl
theorem e0 : atomsL [] 1 c0 = [] := by kernel_rfl
theorem ok0 (ρ : Type) (st : St) (K : Exit → St → Option ρ) (r : ρ) (h : (L V0) ρ 0 st K = some r) : AW Try.prog (.loop c0) st fun e st' => K e st' = some r := by
  refine loop_ok (ct := ct0) (lv := lv0) (n := 32) (m := 0) (ks := []) (j := 0) (jn := []) (L := (L V0)) Gok hm (by rw [e0]; exact Lor.ok_nil _ _) enc0I (fun k t => F0 k t.1 t.2.1 t.2.2 (fun z1 => K (.exit 0) (mkS 32 [1] [.c (.n (.v (.int .i64 z1)))] [] [])) (fun z1 => K .ret (mkS 32 [4] [.c (.n (.v (.int .i64 z1)))] [] []))) (fun t => rfl) (fun k t => ?_) (fun _ => fuelN) h
  refine (step0 laws_markText.Q V0 K _ t.1 t.2.1 t.2.2).trans ?_
  rw [laws_markText.wrap]
  refine congrArg (fun W => B0 laws_markText.F t.1 t.2.1 t.2.2 W (fun z1 => K (.exit 0) (mkS 32 [1] [.c (.n (.v (.int .i64 z1)))] [] [])) (fun z1 => K .ret (mkS 32 [4] [.c (.n (.v (.int .i64 z1)))] [] []))) ?_
  funext u1 u2 u3
  exact ofC_enc enc0I _ (u1, u2, u3)
theorem e : atomsL [] 0 (bodyOf Try.f38) = [(0, 0, .loop c0)] := by kernel_rfl
theorem acc (t : (Vec (Int × ByteArray)) × Int) (x : Int) (h : F t.1 t.2 = some x) : ACc Try.prog 38 (encA t) [] true [] fun rv obs => (rv, obs) = encR x := by
  refine fun_okc (L := (L V0)) (jn := []) (cmds := []) (ks := []) (hin := []) (fn := Try.f38) (body := (bodyOf Try.f38)) Gok hm Try.func38 (by kernel_rfl) (by kernel_rfl) (by rw [e]; exact Lor.ok_cons ok0 (Lor.ok_nil _ _)) ?_ h
  refine (main laws_markText.Q V0 _ t.1 t.2).trans ?_
  rw [V0_enc]
  refine congrArg (fun K => B (F0 fuelN) t.1 t.2 K) ?_
  funext x1
  exact ofC_enc encRI some (x1)
theorem ac0 (t : (Vec (Int × ByteArray)) × Int) (x : Int) (h : F t.1 t.2 = some x) : AC Try.prog 38 (encA t) [] true [] fun rv obs => (rv, obs) = encR x := ACc.ac (body := bodyOf Try.f38) Try.func38 (by kernel_rfl) (by kernel_rfl) (acc t x h)
theorem ac (args : List AV) (x : Int) (h : Q args = some x) : AC Try.prog 38 args [] false [] fun rv obs => (rv, obs) = encR x := by
  obtain ⟨t, rfl, h2⟩ := ofC_some h
  refine (ac0 t x h2).flat fun rv obs e => ?_
  obtain rfl : rv = (encR x).1 := congrArg Prod.fst e
  obtain rfl : obs = (encR x).2 := congrArg Prod.snd e
  refine ⟨by simp [encR, AV.Flat, K.Flat, C.Flat], ?_⟩
  simp [encR]
end laws_heldEditS
/-! loop.example/g00073/laws.FnExactCompareEdits -/
namespace laws_FnExactCompareEdits
noncomputable def B {ρ : Type} (C_laws_szWeave : (Vec (Vec Int)) → (Vec (ByteArray × Int × Int × (Vec Int))) → Int → Option Int) (C_laws_toWeave : (Vec (Vec Int)) → (Vec (ByteArray × Int × Int × (Vec Int))) → Option (Vec (Vec Int) × (Vec (ByteArray × Int × Int × (Vec Int))))) (C_spec_CompareEdits : (Vec (Vec Int)) → (Vec (ByteArray × Int × Int × (Vec Int))) → Int → Int → Option (Int × (Vec (Int × ByteArray)))) (C_impl_CompareEdits : (Vec (Vec Int)) → (Vec (ByteArray × Int × Int × (Vec Int))) → Int → Int → Option (Int × (Vec (Int × ByteArray)))) (C_laws_eqEditS : (Vec (Int × ByteArray)) → (Vec (Int × ByteArray)) → Option Bool) (C_laws_eqWeave : (Vec (Vec Int)) → (Vec (ByteArray × Int × Int × (Vec Int))) → (Vec (Vec Int)) → (Vec (ByteArray × Int × Int × (Vec Int))) → Option Bool) (C_laws_markWeave_saeda : Int → (Vec (Vec Int)) → (Vec (ByteArray × Int × Int × (Vec Int))) → Option (Int × Vec (Vec Int) × (Vec (ByteArray × Int × Int × (Vec Int))))) (C_laws_markEditS_s9726 : Int → (Vec (Int × ByteArray)) → Option (Int × (Vec (Int × ByteArray)))) (C_laws_heldEditS : (Vec (Int × ByteArray)) → Int → Option Int) (a1 : Vec (Vec Int)) (a2 : Vec (ByteArray × Int × Int × (Vec Int))) (a3 : Int) (a4 : Int) (K : Bool → Option ρ) : Option ρ :=
  (C_laws_szWeave a1 a2 (1048576 : Int)).bind fun r1 => sel (decide (r1 < (0 : Int))) (K true) ((C_laws_toWeave a1 a2).bind fun r2 => (C_spec_CompareEdits r2.1 r2.2 a3 a4).bind fun r3 => (C_laws_toWeave a1 a2).bind fun r4 => (C_impl_CompareEdits r4.1 r4.2 a3 a4).bind fun r5 => (C_laws_eqEditS r5.2 r3.2).bind fun r6 => sel ((!r6)) (K false) (sel ((!decide (r5.1 = r3.1))) (K false) ((C_laws_toWeave a1 a2).bind fun r7 => (C_laws_eqWeave r4.1 r4.2 r7.1 r7.2).bind fun r8 => sel ((!r8)) (K false) ((C_laws_markWeave_saeda (1 : Int) r4.1 r4.2).bind fun r9 => sel (decide (r9.1 < (0 : Int))) (K false) ((C_laws_eqEditS r5.2 r3.2).bind fun r10 => sel ((!r10)) (K false) (sel ((!decide (r5.1 = r3.1))) (K false) ((C_laws_markEditS_s9726 (1 : Int) r5.2).bind fun r11 => (C_laws_heldEditS r11.2 (1 : Int)).bind fun r12 => sel (decide (r12 < (0 : Int))) (K false) (sel ((!decide (r12 = r11.1))) (K false) ((C_laws_toWeave a1 a2).bind fun r13 => (C_impl_CompareEdits r13.1 r13.2 a3 a4).bind fun r14 => (C_laws_eqEditS r14.2 r3.2).bind fun r15 => sel ((!r15)) (K false) (sel ((!decide (r14.1 = r3.1))) (K false) ((C_laws_heldEditS r11.2 (1 : Int)).bind fun r16 => sel (decide (r16 < (0 : Int))) (K false) (sel ((!decide (r16 = r11.1))) (K false) (K true)))))))))))))
noncomputable def F (a1 : Vec (Vec Int)) (a2 : Vec (ByteArray × Int × Int × (Vec Int))) (a3 : Int) (a4 : Int) : Option Bool := B laws_szWeave.F laws_toWeave.F spec_CompareEdits.F impl_CompareEdits.F laws_eqEditS.F laws_eqWeave.F laws_markWeave_saeda.F laws_markEditS_s9726.F laws_heldEditS.F a1 a2 a3 a4 (fun x1 => some (x1))
def encA (t : Vec (Vec Int) × (Vec (ByteArray × Int × Int × (Vec Int))) × Int × Int) : List AV := [.a [.n (.sl 1 (encRw t.1)), .n (.sl 4 (encRw t.2.1))], .c (.n (.v (.int .i64 t.2.2.1))), .c (.n (.v (.int .i64 t.2.2.2)))]
def encR (x : Bool) : AV × List Ob := (.c (.n (.v (.bool x))), [])
theorem encAI : ∀ a b, encA a = encA b → a = b := by
  intro a b h
  obtain ⟨a0, a1, a2, a3⟩ := a
  obtain ⟨b0, b1, b2, b3⟩ := b
  simp [encA, encRw_iff] at h
  simp_all
theorem encRI : ∀ a b, encR a = encR b → a = b := by
  intro a b h
  simp [encR, encRw_iff] at h
  simp_all
noncomputable def Q (args : List AV) : Option Bool := ofC encA (fun t => F t.1 t.2.1 t.2.2.1 t.2.2.2) args
theorem wrap : (fun (y1 : Vec (Vec Int)) (y2 : Vec (ByteArray × Int × Int × (Vec Int))) (y3 : Int) (y4 : Int) => Q [.a [.n (.sl 1 (encRw y1)), .n (.sl 4 (encRw y2))], .c (.n (.v (.int .i64 y3))), .c (.n (.v (.int .i64 y4)))]) = F := by
  funext y1 y2 y3 y4
  exact ofC_enc encAI _ (y1, y2, y3, y4)
noncomputable def G (q_laws_szWeave : List AV → Option Int) (q_laws_toWeave : List AV → Option (Vec (Vec Int) × (Vec (ByteArray × Int × Int × (Vec Int))))) (q_spec_CompareEdits : List AV → Option (Int × (Vec (Int × ByteArray)))) (q_impl_CompareEdits : List AV → Option (Int × (Vec (Int × ByteArray)))) (q_laws_eqEditS : List AV → Option Bool) (q_laws_eqWeave : List AV → Option Bool) (q_laws_markWeave_saeda : List AV → List Ob → Option (Int × Vec (Vec Int) × (Vec (ByteArray × Int × Int × (Vec Int))))) (q_laws_markEditS_s9726 : List AV → List Ob → Option (Int × (Vec (Int × ByteArray)))) (q_laws_heldEditS : List AV → Option Int) : Orc := ⟨fun f => sel (Nat.beq f 11) 0 (sel (Nat.beq f 13) 0 (sel (Nat.beq f 34) 0 (sel (Nat.beq f 35) 0 (sel (Nat.beq f 36) 0 (sel (Nat.beq f 15) 0 (sel (Nat.beq f 38) 0 (9))))))), fun ρ f args K => sel (Nat.beq f 11) (qEntry laws_szWeave.encR q_laws_szWeave args K) (sel (Nat.beq f 13) (qEntry laws_toWeave.encR q_laws_toWeave args K) (sel (Nat.beq f 34) (qEntry spec_CompareEdits.encR q_spec_CompareEdits args K) (sel (Nat.beq f 35) (qEntry impl_CompareEdits.encR q_impl_CompareEdits args K) (sel (Nat.beq f 36) (qEntry laws_eqEditS.encR q_laws_eqEditS args K) (sel (Nat.beq f 15) (qEntry laws_eqWeave.encR q_laws_eqWeave args K) (sel (Nat.beq f 38) (qEntry laws_heldEditS.encR q_laws_heldEditS args K) (Option.none))))))), fun ρ f st args dst K => sel (Nat.beq f 21) (callE Try.prog 21 [true, false] false [true, true] laws_markWeave_saeda.encR q_laws_markWeave_saeda st args dst K) (sel (Nat.beq f 37) (callE Try.prog 37 [true, false] false [true] laws_markEditS_s9726.encR q_laws_markEditS_s9726 st args dst K) (Option.none)), false⟩
noncomputable def L : Lor := fun ρ j st K => Option.none
theorem main (q_laws_szWeave : List AV → Option Int) (q_laws_toWeave : List AV → Option (Vec (Vec Int) × (Vec (ByteArray × Int × Int × (Vec Int))))) (q_spec_CompareEdits : List AV → Option (Int × (Vec (Int × ByteArray)))) (q_impl_CompareEdits : List AV → Option (Int × (Vec (Int × ByteArray)))) (q_laws_eqEditS : List AV → Option Bool) (q_laws_eqWeave : List AV → Option Bool) (q_laws_markWeave_saeda : List AV → List Ob → Option (Int × Vec (Vec Int) × (Vec (ByteArray × Int × Int × (Vec Int))))) (q_laws_markEditS_s9726 : List AV → List Ob → Option (Int × (Vec (Int × ByteArray)))) (q_laws_heldEditS : List AV → Option Int) {ρ : Type} (K : AV → List Ob → Option ρ) (a1 : Vec (Vec Int)) (a2 : Vec (ByteArray × Int × Int × (Vec Int))) (a3 : Int) (a4 : Int) : exC Try.prog (G q_laws_szWeave q_laws_toWeave q_spec_CompareEdits q_impl_CompareEdits q_laws_eqEditS q_laws_eqWeave q_laws_markWeave_saeda q_laws_markEditS_s9726 q_laws_heldEditS) (L) [] 0 (bodyOf Try.f8) (entry 106 [.a [.n (.sl 1 (encRw a1)), .n (.sl 4 (encRw a2))], .c (.n (.v (.int .i64 a3))), .c (.n (.v (.int .i64 a4)))] [] []) (finO Try.prog Try.f8.results.toList 0 [] [] K) =
    B (fun y1 y2 y3 => q_laws_szWeave [.a [.n (.sl 1 (encRw y1)), .n (.sl 4 (encRw y2))], .c (.n (.v (.int .i64 y3)))]) (fun y1 y2 => q_laws_toWeave [.a [.n (.sl 1 (encRw y1)), .n (.sl 4 (encRw y2))]]) (fun y1 y2 y3 y4 => q_spec_CompareEdits [.a [.n (.sl 1 (encRw y1)), .n (.sl 4 (encRw y2))], .c (.n (.v (.int .i64 y3))), .c (.n (.v (.int .i64 y4)))]) (fun y1 y2 y3 y4 => q_impl_CompareEdits [.a [.n (.sl 1 (encRw y1)), .n (.sl 4 (encRw y2))], .c (.n (.v (.int .i64 y3))), .c (.n (.v (.int .i64 y4)))]) (fun y1 y2 => q_laws_eqEditS [.c (.n (.sl 2 (encRw y1))), .c (.n (.sl 2 (encRw y2)))]) (fun y1 y2 y3 y4 => q_laws_eqWeave [.a [.n (.sl 1 (encRw y1)), .n (.sl 4 (encRw y2))], .a [.n (.sl 1 (encRw y3)), .n (.sl 4 (encRw y4))]]) (fun y1 y2 y3 => q_laws_markWeave_saeda [.a [.h 0, .h 1], .c (.n (.v (.int .i64 y1)))] [.row 1 (encRw y2) [], .row 4 (encRw y3) []]) (fun y1 y2 => q_laws_markEditS_s9726 [.c (.h 0), .c (.n (.v (.int .i64 y1)))] [.row 2 (encRw y2) []]) (fun y1 y2 => q_laws_heldEditS [.c (.n (.sl 2 (encRw y1))), .c (.n (.v (.int .i64 y2)))]) a1 a2 a3 a4 (fun x1 => K (.c (.n (.v (.bool x1)))) []) := by kernel_rfl
theorem Gok : (G laws_szWeave.Q laws_toWeave.Q spec_CompareEdits.Q impl_CompareEdits.Q laws_eqEditS.Q laws_eqWeave.Q laws_markWeave_saeda.Q laws_markEditS_s9726.Q laws_heldEditS.Q).ok Try.prog := ⟨(by
    intro ρ f args K r h
    rcases sel_cases h with ⟨hb, h⟩ | ⟨-, h⟩
    · obtain rfl := beq_nat hb
      exact qEntry_ok laws_szWeave.ac h
    rcases sel_cases h with ⟨hb, h⟩ | ⟨-, h⟩
    · obtain rfl := beq_nat hb
      exact qEntry_ok laws_toWeave.ac h
    rcases sel_cases h with ⟨hb, h⟩ | ⟨-, h⟩
    · obtain rfl := beq_nat hb
      exact qEntry_ok spec_CompareEdits.ac h
    rcases sel_cases h with ⟨hb, h⟩ | ⟨-, h⟩
    · obtain rfl := beq_nat hb
      exact qEntry_ok impl_CompareEdits.ac h
    rcases sel_cases h with ⟨hb, h⟩ | ⟨-, h⟩
    · obtain rfl := beq_nat hb
      exact qEntry_ok laws_eqEditS.ac h
    rcases sel_cases h with ⟨hb, h⟩ | ⟨-, h⟩
    · obtain rfl := beq_nat hb
      exact qEntry_ok laws_eqWeave.ac h
    rcases sel_cases h with ⟨hb, h⟩ | ⟨-, h⟩
    · obtain rfl := beq_nat hb
      exact qEntry_ok laws_heldEditS.ac h
    cases h),
  (by
    intro ρ f args K
    simp only [G]
    cases Nat.beq f 11 with
    | true => exact qEntry_nat args K
    | false =>
    simp only [sel]
    cases Nat.beq f 13 with
    | true => exact qEntry_nat args K
    | false =>
    simp only [sel]
    cases Nat.beq f 34 with
    | true => exact qEntry_nat args K
    | false =>
    simp only [sel]
    cases Nat.beq f 35 with
    | true => exact qEntry_nat args K
    | false =>
    simp only [sel]
    cases Nat.beq f 36 with
    | true => exact qEntry_nat args K
    | false =>
    simp only [sel]
    cases Nat.beq f 15 with
    | true => exact qEntry_nat args K
    | false =>
    simp only [sel]
    cases Nat.beq f 38 with
    | true => exact qEntry_nat args K
    | false =>
    simp only [sel]
    rfl),
  (by
    intro ρ f st caps args dst K r h
    rcases sel_cases h with ⟨hb, h⟩ | ⟨-, h⟩
    · obtain rfl := beq_nat hb
      exact callE_ok (fun h => by cases h) laws_markWeave_saeda.ac h
    rcases sel_cases h with ⟨hb, h⟩ | ⟨-, h⟩
    · obtain rfl := beq_nat hb
      exact callE_ok (fun h => by cases h) laws_markEditS_s9726.ac h
    cases h)⟩
theorem hm : Try.prog.follows .mixedOrders = true := by kernel_rfl
theorem e : atomsL [] 0 (bodyOf Try.f8) = [] := by kernel_rfl
theorem acc (t : Vec (Vec Int) × (Vec (ByteArray × Int × Int × (Vec Int))) × Int × Int) (x : Bool) (h : F t.1 t.2.1 t.2.2.1 t.2.2.2 = some x) : ACc Try.prog 8 (encA t) [] true [] fun rv obs => (rv, obs) = encR x := by
  refine fun_okc (L := (L)) (jn := []) (cmds := []) (ks := []) (hin := []) (fn := Try.f8) (body := (bodyOf Try.f8)) Gok hm Try.func8 (by kernel_rfl) (by kernel_rfl) (by rw [e]; exact Lor.ok_nil _ _) ?_ h
  refine (main laws_szWeave.Q laws_toWeave.Q spec_CompareEdits.Q impl_CompareEdits.Q laws_eqEditS.Q laws_eqWeave.Q laws_markWeave_saeda.Q laws_markEditS_s9726.Q laws_heldEditS.Q _ t.1 t.2.1 t.2.2.1 t.2.2.2).trans ?_
  rw [laws_szWeave.wrap, laws_toWeave.wrap, spec_CompareEdits.wrap, impl_CompareEdits.wrap, laws_eqEditS.wrap, laws_eqWeave.wrap, laws_markWeave_saeda.wrap, laws_markEditS_s9726.wrap, laws_heldEditS.wrap]
  refine congrArg (fun K => B laws_szWeave.F laws_toWeave.F spec_CompareEdits.F impl_CompareEdits.F laws_eqEditS.F laws_eqWeave.F laws_markWeave_saeda.F laws_markEditS_s9726.F laws_heldEditS.F t.1 t.2.1 t.2.2.1 t.2.2.2 K) ?_
  funext x1
  exact ofC_enc encRI some (x1)
theorem ac0 (t : Vec (Vec Int) × (Vec (ByteArray × Int × Int × (Vec Int))) × Int × Int) (x : Bool) (h : F t.1 t.2.1 t.2.2.1 t.2.2.2 = some x) : AC Try.prog 8 (encA t) [] true [] fun rv obs => (rv, obs) = encR x := ACc.ac (body := bodyOf Try.f8) Try.func8 (by kernel_rfl) (by kernel_rfl) (acc t x h)
theorem ac (args : List AV) (x : Bool) (h : Q args = some x) : AC Try.prog 8 args [] false [] fun rv obs => (rv, obs) = encR x := by
  obtain ⟨t, rfl, h2⟩ := ofC_some h
  refine (ac0 t x h2).flat fun rv obs e => ?_
  obtain rfl : rv = (encR x).1 := congrArg Prod.fst e
  obtain rfl : obs = (encR x).2 := congrArg Prod.snd e
  refine ⟨by simp [encR, AV.Flat, K.Flat, C.Flat], ?_⟩
  simp [encR]
end laws_FnExactCompareEdits
end Go.Al
