import Derived.Test.YtefdhjnlnmljpaaAlF
import Derived.Test.YtefdhjnlnmljpaaSC
import Derived.Test.YtefdhjnlnmljpaaGWv
import Derived.Test.YtefdhjnlnmljpaaGWl
import Derived.Test.YtefdhjnlnmljpaaGCmp
set_option linter.unusedVariables false
set_option linter.unusedSimpArgs false
set_option linter.constructorNameAsVariable false
set_option linter.unusedSectionVars false
set_option maxRecDepth 100000
namespace Go.Al
open Go.Proofs

/-! loop.example/g00073/spec.Annotate -/
namespace spec_Annotate
noncomputable def B0 {ρ : Type} (C_spec_l09Note : ByteArray → Int → Int → (Vec Int) → Option (Int × Int × ByteArray)) (v1 : Int) (v2 : Vec (Vec Int)) (v3 : Vec (ByteArray × Int × Int × (Vec Int))) (v4 : Vec (Int × Int × ByteArray)) (v5 : Vec Int) (W : Int → (Vec (Vec Int)) → (Vec (ByteArray × Int × Int × (Vec Int))) → (Vec (Int × Int × ByteArray)) → (Vec Int) → Option ρ) (K0 : (Vec (Int × Int × ByteArray)) → Option ρ) : Option ρ :=
  sel (decide (v1 < (v5.n : Int))) (chk (decide (0 ≤ v1 ∧ v1 < (v5.n : Int))) (chk (decide (v1.toNat < v5.n)) (chk (decide (0 ≤ (v5.g v1.toNat) ∧ (v5.g v1.toNat) < (v3.n : Int))) ((C_spec_l09Note ((v3.g (v5.g v1.toNat).toNat).1) ((v3.g (v5.g v1.toNat).toNat).2.1) ((v3.g (v5.g v1.toNat).toNat).2.2.1) ((v3.g (v5.g v1.toNat).toNat).2.2.2)).bind fun r5 => chk (decide ((v4.n + (Vec.lit [(r5.1, r5.2.1, r5.2.2)] : Vec (Int × Int × ByteArray)).n) * 33 ≤ maxN)) (W (wr (v1 + (1 : Int))) v2 v3 (Vec.app v4 (Vec.lit [(r5.1, r5.2.1, r5.2.2)] : Vec (Int × Int × ByteArray))) v5))))) (K0 v4)
noncomputable def F0 {ρ : Type} : Nat → Int → (Vec (Vec Int)) → (Vec (ByteArray × Int × Int × (Vec Int))) → (Vec (Int × Int × ByteArray)) → (Vec Int) → ((Vec (Int × Int × ByteArray)) → Option ρ) → Option ρ
  | 0, _, _, _, _, _, _ => none
  | k + 1, v1, v2, v3, v4, v5, K0 => B0 spec_l09Note.F v1 v2 v3 v4 v5 (fun v1' v2' v3' v4' v5' => F0 k v1' v2' v3' v4' v5' K0) K0
noncomputable def B {ρ : Type} (C_spec_WeaveOk : (Vec (Vec Int)) → (Vec (ByteArray × Int × Int × (Vec Int))) → Option Bool) (C_spec_l06Has : (Vec (Vec Int)) → (Vec (ByteArray × Int × Int × (Vec Int))) → Int → Option Bool) (C_spec_l06Closure : (Vec (Vec Int)) → (Vec (ByteArray × Int × Int × (Vec Int))) → Int → Option (Vec Bool)) (C_spec_l06Places : (Vec (Vec Int)) → (Vec (ByteArray × Int × Int × (Vec Int))) → (Vec Bool) → Option (Vec Int)) (L0 : Int → (Vec (Vec Int)) → (Vec (ByteArray × Int × Int × (Vec Int))) → (Vec (Int × Int × ByteArray)) → (Vec Int) → ((Vec (Int × Int × ByteArray)) → Option ρ) → Option ρ) (a1 : Vec (Vec Int)) (a2 : Vec (ByteArray × Int × Int × (Vec Int))) (a3 : Int) (K : Int → (Vec (Int × Int × ByteArray)) → Option ρ) : Option ρ :=
  (C_spec_WeaveOk a1 a2).bind fun r1 => sel ((!r1)) (K (1 : Int) (Vec.nil : Vec (Int × Int × ByteArray))) ((C_spec_l06Has a1 a2 a3).bind fun r2 => sel ((!r2)) (K (2 : Int) (Vec.nil : Vec (Int × Int × ByteArray))) ((C_spec_l06Closure a1 a2 a3).bind fun r3 => (C_spec_l06Places a1 a2 r3).bind fun r4 => L0 (0 : Int) a1 a2 (Vec.nil : Vec (Int × Int × ByteArray)) r4 (fun e01 => K (0 : Int) e01)))
noncomputable def F (a1 : Vec (Vec Int)) (a2 : Vec (ByteArray × Int × Int × (Vec Int))) (a3 : Int) : Option (Int × (Vec (Int × Int × ByteArray))) := B spec_WeaveOk.F spec_l06Has.F spec_l06Closure.F spec_l06Places.F (F0 fuelN) a1 a2 a3 (fun x1 x2 => some (x1, x2))
def encA (t : Vec (Vec Int) × (Vec (ByteArray × Int × Int × (Vec Int))) × Int) : List AV := [.a [.n (.sl 1 (encRw t.1)), .n (.sl 4 (encRw t.2.1))], .c (.n (.v (.int .i64 t.2.2)))]
def encR (x : Int × (Vec (Int × Int × ByteArray))) : AV × List Ob := (.tup [.c (.h 0), .c (.n (.v (.int .i64 x.1)))], [.row 3 (encRw x.2) []])
theorem encAI : ∀ a b, encA a = encA b → a = b := by
  intro a b h
  obtain ⟨a0, a1, a2⟩ := a
  obtain ⟨b0, b1, b2⟩ := b
  simp [encA, encRw_iff] at h
  simp_all
theorem encRI : ∀ a b, encR a = encR b → a = b := by
  intro a b h
  obtain ⟨a0, a1⟩ := a
  obtain ⟨b0, b1⟩ := b
  simp [encR, encRw_iff] at h
  simp_all
noncomputable def Q (args : List AV) : Option (Int × (Vec (Int × Int × ByteArray))) := ofC encA (fun t => F t.1 t.2.1 t.2.2) args
theorem wrap : (fun (y1 : Vec (Vec Int)) (y2 : Vec (ByteArray × Int × Int × (Vec Int))) (y3 : Int) => Q [.a [.n (.sl 1 (encRw y1)), .n (.sl 4 (encRw y2))], .c (.n (.v (.int .i64 y3)))]) = F := by
  funext y1 y2 y3
  exact ofC_enc encAI _ (y1, y2, y3)
noncomputable def G (q_spec_WeaveOk : List AV → Option Bool) (q_spec_l06Has : List AV → Option Bool) (q_spec_l06Closure : List AV → Option (Vec Bool)) (q_spec_l06Places : List AV → Option (Vec Int)) (q_spec_l09Note : List AV → Option (Int × Int × ByteArray)) : Orc := ⟨fun f => sel (Nat.beq f 48) 0 (sel (Nat.beq f 64) 0 (sel (Nat.beq f 50) 0 (sel (Nat.beq f 65) 0 (sel (Nat.beq f 66) 0 (9))))), fun ρ f args K => sel (Nat.beq f 48) (qEntry spec_WeaveOk.encR q_spec_WeaveOk args K) (sel (Nat.beq f 64) (qEntry spec_l06Has.encR q_spec_l06Has args K) (sel (Nat.beq f 50) (qEntry spec_l06Closure.encR q_spec_l06Closure args K) (sel (Nat.beq f 65) (qEntry spec_l06Places.encR q_spec_l06Places args K) (sel (Nat.beq f 66) (qEntry spec_l09Note.encR q_spec_l09Note args K) (Option.none))))), noE, false⟩
noncomputable def L (W0 : (ρ : Type) → List AV → List Ob → ((Vec (Int × Int × ByteArray)) → Option ρ) → Option ρ) : Lor := fun ρ j st K => sel (Nat.beq j 0) (cutO Try.prog 43 [2, 6, 7, 8] 0 [] [.ad (.s 6) 40] st fun avs obs => W0 ρ avs obs (fun z1 => K (.exit 0) (mkS 43 [6] [.c (.h 0)] [.row 3 (encRw z1) []] []))) (Option.none)
noncomputable def c0 : Code := loopC (atomN [] 0 (bodyOf Try.f24) 0)
def ct0 : Cut := ⟨[2, 6, 7, 8], [.ad (.s 6) 40]⟩
def lv0 : Exit → Cut
  | .exit 0 => ⟨[6], []⟩
  | _ => ⟨[], []⟩
theorem step0 (q_spec_WeaveOk : List AV → Option Bool) (q_spec_l06Has : List AV → Option Bool) (q_spec_l06Closure : List AV → Option (Vec Bool)) (q_spec_l06Places : List AV → Option (Vec Int)) (q_spec_l09Note : List AV → Option (Int × Int × ByteArray)) (W0 : (ρ : Type) → List AV → List Ob → ((Vec (Int × Int × ByteArray)) → Option ρ) → Option ρ) {ρ : Type} (K : Exit → St → Option ρ) (W : List AV → List Ob → Option ρ) (v1 : Int) (v2 : Vec (Vec Int)) (v3 : Vec (ByteArray × Int × Int × (Vec Int))) (v4 : Vec (Int × Int × ByteArray)) (v5 : Vec Int) : exC Try.prog (G q_spec_WeaveOk q_spec_l06Has q_spec_l06Closure q_spec_l06Places q_spec_l09Note) (L W0) [] 1 c0 (mkS 43 [2, 6, 7, 8] [.c (.p 0 0), .c (.h 1), .c (.h 2), .c (.n (.v (.int .i64 v1)))] [.box [.n (.sl 1 (encRw v2)), .n (.sl 4 (encRw v3))], .row 3 (encRw v4) [], .row 1 (encRw v5) []] []) (bodyK Try.prog 43 0 [] ct0 W lv0 K) =
    B0 (fun y1 y2 y3 y4 => q_spec_l09Note [.a [.n (.v (.string y1)), .n (.v (.int .i64 y2)), .n (.v (.int .i64 y3)), .n (.sl 1 (encRw y4))]]) v1 v2 v3 v4 v5 (fun u1 u2 u3 u4 u5 => W [.c (.p 0 0), .c (.h 1), .c (.h 2), .c (.n (.v (.int .i64 u1)))] [.box [.n (.sl 1 (encRw u2)), .n (.sl 4 (encRw u3))], .row 3 (encRw u4) [], .row 1 (encRw u5) []]) (fun z1 => K (.exit 0) (mkS 43 [6] [.c (.h 0)] [.row 3 (encRw z1) []] [])) := by kernel_rfl
def enc0 (t : Int × Vec (Vec Int) × (Vec (ByteArray × Int × Int × (Vec Int))) × (Vec (Int × Int × ByteArray)) × Vec Int) : List AV × List Ob := ([.c (.p 0 0), .c (.h 1), .c (.h 2), .c (.n (.v (.int .i64 t.1)))], [.box [.n (.sl 1 (encRw t.2.1)), .n (.sl 4 (encRw t.2.2.1))], .row 3 (encRw t.2.2.2.1) [], .row 1 (encRw t.2.2.2.2) []])
theorem enc0I : ∀ a b, enc0 a = enc0 b → a = b := by
  intro a b h
  obtain ⟨a0, a1, a2, a3, a4⟩ := a
  obtain ⟨b0, b1, b2, b3, b4⟩ := b
  simp [enc0, encRw_iff] at h
  simp_all
noncomputable def V0 : (ρ : Type) → List AV → List Ob → ((Vec (Int × Int × ByteArray)) → Option ρ) → Option ρ := fun ρ avs obs k0 => ofC enc0 (fun t => F0 fuelN t.1 t.2.1 t.2.2.1 t.2.2.2.1 t.2.2.2.2 k0) (avs, obs)
theorem V0_enc (ρ : Type) : (fun w1 w2 w3 w4 w5 k0 => V0 ρ [.c (.p 0 0), .c (.h 1), .c (.h 2), .c (.n (.v (.int .i64 w1)))] [.box [.n (.sl 1 (encRw w2)), .n (.sl 4 (encRw w3))], .row 3 (encRw w4) [], .row 1 (encRw w5) []] k0) = F0 fuelN := by
  funext w1 w2 w3 w4 w5 k0
  exact ofC_enc enc0I _ (w1, w2, w3, w4, w5)
theorem main (q_spec_WeaveOk : List AV → Option Bool) (q_spec_l06Has : List AV → Option Bool) (q_spec_l06Closure : List AV → Option (Vec Bool)) (q_spec_l06Places : List AV → Option (Vec Int)) (q_spec_l09Note : List AV → Option (Int × Int × ByteArray)) (W0 : (ρ : Type) → List AV → List Ob → ((Vec (Int × Int × ByteArray)) → Option ρ) → Option ρ) {ρ : Type} (K : AV → List Ob → Option ρ) (a1 : Vec (Vec Int)) (a2 : Vec (ByteArray × Int × Int × (Vec Int))) (a3 : Int) : exC Try.prog (G q_spec_WeaveOk q_spec_l06Has q_spec_l06Closure q_spec_l06Places q_spec_l09Note) (L W0) [] 0 (bodyOf Try.f24) (entry 43 [.a [.n (.sl 1 (encRw a1)), .n (.sl 4 (encRw a2))], .c (.n (.v (.int .i64 a3)))] [] []) (finO Try.prog Try.f24.results.toList 0 [] [.ad (.s 4) 40] K) =
    B (fun y1 y2 => q_spec_WeaveOk [.a [.n (.sl 1 (encRw y1)), .n (.sl 4 (encRw y2))]]) (fun y1 y2 y3 => q_spec_l06Has [.a [.n (.sl 1 (encRw y1)), .n (.sl 4 (encRw y2))], .c (.n (.v (.int .i64 y3)))]) (fun y1 y2 y3 => q_spec_l06Closure [.a [.n (.sl 1 (encRw y1)), .n (.sl 4 (encRw y2))], .c (.n (.v (.int .i64 y3)))]) (fun y1 y2 y3 => q_spec_l06Places [.a [.n (.sl 1 (encRw y1)), .n (.sl 4 (encRw y2))], .c (.n (.sl 1 (encRw y3)))]) (fun w1 w2 w3 w4 w5 k0 => W0 ρ [.c (.p 0 0), .c (.h 1), .c (.h 2), .c (.n (.v (.int .i64 w1)))] [.box [.n (.sl 1 (encRw w2)), .n (.sl 4 (encRw w3))], .row 3 (encRw w4) [], .row 1 (encRw w5) []] k0) a1 a2 a3 (fun x1 x2 => K (.tup [.c (.h 0), .c (.n (.v (.int .i64 x1)))]) [.row 3 (encRw x2) []]) := by kernel_rfl
theorem Gok : (G spec_WeaveOk.Q spec_l06Has.Q spec_l06Closure.Q spec_l06Places.Q spec_l09Note.Q).ok Try.prog := ⟨(by
    intro ρ f args K r h
    rcases sel_cases h with ⟨hb, h⟩ | ⟨-, h⟩
    · obtain rfl := beq_nat hb
      exact qEntry_ok spec_WeaveOk.ac h
    rcases sel_cases h with ⟨hb, h⟩ | ⟨-, h⟩
    · obtain rfl := beq_nat hb
      exact qEntry_ok spec_l06Has.ac h
    rcases sel_cases h with ⟨hb, h⟩ | ⟨-, h⟩
    · obtain rfl := beq_nat hb
      exact qEntry_ok spec_l06Closure.ac h
    rcases sel_cases h with ⟨hb, h⟩ | ⟨-, h⟩
    · obtain rfl := beq_nat hb
      exact qEntry_ok spec_l06Places.ac h
    rcases sel_cases h with ⟨hb, h⟩ | ⟨-, h⟩
    · obtain rfl := beq_nat hb
      exact qEntry_ok spec_l09Note.ac h
    cases h),
  (by
    intro ρ f args K
    simp only [G]
    cases Nat.beq f 48 with
    | true => exact qEntry_nat args K
    | false =>
    simp only [sel]
    cases Nat.beq f 64 with
    | true => exact qEntry_nat args K
    | false =>
    simp only [sel]
    cases Nat.beq f 50 with
    | true => exact qEntry_nat args K
    | false =>
    simp only [sel]
    cases Nat.beq f 65 with
    | true => exact qEntry_nat args K
    | false =>
    simp only [sel]
    cases Nat.beq f 66 with
    | true => exact qEntry_nat args K
    | false =>
    simp only [sel]
    rfl),
  (fun ρ f st caps args dst K r h => (by cases h))⟩
theorem hm : Try.prog.follows .mixedOrders = true := by kernel_rfl
theorem e0 : atomsL [] 1 c0 = [] := by kernel_rfl
theorem ok0 (ρ : Type) (st : St) (K : Exit → St → Option ρ) (r : ρ) (h : (L V0) ρ 0 st K = some r) : AW Try.prog (.loop c0) st fun e st' => K e st' = some r := by
  refine loop_ok (ct := ct0) (lv := lv0) (n := 43) (m := 0) (ks := []) (j := 0) (jn := []) (L := (L V0)) Gok hm (by rw [e0]; exact Lor.ok_nil _ _) enc0I (fun k t => F0 k t.1 t.2.1 t.2.2.1 t.2.2.2.1 t.2.2.2.2 (fun z1 => K (.exit 0) (mkS 43 [6] [.c (.h 0)] [.row 3 (encRw z1) []] []))) (fun t => rfl) (fun k t => ?_) (fun _ => fuelN) h
  refine (step0 spec_WeaveOk.Q spec_l06Has.Q spec_l06Closure.Q spec_l06Places.Q spec_l09Note.Q V0 K _ t.1 t.2.1 t.2.2.1 t.2.2.2.1 t.2.2.2.2).trans ?_
  rw [spec_l09Note.wrap]
  refine congrArg (fun W => B0 spec_l09Note.F t.1 t.2.1 t.2.2.1 t.2.2.2.1 t.2.2.2.2 W (fun z1 => K (.exit 0) (mkS 43 [6] [.c (.h 0)] [.row 3 (encRw z1) []] []))) ?_
  funext u1 u2 u3 u4 u5
  exact ofC_enc enc0I _ (u1, u2, u3, u4, u5)
theorem e : atomsL [] 0 (bodyOf Try.f24) = [(0, 0, .loop c0)] := by kernel_rfl
theorem acc (t : Vec (Vec Int) × (Vec (ByteArray × Int × Int × (Vec Int))) × Int) (x : Int × (Vec (Int × Int × ByteArray))) (h : F t.1 t.2.1 t.2.2 = some x) : ACc Try.prog 24 (encA t) [] true [] fun rv obs => (rv, obs) = encR x := by
  refine fun_okc (L := (L V0)) (jn := []) (cmds := [.ad (.s 4) 40]) (ks := []) (hin := []) (fn := Try.f24) (body := (bodyOf Try.f24)) Gok hm Try.func24 (by kernel_rfl) (by kernel_rfl) (by rw [e]; exact Lor.ok_cons ok0 (Lor.ok_nil _ _)) ?_ h
  refine (main spec_WeaveOk.Q spec_l06Has.Q spec_l06Closure.Q spec_l06Places.Q spec_l09Note.Q V0 _ t.1 t.2.1 t.2.2).trans ?_
  rw [spec_WeaveOk.wrap, spec_l06Has.wrap, spec_l06Closure.wrap, spec_l06Places.wrap, V0_enc]
  refine congrArg (fun K => B spec_WeaveOk.F spec_l06Has.F spec_l06Closure.F spec_l06Places.F (F0 fuelN) t.1 t.2.1 t.2.2 K) ?_
  funext x1 x2
  exact ofC_enc encRI some (x1, x2)
theorem ac0 (t : Vec (Vec Int) × (Vec (ByteArray × Int × Int × (Vec Int))) × Int) (x : Int × (Vec (Int × Int × ByteArray))) (h : F t.1 t.2.1 t.2.2 = some x) : AC Try.prog 24 (encA t) [] true [] fun rv obs => (rv, obs) = encR x := ACc.ac (body := bodyOf Try.f24) Try.func24 (by kernel_rfl) (by kernel_rfl) (acc t x h)
theorem ac (args : List AV) (x : Int × (Vec (Int × Int × ByteArray))) (h : Q args = some x) : AC Try.prog 24 args [] false [] fun rv obs => (rv, obs) = encR x := by
  obtain ⟨t, rfl, h2⟩ := ofC_some h
  refine (ac0 t x h2).flat fun rv obs e => ?_
  obtain rfl : rv = (encR x).1 := congrArg Prod.fst e
  obtain rfl : obs = (encR x).2 := congrArg Prod.snd e
  refine ⟨by simp [encR, AV.Flat, K.Flat, C.Flat], ?_⟩
  intro o ho
  simp only [encR, List.mem_cons, List.not_mem_nil, or_false] at ho
  subst ho
  exact flat_rw rfl _
end spec_Annotate
/-! (*loop.example/g00073/impl.Weave).annotate -/
namespace impl_Weave_annotate
noncomputable def B0 {ρ : Type} (C_impl_Body_note : ByteArray → Int → Int → (Vec Int) → Option (Int × Int × ByteArray)) (v1 : Vec (Vec Int)) (v2 : Vec (ByteArray × Int × Int × (Vec Int))) (v3 : Int) (v4 : Int) (v5 : Vec (Int × Int × ByteArray)) (v6 : Vec Int) (W : (Vec (Vec Int)) → (Vec (ByteArray × Int × Int × (Vec Int))) → Int → Int → (Vec (Int × Int × ByteArray)) → (Vec Int) → Option ρ) (K0 : (Vec (Int × Int × ByteArray)) → Option ρ) : Option ρ :=
  sel (decide (v4 < v3)) (chk (decide (0 ≤ v4 ∧ v4 < (v6.n : Int))) (chk (decide (v4.toNat < v6.n)) (chk (decide (0 ≤ (v6.g v4.toNat) ∧ (v6.g v4.toNat) < (v2.n : Int))) ((C_impl_Body_note ((v2.g (v6.g v4.toNat).toNat).1) ((v2.g (v6.g v4.toNat).toNat).2.1) ((v2.g (v6.g v4.toNat).toNat).2.2.1) ((v2.g (v6.g v4.toNat).toNat).2.2.2)).bind fun r3 => chk (decide ((v5.n + (Vec.lit [(r3.1, r3.2.1, r3.2.2)] : Vec (Int × Int × ByteArray)).n) * 33 ≤ maxN)) (W v1 v2 v3 (wr (v4 + (1 : Int))) (Vec.app v5 (Vec.lit [(r3.1, r3.2.1, r3.2.2)] : Vec (Int × Int × ByteArray))) v6))))) (K0 v5)
noncomputable def F0 {ρ : Type} : Nat → (Vec (Vec Int)) → (Vec (ByteArray × Int × Int × (Vec Int))) → Int → Int → (Vec (Int × Int × ByteArray)) → (Vec Int) → ((Vec (Int × Int × ByteArray)) → Option ρ) → Option ρ
  | 0, _, _, _, _, _, _, _ => none
  | k + 1, v1, v2, v3, v4, v5, v6, K0 => B0 impl_Body_note.F v1 v2 v3 v4 v5 v6 (fun v1' v2' v3' v4' v5' v6' => F0 k v1' v2' v3' v4' v5' v6' K0) K0
noncomputable def B {ρ : Type} (C_impl_closures : (Vec (Vec Int)) → Option (Vec (IK .u64))) (C_impl_Weave_liveIn : (Vec (Vec Int)) → (Vec (ByteArray × Int × Int × (Vec Int))) → Int → Option (Vec Int)) (L0 : (Vec (Vec Int)) → (Vec (ByteArray × Int × Int × (Vec Int))) → Int → Int → (Vec (Int × Int × ByteArray)) → (Vec Int) → ((Vec (Int × Int × ByteArray)) → Option ρ) → Option ρ) (a1 : Vec (Vec Int)) (a2 : Vec (ByteArray × Int × Int × (Vec Int))) (a3 : Int) (K : (Vec (Int × Int × ByteArray)) → Option ρ) : Option ρ :=
  (C_impl_closures a1).bind fun r1 => chk (decide (0 ≤ a3 ∧ a3 < (r1.n : Int))) (chk (decide (a3.toNat < r1.n)) ((C_impl_Weave_liveIn a1 a2 ((r1.g a3.toNat).v)).bind fun r2 => L0 a1 a2 (r2.n : Int) (0 : Int) (Vec.nil : Vec (Int × Int × ByteArray)) r2 (fun e01 => K e01)))
noncomputable def F (a1 : Vec (Vec Int)) (a2 : Vec (ByteArray × Int × Int × (Vec Int))) (a3 : Int) : Option (Vec (Int × Int × ByteArray)) := B impl_closures.F impl_Weave_liveIn.F (F0 fuelN) a1 a2 a3 (fun x1 => some (x1))
def encA (t : Vec (Vec Int) × (Vec (ByteArray × Int × Int × (Vec Int))) × Int) : List AV := [.ra [.sl 1 (encRw t.1), .sl 4 (encRw t.2.1)], .c (.n (.v (.int .i64 t.2.2)))]
def encR (x : Vec (Int × Int × ByteArray)) : AV × List Ob := (.c (.h 0), [.row 3 (encRw x) []])
theorem encAI : ∀ a b, encA a = encA b → a = b := by
  intro a b h
  obtain ⟨a0, a1, a2⟩ := a
  obtain ⟨b0, b1, b2⟩ := b
  simp [encA, encRw_iff] at h
  simp_all
theorem encRI : ∀ a b, encR a = encR b → a = b := by
  intro a b h
  simp [encR, encRw_iff] at h
  simp_all
noncomputable def Q (args : List AV) : Option (Vec (Int × Int × ByteArray)) := ofC encA (fun t => F t.1 t.2.1 t.2.2) args
theorem wrap : (fun (y1 : Vec (Vec Int)) (y2 : Vec (ByteArray × Int × Int × (Vec Int))) (y3 : Int) => Q [.ra [.sl 1 (encRw y1), .sl 4 (encRw y2)], .c (.n (.v (.int .i64 y3)))]) = F := by
  funext y1 y2 y3
  exact ofC_enc encAI _ (y1, y2, y3)
noncomputable def G (q_impl_closures : List AV → Option (Vec (IK .u64))) (q_impl_Weave_liveIn : List AV → Option (Vec Int)) (q_impl_Body_note : List AV → Option (Int × Int × ByteArray)) : Orc := ⟨fun f => sel (Nat.beq f 90) 0 (sel (Nat.beq f 95) 0 (sel (Nat.beq f 97) 0 (9))), fun ρ f args K => sel (Nat.beq f 90) (qEntry impl_closures.encR q_impl_closures args K) (sel (Nat.beq f 95) (qEntry impl_Weave_liveIn.encR q_impl_Weave_liveIn args K) (sel (Nat.beq f 97) (qEntry impl_Body_note.encR q_impl_Body_note args K) (Option.none))), noE, false⟩
noncomputable def L (W0 : (ρ : Type) → List AV → List Ob → ((Vec (Int × Int × ByteArray)) → Option ρ) → Option ρ) : Lor := fun ρ j st K => sel (Nat.beq j 0) (cutO Try.prog 36 [0, 5, 17, 18, 19] 0 [] [.ad (.s 5) 40] st fun avs obs => W0 ρ avs obs (fun z1 => K (.exit 0) (mkS 36 [5] [.c (.h 0)] [.row 3 (encRw z1) []] []))) (Option.none)
noncomputable def c0 : Code := loopC (atomN [] 0 (bodyOf Try.f68) 0)
def ct0 : Cut := ⟨[0, 5, 17, 18, 19], [.ad (.s 5) 40]⟩
def lv0 : Exit → Cut
  | .exit 0 => ⟨[5], []⟩
  | _ => ⟨[], []⟩
theorem step0 (q_impl_closures : List AV → Option (Vec (IK .u64))) (q_impl_Weave_liveIn : List AV → Option (Vec Int)) (q_impl_Body_note : List AV → Option (Int × Int × ByteArray)) (W0 : (ρ : Type) → List AV → List Ob → ((Vec (Int × Int × ByteArray)) → Option ρ) → Option ρ) {ρ : Type} (K : Exit → St → Option ρ) (W : List AV → List Ob → Option ρ) (v1 : Vec (Vec Int)) (v2 : Vec (ByteArray × Int × Int × (Vec Int))) (v3 : Int) (v4 : Int) (v5 : Vec (Int × Int × ByteArray)) (v6 : Vec Int) : exC Try.prog (G q_impl_closures q_impl_Weave_liveIn q_impl_Body_note) (L W0) [] 1 c0 (mkS 36 [0, 5, 17, 18, 19] [.ra [.sl 1 (encRw v1), .sl 4 (encRw v2)], .c (.h 0), .c (.h 1), .c (.n (.v (.int .i64 v3))), .c (.n (.v (.int .i64 v4)))] [.row 3 (encRw v5) [], .row 1 (encRw v6) []] []) (bodyK Try.prog 36 0 [] ct0 W lv0 K) =
    B0 (fun y1 y2 y3 y4 => q_impl_Body_note [.a [.n (.v (.string y1)), .n (.v (.int .i64 y2)), .n (.v (.int .i64 y3)), .n (.sl 1 (encRw y4))]]) v1 v2 v3 v4 v5 v6 (fun u1 u2 u3 u4 u5 u6 => W [.ra [.sl 1 (encRw u1), .sl 4 (encRw u2)], .c (.h 0), .c (.h 1), .c (.n (.v (.int .i64 u3))), .c (.n (.v (.int .i64 u4)))] [.row 3 (encRw u5) [], .row 1 (encRw u6) []]) (fun z1 => K (.exit 0) (mkS 36 [5] [.c (.h 0)] [.row 3 (encRw z1) []] [])) := by kernel_rfl
def enc0 (t : Vec (Vec Int) × (Vec (ByteArray × Int × Int × (Vec Int))) × Int × Int × (Vec (Int × Int × ByteArray)) × Vec Int) : List AV × List Ob := ([.ra [.sl 1 (encRw t.1), .sl 4 (encRw t.2.1)], .c (.h 0), .c (.h 1), .c (.n (.v (.int .i64 t.2.2.1))), .c (.n (.v (.int .i64 t.2.2.2.1)))], [.row 3 (encRw t.2.2.2.2.1) [], .row 1 (encRw t.2.2.2.2.2) []])
theorem enc0I : ∀ a b, enc0 a = enc0 b → a = b := by
  intro a b h
  obtain ⟨a0, a1, a2, a3, a4, a5⟩ := a
  obtain ⟨b0, b1, b2, b3, b4, b5⟩ := b
  simp [enc0, encRw_iff] at h
  simp_all
noncomputable def V0 : (ρ : Type) → List AV → List Ob → ((Vec (Int × Int × ByteArray)) → Option ρ) → Option ρ := fun ρ avs obs k0 => ofC enc0 (fun t => F0 fuelN t.1 t.2.1 t.2.2.1 t.2.2.2.1 t.2.2.2.2.1 t.2.2.2.2.2 k0) (avs, obs)
theorem V0_enc (ρ : Type) : (fun w1 w2 w3 w4 w5 w6 k0 => V0 ρ [.ra [.sl 1 (encRw w1), .sl 4 (encRw w2)], .c (.h 0), .c (.h 1), .c (.n (.v (.int .i64 w3))), .c (.n (.v (.int .i64 w4)))] [.row 3 (encRw w5) [], .row 1 (encRw w6) []] k0) = F0 fuelN := by
  funext w1 w2 w3 w4 w5 w6 k0
  exact ofC_enc enc0I _ (w1, w2, w3, w4, w5, w6)
theorem main (q_impl_closures : List AV → Option (Vec (IK .u64))) (q_impl_Weave_liveIn : List AV → Option (Vec Int)) (q_impl_Body_note : List AV → Option (Int × Int × ByteArray)) (W0 : (ρ : Type) → List AV → List Ob → ((Vec (Int × Int × ByteArray)) → Option ρ) → Option ρ) {ρ : Type} (K : AV → List Ob → Option ρ) (a1 : Vec (Vec Int)) (a2 : Vec (ByteArray × Int × Int × (Vec Int))) (a3 : Int) : exC Try.prog (G q_impl_closures q_impl_Weave_liveIn q_impl_Body_note) (L W0) [] 0 (bodyOf Try.f68) (entry 36 [.ra [.sl 1 (encRw a1), .sl 4 (encRw a2)], .c (.n (.v (.int .i64 a3)))] [] []) (finO Try.prog Try.f68.results.toList 0 [] [] K) =
    B (fun y1 => q_impl_closures [.c (.n (.sl 1 (encRw y1)))]) (fun y1 y2 y3 => q_impl_Weave_liveIn [.ra [.sl 1 (encRw y1), .sl 4 (encRw y2)], .c (.n (.v (.int .u64 y3)))]) (fun w1 w2 w3 w4 w5 w6 k0 => W0 ρ [.ra [.sl 1 (encRw w1), .sl 4 (encRw w2)], .c (.h 0), .c (.h 1), .c (.n (.v (.int .i64 w3))), .c (.n (.v (.int .i64 w4)))] [.row 3 (encRw w5) [], .row 1 (encRw w6) []] k0) a1 a2 a3 (fun x1 => K (.c (.h 0)) [.row 3 (encRw x1) []]) := by kernel_rfl
theorem Gok : (G impl_closures.Q impl_Weave_liveIn.Q impl_Body_note.Q).ok Try.prog := ⟨(by
    intro ρ f args K r h
    rcases sel_cases h with ⟨hb, h⟩ | ⟨-, h⟩
    · obtain rfl := beq_nat hb
      exact qEntry_ok impl_closures.ac h
    rcases sel_cases h with ⟨hb, h⟩ | ⟨-, h⟩
    · obtain rfl := beq_nat hb
      exact qEntry_ok impl_Weave_liveIn.ac h
    rcases sel_cases h with ⟨hb, h⟩ | ⟨-, h⟩
    · obtain rfl := beq_nat hb
      exact qEntry_ok impl_Body_note.ac h
    cases h),
  (by
    intro ρ f args K
    simp only [G]
    cases Nat.beq f 90 with
    | true => exact qEntry_nat args K
    | false =>
    simp only [sel]
    cases Nat.beq f 95 with
    | true => exact qEntry_nat args K
    | false =>
    simp only [sel]
    cases Nat.beq f 97 with
    | true => exact qEntry_nat args K
    | false =>
    simp only [sel]
    rfl),
  (fun ρ f st caps args dst K r h => (by cases h))⟩
theorem hm : Try.prog.follows .mixedOrders = true := by kernel_rfl
theorem e0 : atomsL [] 1 c0 = [] := by kernel_rfl
theorem ok0 (ρ : Type) (st : St) (K : Exit → St → Option ρ) (r : ρ) (h : (L V0) ρ 0 st K = some r) : AW Try.prog (.loop c0) st fun e st' => K e st' = some r := by
  refine loop_ok (ct := ct0) (lv := lv0) (n := 36) (m := 0) (ks := []) (j := 0) (jn := []) (L := (L V0)) Gok hm (by rw [e0]; exact Lor.ok_nil _ _) enc0I (fun k t => F0 k t.1 t.2.1 t.2.2.1 t.2.2.2.1 t.2.2.2.2.1 t.2.2.2.2.2 (fun z1 => K (.exit 0) (mkS 36 [5] [.c (.h 0)] [.row 3 (encRw z1) []] []))) (fun t => rfl) (fun k t => ?_) (fun _ => fuelN) h
  refine (step0 impl_closures.Q impl_Weave_liveIn.Q impl_Body_note.Q V0 K _ t.1 t.2.1 t.2.2.1 t.2.2.2.1 t.2.2.2.2.1 t.2.2.2.2.2).trans ?_
  rw [impl_Body_note.wrap]
  refine congrArg (fun W => B0 impl_Body_note.F t.1 t.2.1 t.2.2.1 t.2.2.2.1 t.2.2.2.2.1 t.2.2.2.2.2 W (fun z1 => K (.exit 0) (mkS 36 [5] [.c (.h 0)] [.row 3 (encRw z1) []] []))) ?_
  funext u1 u2 u3 u4 u5 u6
  exact ofC_enc enc0I _ (u1, u2, u3, u4, u5, u6)
theorem e : atomsL [] 0 (bodyOf Try.f68) = [(0, 0, .loop c0)] := by kernel_rfl
theorem acc (t : Vec (Vec Int) × (Vec (ByteArray × Int × Int × (Vec Int))) × Int) (x : Vec (Int × Int × ByteArray)) (h : F t.1 t.2.1 t.2.2 = some x) : ACc Try.prog 68 (encA t) [] true [] fun rv obs => (rv, obs) = encR x := by
  refine fun_okc (L := (L V0)) (jn := []) (cmds := []) (ks := []) (hin := []) (fn := Try.f68) (body := (bodyOf Try.f68)) Gok hm Try.func68 (by kernel_rfl) (by kernel_rfl) (by rw [e]; exact Lor.ok_cons ok0 (Lor.ok_nil _ _)) ?_ h
  refine (main impl_closures.Q impl_Weave_liveIn.Q impl_Body_note.Q V0 _ t.1 t.2.1 t.2.2).trans ?_
  rw [impl_closures.wrap, impl_Weave_liveIn.wrap, V0_enc]
  refine congrArg (fun K => B impl_closures.F impl_Weave_liveIn.F (F0 fuelN) t.1 t.2.1 t.2.2 K) ?_
  funext x1
  exact ofC_enc encRI some (x1)
theorem ac0 (t : Vec (Vec Int) × (Vec (ByteArray × Int × Int × (Vec Int))) × Int) (x : Vec (Int × Int × ByteArray)) (h : F t.1 t.2.1 t.2.2 = some x) : AC Try.prog 68 (encA t) [] true [] fun rv obs => (rv, obs) = encR x := ACc.ac (body := bodyOf Try.f68) Try.func68 (by kernel_rfl) (by kernel_rfl) (acc t x h)
theorem ac (args : List AV) (x : Vec (Int × Int × ByteArray)) (h : Q args = some x) : AC Try.prog 68 args [] false [] fun rv obs => (rv, obs) = encR x := by
  obtain ⟨t, rfl, h2⟩ := ofC_some h
  refine (ac0 t x h2).flat fun rv obs e => ?_
  obtain rfl : rv = (encR x).1 := congrArg Prod.fst e
  obtain rfl : obs = (encR x).2 := congrArg Prod.snd e
  refine ⟨by simp [encR, AV.Flat, K.Flat, C.Flat], ?_⟩
  intro o ho
  simp only [encR, List.mem_cons, List.not_mem_nil, or_false] at ho
  subst ho
  exact flat_rw rfl _
end impl_Weave_annotate
/-! loop.example/g00073/impl.Annotate -/
namespace impl_Annotate
noncomputable def B {ρ : Type} (C_impl_versionsCode : (Vec (Vec Int)) → (Vec (ByteArray × Int × Int × (Vec Int))) → (Vec Int) → Option Int) (C_impl_Weave_annotate : (Vec (Vec Int)) → (Vec (ByteArray × Int × Int × (Vec Int))) → Int → Option (Vec (Int × Int × ByteArray))) (a1 : Vec (Vec Int)) (a2 : Vec (ByteArray × Int × Int × (Vec Int))) (a3 : Int) (K : Int → (Vec (Int × Int × ByteArray)) → Option ρ) : Option ρ :=
  (C_impl_versionsCode a1 a2 (Vec.lit [a3] : Vec Int)).bind fun r1 => sel ((!decide (r1 = (0 : Int)))) (K r1 (Vec.nil : Vec (Int × Int × ByteArray))) ((C_impl_Weave_annotate a1 a2 a3).bind fun r2 => K (0 : Int) r2)
noncomputable def F (a1 : Vec (Vec Int)) (a2 : Vec (ByteArray × Int × Int × (Vec Int))) (a3 : Int) : Option (Int × (Vec (Int × Int × ByteArray))) := B impl_versionsCode.F impl_Weave_annotate.F a1 a2 a3 (fun x1 x2 => some (x1, x2))
def encA (t : Vec (Vec Int) × (Vec (ByteArray × Int × Int × (Vec Int))) × Int) : List AV := [.a [.n (.sl 1 (encRw t.1)), .n (.sl 4 (encRw t.2.1))], .c (.n (.v (.int .i64 t.2.2)))]
def encR (x : Int × (Vec (Int × Int × ByteArray))) : AV × List Ob := (.tup [.c (.h 0), .c (.n (.v (.int .i64 x.1)))], [.row 3 (encRw x.2) []])
theorem encAI : ∀ a b, encA a = encA b → a = b := by
  intro a b h
  obtain ⟨a0, a1, a2⟩ := a
  obtain ⟨b0, b1, b2⟩ := b
  simp [encA, encRw_iff] at h
  simp_all
theorem encRI : ∀ a b, encR a = encR b → a = b := by
  intro a b h
  obtain ⟨a0, a1⟩ := a
  obtain ⟨b0, b1⟩ := b
  simp [encR, encRw_iff] at h
  simp_all
noncomputable def Q (args : List AV) : Option (Int × (Vec (Int × Int × ByteArray))) := ofC encA (fun t => F t.1 t.2.1 t.2.2) args
theorem wrap : (fun (y1 : Vec (Vec Int)) (y2 : Vec (ByteArray × Int × Int × (Vec Int))) (y3 : Int) => Q [.a [.n (.sl 1 (encRw y1)), .n (.sl 4 (encRw y2))], .c (.n (.v (.int .i64 y3)))]) = F := by
  funext y1 y2 y3
  exact ofC_enc encAI _ (y1, y2, y3)
noncomputable def G (q_impl_versionsCode : List AV → Option Int) (q_impl_Weave_annotate : List AV → Option (Vec (Int × Int × ByteArray))) : Orc := ⟨fun f => sel (Nat.beq f 67) 0 (sel (Nat.beq f 68) 0 (9)), fun ρ f args K => sel (Nat.beq f 67) (qEntry impl_versionsCode.encR q_impl_versionsCode args K) (sel (Nat.beq f 68) (qEntry impl_Weave_annotate.encR q_impl_Weave_annotate args K) (Option.none)), noE, false⟩
noncomputable def L : Lor := fun ρ j st K => Option.none
theorem main (q_impl_versionsCode : List AV → Option Int) (q_impl_Weave_annotate : List AV → Option (Vec (Int × Int × ByteArray))) {ρ : Type} (K : AV → List Ob → Option ρ) (a1 : Vec (Vec Int)) (a2 : Vec (ByteArray × Int × Int × (Vec Int))) (a3 : Int) : exC Try.prog (G q_impl_versionsCode q_impl_Weave_annotate) (L) [] 0 (bodyOf Try.f25) (entry 16 [.a [.n (.sl 1 (encRw a1)), .n (.sl 4 (encRw a2))], .c (.n (.v (.int .i64 a3)))] [] []) (finO Try.prog Try.f25.results.toList 0 [] [.ad (.s 4) 40] K) =
    B (fun y1 y2 y3 => q_impl_versionsCode [.a [.n (.sl 1 (encRw y1)), .n (.sl 4 (encRw y2))], .c (.n (.sl 1 (encRw y3)))]) (fun y1 y2 y3 => q_impl_Weave_annotate [.ra [.sl 1 (encRw y1), .sl 4 (encRw y2)], .c (.n (.v (.int .i64 y3)))]) a1 a2 a3 (fun x1 x2 => K (.tup [.c (.h 0), .c (.n (.v (.int .i64 x1)))]) [.row 3 (encRw x2) []]) := by kernel_rfl
theorem Gok : (G impl_versionsCode.Q impl_Weave_annotate.Q).ok Try.prog := ⟨(by
    intro ρ f args K r h
    rcases sel_cases h with ⟨hb, h⟩ | ⟨-, h⟩
    · obtain rfl := beq_nat hb
      exact qEntry_ok impl_versionsCode.ac h
    rcases sel_cases h with ⟨hb, h⟩ | ⟨-, h⟩
    · obtain rfl := beq_nat hb
      exact qEntry_ok impl_Weave_annotate.ac h
    cases h),
  (by
    intro ρ f args K
    simp only [G]
    cases Nat.beq f 67 with
    | true => exact qEntry_nat args K
    | false =>
    simp only [sel]
    cases Nat.beq f 68 with
    | true => exact qEntry_nat args K
    | false =>
    simp only [sel]
    rfl),
  (fun ρ f st caps args dst K r h => (by cases h))⟩
theorem hm : Try.prog.follows .mixedOrders = true := by kernel_rfl
theorem e : atomsL [] 0 (bodyOf Try.f25) = [] := by kernel_rfl
theorem acc (t : Vec (Vec Int) × (Vec (ByteArray × Int × Int × (Vec Int))) × Int) (x : Int × (Vec (Int × Int × ByteArray))) (h : F t.1 t.2.1 t.2.2 = some x) : ACc Try.prog 25 (encA t) [] true [] fun rv obs => (rv, obs) = encR x := by
  refine fun_okc (L := (L)) (jn := []) (cmds := [.ad (.s 4) 40]) (ks := []) (hin := []) (fn := Try.f25) (body := (bodyOf Try.f25)) Gok hm Try.func25 (by kernel_rfl) (by kernel_rfl) (by rw [e]; exact Lor.ok_nil _ _) ?_ h
  refine (main impl_versionsCode.Q impl_Weave_annotate.Q _ t.1 t.2.1 t.2.2).trans ?_
  rw [impl_versionsCode.wrap, impl_Weave_annotate.wrap]
  refine congrArg (fun K => B impl_versionsCode.F impl_Weave_annotate.F t.1 t.2.1 t.2.2 K) ?_
  funext x1 x2
  exact ofC_enc encRI some (x1, x2)
theorem ac0 (t : Vec (Vec Int) × (Vec (ByteArray × Int × Int × (Vec Int))) × Int) (x : Int × (Vec (Int × Int × ByteArray))) (h : F t.1 t.2.1 t.2.2 = some x) : AC Try.prog 25 (encA t) [] true [] fun rv obs => (rv, obs) = encR x := ACc.ac (body := bodyOf Try.f25) Try.func25 (by kernel_rfl) (by kernel_rfl) (acc t x h)
theorem ac (args : List AV) (x : Int × (Vec (Int × Int × ByteArray))) (h : Q args = some x) : AC Try.prog 25 args [] false [] fun rv obs => (rv, obs) = encR x := by
  obtain ⟨t, rfl, h2⟩ := ofC_some h
  refine (ac0 t x h2).flat fun rv obs e => ?_
  obtain rfl : rv = (encR x).1 := congrArg Prod.fst e
  obtain rfl : obs = (encR x).2 := congrArg Prod.snd e
  refine ⟨by simp [encR, AV.Flat, K.Flat, C.Flat], ?_⟩
  intro o ho
  simp only [encR, List.mem_cons, List.not_mem_nil, or_false] at ho
  subst ho
  exact flat_rw rfl _
end impl_Annotate
/-! loop.example/g00073/laws.eqNote -/
namespace laws_eqNote
noncomputable def B {ρ : Type} (a1 : Int) (a2 : Int) (a3 : ByteArray) (a4 : Int) (a5 : Int) (a6 : ByteArray) (K : Bool → Option ρ) : Option ρ :=
  sel ((!decide (a1 = a4))) (K false) (sel ((!decide (a2 = a5))) (K false) (sel ((!decide (a3 = a6))) (K false) (K true)))
noncomputable def F (a1 : Int) (a2 : Int) (a3 : ByteArray) (a4 : Int) (a5 : Int) (a6 : ByteArray) : Option Bool := B a1 a2 a3 a4 a5 a6 (fun x1 => some (x1))
def encA (t : Int × Int × ByteArray × Int × Int × ByteArray) : List AV := [.a [.n (.v (.int .i64 t.1)), .n (.v (.int .i64 t.2.1)), .n (.v (.string t.2.2.1))], .a [.n (.v (.int .i64 t.2.2.2.1)), .n (.v (.int .i64 t.2.2.2.2.1)), .n (.v (.string t.2.2.2.2.2))]]
def encR (x : Bool) : AV × List Ob := (.c (.n (.v (.bool x))), [])
theorem encAI : ∀ a b, encA a = encA b → a = b := by
  intro a b h
  obtain ⟨a0, a1, a2, a3, a4, a5⟩ := a
  obtain ⟨b0, b1, b2, b3, b4, b5⟩ := b
  simp [encA, encRw_iff] at h
  simp_all
theorem encRI : ∀ a b, encR a = encR b → a = b := by
  intro a b h
  simp [encR, encRw_iff] at h
  simp_all
noncomputable def Q (args : List AV) : Option Bool := ofC encA (fun t => F t.1 t.2.1 t.2.2.1 t.2.2.2.1 t.2.2.2.2.1 t.2.2.2.2.2) args
theorem wrap : (fun (y1 : Int) (y2 : Int) (y3 : ByteArray) (y4 : Int) (y5 : Int) (y6 : ByteArray) => Q [.a [.n (.v (.int .i64 y1)), .n (.v (.int .i64 y2)), .n (.v (.string y3))], .a [.n (.v (.int .i64 y4)), .n (.v (.int .i64 y5)), .n (.v (.string y6))]]) = F := by
  funext y1 y2 y3 y4 y5 y6
  exact ofC_enc encAI _ (y1, y2, y3, y4, y5, y6)
noncomputable def G : Orc := ⟨fun f => 9, fun ρ f args K => Option.none, noE, false⟩
noncomputable def L : Lor := fun ρ j st K => Option.none
theorem main {ρ : Type} (K : AV → List Ob → Option ρ) (a1 : Int) (a2 : Int) (a3 : ByteArray) (a4 : Int) (a5 : Int) (a6 : ByteArray) : exC Try.prog (G) (L) [] 0 (bodyOf Try.f69) (entry 20 [.a [.n (.v (.int .i64 a1)), .n (.v (.int .i64 a2)), .n (.v (.string a3))], .a [.n (.v (.int .i64 a4)), .n (.v (.int .i64 a5)), .n (.v (.string a6))]] [] []) (finO Try.prog Try.f69.results.toList 0 [] [] K) =
    B a1 a2 a3 a4 a5 a6 (fun x1 => K (.c (.n (.v (.bool x1)))) []) := by kernel_rfl
theorem Gok : (G).ok Try.prog := ⟨(fun ρ f args K r h => (by cases h)),
  (fun ρ f args K => rfl),
  (fun ρ f st caps args dst K r h => (by cases h))⟩
theorem hm : Try.prog.follows .mixedOrders = true := by kernel_rfl
theorem e : atomsL [] 0 (bodyOf Try.f69) = [] := by kernel_rfl
theorem acc (t : Int × Int × ByteArray × Int × Int × ByteArray) (x : Bool) (h : F t.1 t.2.1 t.2.2.1 t.2.2.2.1 t.2.2.2.2.1 t.2.2.2.2.2 = some x) : ACc Try.prog 69 (encA t) [] true [] fun rv obs => (rv, obs) = encR x := by
  refine fun_okc (L := (L)) (jn := []) (cmds := []) (ks := []) (hin := []) (fn := Try.f69) (body := (bodyOf Try.f69)) Gok hm Try.func69 (by kernel_rfl) (by kernel_rfl) (by rw [e]; exact Lor.ok_nil _ _) ?_ h
  refine (main _ t.1 t.2.1 t.2.2.1 t.2.2.2.1 t.2.2.2.2.1 t.2.2.2.2.2).trans ?_
  refine congrArg (fun K => B t.1 t.2.1 t.2.2.1 t.2.2.2.1 t.2.2.2.2.1 t.2.2.2.2.2 K) ?_
  funext x1
  exact ofC_enc encRI some (x1)
theorem ac0 (t : Int × Int × ByteArray × Int × Int × ByteArray) (x : Bool) (h : F t.1 t.2.1 t.2.2.1 t.2.2.2.1 t.2.2.2.2.1 t.2.2.2.2.2 = some x) : AC Try.prog 69 (encA t) [] true [] fun rv obs => (rv, obs) = encR x := ACc.ac (body := bodyOf Try.f69) Try.func69 (by kernel_rfl) (by kernel_rfl) (acc t x h)
theorem ac (args : List AV) (x : Bool) (h : Q args = some x) : AC Try.prog 69 args [] false [] fun rv obs => (rv, obs) = encR x := by
  obtain ⟨t, rfl, h2⟩ := ofC_some h
  refine (ac0 t x h2).flat fun rv obs e => ?_
  obtain rfl : rv = (encR x).1 := congrArg Prod.fst e
  obtain rfl : obs = (encR x).2 := congrArg Prod.snd e
  refine ⟨by simp [encR, AV.Flat, K.Flat, C.Flat], ?_⟩
  simp [encR]
end laws_eqNote
/-! loop.example/g00073/laws.eqNoteS -/
namespace laws_eqNoteS
noncomputable def B0 {ρ : Type} (C_laws_eqNote : Int → Int → ByteArray → Int → Int → ByteArray → Option Bool) (v1 : Vec (Int × Int × ByteArray)) (v2 : Vec (Int × Int × ByteArray)) (v3 : Int) (W : (Vec (Int × Int × ByteArray)) → (Vec (Int × Int × ByteArray)) → Int → Option ρ) (K0 : Unit → Option ρ) (Kr : Bool → Option ρ) : Option ρ :=
  sel (decide (v3 < (v1.n : Int))) (chk (decide (0 ≤ v3 ∧ v3 < (v1.n : Int))) (chk (decide (0 ≤ v3 ∧ v3 < (v2.n : Int))) ((C_laws_eqNote ((v1.g v3.toNat).1) ((v1.g v3.toNat).2.1) ((v1.g v3.toNat).2.2) ((v2.g v3.toNat).1) ((v2.g v3.toNat).2.1) ((v2.g v3.toNat).2.2)).bind fun r1 => sel ((!r1)) (Kr false) (W v1 v2 (wr (v3 + (1 : Int))))))) (K0 ())
noncomputable def F0 {ρ : Type} : Nat → (Vec (Int × Int × ByteArray)) → (Vec (Int × Int × ByteArray)) → Int → (Unit → Option ρ) → (Bool → Option ρ) → Option ρ
  | 0, _, _, _, _, _ => none
  | k + 1, v1, v2, v3, K0, Kr => B0 laws_eqNote.F v1 v2 v3 (fun v1' v2' v3' => F0 k v1' v2' v3' K0 Kr) K0 Kr
noncomputable def B {ρ : Type} (L0 : (Vec (Int × Int × ByteArray)) → (Vec (Int × Int × ByteArray)) → Int → (Unit → Option ρ) → (Bool → Option ρ) → Option ρ) (a1 : Vec (Int × Int × ByteArray)) (a2 : Vec (Int × Int × ByteArray)) (K : Bool → Option ρ) : Option ρ :=
  sel ((!decide ((a1.n : Int) = (a2.n : Int)))) (K false) (L0 a1 a2 (0 : Int) (fun _ => K true) (fun x01 => K x01))
noncomputable def F (a1 : Vec (Int × Int × ByteArray)) (a2 : Vec (Int × Int × ByteArray)) : Option Bool := B (F0 fuelN) a1 a2 (fun x1 => some (x1))
def encA (t : (Vec (Int × Int × ByteArray)) × (Vec (Int × Int × ByteArray))) : List AV := [.c (.n (.sl 3 (encRw t.1))), .c (.n (.sl 3 (encRw t.2)))]
def encR (x : Bool) : AV × List Ob := (.c (.n (.v (.bool x))), [])
theorem encAI : ∀ a b, encA a = encA b → a = b := by
  intro a b h
  obtain ⟨a0, a1⟩ := a
  obtain ⟨b0, b1⟩ := b
  simp [encA, encRw_iff] at h
  simp_all
theorem encRI : ∀ a b, encR a = encR b → a = b := by
  intro a b h
  simp [encR, encRw_iff] at h
  simp_all
noncomputable def Q (args : List AV) : Option Bool := ofC encA (fun t => F t.1 t.2) args
theorem wrap : (fun (y1 : Vec (Int × Int × ByteArray)) (y2 : Vec (Int × Int × ByteArray)) => Q [.c (.n (.sl 3 (encRw y1))), .c (.n (.sl 3 (encRw y2)))]) = F := by
  funext y1 y2
  exact ofC_enc encAI _ (y1, y2)
noncomputable def G (q_laws_eqNote : List AV → Option Bool) : Orc := ⟨fun f => sel (Nat.beq f 69) 0 (9), fun ρ f args K => sel (Nat.beq f 69) (qEntry laws_eqNote.encR q_laws_eqNote args K) (Option.none), noE, false⟩
noncomputable def L (W0 : (ρ : Type) → List AV → List Ob → (Unit → Option ρ) → (Bool → Option ρ) → Option ρ) : Lor := fun ρ j st K => sel (Nat.beq j 0) (cutO Try.prog 27 [0, 1, 5] 0 [] [] st fun avs obs => W0 ρ avs obs (fun _ => K (.exit 0) (mkS 27 [] [] [] [])) (fun z1 => K .ret (mkS 27 [4] [.c (.n (.v (.bool z1)))] [] []))) (Option.none)
noncomputable def c0 : Code := loopC (atomN [] 0 (bodyOf Try.f26) 0)
def ct0 : Cut := ⟨[0, 1, 5], []⟩
def lv0 : Exit → Cut
  | .exit 0 => ⟨[], []⟩
  | .ret => ⟨[4], []⟩
  | _ => ⟨[], []⟩
theorem step0 (q_laws_eqNote : List AV → Option Bool) (W0 : (ρ : Type) → List AV → List Ob → (Unit → Option ρ) → (Bool → Option ρ) → Option ρ) {ρ : Type} (K : Exit → St → Option ρ) (W : List AV → List Ob → Option ρ) (v1 : Vec (Int × Int × ByteArray)) (v2 : Vec (Int × Int × ByteArray)) (v3 : Int) : exC Try.prog (G q_laws_eqNote) (L W0) [] 1 c0 (mkS 27 [0, 1, 5] [.c (.n (.sl 3 (encRw v1))), .c (.n (.sl 3 (encRw v2))), .c (.n (.v (.int .i64 v3)))] [] []) (bodyK Try.prog 27 0 [] ct0 W lv0 K) =
    B0 (fun y1 y2 y3 y4 y5 y6 => q_laws_eqNote [.a [.n (.v (.int .i64 y1)), .n (.v (.int .i64 y2)), .n (.v (.string y3))], .a [.n (.v (.int .i64 y4)), .n (.v (.int .i64 y5)), .n (.v (.string y6))]]) v1 v2 v3 (fun u1 u2 u3 => W [.c (.n (.sl 3 (encRw u1))), .c (.n (.sl 3 (encRw u2))), .c (.n (.v (.int .i64 u3)))] []) (fun _ => K (.exit 0) (mkS 27 [] [] [] [])) (fun z1 => K .ret (mkS 27 [4] [.c (.n (.v (.bool z1)))] [] [])) := by kernel_rfl
def enc0 (t : (Vec (Int × Int × ByteArray)) × (Vec (Int × Int × ByteArray)) × Int) : List AV × List Ob := ([.c (.n (.sl 3 (encRw t.1))), .c (.n (.sl 3 (encRw t.2.1))), .c (.n (.v (.int .i64 t.2.2)))], [])
theorem enc0I : ∀ a b, enc0 a = enc0 b → a = b := by
  intro a b h
  obtain ⟨a0, a1, a2⟩ := a
  obtain ⟨b0, b1, b2⟩ := b
  simp [enc0, encRw_iff] at h
  simp_all
noncomputable def V0 : (ρ : Type) → List AV → List Ob → (Unit → Option ρ) → (Bool → Option ρ) → Option ρ := fun ρ avs obs k0 kr => ofC enc0 (fun t => F0 fuelN t.1 t.2.1 t.2.2 k0 kr) (avs, obs)
theorem V0_enc (ρ : Type) : (fun w1 w2 w3 k0 kr => V0 ρ [.c (.n (.sl 3 (encRw w1))), .c (.n (.sl 3 (encRw w2))), .c (.n (.v (.int .i64 w3)))] [] k0 kr) = F0 fuelN := by
  funext w1 w2 w3 k0 kr
  exact ofC_enc enc0I _ (w1, w2, w3)
theorem main (q_laws_eqNote : List AV → Option Bool) (W0 : (ρ : Type) → List AV → List Ob → (Unit → Option ρ) → (Bool → Option ρ) → Option ρ) {ρ : Type} (K : AV → List Ob → Option ρ) (a1 : Vec (Int × Int × ByteArray)) (a2 : Vec (Int × Int × ByteArray)) : exC Try.prog (G q_laws_eqNote) (L W0) [] 0 (bodyOf Try.f26) (entry 27 [.c (.n (.sl 3 (encRw a1))), .c (.n (.sl 3 (encRw a2)))] [] []) (finO Try.prog Try.f26.results.toList 0 [] [] K) =
    B (fun w1 w2 w3 k0 kr => W0 ρ [.c (.n (.sl 3 (encRw w1))), .c (.n (.sl 3 (encRw w2))), .c (.n (.v (.int .i64 w3)))] [] k0 kr) a1 a2 (fun x1 => K (.c (.n (.v (.bool x1)))) []) := by kernel_rfl
theorem Gok : (G laws_eqNote.Q).ok Try.prog := ⟨(by
    intro ρ f args K r h
    rcases sel_cases h with ⟨hb, h⟩ | ⟨-, h⟩
    · obtain rfl := beq_nat hb
      exact qEntry_ok laws_eqNote.ac h
    cases h),
  (by
    intro ρ f args K
    simp only [G]
    cases Nat.beq f 69 with
    | true => exact qEntry_nat args K
    | false =>
    simp only [sel]
    rfl),
  (fun ρ f st caps args dst K r h => (by cases h))⟩
theorem hm : Try.prog.follows .mixedOrders = true := by kernel_rfl
theorem e0 : atomsL [] 1 c0 = [] := by kernel_rfl
theorem ok0 (ρ : Type) (st : St) (K : Exit → St → Option ρ) (r : ρ) (h : (L V0) ρ 0 st K = some r) : AW Try.prog (.loop c0) st fun e st' => K e st' = some r := by
  refine loop_ok (ct := ct0) (lv := lv0) (n := 27) (m := 0) (ks := []) (j := 0) (jn := []) (L := (L V0)) Gok hm (by rw [e0]; exact Lor.ok_nil _ _) enc0I (fun k t => F0 k t.1 t.2.1 t.2.2 (fun _ => K (.exit 0) (mkS 27 [] [] [] [])) (fun z1 => K .ret (mkS 27 [4] [.c (.n (.v (.bool z1)))] [] []))) (fun t => rfl) (fun k t => ?_) (fun _ => fuelN) h
  refine (step0 laws_eqNote.Q V0 K _ t.1 t.2.1 t.2.2).trans ?_
  rw [laws_eqNote.wrap]
  refine congrArg (fun W => B0 laws_eqNote.F t.1 t.2.1 t.2.2 W (fun _ => K (.exit 0) (mkS 27 [] [] [] [])) (fun z1 => K .ret (mkS 27 [4] [.c (.n (.v (.bool z1)))] [] []))) ?_
  funext u1 u2 u3
  exact ofC_enc enc0I _ (u1, u2, u3)
theorem e : atomsL [] 0 (bodyOf Try.f26) = [(0, 0, .loop c0)] := by kernel_rfl
theorem acc (t : (Vec (Int × Int × ByteArray)) × (Vec (Int × Int × ByteArray))) (x : Bool) (h : F t.1 t.2 = some x) : ACc Try.prog 26 (encA t) [] true [] fun rv obs => (rv, obs) = encR x := by
  refine fun_okc (L := (L V0)) (jn := []) (cmds := []) (ks := []) (hin := []) (fn := Try.f26) (body := (bodyOf Try.f26)) Gok hm Try.func26 (by kernel_rfl) (by kernel_rfl) (by rw [e]; exact Lor.ok_cons ok0 (Lor.ok_nil _ _)) ?_ h
  refine (main laws_eqNote.Q V0 _ t.1 t.2).trans ?_
  rw [V0_enc]
  refine congrArg (fun K => B (F0 fuelN) t.1 t.2 K) ?_
  funext x1
  exact ofC_enc encRI some (x1)
theorem ac0 (t : (Vec (Int × Int × ByteArray)) × (Vec (Int × Int × ByteArray))) (x : Bool) (h : F t.1 t.2 = some x) : AC Try.prog 26 (encA t) [] true [] fun rv obs => (rv, obs) = encR x := ACc.ac (body := bodyOf Try.f26) Try.func26 (by kernel_rfl) (by kernel_rfl) (acc t x h)
theorem ac (args : List AV) (x : Bool) (h : Q args = some x) : AC Try.prog 26 args [] false [] fun rv obs => (rv, obs) = encR x := by
  obtain ⟨t, rfl, h2⟩ := ofC_some h
  refine (ac0 t x h2).flat fun rv obs e => ?_
  obtain rfl : rv = (encR x).1 := congrArg Prod.fst e
  obtain rfl : obs = (encR x).2 := congrArg Prod.snd e
  refine ⟨by simp [encR, AV.Flat, K.Flat, C.Flat], ?_⟩
  simp [encR]
end laws_eqNoteS
/-! loop.example/g00073/laws.markIntS -/
namespace laws_markIntS_s68b2
noncomputable def B0 {ρ : Type} (v1 : Int) (v2 : Int) (v3 : Vec Int) (W : Int → Int → (Vec Int) → Option ρ) (K0 : Int → (Vec Int) → Option ρ) : Option ρ :=
  sel (decide (v2 < (v3.n : Int))) (chk (decide (0 ≤ v2 ∧ v2 < (v3.n : Int))) (chk (decide (v2.toNat < v3.n)) (W (wr (v1 + (1 : Int))) (wr (v2 + (1 : Int))) (Vec.set v3 v2.toNat v1)))) (K0 v1 v3)
noncomputable def F0 {ρ : Type} : Nat → Int → Int → (Vec Int) → (Int → (Vec Int) → Option ρ) → Option ρ
  | 0, _, _, _, _ => none
  | k + 1, v1, v2, v3, K0 => B0 v1 v2 v3 (fun v1' v2' v3' => F0 k v1' v2' v3' K0) K0
noncomputable def B {ρ : Type} (L0 : Int → Int → (Vec Int) → (Int → (Vec Int) → Option ρ) → Option ρ) (a1 : Int) (a2 : Vec Int) (K : Int → (Vec Int) → Option ρ) : Option ρ :=
  L0 a1 (0 : Int) a2 (fun e01 e02 => K e01 e02)
noncomputable def F (a1 : Int) (a2 : Vec Int) : Option (Int × Vec Int) := B (F0 fuelN) a1 a2 (fun x1 x2 => some (x1, x2))
def encA (t : Int × Vec Int) : List AV × List Ob := ([.c (.h 0), .c (.n (.v (.int .i64 t.1)))], [.row 1 (encRw t.2) []])
def encR (x : Int × Vec Int) : AV × List Ob := (.c (.n (.v (.int .i64 x.1))), [.row 1 (encRw x.2) []])
theorem encAI : ∀ a b, encA a = encA b → a = b := by
  intro a b h
  obtain ⟨a0, a1⟩ := a
  obtain ⟨b0, b1⟩ := b
  simp [encA, encRw_iff] at h
  simp_all
theorem encRI : ∀ a b, encR a = encR b → a = b := by
  intro a b h
  obtain ⟨a0, a1⟩ := a
  obtain ⟨b0, b1⟩ := b
  simp [encR, encRw_iff] at h
  simp_all
noncomputable def Q (args : List AV) (hin : List Ob) : Option (Int × Vec Int) := ofC encA (fun t => F t.1 t.2) (args, hin)
theorem wrap : (fun (y1 : Int) (y2 : Vec Int) => Q [.c (.h 0), .c (.n (.v (.int .i64 y1)))] [.row 1 (encRw y2) []]) = F := by
  funext y1 y2
  exact ofC_enc encAI _ (y1, y2)
noncomputable def G : Orc := ⟨fun f => 9, fun ρ f args K => Option.none, noE, false⟩
noncomputable def L (W0 : (ρ : Type) → List AV → List Ob → (Int → (Vec Int) → Option ρ) → Option ρ) : Lor := fun ρ j st K => sel (Nat.beq j 0) (cutO Try.prog 19 [0, 1, 5] 1 [true] [] st fun avs obs => W0 ρ avs obs (fun z1 z2 => K (.exit 0) (mkS 19 [1] [.c (.n (.v (.int .i64 z1)))] [.row 1 (encRw z2) []] [true]))) (Option.none)
noncomputable def c0 : Code := loopC (atomN [] 0 (bodyOf Try.f62) 0)
def ct0 : Cut := ⟨[0, 1, 5], []⟩
def lv0 : Exit → Cut
  | .exit 0 => ⟨[1], []⟩
  | _ => ⟨[], []⟩
theorem step0 (W0 : (ρ : Type) → List AV → List Ob → (Int → (Vec Int) → Option ρ) → Option ρ) {ρ : Type} (K : Exit → St → Option ρ) (W : List AV → List Ob → Option ρ) (v1 : Int) (v2 : Int) (v3 : Vec Int) : exC Try.prog (G) (L W0) [] 1 c0 (mkS 19 [0, 1, 5] [.c (.h 0), .c (.n (.v (.int .i64 v1))), .c (.n (.v (.int .i64 v2)))] [.row 1 (encRw v3) []] [true]) (bodyK Try.prog 19 1 [true] ct0 W lv0 K) =
    B0 v1 v2 v3 (fun u1 u2 u3 => W [.c (.h 0), .c (.n (.v (.int .i64 u1))), .c (.n (.v (.int .i64 u2)))] [.row 1 (encRw u3) []]) (fun z1 z2 => K (.exit 0) (mkS 19 [1] [.c (.n (.v (.int .i64 z1)))] [.row 1 (encRw z2) []] [true])) := by kernel_rfl
def enc0 (t : Int × Int × Vec Int) : List AV × List Ob := ([.c (.h 0), .c (.n (.v (.int .i64 t.1))), .c (.n (.v (.int .i64 t.2.1)))], [.row 1 (encRw t.2.2) []])
theorem enc0I : ∀ a b, enc0 a = enc0 b → a = b := by
  intro a b h
  obtain ⟨a0, a1, a2⟩ := a
  obtain ⟨b0, b1, b2⟩ := b
  simp [enc0, encRw_iff] at h
  simp_all
noncomputable def V0 : (ρ : Type) → List AV → List Ob → (Int → (Vec Int) → Option ρ) → Option ρ := fun ρ avs obs k0 => ofC enc0 (fun t => F0 fuelN t.1 t.2.1 t.2.2 k0) (avs, obs)
theorem V0_enc (ρ : Type) : (fun w1 w2 w3 k0 => V0 ρ [.c (.h 0), .c (.n (.v (.int .i64 w1))), .c (.n (.v (.int .i64 w2)))] [.row 1 (encRw w3) []] k0) = F0 fuelN := by
  funext w1 w2 w3 k0
  exact ofC_enc enc0I _ (w1, w2, w3)
theorem main (W0 : (ρ : Type) → List AV → List Ob → (Int → (Vec Int) → Option ρ) → Option ρ) {ρ : Type} (K : AV → List Ob → Option ρ) (a1 : Int) (a2 : Vec Int) : exC Try.prog (G) (L W0) [] 0 (bodyOf Try.f62) (entry 19 [.c (.h 0), .c (.n (.v (.int .i64 a1)))] [.row 1 (encRw a2) []] [true]) (finO Try.prog Try.f62.results.toList 1 [true] [] K) =
    B (fun w1 w2 w3 k0 => W0 ρ [.c (.h 0), .c (.n (.v (.int .i64 w1))), .c (.n (.v (.int .i64 w2)))] [.row 1 (encRw w3) []] k0) a1 a2 (fun x1 x2 => K (.c (.n (.v (.int .i64 x1)))) [.row 1 (encRw x2) []]) := by kernel_rfl
theorem Gok : (G).ok Try.prog := ⟨(fun ρ f args K r h => (by cases h)),
  (fun ρ f args K => rfl),
  (fun ρ f st caps args dst K r h => (by cases h))⟩
theorem hm : Try.prog.follows .mixedOrders = true := by kernel_rfl
theorem e0 : atomsL [] 1 c0 = [] := by kernel_rfl
theorem ok0 (ρ : Type) (st : St) (K : Exit → St → Option ρ) (r : ρ) (h : (L V0) ρ 0 st K = some r) : AW Try.prog (.loop c0) st fun e st' => K e st' = some r := by
  refine loop_ok (ct := ct0) (lv := lv0) (n := 19) (m := 1) (ks := [true]) (j := 0) (jn := []) (L := (L V0)) Gok hm (by rw [e0]; exact Lor.ok_nil _ _) enc0I (fun k t => F0 k t.1 t.2.1 t.2.2 (fun z1 z2 => K (.exit 0) (mkS 19 [1] [.c (.n (.v (.int .i64 z1)))] [.row 1 (encRw z2) []] [true]))) (fun t => rfl) (fun k t => ?_) (fun _ => fuelN) h
  refine (step0 V0 K _ t.1 t.2.1 t.2.2).trans ?_
  refine congrArg (fun W => B0 t.1 t.2.1 t.2.2 W (fun z1 z2 => K (.exit 0) (mkS 19 [1] [.c (.n (.v (.int .i64 z1)))] [.row 1 (encRw z2) []] [true]))) ?_
  funext u1 u2 u3
  exact ofC_enc enc0I _ (u1, u2, u3)
theorem e : atomsL [] 0 (bodyOf Try.f62) = [(0, 0, .loop c0)] := by kernel_rfl
theorem acc (t : Int × Vec Int) (x : Int × Vec Int) (h : F t.1 t.2 = some x) : ACc Try.prog 62 (encA t).1 (encA t).2 true [true] fun rv obs => (rv, obs) = encR x := by
  refine fun_okc (L := (L V0)) (jn := []) (cmds := []) (ks := [true]) (hin := (encA t).2) (fn := Try.f62) (body := (bodyOf Try.f62)) Gok hm Try.func62 (by kernel_rfl) (by kernel_rfl) (by rw [e]; exact Lor.ok_cons ok0 (Lor.ok_nil _ _)) ?_ h
  refine (main V0 _ t.1 t.2).trans ?_
  rw [V0_enc]
  refine congrArg (fun K => B (F0 fuelN) t.1 t.2 K) ?_
  funext x1 x2
  exact ofC_enc encRI some (x1, x2)
theorem ac0 (t : Int × Vec Int) (x : Int × Vec Int) (h : F t.1 t.2 = some x) : AC Try.prog 62 (encA t).1 (encA t).2 true [true] fun rv obs => (rv, obs) = encR x := ACc.ac (body := bodyOf Try.f62) Try.func62 (by kernel_rfl) (by kernel_rfl) (acc t x h)
theorem ac (args : List AV) (hin : List Ob) (x : Int × Vec Int) (h : Q args hin = some x) : AC Try.prog 62 args hin false [true] fun rv obs => (rv, obs) = encR x := by
  obtain ⟨t, he, h2⟩ := ofC_some h
  obtain rfl : args = (encA t).1 := (congrArg Prod.fst he).symm
  obtain rfl : hin = (encA t).2 := (congrArg Prod.snd he).symm
  refine (ac0 t x h2).flat fun rv obs e => ?_
  obtain rfl : rv = (encR x).1 := congrArg Prod.fst e
  obtain rfl : obs = (encR x).2 := congrArg Prod.snd e
  refine ⟨by simp [encR, AV.Flat, K.Flat, C.Flat], ?_⟩
  intro o ho
  simp only [encR, List.mem_cons, List.not_mem_nil, or_false] at ho
  subst ho
  exact flat_rw rfl _
end laws_markIntS_s68b2
/-! loop.example/g00073/laws.markIntSS -/
namespace laws_markIntSS_s45a1
noncomputable def B0 {ρ : Type} (C_laws_markIntS_s68b2 : Int → (Vec Int) → Option (Int × Vec Int)) (v1 : Int) (v2 : Int) (v3 : Vec (Vec Int)) (W : Int → Int → (Vec (Vec Int)) → Option ρ) (K0 : Int → (Vec (Vec Int)) → Option ρ) : Option ρ :=
  sel (decide (v2 < (v3.n : Int))) (chk (decide (0 ≤ v2 ∧ v2 < (v3.n : Int))) (chk (decide (v2.toNat < v3.n)) ((C_laws_markIntS_s68b2 v1 (v3.g v2.toNat)).bind fun r1 => W r1.1 (wr (v2 + (1 : Int))) (Vec.set v3 v2.toNat r1.2)))) (K0 v1 v3)
noncomputable def F0 {ρ : Type} : Nat → Int → Int → (Vec (Vec Int)) → (Int → (Vec (Vec Int)) → Option ρ) → Option ρ
  | 0, _, _, _, _ => none
  | k + 1, v1, v2, v3, K0 => B0 laws_markIntS_s68b2.F v1 v2 v3 (fun v1' v2' v3' => F0 k v1' v2' v3' K0) K0
noncomputable def B {ρ : Type} (L0 : Int → Int → (Vec (Vec Int)) → (Int → (Vec (Vec Int)) → Option ρ) → Option ρ) (a1 : Int) (a2 : Vec (Vec Int)) (K : Int → (Vec (Vec Int)) → Option ρ) : Option ρ :=
  L0 a1 (0 : Int) a2 (fun e01 e02 => K e01 e02)
noncomputable def F (a1 : Int) (a2 : Vec (Vec Int)) : Option (Int × Vec (Vec Int)) := B (F0 fuelN) a1 a2 (fun x1 x2 => some (x1, x2))
def encA (t : Int × Vec (Vec Int)) : List AV × List Ob := ([.c (.h 0), .c (.n (.v (.int .i64 t.1)))], [.row 1 (encRw t.2) []])
def encR (x : Int × Vec (Vec Int)) : AV × List Ob := (.c (.n (.v (.int .i64 x.1))), [.row 1 (encRw x.2) []])
theorem encAI : ∀ a b, encA a = encA b → a = b := by
  intro a b h
  obtain ⟨a0, a1⟩ := a
  obtain ⟨b0, b1⟩ := b
  simp [encA, encRw_iff] at h
  simp_all
theorem encRI : ∀ a b, encR a = encR b → a = b := by
  intro a b h
  obtain ⟨a0, a1⟩ := a
  obtain ⟨b0, b1⟩ := b
  simp [encR, encRw_iff] at h
  simp_all
noncomputable def Q (args : List AV) (hin : List Ob) : Option (Int × Vec (Vec Int)) := ofC encA (fun t => F t.1 t.2) (args, hin)
theorem wrap : (fun (y1 : Int) (y2 : Vec (Vec Int)) => Q [.c (.h 0), .c (.n (.v (.int .i64 y1)))] [.row 1 (encRw y2) []]) = F := by
  funext y1 y2
  exact ofC_enc encAI _ (y1, y2)
noncomputable def G (q_laws_markIntS_s68b2 : List AV → List Ob → Option (Int × Vec Int)) : Orc := ⟨fun f => 9, fun ρ f args K => Option.none, fun ρ f st args dst K => sel (Nat.beq f 62) (callE Try.prog 62 [true, false] false [true] laws_markIntS_s68b2.encR q_laws_markIntS_s68b2 st args dst K) (Option.none), true⟩
noncomputable def L (W0 : (ρ : Type) → List AV → List Ob → (Int → (Vec (Vec Int)) → Option ρ) → Option ρ) : Lor := fun ρ j st K => sel (Nat.beq j 0) (cutO Try.prog 19 [0, 1, 5] 1 [true] [] st fun avs obs => W0 ρ avs obs (fun z1 z2 => K (.exit 0) (mkS 19 [1] [.c (.n (.v (.int .i64 z1)))] [.row 1 (encRw z2) []] [true]))) (Option.none)
noncomputable def c0 : Code := loopC (atomN [] 0 (bodyOf Try.f22) 0)
def ct0 : Cut := ⟨[0, 1, 5], []⟩
def lv0 : Exit → Cut
  | .exit 0 => ⟨[1], []⟩
  | _ => ⟨[], []⟩
theorem step0 (q_laws_markIntS_s68b2 : List AV → List Ob → Option (Int × Vec Int)) (W0 : (ρ : Type) → List AV → List Ob → (Int → (Vec (Vec Int)) → Option ρ) → Option ρ) {ρ : Type} (K : Exit → St → Option ρ) (W : List AV → List Ob → Option ρ) (v1 : Int) (v2 : Int) (v3 : Vec (Vec Int)) : exC Try.prog (G q_laws_markIntS_s68b2) (L W0) [] 1 c0 (mkS 19 [0, 1, 5] [.c (.h 0), .c (.n (.v (.int .i64 v1))), .c (.n (.v (.int .i64 v2)))] [.row 1 (encRw v3) []] [true]) (bodyK Try.prog 19 1 [true] ct0 W lv0 K) =
    B0 (fun y1 y2 => q_laws_markIntS_s68b2 [.c (.h 0), .c (.n (.v (.int .i64 y1)))] [.row 1 (encRw y2) []]) v1 v2 v3 (fun u1 u2 u3 => W [.c (.h 0), .c (.n (.v (.int .i64 u1))), .c (.n (.v (.int .i64 u2)))] [.row 1 (encRw u3) []]) (fun z1 z2 => K (.exit 0) (mkS 19 [1] [.c (.n (.v (.int .i64 z1)))] [.row 1 (encRw z2) []] [true])) := by kernel_rfl
def enc0 (t : Int × Int × Vec (Vec Int)) : List AV × List Ob := ([.c (.h 0), .c (.n (.v (.int .i64 t.1))), .c (.n (.v (.int .i64 t.2.1)))], [.row 1 (encRw t.2.2) []])
theorem enc0I : ∀ a b, enc0 a = enc0 b → a = b := by
  intro a b h
  obtain ⟨a0, a1, a2⟩ := a
  obtain ⟨b0, b1, b2⟩ := b
  simp [enc0, encRw_iff] at h
  simp_all
noncomputable def V0 : (ρ : Type) → List AV → List Ob → (Int → (Vec (Vec Int)) → Option ρ) → Option ρ := fun ρ avs obs k0 => ofC enc0 (fun t => F0 fuelN t.1 t.2.1 t.2.2 k0) (avs, obs)
theorem V0_enc (ρ : Type) : (fun w1 w2 w3 k0 => V0 ρ [.c (.h 0), .c (.n (.v (.int .i64 w1))), .c (.n (.v (.int .i64 w2)))] [.row 1 (encRw w3) []] k0) = F0 fuelN := by
  funext w1 w2 w3 k0
  exact ofC_enc enc0I _ (w1, w2, w3)
theorem main (q_laws_markIntS_s68b2 : List AV → List Ob → Option (Int × Vec Int)) (W0 : (ρ : Type) → List AV → List Ob → (Int → (Vec (Vec Int)) → Option ρ) → Option ρ) {ρ : Type} (K : AV → List Ob → Option ρ) (a1 : Int) (a2 : Vec (Vec Int)) : exC Try.prog (G q_laws_markIntS_s68b2) (L W0) [] 0 (bodyOf Try.f22) (entry 19 [.c (.h 0), .c (.n (.v (.int .i64 a1)))] [.row 1 (encRw a2) []] [true]) (finO Try.prog Try.f22.results.toList 1 [true] [] K) =
    B (fun w1 w2 w3 k0 => W0 ρ [.c (.h 0), .c (.n (.v (.int .i64 w1))), .c (.n (.v (.int .i64 w2)))] [.row 1 (encRw w3) []] k0) a1 a2 (fun x1 x2 => K (.c (.n (.v (.int .i64 x1)))) [.row 1 (encRw x2) []]) := by kernel_rfl
theorem Gok : (G laws_markIntS_s68b2.Q).ok Try.prog := ⟨(fun ρ f args K r h => (by cases h)),
  (fun ρ f args K => rfl),
  (by
    intro ρ f st caps args dst K r h
    rcases sel_cases h with ⟨hb, h⟩ | ⟨-, h⟩
    · obtain rfl := beq_nat hb
      exact callE_ok (fun h => by cases h) laws_markIntS_s68b2.ac h
    cases h)⟩
theorem hm : Try.prog.follows .mixedOrders = true := by kernel_rfl
theorem e0 : atomsL [] 1 c0 = [] := by kernel_rfl
theorem ok0 (ρ : Type) (st : St) (K : Exit → St → Option ρ) (r : ρ) (h : (L V0) ρ 0 st K = some r) : AW Try.prog (.loop c0) st fun e st' => K e st' = some r := by
  refine loop_ok (ct := ct0) (lv := lv0) (n := 19) (m := 1) (ks := [true]) (j := 0) (jn := []) (L := (L V0)) Gok hm (by rw [e0]; exact Lor.ok_nil _ _) enc0I (fun k t => F0 k t.1 t.2.1 t.2.2 (fun z1 z2 => K (.exit 0) (mkS 19 [1] [.c (.n (.v (.int .i64 z1)))] [.row 1 (encRw z2) []] [true]))) (fun t => rfl) (fun k t => ?_) (fun _ => fuelN) h
  refine (step0 laws_markIntS_s68b2.Q V0 K _ t.1 t.2.1 t.2.2).trans ?_
  rw [laws_markIntS_s68b2.wrap]
  refine congrArg (fun W => B0 laws_markIntS_s68b2.F t.1 t.2.1 t.2.2 W (fun z1 z2 => K (.exit 0) (mkS 19 [1] [.c (.n (.v (.int .i64 z1)))] [.row 1 (encRw z2) []] [true]))) ?_
  funext u1 u2 u3
  exact ofC_enc enc0I _ (u1, u2, u3)
theorem e : atomsL [] 0 (bodyOf Try.f22) = [(0, 0, .loop c0)] := by kernel_rfl
theorem acc (t : Int × Vec (Vec Int)) (x : Int × Vec (Vec Int)) (h : F t.1 t.2 = some x) : ACc Try.prog 22 (encA t).1 (encA t).2 true [true] fun rv obs => (rv, obs) = encR x := by
  refine fun_okc (L := (L V0)) (jn := []) (cmds := []) (ks := [true]) (hin := (encA t).2) (fn := Try.f22) (body := (bodyOf Try.f22)) Gok hm Try.func22 (by kernel_rfl) (by kernel_rfl) (by rw [e]; exact Lor.ok_cons ok0 (Lor.ok_nil _ _)) ?_ h
  refine (main laws_markIntS_s68b2.Q V0 _ t.1 t.2).trans ?_
  rw [V0_enc]
  refine congrArg (fun K => B (F0 fuelN) t.1 t.2 K) ?_
  funext x1 x2
  exact ofC_enc encRI some (x1, x2)
theorem ac0 (t : Int × Vec (Vec Int)) (x : Int × Vec (Vec Int)) (h : F t.1 t.2 = some x) : AC Try.prog 22 (encA t).1 (encA t).2 true [true] fun rv obs => (rv, obs) = encR x := ACc.ac (body := bodyOf Try.f22) Try.func22 (by kernel_rfl) (by kernel_rfl) (acc t x h)
theorem ac (args : List AV) (hin : List Ob) (x : Int × Vec (Vec Int)) (h : Q args hin = some x) : AC Try.prog 22 args hin false [true] fun rv obs => (rv, obs) = encR x := by
  obtain ⟨t, he, h2⟩ := ofC_some h
  obtain rfl : args = (encA t).1 := (congrArg Prod.fst he).symm
  obtain rfl : hin = (encA t).2 := (congrArg Prod.snd he).symm
  refine (ac0 t x h2).flat fun rv obs e => ?_
  obtain rfl : rv = (encR x).1 := congrArg Prod.fst e
  obtain rfl : obs = (encR x).2 := congrArg Prod.snd e
  refine ⟨by simp [encR, AV.Flat, K.Flat, C.Flat], ?_⟩
  intro o ho
  simp only [encR, List.mem_cons, List.not_mem_nil, or_false] at ho
  subst ho
  exact flat_rw rfl _
end laws_markIntSS_s45a1
/-! loop.example/g00073/laws.markText -/
namespace laws_markText
noncomputable def B0 {ρ : Type} (v1 : Int) (v2 : ByteArray) (W : Int → ByteArray → Option ρ) (K0 : ByteArray → Option ρ) : Option ρ :=
  sel (decide ((0 : Int) < v1)) (chk (okBytes (Vec.lit [⟨(IntKind.wrap .u8 (wr ((48 : Int) + (Int.tmod v1 (10 : Int)))))⟩] : Vec (IK .u8))) (chk (decide ((toBytes (Vec.lit [⟨(IntKind.wrap .u8 (wr ((48 : Int) + (Int.tmod v1 (10 : Int)))))⟩] : Vec (IK .u8))).size + v2.size ≤ maxN)) (W (wr (Int.tdiv v1 (10 : Int))) ((toBytes (Vec.lit [⟨(IntKind.wrap .u8 (wr ((48 : Int) + (Int.tmod v1 (10 : Int)))))⟩] : Vec (IK .u8))) ++ v2)))) (K0 v2)
noncomputable def F0 {ρ : Type} : Nat → Int → ByteArray → (ByteArray → Option ρ) → Option ρ
  | 0, _, _, _ => none
  | k + 1, v1, v2, K0 => B0 v1 v2 (fun v1' v2' => F0 k v1' v2' K0) K0
noncomputable def B {ρ : Type} (L0 : Int → ByteArray → (ByteArray → Option ρ) → Option ρ) (a1 : Int) (K : ByteArray → Option ρ) : Option ρ :=
  sel (decide (a1 ≤ (0 : Int))) (K (ByteArray.mk #[109, 48])) (L0 a1 ByteArray.empty (fun e01 => chk (decide ((ByteArray.mk #[109]).size + e01.size ≤ maxN)) (K ((ByteArray.mk #[109]) ++ e01))))
noncomputable def F (a1 : Int) : Option ByteArray := B (F0 fuelN) a1 (fun x1 => some (x1))
def encA (t : Int) : List AV := [.c (.n (.v (.int .i64 t)))]
def encR (x : ByteArray) : AV × List Ob := (.c (.n (.v (.string x))), [])
theorem encAI : ∀ a b, encA a = encA b → a = b := by
  intro a b h
  simp [encA, encRw_iff] at h
  simp_all
theorem encRI : ∀ a b, encR a = encR b → a = b := by
  intro a b h
  simp [encR, encRw_iff] at h
  simp_all
noncomputable def Q (args : List AV) : Option ByteArray := ofC encA (fun t => F t) args
theorem wrap : (fun (y1 : Int) => Q [.c (.n (.v (.int .i64 y1)))]) = F := by
  funext y1
  exact ofC_enc encAI _ (y1)
noncomputable def G : Orc := ⟨fun f => 9, fun ρ f args K => Option.none, noE, false⟩
noncomputable def L (W0 : (ρ : Type) → List AV → List Ob → (ByteArray → Option ρ) → Option ρ) : Lor := fun ρ j st K => sel (Nat.beq j 0) (cutO Try.prog 20 [0, 3] 0 [] [] st fun avs obs => W0 ρ avs obs (fun z1 => K (.exit 0) (mkS 20 [3] [.c (.n (.v (.string z1)))] [] []))) (Option.none)
noncomputable def c0 : Code := loopC (atomN [] 0 (bodyOf Try.f70) 0)
def ct0 : Cut := ⟨[0, 3], []⟩
def lv0 : Exit → Cut
  | .exit 0 => ⟨[3], []⟩
  | _ => ⟨[], []⟩
theorem step0 (W0 : (ρ : Type) → List AV → List Ob → (ByteArray → Option ρ) → Option ρ) {ρ : Type} (K : Exit → St → Option ρ) (W : List AV → List Ob → Option ρ) (v1 : Int) (v2 : ByteArray) : exC Try.prog (G) (L W0) [] 1 c0 (mkS 20 [0, 3] [.c (.n (.v (.int .i64 v1))), .c (.n (.v (.string v2)))] [] []) (bodyK Try.prog 20 0 [] ct0 W lv0 K) =
    B0 v1 v2 (fun u1 u2 => W [.c (.n (.v (.int .i64 u1))), .c (.n (.v (.string u2)))] []) (fun z1 => K (.exit 0) (mkS 20 [3] [.c (.n (.v (.string z1)))] [] [])) := by kernel_rfl
def enc0 (t : Int × ByteArray) : List AV × List Ob := ([.c (.n (.v (.int .i64 t.1))), .c (.n (.v (.string t.2)))], [])
theorem enc0I : ∀ a b, enc0 a = enc0 b → a = b := by
  intro a b h
  obtain ⟨a0, a1⟩ := a
  obtain ⟨b0, b1⟩ := b
  simp [enc0, encRw_iff] at h
  simp_all
noncomputable def V0 : (ρ : Type) → List AV → List Ob → (ByteArray → Option ρ) → Option ρ := fun ρ avs obs k0 => ofC enc0 (fun t => F0 fuelN t.1 t.2 k0) (avs, obs)
theorem V0_enc (ρ : Type) : (fun w1 w2 k0 => V0 ρ [.c (.n (.v (.int .i64 w1))), .c (.n (.v (.string w2)))] [] k0) = F0 fuelN := by
  funext w1 w2 k0
  exact ofC_enc enc0I _ (w1, w2)
theorem main (W0 : (ρ : Type) → List AV → List Ob → (ByteArray → Option ρ) → Option ρ) {ρ : Type} (K : AV → List Ob → Option ρ) (a1 : Int) : exC Try.prog (G) (L W0) [] 0 (bodyOf Try.f70) (entry 20 [.c (.n (.v (.int .i64 a1)))] [] []) (finO Try.prog Try.f70.results.toList 0 [] [] K) =
    B (fun w1 w2 k0 => W0 ρ [.c (.n (.v (.int .i64 w1))), .c (.n (.v (.string w2)))] [] k0) a1 (fun x1 => K (.c (.n (.v (.string x1)))) []) := by kernel_rfl
theorem Gok : (G).ok Try.prog := ⟨(fun ρ f args K r h => (by cases h)),
  (fun ρ f args K => rfl),
  (fun ρ f st caps args dst K r h => (by cases h))⟩
theorem hm : Try.prog.follows .mixedOrders = true := by kernel_rfl
theorem e0 : atomsL [] 1 c0 = [] := by kernel_rfl
theorem ok0 (ρ : Type) (st : St) (K : Exit → St → Option ρ) (r : ρ) (h : (L V0) ρ 0 st K = some r) : AW Try.prog (.loop c0) st fun e st' => K e st' = some r := by
  refine loop_ok (ct := ct0) (lv := lv0) (n := 20) (m := 0) (ks := []) (j := 0) (jn := []) (L := (L V0)) Gok hm (by rw [e0]; exact Lor.ok_nil _ _) enc0I (fun k t => F0 k t.1 t.2 (fun z1 => K (.exit 0) (mkS 20 [3] [.c (.n (.v (.string z1)))] [] []))) (fun t => rfl) (fun k t => ?_) (fun _ => fuelN) h
  refine (step0 V0 K _ t.1 t.2).trans ?_
  refine congrArg (fun W => B0 t.1 t.2 W (fun z1 => K (.exit 0) (mkS 20 [3] [.c (.n (.v (.string z1)))] [] []))) ?_
  funext u1 u2
  exact ofC_enc enc0I _ (u1, u2)
theorem e : atomsL [] 0 (bodyOf Try.f70) = [(0, 0, .loop c0)] := by kernel_rfl
theorem acc (t : Int) (x : ByteArray) (h : F t = some x) : ACc Try.prog 70 (encA t) [] true [] fun rv obs => (rv, obs) = encR x := by
  refine fun_okc (L := (L V0)) (jn := []) (cmds := []) (ks := []) (hin := []) (fn := Try.f70) (body := (bodyOf Try.f70)) Gok hm Try.func70 (by kernel_rfl) (by kernel_rfl) (by rw [e]; exact Lor.ok_cons ok0 (Lor.ok_nil _ _)) ?_ h
  refine (main V0 _ t).trans ?_
  rw [V0_enc]
  refine congrArg (fun K => B (F0 fuelN) t K) ?_
  funext x1
  exact ofC_enc encRI some (x1)
theorem ac0 (t : Int) (x : ByteArray) (h : F t = some x) : AC Try.prog 70 (encA t) [] true [] fun rv obs => (rv, obs) = encR x := ACc.ac (body := bodyOf Try.f70) Try.func70 (by kernel_rfl) (by kernel_rfl) (acc t x h)
theorem ac (args : List AV) (x : ByteArray) (h : Q args = some x) : AC Try.prog 70 args [] false [] fun rv obs => (rv, obs) = encR x := by
  obtain ⟨t, rfl, h2⟩ := ofC_some h
  refine (ac0 t x h2).flat fun rv obs e => ?_
  obtain rfl : rv = (encR x).1 := congrArg Prod.fst e
  obtain rfl : obs = (encR x).2 := congrArg Prod.snd e
  refine ⟨by simp [encR, AV.Flat, K.Flat, C.Flat], ?_⟩
  simp [encR]
end laws_markText
/-! loop.example/g00073/laws.markBodyS -/
namespace laws_markBodyS_s669a
noncomputable def B0 {ρ : Type} (C_laws_markText : Int → Option ByteArray) (C_laws_markIntS_s68b2 : Int → (Vec Int) → Option (Int × Vec Int)) (v1 : Int) (v2 : Int) (v3 : Vec (ByteArray × Int × Int × (Vec Int))) (W : Int → Int → (Vec (ByteArray × Int × Int × (Vec Int))) → Option ρ) (K0 : Int → (Vec (ByteArray × Int × Int × (Vec Int))) → Option ρ) : Option ρ :=
  sel (decide (v2 < (v3.n : Int))) ((C_laws_markText v1).bind fun r1 => chk (decide (0 ≤ v2 ∧ v2 < (v3.n : Int))) (chk (decide (v2.toNat < v3.n)) (chk (decide (0 ≤ v2 ∧ v2 < ((Vec.set v3 v2.toNat (r1, (v3.g v2.toNat).2.1, (v3.g v2.toNat).2.2.1, (v3.g v2.toNat).2.2.2)).n : Int))) (chk (decide (v2.toNat < (Vec.set v3 v2.toNat (r1, (v3.g v2.toNat).2.1, (v3.g v2.toNat).2.2.1, (v3.g v2.toNat).2.2.2)).n)) (chk (decide (0 ≤ v2 ∧ v2 < ((Vec.set (Vec.set v3 v2.toNat (r1, (v3.g v2.toNat).2.1, (v3.g v2.toNat).2.2.1, (v3.g v2.toNat).2.2.2)) v2.toNat (((Vec.set v3 v2.toNat (r1, (v3.g v2.toNat).2.1, (v3.g v2.toNat).2.2.1, (v3.g v2.toNat).2.2.2)).g v2.toNat).1, (wr (v1 + (1 : Int))), ((Vec.set v3 v2.toNat (r1, (v3.g v2.toNat).2.1, (v3.g v2.toNat).2.2.1, (v3.g v2.toNat).2.2.2)).g v2.toNat).2.2.1, ((Vec.set v3 v2.toNat (r1, (v3.g v2.toNat).2.1, (v3.g v2.toNat).2.2.1, (v3.g v2.toNat).2.2.2)).g v2.toNat).2.2.2)).n : Int))) (chk (decide (v2.toNat < (Vec.set (Vec.set v3 v2.toNat (r1, (v3.g v2.toNat).2.1, (v3.g v2.toNat).2.2.1, (v3.g v2.toNat).2.2.2)) v2.toNat (((Vec.set v3 v2.toNat (r1, (v3.g v2.toNat).2.1, (v3.g v2.toNat).2.2.1, (v3.g v2.toNat).2.2.2)).g v2.toNat).1, (wr (v1 + (1 : Int))), ((Vec.set v3 v2.toNat (r1, (v3.g v2.toNat).2.1, (v3.g v2.toNat).2.2.1, (v3.g v2.toNat).2.2.2)).g v2.toNat).2.2.1, ((Vec.set v3 v2.toNat (r1, (v3.g v2.toNat).2.1, (v3.g v2.toNat).2.2.1, (v3.g v2.toNat).2.2.2)).g v2.toNat).2.2.2)).n)) (chk (decide (0 ≤ v2 ∧ v2 < ((Vec.set (Vec.set (Vec.set v3 v2.toNat (r1, (v3.g v2.toNat).2.1, (v3.g v2.toNat).2.2.1, (v3.g v2.toNat).2.2.2)) v2.toNat (((Vec.set v3 v2.toNat (r1, (v3.g v2.toNat).2.1, (v3.g v2.toNat).2.2.1, (v3.g v2.toNat).2.2.2)).g v2.toNat).1, (wr (v1 + (1 : Int))), ((Vec.set v3 v2.toNat (r1, (v3.g v2.toNat).2.1, (v3.g v2.toNat).2.2.1, (v3.g v2.toNat).2.2.2)).g v2.toNat).2.2.1, ((Vec.set v3 v2.toNat (r1, (v3.g v2.toNat).2.1, (v3.g v2.toNat).2.2.1, (v3.g v2.toNat).2.2.2)).g v2.toNat).2.2.2)) v2.toNat (((Vec.set (Vec.set v3 v2.toNat (r1, (v3.g v2.toNat).2.1, (v3.g v2.toNat).2.2.1, (v3.g v2.toNat).2.2.2)) v2.toNat (((Vec.set v3 v2.toNat (r1, (v3.g v2.toNat).2.1, (v3.g v2.toNat).2.2.1, (v3.g v2.toNat).2.2.2)).g v2.toNat).1, (wr (v1 + (1 : Int))), ((Vec.set v3 v2.toNat (r1, (v3.g v2.toNat).2.1, (v3.g v2.toNat).2.2.1, (v3.g v2.toNat).2.2.2)).g v2.toNat).2.2.1, ((Vec.set v3 v2.toNat (r1, (v3.g v2.toNat).2.1, (v3.g v2.toNat).2.2.1, (v3.g v2.toNat).2.2.2)).g v2.toNat).2.2.2)).g v2.toNat).1, ((Vec.set (Vec.set v3 v2.toNat (r1, (v3.g v2.toNat).2.1, (v3.g v2.toNat).2.2.1, (v3.g v2.toNat).2.2.2)) v2.toNat (((Vec.set v3 v2.toNat (r1, (v3.g v2.toNat).2.1, (v3.g v2.toNat).2.2.1, (v3.g v2.toNat).2.2.2)).g v2.toNat).1, (wr (v1 + (1 : Int))), ((Vec.set v3 v2.toNat (r1, (v3.g v2.toNat).2.1, (v3.g v2.toNat).2.2.1, (v3.g v2.toNat).2.2.2)).g v2.toNat).2.2.1, ((Vec.set v3 v2.toNat (r1, (v3.g v2.toNat).2.1, (v3.g v2.toNat).2.2.1, (v3.g v2.toNat).2.2.2)).g v2.toNat).2.2.2)).g v2.toNat).2.1, (wr ((wr (v1 + (1 : Int))) + (1 : Int))), ((Vec.set (Vec.set v3 v2.toNat (r1, (v3.g v2.toNat).2.1, (v3.g v2.toNat).2.2.1, (v3.g v2.toNat).2.2.2)) v2.toNat (((Vec.set v3 v2.toNat (r1, (v3.g v2.toNat).2.1, (v3.g v2.toNat).2.2.1, (v3.g v2.toNat).2.2.2)).g v2.toNat).1, (wr (v1 + (1 : Int))), ((Vec.set v3 v2.toNat (r1, (v3.g v2.toNat).2.1, (v3.g v2.toNat).2.2.1, (v3.g v2.toNat).2.2.2)).g v2.toNat).2.2.1, ((Vec.set v3 v2.toNat (r1, (v3.g v2.toNat).2.1, (v3.g v2.toNat).2.2.1, (v3.g v2.toNat).2.2.2)).g v2.toNat).2.2.2)).g v2.toNat).2.2.2)).n : Int))) (chk (decide (v2.toNat < (Vec.set (Vec.set (Vec.set v3 v2.toNat (r1, (v3.g v2.toNat).2.1, (v3.g v2.toNat).2.2.1, (v3.g v2.toNat).2.2.2)) v2.toNat (((Vec.set v3 v2.toNat (r1, (v3.g v2.toNat).2.1, (v3.g v2.toNat).2.2.1, (v3.g v2.toNat).2.2.2)).g v2.toNat).1, (wr (v1 + (1 : Int))), ((Vec.set v3 v2.toNat (r1, (v3.g v2.toNat).2.1, (v3.g v2.toNat).2.2.1, (v3.g v2.toNat).2.2.2)).g v2.toNat).2.2.1, ((Vec.set v3 v2.toNat (r1, (v3.g v2.toNat).2.1, (v3.g v2.toNat).2.2.1, (v3.g v2.toNat).2.2.2)).g v2.toNat).2.2.2)) v2.toNat (((Vec.set (Vec.set v3 v2.toNat (r1, (v3.g v2.toNat).2.1, (v3.g v2.toNat).2.2.1, (v3.g v2.toNat).2.2.2)) v2.toNat (((Vec.set v3 v2.toNat (r1, (v3.g v2.toNat).2.1, (v3.g v2.toNat).2.2.1, (v3.g v2.toNat).2.2.2)).g v2.toNat).1, (wr (v1 + (1 : Int))), ((Vec.set v3 v2.toNat (r1, (v3.g v2.toNat).2.1, (v3.g v2.toNat).2.2.1, (v3.g v2.toNat).2.2.2)).g v2.toNat).2.2.1, ((Vec.set v3 v2.toNat (r1, (v3.g v2.toNat).2.1, (v3.g v2.toNat).2.2.1, (v3.g v2.toNat).2.2.2)).g v2.toNat).2.2.2)).g v2.toNat).1, ((Vec.set (Vec.set v3 v2.toNat (r1, (v3.g v2.toNat).2.1, (v3.g v2.toNat).2.2.1, (v3.g v2.toNat).2.2.2)) v2.toNat (((Vec.set v3 v2.toNat (r1, (v3.g v2.toNat).2.1, (v3.g v2.toNat).2.2.1, (v3.g v2.toNat).2.2.2)).g v2.toNat).1, (wr (v1 + (1 : Int))), ((Vec.set v3 v2.toNat (r1, (v3.g v2.toNat).2.1, (v3.g v2.toNat).2.2.1, (v3.g v2.toNat).2.2.2)).g v2.toNat).2.2.1, ((Vec.set v3 v2.toNat (r1, (v3.g v2.toNat).2.1, (v3.g v2.toNat).2.2.1, (v3.g v2.toNat).2.2.2)).g v2.toNat).2.2.2)).g v2.toNat).2.1, (wr ((wr (v1 + (1 : Int))) + (1 : Int))), ((Vec.set (Vec.set v3 v2.toNat (r1, (v3.g v2.toNat).2.1, (v3.g v2.toNat).2.2.1, (v3.g v2.toNat).2.2.2)) v2.toNat (((Vec.set v3 v2.toNat (r1, (v3.g v2.toNat).2.1, (v3.g v2.toNat).2.2.1, (v3.g v2.toNat).2.2.2)).g v2.toNat).1, (wr (v1 + (1 : Int))), ((Vec.set v3 v2.toNat (r1, (v3.g v2.toNat).2.1, (v3.g v2.toNat).2.2.1, (v3.g v2.toNat).2.2.2)).g v2.toNat).2.2.1, ((Vec.set v3 v2.toNat (r1, (v3.g v2.toNat).2.1, (v3.g v2.toNat).2.2.1, (v3.g v2.toNat).2.2.2)).g v2.toNat).2.2.2)).g v2.toNat).2.2.2)).n)) ((C_laws_markIntS_s68b2 (wr ((wr ((wr (v1 + (1 : Int))) + (1 : Int))) + (1 : Int))) (((Vec.set (Vec.set (Vec.set v3 v2.toNat (r1, (v3.g v2.toNat).2.1, (v3.g v2.toNat).2.2.1, (v3.g v2.toNat).2.2.2)) v2.toNat (((Vec.set v3 v2.toNat (r1, (v3.g v2.toNat).2.1, (v3.g v2.toNat).2.2.1, (v3.g v2.toNat).2.2.2)).g v2.toNat).1, (wr (v1 + (1 : Int))), ((Vec.set v3 v2.toNat (r1, (v3.g v2.toNat).2.1, (v3.g v2.toNat).2.2.1, (v3.g v2.toNat).2.2.2)).g v2.toNat).2.2.1, ((Vec.set v3 v2.toNat (r1, (v3.g v2.toNat).2.1, (v3.g v2.toNat).2.2.1, (v3.g v2.toNat).2.2.2)).g v2.toNat).2.2.2)) v2.toNat (((Vec.set (Vec.set v3 v2.toNat (r1, (v3.g v2.toNat).2.1, (v3.g v2.toNat).2.2.1, (v3.g v2.toNat).2.2.2)) v2.toNat (((Vec.set v3 v2.toNat (r1, (v3.g v2.toNat).2.1, (v3.g v2.toNat).2.2.1, (v3.g v2.toNat).2.2.2)).g v2.toNat).1, (wr (v1 + (1 : Int))), ((Vec.set v3 v2.toNat (r1, (v3.g v2.toNat).2.1, (v3.g v2.toNat).2.2.1, (v3.g v2.toNat).2.2.2)).g v2.toNat).2.2.1, ((Vec.set v3 v2.toNat (r1, (v3.g v2.toNat).2.1, (v3.g v2.toNat).2.2.1, (v3.g v2.toNat).2.2.2)).g v2.toNat).2.2.2)).g v2.toNat).1, ((Vec.set (Vec.set v3 v2.toNat (r1, (v3.g v2.toNat).2.1, (v3.g v2.toNat).2.2.1, (v3.g v2.toNat).2.2.2)) v2.toNat (((Vec.set v3 v2.toNat (r1, (v3.g v2.toNat).2.1, (v3.g v2.toNat).2.2.1, (v3.g v2.toNat).2.2.2)).g v2.toNat).1, (wr (v1 + (1 : Int))), ((Vec.set v3 v2.toNat (r1, (v3.g v2.toNat).2.1, (v3.g v2.toNat).2.2.1, (v3.g v2.toNat).2.2.2)).g v2.toNat).2.2.1, ((Vec.set v3 v2.toNat (r1, (v3.g v2.toNat).2.1, (v3.g v2.toNat).2.2.1, (v3.g v2.toNat).2.2.2)).g v2.toNat).2.2.2)).g v2.toNat).2.1, (wr ((wr (v1 + (1 : Int))) + (1 : Int))), ((Vec.set (Vec.set v3 v2.toNat (r1, (v3.g v2.toNat).2.1, (v3.g v2.toNat).2.2.1, (v3.g v2.toNat).2.2.2)) v2.toNat (((Vec.set v3 v2.toNat (r1, (v3.g v2.toNat).2.1, (v3.g v2.toNat).2.2.1, (v3.g v2.toNat).2.2.2)).g v2.toNat).1, (wr (v1 + (1 : Int))), ((Vec.set v3 v2.toNat (r1, (v3.g v2.toNat).2.1, (v3.g v2.toNat).2.2.1, (v3.g v2.toNat).2.2.2)).g v2.toNat).2.2.1, ((Vec.set v3 v2.toNat (r1, (v3.g v2.toNat).2.1, (v3.g v2.toNat).2.2.1, (v3.g v2.toNat).2.2.2)).g v2.toNat).2.2.2)).g v2.toNat).2.2.2)).g v2.toNat).2.2.2)).bind fun r2 => W r2.1 (wr (v2 + (1 : Int))) (Vec.set (Vec.set (Vec.set (Vec.set v3 v2.toNat (r1, (v3.g v2.toNat).2.1, (v3.g v2.toNat).2.2.1, (v3.g v2.toNat).2.2.2)) v2.toNat (((Vec.set v3 v2.toNat (r1, (v3.g v2.toNat).2.1, (v3.g v2.toNat).2.2.1, (v3.g v2.toNat).2.2.2)).g v2.toNat).1, (wr (v1 + (1 : Int))), ((Vec.set v3 v2.toNat (r1, (v3.g v2.toNat).2.1, (v3.g v2.toNat).2.2.1, (v3.g v2.toNat).2.2.2)).g v2.toNat).2.2.1, ((Vec.set v3 v2.toNat (r1, (v3.g v2.toNat).2.1, (v3.g v2.toNat).2.2.1, (v3.g v2.toNat).2.2.2)).g v2.toNat).2.2.2)) v2.toNat (((Vec.set (Vec.set v3 v2.toNat (r1, (v3.g v2.toNat).2.1, (v3.g v2.toNat).2.2.1, (v3.g v2.toNat).2.2.2)) v2.toNat (((Vec.set v3 v2.toNat (r1, (v3.g v2.toNat).2.1, (v3.g v2.toNat).2.2.1, (v3.g v2.toNat).2.2.2)).g v2.toNat).1, (wr (v1 + (1 : Int))), ((Vec.set v3 v2.toNat (r1, (v3.g v2.toNat).2.1, (v3.g v2.toNat).2.2.1, (v3.g v2.toNat).2.2.2)).g v2.toNat).2.2.1, ((Vec.set v3 v2.toNat (r1, (v3.g v2.toNat).2.1, (v3.g v2.toNat).2.2.1, (v3.g v2.toNat).2.2.2)).g v2.toNat).2.2.2)).g v2.toNat).1, ((Vec.set (Vec.set v3 v2.toNat (r1, (v3.g v2.toNat).2.1, (v3.g v2.toNat).2.2.1, (v3.g v2.toNat).2.2.2)) v2.toNat (((Vec.set v3 v2.toNat (r1, (v3.g v2.toNat).2.1, (v3.g v2.toNat).2.2.1, (v3.g v2.toNat).2.2.2)).g v2.toNat).1, (wr (v1 + (1 : Int))), ((Vec.set v3 v2.toNat (r1, (v3.g v2.toNat).2.1, (v3.g v2.toNat).2.2.1, (v3.g v2.toNat).2.2.2)).g v2.toNat).2.2.1, ((Vec.set v3 v2.toNat (r1, (v3.g v2.toNat).2.1, (v3.g v2.toNat).2.2.1, (v3.g v2.toNat).2.2.2)).g v2.toNat).2.2.2)).g v2.toNat).2.1, (wr ((wr (v1 + (1 : Int))) + (1 : Int))), ((Vec.set (Vec.set v3 v2.toNat (r1, (v3.g v2.toNat).2.1, (v3.g v2.toNat).2.2.1, (v3.g v2.toNat).2.2.2)) v2.toNat (((Vec.set v3 v2.toNat (r1, (v3.g v2.toNat).2.1, (v3.g v2.toNat).2.2.1, (v3.g v2.toNat).2.2.2)).g v2.toNat).1, (wr (v1 + (1 : Int))), ((Vec.set v3 v2.toNat (r1, (v3.g v2.toNat).2.1, (v3.g v2.toNat).2.2.1, (v3.g v2.toNat).2.2.2)).g v2.toNat).2.2.1, ((Vec.set v3 v2.toNat (r1, (v3.g v2.toNat).2.1, (v3.g v2.toNat).2.2.1, (v3.g v2.toNat).2.2.2)).g v2.toNat).2.2.2)).g v2.toNat).2.2.2)) v2.toNat (((Vec.set (Vec.set (Vec.set v3 v2.toNat (r1, (v3.g v2.toNat).2.1, (v3.g v2.toNat).2.2.1, (v3.g v2.toNat).2.2.2)) v2.toNat (((Vec.set v3 v2.toNat (r1, (v3.g v2.toNat).2.1, (v3.g v2.toNat).2.2.1, (v3.g v2.toNat).2.2.2)).g v2.toNat).1, (wr (v1 + (1 : Int))), ((Vec.set v3 v2.toNat (r1, (v3.g v2.toNat).2.1, (v3.g v2.toNat).2.2.1, (v3.g v2.toNat).2.2.2)).g v2.toNat).2.2.1, ((Vec.set v3 v2.toNat (r1, (v3.g v2.toNat).2.1, (v3.g v2.toNat).2.2.1, (v3.g v2.toNat).2.2.2)).g v2.toNat).2.2.2)) v2.toNat (((Vec.set (Vec.set v3 v2.toNat (r1, (v3.g v2.toNat).2.1, (v3.g v2.toNat).2.2.1, (v3.g v2.toNat).2.2.2)) v2.toNat (((Vec.set v3 v2.toNat (r1, (v3.g v2.toNat).2.1, (v3.g v2.toNat).2.2.1, (v3.g v2.toNat).2.2.2)).g v2.toNat).1, (wr (v1 + (1 : Int))), ((Vec.set v3 v2.toNat (r1, (v3.g v2.toNat).2.1, (v3.g v2.toNat).2.2.1, (v3.g v2.toNat).2.2.2)).g v2.toNat).2.2.1, ((Vec.set v3 v2.toNat (r1, (v3.g v2.toNat).2.1, (v3.g v2.toNat).2.2.1, (v3.g v2.toNat).2.2.2)).g v2.toNat).2.2.2)).g v2.toNat).1, ((Vec.set (Vec.set v3 v2.toNat (r1, (v3.g v2.toNat).2.1, (v3.g v2.toNat).2.2.1, (v3.g v2.toNat).2.2.2)) v2.toNat (((Vec.set v3 v2.toNat (r1, (v3.g v2.toNat).2.1, (v3.g v2.toNat).2.2.1, (v3.g v2.toNat).2.2.2)).g v2.toNat).1, (wr (v1 + (1 : Int))), ((Vec.set v3 v2.toNat (r1, (v3.g v2.toNat).2.1, (v3.g v2.toNat).2.2.1, (v3.g v2.toNat).2.2.2)).g v2.toNat).2.2.1, ((Vec.set v3 v2.toNat (r1, (v3.g v2.toNat).2.1, (v3.g v2.toNat).2.2.1, (v3.g v2.toNat).2.2.2)).g v2.toNat).2.2.2)).g v2.toNat).2.1, (wr ((wr (v1 + (1 : Int))) + (1 : Int))), ((Vec.set (Vec.set v3 v2.toNat (r1, (v3.g v2.toNat).2.1, (v3.g v2.toNat).2.2.1, (v3.g v2.toNat).2.2.2)) v2.toNat (((Vec.set v3 v2.toNat (r1, (v3.g v2.toNat).2.1, (v3.g v2.toNat).2.2.1, (v3.g v2.toNat).2.2.2)).g v2.toNat).1, (wr (v1 + (1 : Int))), ((Vec.set v3 v2.toNat (r1, (v3.g v2.toNat).2.1, (v3.g v2.toNat).2.2.1, (v3.g v2.toNat).2.2.2)).g v2.toNat).2.2.1, ((Vec.set v3 v2.toNat (r1, (v3.g v2.toNat).2.1, (v3.g v2.toNat).2.2.1, (v3.g v2.toNat).2.2.2)).g v2.toNat).2.2.2)).g v2.toNat).2.2.2)).g v2.toNat).1, ((Vec.set (Vec.set (Vec.set v3 v2.toNat (r1, (v3.g v2.toNat).2.1, (v3.g v2.toNat).2.2.1, (v3.g v2.toNat).2.2.2)) v2.toNat (((Vec.set v3 v2.toNat (r1, (v3.g v2.toNat).2.1, (v3.g v2.toNat).2.2.1, (v3.g v2.toNat).2.2.2)).g v2.toNat).1, (wr (v1 + (1 : Int))), ((Vec.set v3 v2.toNat (r1, (v3.g v2.toNat).2.1, (v3.g v2.toNat).2.2.1, (v3.g v2.toNat).2.2.2)).g v2.toNat).2.2.1, ((Vec.set v3 v2.toNat (r1, (v3.g v2.toNat).2.1, (v3.g v2.toNat).2.2.1, (v3.g v2.toNat).2.2.2)).g v2.toNat).2.2.2)) v2.toNat (((Vec.set (Vec.set v3 v2.toNat (r1, (v3.g v2.toNat).2.1, (v3.g v2.toNat).2.2.1, (v3.g v2.toNat).2.2.2)) v2.toNat (((Vec.set v3 v2.toNat (r1, (v3.g v2.toNat).2.1, (v3.g v2.toNat).2.2.1, (v3.g v2.toNat).2.2.2)).g v2.toNat).1, (wr (v1 + (1 : Int))), ((Vec.set v3 v2.toNat (r1, (v3.g v2.toNat).2.1, (v3.g v2.toNat).2.2.1, (v3.g v2.toNat).2.2.2)).g v2.toNat).2.2.1, ((Vec.set v3 v2.toNat (r1, (v3.g v2.toNat).2.1, (v3.g v2.toNat).2.2.1, (v3.g v2.toNat).2.2.2)).g v2.toNat).2.2.2)).g v2.toNat).1, ((Vec.set (Vec.set v3 v2.toNat (r1, (v3.g v2.toNat).2.1, (v3.g v2.toNat).2.2.1, (v3.g v2.toNat).2.2.2)) v2.toNat (((Vec.set v3 v2.toNat (r1, (v3.g v2.toNat).2.1, (v3.g v2.toNat).2.2.1, (v3.g v2.toNat).2.2.2)).g v2.toNat).1, (wr (v1 + (1 : Int))), ((Vec.set v3 v2.toNat (r1, (v3.g v2.toNat).2.1, (v3.g v2.toNat).2.2.1, (v3.g v2.toNat).2.2.2)).g v2.toNat).2.2.1, ((Vec.set v3 v2.toNat (r1, (v3.g v2.toNat).2.1, (v3.g v2.toNat).2.2.1, (v3.g v2.toNat).2.2.2)).g v2.toNat).2.2.2)).g v2.toNat).2.1, (wr ((wr (v1 + (1 : Int))) + (1 : Int))), ((Vec.set (Vec.set v3 v2.toNat (r1, (v3.g v2.toNat).2.1, (v3.g v2.toNat).2.2.1, (v3.g v2.toNat).2.2.2)) v2.toNat (((Vec.set v3 v2.toNat (r1, (v3.g v2.toNat).2.1, (v3.g v2.toNat).2.2.1, (v3.g v2.toNat).2.2.2)).g v2.toNat).1, (wr (v1 + (1 : Int))), ((Vec.set v3 v2.toNat (r1, (v3.g v2.toNat).2.1, (v3.g v2.toNat).2.2.1, (v3.g v2.toNat).2.2.2)).g v2.toNat).2.2.1, ((Vec.set v3 v2.toNat (r1, (v3.g v2.toNat).2.1, (v3.g v2.toNat).2.2.1, (v3.g v2.toNat).2.2.2)).g v2.toNat).2.2.2)).g v2.toNat).2.2.2)).g v2.toNat).2.1, ((Vec.set (Vec.set (Vec.set v3 v2.toNat (r1, (v3.g v2.toNat).2.1, (v3.g v2.toNat).2.2.1, (v3.g v2.toNat).2.2.2)) v2.toNat (((Vec.set v3 v2.toNat (r1, (v3.g v2.toNat).2.1, (v3.g v2.toNat).2.2.1, (v3.g v2.toNat).2.2.2)).g v2.toNat).1, (wr (v1 + (1 : Int))), ((Vec.set v3 v2.toNat (r1, (v3.g v2.toNat).2.1, (v3.g v2.toNat).2.2.1, (v3.g v2.toNat).2.2.2)).g v2.toNat).2.2.1, ((Vec.set v3 v2.toNat (r1, (v3.g v2.toNat).2.1, (v3.g v2.toNat).2.2.1, (v3.g v2.toNat).2.2.2)).g v2.toNat).2.2.2)) v2.toNat (((Vec.set (Vec.set v3 v2.toNat (r1, (v3.g v2.toNat).2.1, (v3.g v2.toNat).2.2.1, (v3.g v2.toNat).2.2.2)) v2.toNat (((Vec.set v3 v2.toNat (r1, (v3.g v2.toNat).2.1, (v3.g v2.toNat).2.2.1, (v3.g v2.toNat).2.2.2)).g v2.toNat).1, (wr (v1 + (1 : Int))), ((Vec.set v3 v2.toNat (r1, (v3.g v2.toNat).2.1, (v3.g v2.toNat).2.2.1, (v3.g v2.toNat).2.2.2)).g v2.toNat).2.2.1, ((Vec.set v3 v2.toNat (r1, (v3.g v2.toNat).2.1, (v3.g v2.toNat).2.2.1, (v3.g v2.toNat).2.2.2)).g v2.toNat).2.2.2)).g v2.toNat).1, ((Vec.set (Vec.set v3 v2.toNat (r1, (v3.g v2.toNat).2.1, (v3.g v2.toNat).2.2.1, (v3.g v2.toNat).2.2.2)) v2.toNat (((Vec.set v3 v2.toNat (r1, (v3.g v2.toNat).2.1, (v3.g v2.toNat).2.2.1, (v3.g v2.toNat).2.2.2)).g v2.toNat).1, (wr (v1 + (1 : Int))), ((Vec.set v3 v2.toNat (r1, (v3.g v2.toNat).2.1, (v3.g v2.toNat).2.2.1, (v3.g v2.toNat).2.2.2)).g v2.toNat).2.2.1, ((Vec.set v3 v2.toNat (r1, (v3.g v2.toNat).2.1, (v3.g v2.toNat).2.2.1, (v3.g v2.toNat).2.2.2)).g v2.toNat).2.2.2)).g v2.toNat).2.1, (wr ((wr (v1 + (1 : Int))) + (1 : Int))), ((Vec.set (Vec.set v3 v2.toNat (r1, (v3.g v2.toNat).2.1, (v3.g v2.toNat).2.2.1, (v3.g v2.toNat).2.2.2)) v2.toNat (((Vec.set v3 v2.toNat (r1, (v3.g v2.toNat).2.1, (v3.g v2.toNat).2.2.1, (v3.g v2.toNat).2.2.2)).g v2.toNat).1, (wr (v1 + (1 : Int))), ((Vec.set v3 v2.toNat (r1, (v3.g v2.toNat).2.1, (v3.g v2.toNat).2.2.1, (v3.g v2.toNat).2.2.2)).g v2.toNat).2.2.1, ((Vec.set v3 v2.toNat (r1, (v3.g v2.toNat).2.1, (v3.g v2.toNat).2.2.1, (v3.g v2.toNat).2.2.2)).g v2.toNat).2.2.2)).g v2.toNat).2.2.2)).g v2.toNat).2.2.1, r2.2))))))))))) (K0 v1 v3)
noncomputable def F0 {ρ : Type} : Nat → Int → Int → (Vec (ByteArray × Int × Int × (Vec Int))) → (Int → (Vec (ByteArray × Int × Int × (Vec Int))) → Option ρ) → Option ρ
  | 0, _, _, _, _ => none
  | k + 1, v1, v2, v3, K0 => B0 laws_markText.F laws_markIntS_s68b2.F v1 v2 v3 (fun v1' v2' v3' => F0 k v1' v2' v3' K0) K0
noncomputable def B {ρ : Type} (L0 : Int → Int → (Vec (ByteArray × Int × Int × (Vec Int))) → (Int → (Vec (ByteArray × Int × Int × (Vec Int))) → Option ρ) → Option ρ) (a1 : Int) (a2 : Vec (ByteArray × Int × Int × (Vec Int))) (K : Int → (Vec (ByteArray × Int × Int × (Vec Int))) → Option ρ) : Option ρ :=
  L0 a1 (0 : Int) a2 (fun e01 e02 => K e01 e02)
noncomputable def F (a1 : Int) (a2 : Vec (ByteArray × Int × Int × (Vec Int))) : Option (Int × (Vec (ByteArray × Int × Int × (Vec Int)))) := B (F0 fuelN) a1 a2 (fun x1 x2 => some (x1, x2))
def encA (t : Int × (Vec (ByteArray × Int × Int × (Vec Int)))) : List AV × List Ob := ([.c (.h 0), .c (.n (.v (.int .i64 t.1)))], [.row 4 (encRw t.2) []])
def encR (x : Int × (Vec (ByteArray × Int × Int × (Vec Int)))) : AV × List Ob := (.c (.n (.v (.int .i64 x.1))), [.row 4 (encRw x.2) []])
theorem encAI : ∀ a b, encA a = encA b → a = b := by
  intro a b h
  obtain ⟨a0, a1⟩ := a
  obtain ⟨b0, b1⟩ := b
  simp [encA, encRw_iff] at h
  simp_all
theorem encRI : ∀ a b, encR a = encR b → a = b := by
  intro a b h
  obtain ⟨a0, a1⟩ := a
  obtain ⟨b0, b1⟩ := b
  simp [encR, encRw_iff] at h
  simp_all
noncomputable def Q (args : List AV) (hin : List Ob) : Option (Int × (Vec (ByteArray × Int × Int × (Vec Int)))) := ofC encA (fun t => F t.1 t.2) (args, hin)
theorem wrap : (fun (y1 : Int) (y2 : Vec (ByteArray × Int × Int × (Vec Int))) => Q [.c (.h 0), .c (.n (.v (.int .i64 y1)))] [.row 4 (encRw y2) []]) = F := by
  funext y1 y2
  exact ofC_enc encAI _ (y1, y2)
noncomputable def G (q_laws_markText : List AV → Option ByteArray) (q_laws_markIntS_s68b2 : List AV → List Ob → Option (Int × Vec Int)) : Orc := ⟨fun f => sel (Nat.beq f 70) 0 (9), fun ρ f args K => sel (Nat.beq f 70) (qEntry laws_markText.encR q_laws_markText args K) (Option.none), fun ρ f st args dst K => sel (Nat.beq f 62) (callE Try.prog 62 [true, false] false [true] laws_markIntS_s68b2.encR q_laws_markIntS_s68b2 st args dst K) (Option.none), true⟩
noncomputable def L (W0 : (ρ : Type) → List AV → List Ob → (Int → (Vec (ByteArray × Int × Int × (Vec Int))) → Option ρ) → Option ρ) : Lor := fun ρ j st K => sel (Nat.beq j 0) (cutO Try.prog 42 [0, 1, 5] 1 [true] [] st fun avs obs => W0 ρ avs obs (fun z1 z2 => K (.exit 0) (mkS 42 [1] [.c (.n (.v (.int .i64 z1)))] [.row 4 (encRw z2) []] [true]))) (Option.none)
noncomputable def c0 : Code := loopC (atomN [] 0 (bodyOf Try.f61) 0)
def ct0 : Cut := ⟨[0, 1, 5], []⟩
def lv0 : Exit → Cut
  | .exit 0 => ⟨[1], []⟩
  | _ => ⟨[], []⟩
theorem step0 (q_laws_markText : List AV → Option ByteArray) (q_laws_markIntS_s68b2 : List AV → List Ob → Option (Int × Vec Int)) (W0 : (ρ : Type) → List AV → List Ob → (Int → (Vec (ByteArray × Int × Int × (Vec Int))) → Option ρ) → Option ρ) {ρ : Type} (K : Exit → St → Option ρ) (W : List AV → List Ob → Option ρ) (v1 : Int) (v2 : Int) (v3 : Vec (ByteArray × Int × Int × (Vec Int))) : exC Try.prog (G q_laws_markText q_laws_markIntS_s68b2) (L W0) [] 1 c0 (mkS 42 [0, 1, 5] [.c (.h 0), .c (.n (.v (.int .i64 v1))), .c (.n (.v (.int .i64 v2)))] [.row 4 (encRw v3) []] [true]) (bodyK Try.prog 42 1 [true] ct0 W lv0 K) =
    B0 (fun y1 => q_laws_markText [.c (.n (.v (.int .i64 y1)))]) (fun y1 y2 => q_laws_markIntS_s68b2 [.c (.h 0), .c (.n (.v (.int .i64 y1)))] [.row 1 (encRw y2) []]) v1 v2 v3 (fun u1 u2 u3 => W [.c (.h 0), .c (.n (.v (.int .i64 u1))), .c (.n (.v (.int .i64 u2)))] [.row 4 (encRw u3) []]) (fun z1 z2 => K (.exit 0) (mkS 42 [1] [.c (.n (.v (.int .i64 z1)))] [.row 4 (encRw z2) []] [true])) := by kernel_rfl
def enc0 (t : Int × Int × (Vec (ByteArray × Int × Int × (Vec Int)))) : List AV × List Ob := ([.c (.h 0), .c (.n (.v (.int .i64 t.1))), .c (.n (.v (.int .i64 t.2.1)))], [.row 4 (encRw t.2.2) []])
theorem enc0I : ∀ a b, enc0 a = enc0 b → a = b := by
  intro a b h
  obtain ⟨a0, a1, a2⟩ := a
  obtain ⟨b0, b1, b2⟩ := b
  simp [enc0, encRw_iff] at h
  simp_all
noncomputable def V0 : (ρ : Type) → List AV → List Ob → (Int → (Vec (ByteArray × Int × Int × (Vec Int))) → Option ρ) → Option ρ := fun ρ avs obs k0 => ofC enc0 (fun t => F0 fuelN t.1 t.2.1 t.2.2 k0) (avs, obs)
theorem V0_enc (ρ : Type) : (fun w1 w2 w3 k0 => V0 ρ [.c (.h 0), .c (.n (.v (.int .i64 w1))), .c (.n (.v (.int .i64 w2)))] [.row 4 (encRw w3) []] k0) = F0 fuelN := by
  funext w1 w2 w3 k0
  exact ofC_enc enc0I _ (w1, w2, w3)
theorem main (q_laws_markText : List AV → Option ByteArray) (q_laws_markIntS_s68b2 : List AV → List Ob → Option (Int × Vec Int)) (W0 : (ρ : Type) → List AV → List Ob → (Int → (Vec (ByteArray × Int × Int × (Vec Int))) → Option ρ) → Option ρ) {ρ : Type} (K : AV → List Ob → Option ρ) (a1 : Int) (a2 : Vec (ByteArray × Int × Int × (Vec Int))) : exC Try.prog (G q_laws_markText q_laws_markIntS_s68b2) (L W0) [] 0 (bodyOf Try.f61) (entry 42 [.c (.h 0), .c (.n (.v (.int .i64 a1)))] [.row 4 (encRw a2) []] [true]) (finO Try.prog Try.f61.results.toList 1 [true] [] K) =
    B (fun w1 w2 w3 k0 => W0 ρ [.c (.h 0), .c (.n (.v (.int .i64 w1))), .c (.n (.v (.int .i64 w2)))] [.row 4 (encRw w3) []] k0) a1 a2 (fun x1 x2 => K (.c (.n (.v (.int .i64 x1)))) [.row 4 (encRw x2) []]) := by kernel_rfl
theorem Gok : (G laws_markText.Q laws_markIntS_s68b2.Q).ok Try.prog := ⟨(by
    intro ρ f args K r h
    rcases sel_cases h with ⟨hb, h⟩ | ⟨-, h⟩
    · obtain rfl := beq_nat hb
      exact qEntry_ok laws_markText.ac h
    cases h),
  (by
    intro ρ f args K
    simp only [G]
    cases Nat.beq f 70 with
    | true => exact qEntry_nat args K
    | false =>
    simp only [sel]
    rfl),
  (by
    intro ρ f st caps args dst K r h
    rcases sel_cases h with ⟨hb, h⟩ | ⟨-, h⟩
    · obtain rfl := beq_nat hb
      exact callE_ok (fun h => by cases h) laws_markIntS_s68b2.ac h
    cases h)⟩
theorem hm : Try.prog.follows .mixedOrders = true := by kernel_rfl
theorem e0 : atomsL [] 1 c0 = [] := by kernel_rfl
theorem ok0 (ρ : Type) (st : St) (K : Exit → St → Option ρ) (r : ρ) (h : (L V0) ρ 0 st K = some r) : AW Try.prog (.loop c0) st fun e st' => K e st' = some r := by
  refine loop_ok (ct := ct0) (lv := lv0) (n := 42) (m := 1) (ks := [true]) (j := 0) (jn := []) (L := (L V0)) Gok hm (by rw [e0]; exact Lor.ok_nil _ _) enc0I (fun k t => F0 k t.1 t.2.1 t.2.2 (fun z1 z2 => K (.exit 0) (mkS 42 [1] [.c (.n (.v (.int .i64 z1)))] [.row 4 (encRw z2) []] [true]))) (fun t => rfl) (fun k t => ?_) (fun _ => fuelN) h
  refine (step0 laws_markText.Q laws_markIntS_s68b2.Q V0 K _ t.1 t.2.1 t.2.2).trans ?_
  rw [laws_markText.wrap, laws_markIntS_s68b2.wrap]
  refine congrArg (fun W => B0 laws_markText.F laws_markIntS_s68b2.F t.1 t.2.1 t.2.2 W (fun z1 z2 => K (.exit 0) (mkS 42 [1] [.c (.n (.v (.int .i64 z1)))] [.row 4 (encRw z2) []] [true]))) ?_
  funext u1 u2 u3
  exact ofC_enc enc0I _ (u1, u2, u3)
theorem e : atomsL [] 0 (bodyOf Try.f61) = [(0, 0, .loop c0)] := by kernel_rfl
theorem acc (t : Int × (Vec (ByteArray × Int × Int × (Vec Int)))) (x : Int × (Vec (ByteArray × Int × Int × (Vec Int)))) (h : F t.1 t.2 = some x) : ACc Try.prog 61 (encA t).1 (encA t).2 true [true] fun rv obs => (rv, obs) = encR x := by
  refine fun_okc (L := (L V0)) (jn := []) (cmds := []) (ks := [true]) (hin := (encA t).2) (fn := Try.f61) (body := (bodyOf Try.f61)) Gok hm Try.func61 (by kernel_rfl) (by kernel_rfl) (by rw [e]; exact Lor.ok_cons ok0 (Lor.ok_nil _ _)) ?_ h
  refine (main laws_markText.Q laws_markIntS_s68b2.Q V0 _ t.1 t.2).trans ?_
  rw [V0_enc]
  refine congrArg (fun K => B (F0 fuelN) t.1 t.2 K) ?_
  funext x1 x2
  exact ofC_enc encRI some (x1, x2)
theorem ac0 (t : Int × (Vec (ByteArray × Int × Int × (Vec Int)))) (x : Int × (Vec (ByteArray × Int × Int × (Vec Int)))) (h : F t.1 t.2 = some x) : AC Try.prog 61 (encA t).1 (encA t).2 true [true] fun rv obs => (rv, obs) = encR x := ACc.ac (body := bodyOf Try.f61) Try.func61 (by kernel_rfl) (by kernel_rfl) (acc t x h)
theorem ac (args : List AV) (hin : List Ob) (x : Int × (Vec (ByteArray × Int × Int × (Vec Int)))) (h : Q args hin = some x) : AC Try.prog 61 args hin false [true] fun rv obs => (rv, obs) = encR x := by
  obtain ⟨t, he, h2⟩ := ofC_some h
  obtain rfl : args = (encA t).1 := (congrArg Prod.fst he).symm
  obtain rfl : hin = (encA t).2 := (congrArg Prod.snd he).symm
  refine (ac0 t x h2).flat fun rv obs e => ?_
  obtain rfl : rv = (encR x).1 := congrArg Prod.fst e
  obtain rfl : obs = (encR x).2 := congrArg Prod.snd e
  refine ⟨by simp [encR, AV.Flat, K.Flat, C.Flat], ?_⟩
  intro o ho
  simp only [encR, List.mem_cons, List.not_mem_nil, or_false] at ho
  subst ho
  exact flat_rw rfl _
end laws_markBodyS_s669a
/-! loop.example/g00073/laws.markWeave -/
namespace laws_markWeave_saeda
noncomputable def B {ρ : Type} (C_laws_markIntSS_s45a1 : Int → (Vec (Vec Int)) → Option (Int × Vec (Vec Int))) (C_laws_markBodyS_s669a : Int → (Vec (ByteArray × Int × Int × (Vec Int))) → Option (Int × (Vec (ByteArray × Int × Int × (Vec Int))))) (a1 : Int) (a2 : Vec (Vec Int)) (a3 : Vec (ByteArray × Int × Int × (Vec Int))) (K : Int → (Vec (Vec Int)) → (Vec (ByteArray × Int × Int × (Vec Int))) → Option ρ) : Option ρ :=
  (C_laws_markIntSS_s45a1 a1 a2).bind fun r1 => (C_laws_markBodyS_s669a r1.1 a3).bind fun r2 => K r2.1 r1.2 r2.2
noncomputable def F (a1 : Int) (a2 : Vec (Vec Int)) (a3 : Vec (ByteArray × Int × Int × (Vec Int))) : Option (Int × Vec (Vec Int) × (Vec (ByteArray × Int × Int × (Vec Int)))) := B laws_markIntSS_s45a1.F laws_markBodyS_s669a.F a1 a2 a3 (fun x1 x2 x3 => some (x1, x2, x3))
def encA (t : Int × Vec (Vec Int) × (Vec (ByteArray × Int × Int × (Vec Int)))) : List AV × List Ob := ([.a [.h 0, .h 1], .c (.n (.v (.int .i64 t.1)))], [.row 1 (encRw t.2.1) [], .row 4 (encRw t.2.2) []])
def encR (x : Int × Vec (Vec Int) × (Vec (ByteArray × Int × Int × (Vec Int)))) : AV × List Ob := (.c (.n (.v (.int .i64 x.1))), [.row 1 (encRw x.2.1) [], .row 4 (encRw x.2.2) []])
theorem encAI : ∀ a b, encA a = encA b → a = b := by
  intro a b h
  obtain ⟨a0, a1, a2⟩ := a
  obtain ⟨b0, b1, b2⟩ := b
  simp [encA, encRw_iff] at h
  simp_all
theorem encRI : ∀ a b, encR a = encR b → a = b := by
  intro a b h
  obtain ⟨a0, a1, a2⟩ := a
  obtain ⟨b0, b1, b2⟩ := b
  simp [encR, encRw_iff] at h
  simp_all
noncomputable def Q (args : List AV) (hin : List Ob) : Option (Int × Vec (Vec Int) × (Vec (ByteArray × Int × Int × (Vec Int)))) := ofC encA (fun t => F t.1 t.2.1 t.2.2) (args, hin)
theorem wrap : (fun (y1 : Int) (y2 : Vec (Vec Int)) (y3 : Vec (ByteArray × Int × Int × (Vec Int))) => Q [.a [.h 0, .h 1], .c (.n (.v (.int .i64 y1)))] [.row 1 (encRw y2) [], .row 4 (encRw y3) []]) = F := by
  funext y1 y2 y3
  exact ofC_enc encAI _ (y1, y2, y3)
noncomputable def G (q_laws_markIntSS_s45a1 : List AV → List Ob → Option (Int × Vec (Vec Int))) (q_laws_markBodyS_s669a : List AV → List Ob → Option (Int × (Vec (ByteArray × Int × Int × (Vec Int))))) : Orc := ⟨fun f => 9, fun ρ f args K => Option.none, fun ρ f st args dst K => sel (Nat.beq f 22) (callE Try.prog 22 [true, false] false [true] laws_markIntSS_s45a1.encR q_laws_markIntSS_s45a1 st args dst K) (sel (Nat.beq f 61) (callE Try.prog 61 [true, false] false [true] laws_markBodyS_s669a.encR q_laws_markBodyS_s669a st args dst K) (Option.none)), false⟩
noncomputable def L : Lor := fun ρ j st K => Option.none
theorem main (q_laws_markIntSS_s45a1 : List AV → List Ob → Option (Int × Vec (Vec Int))) (q_laws_markBodyS_s669a : List AV → List Ob → Option (Int × (Vec (ByteArray × Int × Int × (Vec Int))))) {ρ : Type} (K : AV → List Ob → Option ρ) (a1 : Int) (a2 : Vec (Vec Int)) (a3 : Vec (ByteArray × Int × Int × (Vec Int))) : exC Try.prog (G q_laws_markIntSS_s45a1 q_laws_markBodyS_s669a) (L) [] 0 (bodyOf Try.f21) (entry 14 [.a [.h 0, .h 1], .c (.n (.v (.int .i64 a1)))] [.row 1 (encRw a2) [], .row 4 (encRw a3) []] [true, true]) (finO Try.prog Try.f21.results.toList 2 [true, true] [] K) =
    B (fun y1 y2 => q_laws_markIntSS_s45a1 [.c (.h 0), .c (.n (.v (.int .i64 y1)))] [.row 1 (encRw y2) []]) (fun y1 y2 => q_laws_markBodyS_s669a [.c (.h 0), .c (.n (.v (.int .i64 y1)))] [.row 4 (encRw y2) []]) a1 a2 a3 (fun x1 x2 x3 => K (.c (.n (.v (.int .i64 x1)))) [.row 1 (encRw x2) [], .row 4 (encRw x3) []]) := by kernel_rfl
theorem Gok : (G laws_markIntSS_s45a1.Q laws_markBodyS_s669a.Q).ok Try.prog := ⟨(fun ρ f args K r h => (by cases h)),
  (fun ρ f args K => rfl),
  (by
    intro ρ f st caps args dst K r h
    rcases sel_cases h with ⟨hb, h⟩ | ⟨-, h⟩
    · obtain rfl := beq_nat hb
      exact callE_ok (fun h => by cases h) laws_markIntSS_s45a1.ac h
    rcases sel_cases h with ⟨hb, h⟩ | ⟨-, h⟩
    · obtain rfl := beq_nat hb
      exact callE_ok (fun h => by cases h) laws_markBodyS_s669a.ac h
    cases h)⟩
theorem hm : Try.prog.follows .mixedOrders = true := by kernel_rfl
theorem e : atomsL [] 0 (bodyOf Try.f21) = [] := by kernel_rfl
theorem acc (t : Int × Vec (Vec Int) × (Vec (ByteArray × Int × Int × (Vec Int)))) (x : Int × Vec (Vec Int) × (Vec (ByteArray × Int × Int × (Vec Int)))) (h : F t.1 t.2.1 t.2.2 = some x) : ACc Try.prog 21 (encA t).1 (encA t).2 true [true, true] fun rv obs => (rv, obs) = encR x := by
  refine fun_okc (L := (L)) (jn := []) (cmds := []) (ks := [true, true]) (hin := (encA t).2) (fn := Try.f21) (body := (bodyOf Try.f21)) Gok hm Try.func21 (by kernel_rfl) (by kernel_rfl) (by rw [e]; exact Lor.ok_nil _ _) ?_ h
  refine (main laws_markIntSS_s45a1.Q laws_markBodyS_s669a.Q _ t.1 t.2.1 t.2.2).trans ?_
  rw [laws_markIntSS_s45a1.wrap, laws_markBodyS_s669a.wrap]
  refine congrArg (fun K => B laws_markIntSS_s45a1.F laws_markBodyS_s669a.F t.1 t.2.1 t.2.2 K) ?_
  funext x1 x2 x3
  exact ofC_enc encRI some (x1, x2, x3)
theorem ac0 (t : Int × Vec (Vec Int) × (Vec (ByteArray × Int × Int × (Vec Int)))) (x : Int × Vec (Vec Int) × (Vec (ByteArray × Int × Int × (Vec Int)))) (h : F t.1 t.2.1 t.2.2 = some x) : AC Try.prog 21 (encA t).1 (encA t).2 true [true, true] fun rv obs => (rv, obs) = encR x := ACc.ac (body := bodyOf Try.f21) Try.func21 (by kernel_rfl) (by kernel_rfl) (acc t x h)
theorem ac (args : List AV) (hin : List Ob) (x : Int × Vec (Vec Int) × (Vec (ByteArray × Int × Int × (Vec Int)))) (h : Q args hin = some x) : AC Try.prog 21 args hin false [true, true] fun rv obs => (rv, obs) = encR x := by
  obtain ⟨t, he, h2⟩ := ofC_some h
  obtain rfl : args = (encA t).1 := (congrArg Prod.fst he).symm
  obtain rfl : hin = (encA t).2 := (congrArg Prod.snd he).symm
  refine (ac0 t x h2).flat fun rv obs e => ?_
  obtain rfl : rv = (encR x).1 := congrArg Prod.fst e
  obtain rfl : obs = (encR x).2 := congrArg Prod.snd e
  refine ⟨by simp [encR, AV.Flat, K.Flat, C.Flat], ?_⟩
  intro o ho
  simp only [encR, List.mem_cons, List.not_mem_nil, or_false] at ho
  rcases ho with rfl | rfl
  · exact flat_rw rfl _
  · exact flat_rw rfl _
end laws_markWeave_saeda
/-! loop.example/g00073/laws.markNoteS -/
namespace laws_markNoteS_s2747
noncomputable def B0 {ρ : Type} (C_laws_markText : Int → Option ByteArray) (v1 : Int) (v2 : Int) (v3 : Vec (Int × Int × ByteArray)) (W : Int → Int → (Vec (Int × Int × ByteArray)) → Option ρ) (K0 : Int → (Vec (Int × Int × ByteArray)) → Option ρ) : Option ρ :=
  sel (decide (v2 < (v3.n : Int))) (chk (decide (0 ≤ v2 ∧ v2 < (v3.n : Int))) (chk (decide (v2.toNat < v3.n)) (chk (decide (0 ≤ v2 ∧ v2 < ((Vec.set v3 v2.toNat (v1, (v3.g v2.toNat).2.1, (v3.g v2.toNat).2.2)).n : Int))) (chk (decide (v2.toNat < (Vec.set v3 v2.toNat (v1, (v3.g v2.toNat).2.1, (v3.g v2.toNat).2.2)).n)) ((C_laws_markText (wr ((wr (v1 + (1 : Int))) + (1 : Int)))).bind fun r1 => chk (decide (0 ≤ v2 ∧ v2 < ((Vec.set (Vec.set v3 v2.toNat (v1, (v3.g v2.toNat).2.1, (v3.g v2.toNat).2.2)) v2.toNat (((Vec.set v3 v2.toNat (v1, (v3.g v2.toNat).2.1, (v3.g v2.toNat).2.2)).g v2.toNat).1, (wr (v1 + (1 : Int))), ((Vec.set v3 v2.toNat (v1, (v3.g v2.toNat).2.1, (v3.g v2.toNat).2.2)).g v2.toNat).2.2)).n : Int))) (chk (decide (v2.toNat < (Vec.set (Vec.set v3 v2.toNat (v1, (v3.g v2.toNat).2.1, (v3.g v2.toNat).2.2)) v2.toNat (((Vec.set v3 v2.toNat (v1, (v3.g v2.toNat).2.1, (v3.g v2.toNat).2.2)).g v2.toNat).1, (wr (v1 + (1 : Int))), ((Vec.set v3 v2.toNat (v1, (v3.g v2.toNat).2.1, (v3.g v2.toNat).2.2)).g v2.toNat).2.2)).n)) (W (wr ((wr ((wr (v1 + (1 : Int))) + (1 : Int))) + (1 : Int))) (wr (v2 + (1 : Int))) (Vec.set (Vec.set (Vec.set v3 v2.toNat (v1, (v3.g v2.toNat).2.1, (v3.g v2.toNat).2.2)) v2.toNat (((Vec.set v3 v2.toNat (v1, (v3.g v2.toNat).2.1, (v3.g v2.toNat).2.2)).g v2.toNat).1, (wr (v1 + (1 : Int))), ((Vec.set v3 v2.toNat (v1, (v3.g v2.toNat).2.1, (v3.g v2.toNat).2.2)).g v2.toNat).2.2)) v2.toNat (((Vec.set (Vec.set v3 v2.toNat (v1, (v3.g v2.toNat).2.1, (v3.g v2.toNat).2.2)) v2.toNat (((Vec.set v3 v2.toNat (v1, (v3.g v2.toNat).2.1, (v3.g v2.toNat).2.2)).g v2.toNat).1, (wr (v1 + (1 : Int))), ((Vec.set v3 v2.toNat (v1, (v3.g v2.toNat).2.1, (v3.g v2.toNat).2.2)).g v2.toNat).2.2)).g v2.toNat).1, ((Vec.set (Vec.set v3 v2.toNat (v1, (v3.g v2.toNat).2.1, (v3.g v2.toNat).2.2)) v2.toNat (((Vec.set v3 v2.toNat (v1, (v3.g v2.toNat).2.1, (v3.g v2.toNat).2.2)).g v2.toNat).1, (wr (v1 + (1 : Int))), ((Vec.set v3 v2.toNat (v1, (v3.g v2.toNat).2.1, (v3.g v2.toNat).2.2)).g v2.toNat).2.2)).g v2.toNat).2.1, r1))))))))) (K0 v1 v3)
noncomputable def F0 {ρ : Type} : Nat → Int → Int → (Vec (Int × Int × ByteArray)) → (Int → (Vec (Int × Int × ByteArray)) → Option ρ) → Option ρ
  | 0, _, _, _, _ => none
  | k + 1, v1, v2, v3, K0 => B0 laws_markText.F v1 v2 v3 (fun v1' v2' v3' => F0 k v1' v2' v3' K0) K0
noncomputable def B {ρ : Type} (L0 : Int → Int → (Vec (Int × Int × ByteArray)) → (Int → (Vec (Int × Int × ByteArray)) → Option ρ) → Option ρ) (a1 : Int) (a2 : Vec (Int × Int × ByteArray)) (K : Int → (Vec (Int × Int × ByteArray)) → Option ρ) : Option ρ :=
  L0 a1 (0 : Int) a2 (fun e01 e02 => K e01 e02)
noncomputable def F (a1 : Int) (a2 : Vec (Int × Int × ByteArray)) : Option (Int × (Vec (Int × Int × ByteArray))) := B (F0 fuelN) a1 a2 (fun x1 x2 => some (x1, x2))
def encA (t : Int × (Vec (Int × Int × ByteArray))) : List AV × List Ob := ([.c (.h 0), .c (.n (.v (.int .i64 t.1)))], [.row 3 (encRw t.2) []])
def encR (x : Int × (Vec (Int × Int × ByteArray))) : AV × List Ob := (.c (.n (.v (.int .i64 x.1))), [.row 3 (encRw x.2) []])
theorem encAI : ∀ a b, encA a = encA b → a = b := by
  intro a b h
  obtain ⟨a0, a1⟩ := a
  obtain ⟨b0, b1⟩ := b
  simp [encA, encRw_iff] at h
  simp_all
theorem encRI : ∀ a b, encR a = encR b → a = b := by
  intro a b h
  obtain ⟨a0, a1⟩ := a
  obtain ⟨b0, b1⟩ := b
  simp [encR, encRw_iff] at h
  simp_all
noncomputable def Q (args : List AV) (hin : List Ob) : Option (Int × (Vec (Int × Int × ByteArray))) := ofC encA (fun t => F t.1 t.2) (args, hin)
theorem wrap : (fun (y1 : Int) (y2 : Vec (Int × Int × ByteArray)) => Q [.c (.h 0), .c (.n (.v (.int .i64 y1)))] [.row 3 (encRw y2) []]) = F := by
  funext y1 y2
  exact ofC_enc encAI _ (y1, y2)
noncomputable def G (q_laws_markText : List AV → Option ByteArray) : Orc := ⟨fun f => sel (Nat.beq f 70) 0 (9), fun ρ f args K => sel (Nat.beq f 70) (qEntry laws_markText.encR q_laws_markText args K) (Option.none), noE, false⟩
noncomputable def L (W0 : (ρ : Type) → List AV → List Ob → (Int → (Vec (Int × Int × ByteArray)) → Option ρ) → Option ρ) : Lor := fun ρ j st K => sel (Nat.beq j 0) (cutO Try.prog 35 [0, 1, 5] 1 [true] [] st fun avs obs => W0 ρ avs obs (fun z1 z2 => K (.exit 0) (mkS 35 [1] [.c (.n (.v (.int .i64 z1)))] [.row 3 (encRw z2) []] [true]))) (Option.none)
noncomputable def c0 : Code := loopC (atomN [] 0 (bodyOf Try.f27) 0)
def ct0 : Cut := ⟨[0, 1, 5], []⟩
def lv0 : Exit → Cut
  | .exit 0 => ⟨[1], []⟩
  | _ => ⟨[], []⟩
theorem step0 (q_laws_markText : List AV → Option ByteArray) (W0 : (ρ : Type) → List AV → List Ob → (Int → (Vec (Int × Int × ByteArray)) → Option ρ) → Option ρ) {ρ : Type} (K : Exit → St → Option ρ) (W : List AV → List Ob → Option ρ) (v1 : Int) (v2 : Int) (v3 : Vec (Int × Int × ByteArray)) : exC Try.prog (G q_laws_markText) (L W0) [] 1 c0 (mkS 35 [0, 1, 5] [.c (.h 0), .c (.n (.v (.int .i64 v1))), .c (.n (.v (.int .i64 v2)))] [.row 3 (encRw v3) []] [true]) (bodyK Try.prog 35 1 [true] ct0 W lv0 K) =
    B0 (fun y1 => q_laws_markText [.c (.n (.v (.int .i64 y1)))]) v1 v2 v3 (fun u1 u2 u3 => W [.c (.h 0), .c (.n (.v (.int .i64 u1))), .c (.n (.v (.int .i64 u2)))] [.row 3 (encRw u3) []]) (fun z1 z2 => K (.exit 0) (mkS 35 [1] [.c (.n (.v (.int .i64 z1)))] [.row 3 (encRw z2) []] [true])) := by kernel_rfl
def enc0 (t : Int × Int × (Vec (Int × Int × ByteArray))) : List AV × List Ob := ([.c (.h 0), .c (.n (.v (.int .i64 t.1))), .c (.n (.v (.int .i64 t.2.1)))], [.row 3 (encRw t.2.2) []])
theorem enc0I : ∀ a b, enc0 a = enc0 b → a = b := by
  intro a b h
  obtain ⟨a0, a1, a2⟩ := a
  obtain ⟨b0, b1, b2⟩ := b
  simp [enc0, encRw_iff] at h
  simp_all
noncomputable def V0 : (ρ : Type) → List AV → List Ob → (Int → (Vec (Int × Int × ByteArray)) → Option ρ) → Option ρ := fun ρ avs obs k0 => ofC enc0 (fun t => F0 fuelN t.1 t.2.1 t.2.2 k0) (avs, obs)
theorem V0_enc (ρ : Type) : (fun w1 w2 w3 k0 => V0 ρ [.c (.h 0), .c (.n (.v (.int .i64 w1))), .c (.n (.v (.int .i64 w2)))] [.row 3 (encRw w3) []] k0) = F0 fuelN := by
  funext w1 w2 w3 k0
  exact ofC_enc enc0I _ (w1, w2, w3)
theorem main (q_laws_markText : List AV → Option ByteArray) (W0 : (ρ : Type) → List AV → List Ob → (Int → (Vec (Int × Int × ByteArray)) → Option ρ) → Option ρ) {ρ : Type} (K : AV → List Ob → Option ρ) (a1 : Int) (a2 : Vec (Int × Int × ByteArray)) : exC Try.prog (G q_laws_markText) (L W0) [] 0 (bodyOf Try.f27) (entry 35 [.c (.h 0), .c (.n (.v (.int .i64 a1)))] [.row 3 (encRw a2) []] [true]) (finO Try.prog Try.f27.results.toList 1 [true] [] K) =
    B (fun w1 w2 w3 k0 => W0 ρ [.c (.h 0), .c (.n (.v (.int .i64 w1))), .c (.n (.v (.int .i64 w2)))] [.row 3 (encRw w3) []] k0) a1 a2 (fun x1 x2 => K (.c (.n (.v (.int .i64 x1)))) [.row 3 (encRw x2) []]) := by kernel_rfl
theorem Gok : (G laws_markText.Q).ok Try.prog := ⟨(by
    intro ρ f args K r h
    rcases sel_cases h with ⟨hb, h⟩ | ⟨-, h⟩
    · obtain rfl := beq_nat hb
      exact qEntry_ok laws_markText.ac h
    cases h),
  (by
    intro ρ f args K
    simp only [G]
    cases Nat.beq f 70 with
    | true => exact qEntry_nat args K
    | false =>
    simp only [sel]
    rfl),
  (fun ρ f st caps args dst K r h => (by cases h))⟩
theorem hm : Try.prog.follows .mixedOrders = true := by kernel_rfl
theorem e0 : atomsL [] 1 c0 = [] := by kernel_rfl
theorem ok0 (ρ : Type) (st : St) (K : Exit → St → Option ρ) (r : ρ) (h : (L V0) ρ 0 st K = some r) : AW Try.prog (.loop c0) st fun e st' => K e st' = some r := by
  refine loop_ok (ct := ct0) (lv := lv0) (n := 35) (m := 1) (ks := [true]) (j := 0) (jn := []) (L := (L V0)) Gok hm (by rw [e0]; exact Lor.ok_nil _ _) enc0I (fun k t => F0 k t.1 t.2.1 t.2.2 (fun z1 z2 => K (.exit 0) (mkS 35 [1] [.c (.n (.v (.int .i64 z1)))] [.row 3 (encRw z2) []] [true]))) (fun t => rfl) (fun k t => ?_) (fun _ => fuelN) h
  refine (step0 laws_markText.Q V0 K _ t.1 t.2.1 t.2.2).trans ?_
  rw [laws_markText.wrap]
  refine congrArg (fun W => B0 laws_markText.F t.1 t.2.1 t.2.2 W (fun z1 z2 => K (.exit 0) (mkS 35 [1] [.c (.n (.v (.int .i64 z1)))] [.row 3 (encRw z2) []] [true]))) ?_
  funext u1 u2 u3
  exact ofC_enc enc0I _ (u1, u2, u3)
theorem e : atomsL [] 0 (bodyOf Try.f27) = [(0, 0, .loop c0)] := by kernel_rfl
theorem acc (t : Int × (Vec (Int × Int × ByteArray))) (x : Int × (Vec (Int × Int × ByteArray))) (h : F t.1 t.2 = some x) : ACc Try.prog 27 (encA t).1 (encA t).2 true [true] fun rv obs => (rv, obs) = encR x := by
  refine fun_okc (L := (L V0)) (jn := []) (cmds := []) (ks := [true]) (hin := (encA t).2) (fn := Try.f27) (body := (bodyOf Try.f27)) Gok hm Try.func27 (by kernel_rfl) (by kernel_rfl) (by rw [e]; exact Lor.ok_cons ok0 (Lor.ok_nil _ _)) ?_ h
  refine (main laws_markText.Q V0 _ t.1 t.2).trans ?_
  rw [V0_enc]
  refine congrArg (fun K => B (F0 fuelN) t.1 t.2 K) ?_
  funext x1 x2
  exact ofC_enc encRI some (x1, x2)
theorem ac0 (t : Int × (Vec (Int × Int × ByteArray))) (x : Int × (Vec (Int × Int × ByteArray))) (h : F t.1 t.2 = some x) : AC Try.prog 27 (encA t).1 (encA t).2 true [true] fun rv obs => (rv, obs) = encR x := ACc.ac (body := bodyOf Try.f27) Try.func27 (by kernel_rfl) (by kernel_rfl) (acc t x h)
theorem ac (args : List AV) (hin : List Ob) (x : Int × (Vec (Int × Int × ByteArray))) (h : Q args hin = some x) : AC Try.prog 27 args hin false [true] fun rv obs => (rv, obs) = encR x := by
  obtain ⟨t, he, h2⟩ := ofC_some h
  obtain rfl : args = (encA t).1 := (congrArg Prod.fst he).symm
  obtain rfl : hin = (encA t).2 := (congrArg Prod.snd he).symm
  refine (ac0 t x h2).flat fun rv obs e => ?_
  obtain rfl : rv = (encR x).1 := congrArg Prod.fst e
  obtain rfl : obs = (encR x).2 := congrArg Prod.snd e
  refine ⟨by simp [encR, AV.Flat, K.Flat, C.Flat], ?_⟩
  intro o ho
  simp only [encR, List.mem_cons, List.not_mem_nil, or_false] at ho
  subst ho
  exact flat_rw rfl _
end laws_markNoteS_s2747
/-! loop.example/g00073/laws.heldNoteS -/
namespace laws_heldNoteS
noncomputable def B0 {ρ : Type} (C_laws_markText : Int → Option ByteArray) (v1 : Vec (Int × Int × ByteArray)) (v2 : Int) (v3 : Int) (W : (Vec (Int × Int × ByteArray)) → Int → Int → Option ρ) (K0 : Int → Option ρ) (Kr : Int → Option ρ) : Option ρ :=
  sel (decide (v3 < (v1.n : Int))) (chk (decide (0 ≤ v3 ∧ v3 < (v1.n : Int))) (sel ((!decide ((v1.g v3.toNat).1 = v2))) (Kr (-1 : Int)) (chk (decide (0 ≤ v3 ∧ v3 < (v1.n : Int))) (sel ((!decide ((v1.g v3.toNat).2.1 = (wr (v2 + (1 : Int)))))) (Kr (-1 : Int)) (chk (decide (0 ≤ v3 ∧ v3 < (v1.n : Int))) ((C_laws_markText (wr ((wr (v2 + (1 : Int))) + (1 : Int)))).bind fun r1 => sel ((!decide ((v1.g v3.toNat).2.2 = r1))) (Kr (-1 : Int)) (W v1 (wr ((wr ((wr (v2 + (1 : Int))) + (1 : Int))) + (1 : Int))) (wr (v3 + (1 : Int)))))))))) (K0 v2)
noncomputable def F0 {ρ : Type} : Nat → (Vec (Int × Int × ByteArray)) → Int → Int → (Int → Option ρ) → (Int → Option ρ) → Option ρ
  | 0, _, _, _, _, _ => none
  | k + 1, v1, v2, v3, K0, Kr => B0 laws_markText.F v1 v2 v3 (fun v1' v2' v3' => F0 k v1' v2' v3' K0 Kr) K0 Kr
noncomputable def B {ρ : Type} (L0 : (Vec (Int × Int × ByteArray)) → Int → Int → (Int → Option ρ) → (Int → Option ρ) → Option ρ) (a1 : Vec (Int × Int × ByteArray)) (a2 : Int) (K : Int → Option ρ) : Option ρ :=
  L0 a1 a2 (0 : Int) (fun e01 => K e01) (fun x01 => K x01)
noncomputable def F (a1 : Vec (Int × Int × ByteArray)) (a2 : Int) : Option Int := B (F0 fuelN) a1 a2 (fun x1 => some (x1))
def encA (t : (Vec (Int × Int × ByteArray)) × Int) : List AV := [.c (.n (.sl 3 (encRw t.1))), .c (.n (.v (.int .i64 t.2)))]
def encR (x : Int) : AV × List Ob := (.c (.n (.v (.int .i64 x))), [])
theorem encAI : ∀ a b, encA a = encA b → a = b := by
  intro a b h
  obtain ⟨a0, a1⟩ := a
  obtain ⟨b0, b1⟩ := b
  simp [encA, encRw_iff] at h
  simp_all
theorem encRI : ∀ a b, encR a = encR b → a = b := by
  intro a b h
  simp [encR, encRw_iff] at h
  simp_all
noncomputable def Q (args : List AV) : Option Int := ofC encA (fun t => F t.1 t.2) args
theorem wrap : (fun (y1 : Vec (Int × Int × ByteArray)) (y2 : Int) => Q [.c (.n (.sl 3 (encRw y1))), .c (.n (.v (.int .i64 y2)))]) = F := by
  funext y1 y2
  exact ofC_enc encAI _ (y1, y2)
noncomputable def G (q_laws_markText : List AV → Option ByteArray) : Orc := ⟨fun f => sel (Nat.beq f 70) 0 (9), fun ρ f args K => sel (Nat.beq f 70) (qEntry laws_markText.encR q_laws_markText args K) (Option.none), noE, false⟩
noncomputable def L (W0 : (ρ : Type) → List AV → List Ob → (Int → Option ρ) → (Int → Option ρ) → Option ρ) : Lor := fun ρ j st K => sel (Nat.beq j 0) (cutO Try.prog 41 [0, 1, 5] 0 [] [] st fun avs obs => W0 ρ avs obs (fun z1 => K (.exit 0) (mkS 41 [1] [.c (.n (.v (.int .i64 z1)))] [] [])) (fun z1 => K .ret (mkS 41 [4] [.c (.n (.v (.int .i64 z1)))] [] []))) (Option.none)
noncomputable def c0 : Code := loopC (atomN [] 0 (bodyOf Try.f28) 0)
def ct0 : Cut := ⟨[0, 1, 5], []⟩
def lv0 : Exit → Cut
  | .exit 0 => ⟨[1], []⟩
  | .ret => ⟨[4], []⟩
  | _ => ⟨[], []⟩
theorem step0 (q_laws_markText : List AV → Option ByteArray) (W0 : (ρ : Type) → List AV → List Ob → (Int → Option ρ) → (Int → Option ρ) → Option ρ) {ρ : Type} (K : Exit → St → Option ρ) (W : List AV → List Ob → Option ρ) (v1 : Vec (Int × Int × ByteArray)) (v2 : Int) (v3 : Int) : exC Try.prog (G q_laws_markText) (L W0) [] 1 c0 (mkS 41 [0, 1, 5] [.c (.n (.sl 3 (encRw v1))), .c (.n (.v (.int .i64 v2))), .c (.n (.v (.int .i64 v3)))] [] []) (bodyK Try.prog 41 0 [] ct0 W lv0 K) =
    B0 (fun y1 => q_laws_markText [.c (.n (.v (.int .i64 y1)))]) v1 v2 v3 (fun u1 u2 u3 => W [.c (.n (.sl 3 (encRw u1))), .c (.n (.v (.int .i64 u2))), .c (.n (.v (.int .i64 u3)))] []) (fun z1 => K (.exit 0) (mkS 41 [1] [.c (.n (.v (.int .i64 z1)))] [] [])) (fun z1 => K .ret (mkS 41 [4] [.c (.n (.v (.int .i64 z1)))] [] [])) := by kernel_rfl
def enc0 (t : (Vec (Int × Int × ByteArray)) × Int × Int) : List AV × List Ob := ([.c (.n (.sl 3 (encRw t.1))), .c (.n (.v (.int .i64 t.2.1))), .c (.n (.v (.int .i64 t.2.2)))], [])
theorem enc0I : ∀ a b, enc0 a = enc0 b → a = b := by
  intro a b h
  obtain ⟨a0, a1, a2⟩ := a
  obtain ⟨b0, b1, b2⟩ := b
  simp [enc0, encRw_iff] at h
  simp_all
noncomputable def V0 : (ρ : Type) → List AV → List Ob → (Int → Option ρ) → (Int → Option ρ) → Option ρ := fun ρ avs obs k0 kr => ofC enc0 (fun t => F0 fuelN t.1 t.2.1 t.2.2 k0 kr) (avs, obs)
theorem V0_enc (ρ : Type) : (fun w1 w2 w3 k0 kr => V0 ρ [.c (.n (.sl 3 (encRw w1))), .c (.n (.v (.int .i64 w2))), .c (.n (.v (.int .i64 w3)))] [] k0 kr) = F0 fuelN := by
  funext w1 w2 w3 k0 kr
  exact ofC_enc enc0I _ (w1, w2, w3)
theorem main (q_laws_markText : List AV → Option ByteArray) (W0 : (ρ : Type) → List AV → List Ob → (Int → Option ρ) → (Int → Option ρ) → Option ρ) {ρ : Type} (K : AV → List Ob → Option ρ) (a1 : Vec (Int × Int × ByteArray)) (a2 : Int) : exC Try.prog (G q_laws_markText) (L W0) [] 0 (bodyOf Try.f28) (entry 41 [.c (.n (.sl 3 (encRw a1))), .c (.n (.v (.int .i64 a2)))] [] []) (finO Try.prog Try.f28.results.toList 0 [] [] K) =
    B (fun w1 w2 w3 k0 kr => W0 ρ [.c (.n (.sl 3 (encRw w1))), .c (.n (.v (.int .i64 w2))), .c (.n (.v (.int .i64 w3)))] [] k0 kr) a1 a2 (fun x1 => K (.c (.n (.v (.int .i64 x1)))) []) := by kernel_rfl
theorem Gok : (G laws_markText.Q).ok Try.prog := ⟨(by
    intro ρ f args K r h
    rcases sel_cases h with ⟨hb, h⟩ | ⟨-, h⟩
    · obtain rfl := beq_nat hb
      exact qEntry_ok laws_markText.ac h
    cases h),
  (by
    intro ρ f args K
    simp only [G]
    cases Nat.beq f 70 with
    | true => exact qEntry_nat args K
    | false =>
    simp only [sel]
    rfl),
  (fun ρ f st caps args dst K r h => (by cases h))⟩
theorem hm : Try.prog.follows .mixedOrders = true := by kernel_rfl
theorem e0 : atomsL [] 1 c0 = [] := by kernel_rfl
theorem ok0 (ρ : Type) (st : St) (K : Exit → St → Option ρ) (r : ρ) (h : (L V0) ρ 0 st K = some r) : AW Try.prog (.loop c0) st fun e st' => K e st' = some r := by
  refine loop_ok (ct := ct0) (lv := lv0) (n := 41) (m := 0) (ks := []) (j := 0) (jn := []) (L := (L V0)) Gok hm (by rw [e0]; exact Lor.ok_nil _ _) enc0I (fun k t => F0 k t.1 t.2.1 t.2.2 (fun z1 => K (.exit 0) (mkS 41 [1] [.c (.n (.v (.int .i64 z1)))] [] [])) (fun z1 => K .ret (mkS 41 [4] [.c (.n (.v (.int .i64 z1)))] [] []))) (fun t => rfl) (fun k t => ?_) (fun _ => fuelN) h
  refine (step0 laws_markText.Q V0 K _ t.1 t.2.1 t.2.2).trans ?_
  rw [laws_markText.wrap]
  refine congrArg (fun W => B0 laws_markText.F t.1 t.2.1 t.2.2 W (fun z1 => K (.exit 0) (mkS 41 [1] [.c (.n (.v (.int .i64 z1)))] [] [])) (fun z1 => K .ret (mkS 41 [4] [.c (.n (.v (.int .i64 z1)))] [] []))) ?_
  funext u1 u2 u3
  exact ofC_enc enc0I _ (u1, u2, u3)
theorem e : atomsL [] 0 (bodyOf Try.f28) = [(0, 0, .loop c0)] := by kernel_rfl
theorem acc (t : (Vec (Int × Int × ByteArray)) × Int) (x : Int) (h : F t.1 t.2 = some x) : ACc Try.prog 28 (encA t) [] true [] fun rv obs => (rv, obs) = encR x := by
  refine fun_okc (L := (L V0)) (jn := []) (cmds := []) (ks := []) (hin := []) (fn := Try.f28) (body := (bodyOf Try.f28)) Gok hm Try.func28 (by kernel_rfl) (by kernel_rfl) (by rw [e]; exact Lor.ok_cons ok0 (Lor.ok_nil _ _)) ?_ h
  refine (main laws_markText.Q V0 _ t.1 t.2).trans ?_
  rw [V0_enc]
  refine congrArg (fun K => B (F0 fuelN) t.1 t.2 K) ?_
  funext x1
  exact ofC_enc encRI some (x1)
theorem ac0 (t : (Vec (Int × Int × ByteArray)) × Int) (x : Int) (h : F t.1 t.2 = some x) : AC Try.prog 28 (encA t) [] true [] fun rv obs => (rv, obs) = encR x := ACc.ac (body := bodyOf Try.f28) Try.func28 (by kernel_rfl) (by kernel_rfl) (acc t x h)
theorem ac (args : List AV) (x : Int) (h : Q args = some x) : AC Try.prog 28 args [] false [] fun rv obs => (rv, obs) = encR x := by
  obtain ⟨t, rfl, h2⟩ := ofC_some h
  refine (ac0 t x h2).flat fun rv obs e => ?_
  obtain rfl : rv = (encR x).1 := congrArg Prod.fst e
  obtain rfl : obs = (encR x).2 := congrArg Prod.snd e
  refine ⟨by simp [encR, AV.Flat, K.Flat, C.Flat], ?_⟩
  simp [encR]
end laws_heldNoteS
/-! loop.example/g00073/laws.FnExactAnnotate -/
namespace laws_FnExactAnnotate
noncomputable def B {ρ : Type} (C_laws_szWeave : (Vec (Vec Int)) → (Vec (ByteArray × Int × Int × (Vec Int))) → Int → Option Int) (C_laws_toWeave : (Vec (Vec Int)) → (Vec (ByteArray × Int × Int × (Vec Int))) → Option (Vec (Vec Int) × (Vec (ByteArray × Int × Int × (Vec Int))))) (C_spec_Annotate : (Vec (Vec Int)) → (Vec (ByteArray × Int × Int × (Vec Int))) → Int → Option (Int × (Vec (Int × Int × ByteArray)))) (C_impl_Annotate : (Vec (Vec Int)) → (Vec (ByteArray × Int × Int × (Vec Int))) → Int → Option (Int × (Vec (Int × Int × ByteArray)))) (C_laws_eqNoteS : (Vec (Int × Int × ByteArray)) → (Vec (Int × Int × ByteArray)) → Option Bool) (C_laws_eqWeave : (Vec (Vec Int)) → (Vec (ByteArray × Int × Int × (Vec Int))) → (Vec (Vec Int)) → (Vec (ByteArray × Int × Int × (Vec Int))) → Option Bool) (C_laws_markWeave_saeda : Int → (Vec (Vec Int)) → (Vec (ByteArray × Int × Int × (Vec Int))) → Option (Int × Vec (Vec Int) × (Vec (ByteArray × Int × Int × (Vec Int))))) (C_laws_markNoteS_s2747 : Int → (Vec (Int × Int × ByteArray)) → Option (Int × (Vec (Int × Int × ByteArray)))) (C_laws_heldNoteS : (Vec (Int × Int × ByteArray)) → Int → Option Int) (a1 : Vec (Vec Int)) (a2 : Vec (ByteArray × Int × Int × (Vec Int))) (a3 : Int) (K : Bool → Option ρ) : Option ρ :=
  (C_laws_szWeave a1 a2 (1048576 : Int)).bind fun r1 => sel (decide (r1 < (0 : Int))) (K true) ((C_laws_toWeave a1 a2).bind fun r2 => (C_spec_Annotate r2.1 r2.2 a3).bind fun r3 => (C_laws_toWeave a1 a2).bind fun r4 => (C_impl_Annotate r4.1 r4.2 a3).bind fun r5 => (C_laws_eqNoteS r5.2 r3.2).bind fun r6 => sel ((!r6)) (K false) (sel ((!decide (r5.1 = r3.1))) (K false) ((C_laws_toWeave a1 a2).bind fun r7 => (C_laws_eqWeave r4.1 r4.2 r7.1 r7.2).bind fun r8 => sel ((!r8)) (K false) ((C_laws_markWeave_saeda (1 : Int) r4.1 r4.2).bind fun r9 => sel (decide (r9.1 < (0 : Int))) (K false) ((C_laws_eqNoteS r5.2 r3.2).bind fun r10 => sel ((!r10)) (K false) (sel ((!decide (r5.1 = r3.1))) (K false) ((C_laws_markNoteS_s2747 (1 : Int) r5.2).bind fun r11 => (C_laws_heldNoteS r11.2 (1 : Int)).bind fun r12 => sel (decide (r12 < (0 : Int))) (K false) (sel ((!decide (r12 = r11.1))) (K false) ((C_laws_toWeave a1 a2).bind fun r13 => (C_impl_Annotate r13.1 r13.2 a3).bind fun r14 => (C_laws_eqNoteS r14.2 r3.2).bind fun r15 => sel ((!r15)) (K false) (sel ((!decide (r14.1 = r3.1))) (K false) ((C_laws_heldNoteS r11.2 (1 : Int)).bind fun r16 => sel (decide (r16 < (0 : Int))) (K false) (sel ((!decide (r16 = r11.1))) (K false) (K true)))))))))))))
noncomputable def F (a1 : Vec (Vec Int)) (a2 : Vec (ByteArray × Int × Int × (Vec Int))) (a3 : Int) : Option Bool := B laws_szWeave.F laws_toWeave.F spec_Annotate.F impl_Annotate.F laws_eqNoteS.F laws_eqWeave.F laws_markWeave_saeda.F laws_markNoteS_s2747.F laws_heldNoteS.F a1 a2 a3 (fun x1 => some (x1))
def encA (t : Vec (Vec Int) × (Vec (ByteArray × Int × Int × (Vec Int))) × Int) : List AV := [.a [.n (.sl 1 (encRw t.1)), .n (.sl 4 (encRw t.2.1))], .c (.n (.v (.int .i64 t.2.2)))]
def encR (x : Bool) : AV × List Ob := (.c (.n (.v (.bool x))), [])
theorem encAI : ∀ a b, encA a = encA b → a = b := by
  intro a b h
  obtain ⟨a0, a1, a2⟩ := a
  obtain ⟨b0, b1, b2⟩ := b
  simp [encA, encRw_iff] at h
  simp_all
theorem encRI : ∀ a b, encR a = encR b → a = b := by
  intro a b h
  simp [encR, encRw_iff] at h
  simp_all
noncomputable def Q (args : List AV) : Option Bool := ofC encA (fun t => F t.1 t.2.1 t.2.2) args
theorem wrap : (fun (y1 : Vec (Vec Int)) (y2 : Vec (ByteArray × Int × Int × (Vec Int))) (y3 : Int) => Q [.a [.n (.sl 1 (encRw y1)), .n (.sl 4 (encRw y2))], .c (.n (.v (.int .i64 y3)))]) = F := by
  funext y1 y2 y3
  exact ofC_enc encAI _ (y1, y2, y3)
noncomputable def G (q_laws_szWeave : List AV → Option Int) (q_laws_toWeave : List AV → Option (Vec (Vec Int) × (Vec (ByteArray × Int × Int × (Vec Int))))) (q_spec_Annotate : List AV → Option (Int × (Vec (Int × Int × ByteArray)))) (q_impl_Annotate : List AV → Option (Int × (Vec (Int × Int × ByteArray)))) (q_laws_eqNoteS : List AV → Option Bool) (q_laws_eqWeave : List AV → Option Bool) (q_laws_markWeave_saeda : List AV → List Ob → Option (Int × Vec (Vec Int) × (Vec (ByteArray × Int × Int × (Vec Int))))) (q_laws_markNoteS_s2747 : List AV → List Ob → Option (Int × (Vec (Int × Int × ByteArray)))) (q_laws_heldNoteS : List AV → Option Int) : Orc := ⟨fun f => sel (Nat.beq f 11) 0 (sel (Nat.beq f 13) 0 (sel (Nat.beq f 24) 0 (sel (Nat.beq f 25) 0 (sel (Nat.beq f 26) 0 (sel (Nat.beq f 15) 0 (sel (Nat.beq f 28) 0 (9))))))), fun ρ f args K => sel (Nat.beq f 11) (qEntry laws_szWeave.encR q_laws_szWeave args K) (sel (Nat.beq f 13) (qEntry laws_toWeave.encR q_laws_toWeave args K) (sel (Nat.beq f 24) (qEntry spec_Annotate.encR q_spec_Annotate args K) (sel (Nat.beq f 25) (qEntry impl_Annotate.encR q_impl_Annotate args K) (sel (Nat.beq f 26) (qEntry laws_eqNoteS.encR q_laws_eqNoteS args K) (sel (Nat.beq f 15) (qEntry laws_eqWeave.encR q_laws_eqWeave args K) (sel (Nat.beq f 28) (qEntry laws_heldNoteS.encR q_laws_heldNoteS args K) (Option.none))))))), fun ρ f st args dst K => sel (Nat.beq f 21) (callE Try.prog 21 [true, false] false [true, true] laws_markWeave_saeda.encR q_laws_markWeave_saeda st args dst K) (sel (Nat.beq f 27) (callE Try.prog 27 [true, false] false [true] laws_markNoteS_s2747.encR q_laws_markNoteS_s2747 st args dst K) (Option.none)), false⟩
noncomputable def L : Lor := fun ρ j st K => Option.none
theorem main (q_laws_szWeave : List AV → Option Int) (q_laws_toWeave : List AV → Option (Vec (Vec Int) × (Vec (ByteArray × Int × Int × (Vec Int))))) (q_spec_Annotate : List AV → Option (Int × (Vec (Int × Int × ByteArray)))) (q_impl_Annotate : List AV → Option (Int × (Vec (Int × Int × ByteArray)))) (q_laws_eqNoteS : List AV → Option Bool) (q_laws_eqWeave : List AV → Option Bool) (q_laws_markWeave_saeda : List AV → List Ob → Option (Int × Vec (Vec Int) × (Vec (ByteArray × Int × Int × (Vec Int))))) (q_laws_markNoteS_s2747 : List AV → List Ob → Option (Int × (Vec (Int × Int × ByteArray)))) (q_laws_heldNoteS : List AV → Option Int) {ρ : Type} (K : AV → List Ob → Option ρ) (a1 : Vec (Vec Int)) (a2 : Vec (ByteArray × Int × Int × (Vec Int))) (a3 : Int) : exC Try.prog (G q_laws_szWeave q_laws_toWeave q_spec_Annotate q_impl_Annotate q_laws_eqNoteS q_laws_eqWeave q_laws_markWeave_saeda q_laws_markNoteS_s2747 q_laws_heldNoteS) (L) [] 0 (bodyOf Try.f6) (entry 101 [.a [.n (.sl 1 (encRw a1)), .n (.sl 4 (encRw a2))], .c (.n (.v (.int .i64 a3)))] [] []) (finO Try.prog Try.f6.results.toList 0 [] [] K) =
    B (fun y1 y2 y3 => q_laws_szWeave [.a [.n (.sl 1 (encRw y1)), .n (.sl 4 (encRw y2))], .c (.n (.v (.int .i64 y3)))]) (fun y1 y2 => q_laws_toWeave [.a [.n (.sl 1 (encRw y1)), .n (.sl 4 (encRw y2))]]) (fun y1 y2 y3 => q_spec_Annotate [.a [.n (.sl 1 (encRw y1)), .n (.sl 4 (encRw y2))], .c (.n (.v (.int .i64 y3)))]) (fun y1 y2 y3 => q_impl_Annotate [.a [.n (.sl 1 (encRw y1)), .n (.sl 4 (encRw y2))], .c (.n (.v (.int .i64 y3)))]) (fun y1 y2 => q_laws_eqNoteS [.c (.n (.sl 3 (encRw y1))), .c (.n (.sl 3 (encRw y2)))]) (fun y1 y2 y3 y4 => q_laws_eqWeave [.a [.n (.sl 1 (encRw y1)), .n (.sl 4 (encRw y2))], .a [.n (.sl 1 (encRw y3)), .n (.sl 4 (encRw y4))]]) (fun y1 y2 y3 => q_laws_markWeave_saeda [.a [.h 0, .h 1], .c (.n (.v (.int .i64 y1)))] [.row 1 (encRw y2) [], .row 4 (encRw y3) []]) (fun y1 y2 => q_laws_markNoteS_s2747 [.c (.h 0), .c (.n (.v (.int .i64 y1)))] [.row 3 (encRw y2) []]) (fun y1 y2 => q_laws_heldNoteS [.c (.n (.sl 3 (encRw y1))), .c (.n (.v (.int .i64 y2)))]) a1 a2 a3 (fun x1 => K (.c (.n (.v (.bool x1)))) []) := by kernel_rfl
theorem Gok : (G laws_szWeave.Q laws_toWeave.Q spec_Annotate.Q impl_Annotate.Q laws_eqNoteS.Q laws_eqWeave.Q laws_markWeave_saeda.Q laws_markNoteS_s2747.Q laws_heldNoteS.Q).ok Try.prog := ⟨(by
    intro ρ f args K r h
    rcases sel_cases h with ⟨hb, h⟩ | ⟨-, h⟩
    · obtain rfl := beq_nat hb
      exact qEntry_ok laws_szWeave.ac h
    rcases sel_cases h with ⟨hb, h⟩ | ⟨-, h⟩
    · obtain rfl := beq_nat hb
      exact qEntry_ok laws_toWeave.ac h
    rcases sel_cases h with ⟨hb, h⟩ | ⟨-, h⟩
    · obtain rfl := beq_nat hb
      exact qEntry_ok spec_Annotate.ac h
    rcases sel_cases h with ⟨hb, h⟩ | ⟨-, h⟩
    · obtain rfl := beq_nat hb
      exact qEntry_ok impl_Annotate.ac h
    rcases sel_cases h with ⟨hb, h⟩ | ⟨-, h⟩
    · obtain rfl := beq_nat hb
      exact qEntry_ok laws_eqNoteS.ac h
    rcases sel_cases h with ⟨hb, h⟩ | ⟨-, h⟩
    · obtain rfl := beq_nat hb
      exact qEntry_ok laws_eqWeave.ac h
    rcases sel_cases h with ⟨hb, h⟩ | ⟨-, h⟩
    · obtain rfl := beq_nat hb
      exact qEntry_ok laws_heldNoteS.ac h
    cases h),
  (by
    intro ρ f args K
    simp only [G]
    cases Nat.beq f 11 with
    | true => exact qEntry_nat args K
    | false =>
    simp only [sel]
    cases Nat.beq f 13 with
    | true => exact qEntry_nat args K
    | false =>
    simp only [sel]
    cases Nat.beq f 24 with
    | true => exact qEntry_nat args K
    | false =>
    simp only [sel]
    cases Nat.beq f 25 with
    | true => exact qEntry_nat args K
    | false =>
    simp only [sel]
    cases Nat.beq f 26 with
    | true => exact qEntry_nat args K
    | false =>
    simp only [sel]
    cases Nat.beq f 15 with
    | true => exact qEntry_nat args K
    | false =>
    simp only [sel]
    cases Nat.beq f 28 with
    | true => exact qEntry_nat args K
    | false =>
    simp only [sel]
    rfl),
  (by
    intro ρ f st caps args dst K r h
    rcases sel_cases h with ⟨hb, h⟩ | ⟨-, h⟩
    · obtain rfl := beq_nat hb
      exact callE_ok (fun h => by cases h) laws_markWeave_saeda.ac h
    rcases sel_cases h with ⟨hb, h⟩ | ⟨-, h⟩
    · obtain rfl := beq_nat hb
      exact callE_ok (fun h => by cases h) laws_markNoteS_s2747.ac h
    cases h)⟩
theorem hm : Try.prog.follows .mixedOrders = true := by kernel_rfl
theorem e : atomsL [] 0 (bodyOf Try.f6) = [] := by kernel_rfl
theorem acc (t : Vec (Vec Int) × (Vec (ByteArray × Int × Int × (Vec Int))) × Int) (x : Bool) (h : F t.1 t.2.1 t.2.2 = some x) : ACc Try.prog 6 (encA t) [] true [] fun rv obs => (rv, obs) = encR x := by
  refine fun_okc (L := (L)) (jn := []) (cmds := []) (ks := []) (hin := []) (fn := Try.f6) (body := (bodyOf Try.f6)) Gok hm Try.func6 (by kernel_rfl) (by kernel_rfl) (by rw [e]; exact Lor.ok_nil _ _) ?_ h
  refine (main laws_szWeave.Q laws_toWeave.Q spec_Annotate.Q impl_Annotate.Q laws_eqNoteS.Q laws_eqWeave.Q laws_markWeave_saeda.Q laws_markNoteS_s2747.Q laws_heldNoteS.Q _ t.1 t.2.1 t.2.2).trans ?_
  rw [laws_szWeave.wrap, laws_toWeave.wrap, spec_Annotate.wrap, impl_Annotate.wrap, laws_eqNoteS.wrap, laws_eqWeave.wrap, laws_markWeave_saeda.wrap, laws_markNoteS_s2747.wrap, laws_heldNoteS.wrap]
  refine congrArg (fun K => B laws_szWeave.F laws_toWeave.F spec_Annotate.F impl_Annotate.F laws_eqNoteS.F laws_eqWeave.F laws_markWeave_saeda.F laws_markNoteS_s2747.F laws_heldNoteS.F t.1 t.2.1 t.2.2 K) ?_
  funext x1
  exact ofC_enc encRI some (x1)
theorem ac0 (t : Vec (Vec Int) × (Vec (ByteArray × Int × Int × (Vec Int))) × Int) (x : Bool) (h : F t.1 t.2.1 t.2.2 = some x) : AC Try.prog 6 (encA t) [] true [] fun rv obs => (rv, obs) = encR x := ACc.ac (body := bodyOf Try.f6) Try.func6 (by kernel_rfl) (by kernel_rfl) (acc t x h)
theorem ac (args : List AV) (x : Bool) (h : Q args = some x) : AC Try.prog 6 args [] false [] fun rv obs => (rv, obs) = encR x := by
  obtain ⟨t, rfl, h2⟩ := ofC_some h
  refine (ac0 t x h2).flat fun rv obs e => ?_
  obtain rfl : rv = (encR x).1 := congrArg Prod.fst e
  obtain rfl : obs = (encR x).2 := congrArg Prod.snd e
  refine ⟨by simp [encR, AV.Flat, K.Flat, C.Flat], ?_⟩
  simp [encR]
end laws_FnExactAnnotate
end Go.Al
