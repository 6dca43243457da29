import Derived.Test.YtbpicgilplnmoaaSC
set_option linter.unusedVariables false
set_option linter.unusedSimpArgs false
set_option maxRecDepth 100000
namespace Go.Al
open Go.Proofs

/-! loop.example/g00073/spec.l01In -/
namespace spec_l01In
noncomputable def B {ρ : Type} (a1 : Int) (a2 : Int) (a3 : Int) (K : Bool → Option ρ) : Option ρ :=
  sel (decide (a2 ≤ a1)) (K (decide (a1 ≤ a3))) (K false)
noncomputable def F (a1 : Int) (a2 : Int) (a3 : Int) : Option Bool := B a1 a2 a3 (fun x1 => some (x1))
def encA (t : Int × Int × Int) : List AV := [.c (.n (.v (.int .i64 t.1))), .c (.n (.v (.int .i64 t.2.1))), .c (.n (.v (.int .i64 t.2.2)))]
def encR (x : Bool) : AV × List Ob := (.c (.n (.v (.bool x))), [])
theorem encAI : ∀ a b, encA a = encA b → a = b := by
  intro a b h
  obtain ⟨a0, a1, a2⟩ := a
  obtain ⟨b0, b1, b2⟩ := b
  simp [encA, encRw_iff] at h
  simp_all
theorem encRI : ∀ a b, encR a = encR b → a = b := by
  intro a b h
  simp [encR, encRw_iff] at h
  simp_all
noncomputable def Q (args : List AV) : Option Bool := ofC encA (fun t => F t.1 t.2.1 t.2.2) args
theorem wrap : (fun (y1 : Int) (y2 : Int) (y3 : Int) => Q [.c (.n (.v (.int .i64 y1))), .c (.n (.v (.int .i64 y2))), .c (.n (.v (.int .i64 y3)))]) = F := by
  funext y1 y2 y3
  exact ofC_enc encAI _ (y1, y2, y3)
noncomputable def G : Orc := ⟨fun f => 9, fun ρ f args K => Option.none, noE⟩
noncomputable def L : Lor := fun ρ j st K => Option.none
theorem main {ρ : Type} (K : AV → List Ob → Option ρ) (a1 : Int) (a2 : Int) (a3 : Int) : exC Try.prog (G) (L) [] 0 (bodyOf Try.f44) (entry 15 [.c (.n (.v (.int .i64 a1))), .c (.n (.v (.int .i64 a2))), .c (.n (.v (.int .i64 a3)))] [] []) (finO Try.prog Try.f44.results.toList 0 [] [] K) =
    B a1 a2 a3 (fun x1 => K (.c (.n (.v (.bool x1)))) []) := by kernel_rfl
theorem Gok : (G).ok Try.prog := ⟨(fun ρ f args K r h => (by cases h)),
  (fun ρ f args K => rfl),
  (fun ρ f st caps args dst K r h => (by cases h))⟩
theorem hm : Try.prog.follows .mixedOrders = true := by kernel_rfl
theorem e : atomsL [] 0 (bodyOf Try.f44) = [] := by kernel_rfl
theorem acc (t : Int × Int × Int) (x : Bool) (h : F t.1 t.2.1 t.2.2 = some x) : ACc Try.prog 44 (encA t) [] true [] fun rv obs => (rv, obs) = encR x := by
  refine fun_okc (L := (L)) (jn := []) (cmds := []) (ks := []) (hin := []) (fn := Try.f44) (body := (bodyOf Try.f44)) Gok hm Try.func44 (by kernel_rfl) (by kernel_rfl) (by rw [e]; exact Lor.ok_nil _ _) ?_ h
  refine (main _ t.1 t.2.1 t.2.2).trans ?_
  refine congrArg (fun K => B t.1 t.2.1 t.2.2 K) ?_
  funext x1
  exact ofC_enc encRI some (x1)
theorem ac0 (t : Int × Int × Int) (x : Bool) (h : F t.1 t.2.1 t.2.2 = some x) : AC Try.prog 44 (encA t) [] true [] fun rv obs => (rv, obs) = encR x := ACc.ac (body := bodyOf Try.f44) Try.func44 (by kernel_rfl) (by kernel_rfl) (acc t x h)
theorem ac (args : List AV) (x : Bool) (h : Q args = some x) : AC Try.prog 44 args [] false [] fun rv obs => (rv, obs) = encR x := by
  obtain ⟨t, rfl, h2⟩ := ofC_some h
  refine (ac0 t x h2).flat fun rv obs e => ?_
  obtain rfl : rv = (encR x).1 := congrArg Prod.fst e
  obtain rfl : obs = (encR x).2 := congrArg Prod.snd e
  refine ⟨by simp [encR, AV.Flat, K.Flat, C.Flat], ?_⟩
  simp [encR]
end spec_l01In
/-! loop.example/g00073/spec.PathOk -/
namespace spec_PathOk
noncomputable def B0 {ρ : Type} (v1 : ByteArray) (v2 : Int) (v3 : Int) (W : ByteArray → Int → Int → Option ρ) (K0 : Unit → Option ρ) (Kr : Bool → Option ρ) : Option ρ :=
  sel (decide (v3 < v2)) (chk (decide (0 ≤ v3 ∧ v3 < (v1.size : Int))) (sel (decide ((97 : Int) ≤ (byteAt v1 v3.toNat))) (sel (decide ((byteAt v1 v3.toNat) ≤ (122 : Int))) (sel (decide ((0 : Int) < v3)) (sel (decide ((byteAt v1 v3.toNat) = (47 : Int))) (chk (decide (0 ≤ (wr (v3 - (1 : Int))) ∧ (wr (v3 - (1 : Int))) < (v1.size : Int))) (sel (decide ((byteAt v1 ((wr (v3 - (1 : Int))).toNat)) = (47 : Int))) (Kr false) (W v1 v2 (wr (v3 + (1 : Int)))))) (W v1 v2 (wr (v3 + (1 : Int))))) (W v1 v2 (wr (v3 + (1 : Int))))) (sel (decide ((48 : Int) ≤ (byteAt v1 v3.toNat))) (sel (decide ((byteAt v1 v3.toNat) ≤ (57 : Int))) (sel (decide ((0 : Int) < v3)) (sel (decide ((byteAt v1 v3.toNat) = (47 : Int))) (chk (decide (0 ≤ (wr (v3 - (1 : Int))) ∧ (wr (v3 - (1 : Int))) < (v1.size : Int))) (sel (decide ((byteAt v1 ((wr (v3 - (1 : Int))).toNat)) = (47 : Int))) (Kr false) (W v1 v2 (wr (v3 + (1 : Int)))))) (W v1 v2 (wr (v3 + (1 : Int))))) (W v1 v2 (wr (v3 + (1 : Int))))) (sel (decide ((byteAt v1 v3.toNat) = (46 : Int))) (sel (decide ((0 : Int) < v3)) (sel (decide ((byteAt v1 v3.toNat) = (47 : Int))) (chk (decide (0 ≤ (wr (v3 - (1 : Int))) ∧ (wr (v3 - (1 : Int))) < (v1.size : Int))) (sel (decide ((byteAt v1 ((wr (v3 - (1 : Int))).toNat)) = (47 : Int))) (Kr false) (W v1 v2 (wr (v3 + (1 : Int)))))) (W v1 v2 (wr (v3 + (1 : Int))))) (W v1 v2 (wr (v3 + (1 : Int))))) (sel (decide ((byteAt v1 v3.toNat) = (45 : Int))) (sel (decide ((0 : Int) < v3)) (sel (decide ((byteAt v1 v3.toNat) = (47 : Int))) (chk (decide (0 ≤ (wr (v3 - (1 : Int))) ∧ (wr (v3 - (1 : Int))) < (v1.size : Int))) (sel (decide ((byteAt v1 ((wr (v3 - (1 : Int))).toNat)) = (47 : Int))) (Kr false) (W v1 v2 (wr (v3 + (1 : Int)))))) (W v1 v2 (wr (v3 + (1 : Int))))) (W v1 v2 (wr (v3 + (1 : Int))))) (sel ((!decide ((byteAt v1 v3.toNat) = (47 : Int)))) (Kr false) (sel (decide ((0 : Int) < v3)) (sel (decide ((byteAt v1 v3.toNat) = (47 : Int))) (chk (decide (0 ≤ (wr (v3 - (1 : Int))) ∧ (wr (v3 - (1 : Int))) < (v1.size : Int))) (sel (decide ((byteAt v1 ((wr (v3 - (1 : Int))).toNat)) = (47 : Int))) (Kr false) (W v1 v2 (wr (v3 + (1 : Int)))))) (W v1 v2 (wr (v3 + (1 : Int))))) (W v1 v2 (wr (v3 + (1 : Int))))))))) (sel (decide ((byteAt v1 v3.toNat) = (46 : Int))) (sel (decide ((0 : Int) < v3)) (sel (decide ((byteAt v1 v3.toNat) = (47 : Int))) (chk (decide (0 ≤ (wr (v3 - (1 : Int))) ∧ (wr (v3 - (1 : Int))) < (v1.size : Int))) (sel (decide ((byteAt v1 ((wr (v3 - (1 : Int))).toNat)) = (47 : Int))) (Kr false) (W v1 v2 (wr (v3 + (1 : Int)))))) (W v1 v2 (wr (v3 + (1 : Int))))) (W v1 v2 (wr (v3 + (1 : Int))))) (sel (decide ((byteAt v1 v3.toNat) = (45 : Int))) (sel (decide ((0 : Int) < v3)) (sel (decide ((byteAt v1 v3.toNat) = (47 : Int))) (chk (decide (0 ≤ (wr (v3 - (1 : Int))) ∧ (wr (v3 - (1 : Int))) < (v1.size : Int))) (sel (decide ((byteAt v1 ((wr (v3 - (1 : Int))).toNat)) = (47 : Int))) (Kr false) (W v1 v2 (wr (v3 + (1 : Int)))))) (W v1 v2 (wr (v3 + (1 : Int))))) (W v1 v2 (wr (v3 + (1 : Int))))) (sel ((!decide ((byteAt v1 v3.toNat) = (47 : Int)))) (Kr false) (sel (decide ((0 : Int) < v3)) (sel (decide ((byteAt v1 v3.toNat) = (47 : Int))) (chk (decide (0 ≤ (wr (v3 - (1 : Int))) ∧ (wr (v3 - (1 : Int))) < (v1.size : Int))) (sel (decide ((byteAt v1 ((wr (v3 - (1 : Int))).toNat)) = (47 : Int))) (Kr false) (W v1 v2 (wr (v3 + (1 : Int)))))) (W v1 v2 (wr (v3 + (1 : Int))))) (W v1 v2 (wr (v3 + (1 : Int)))))))))) (sel (decide ((48 : Int) ≤ (byteAt v1 v3.toNat))) (sel (decide ((byteAt v1 v3.toNat) ≤ (57 : Int))) (sel (decide ((0 : Int) < v3)) (sel (decide ((byteAt v1 v3.toNat) = (47 : Int))) (chk (decide (0 ≤ (wr (v3 - (1 : Int))) ∧ (wr (v3 - (1 : Int))) < (v1.size : Int))) (sel (decide ((byteAt v1 ((wr (v3 - (1 : Int))).toNat)) = (47 : Int))) (Kr false) (W v1 v2 (wr (v3 + (1 : Int)))))) (W v1 v2 (wr (v3 + (1 : Int))))) (W v1 v2 (wr (v3 + (1 : Int))))) (sel (decide ((byteAt v1 v3.toNat) = (46 : Int))) (sel (decide ((0 : Int) < v3)) (sel (decide ((byteAt v1 v3.toNat) = (47 : Int))) (chk (decide (0 ≤ (wr (v3 - (1 : Int))) ∧ (wr (v3 - (1 : Int))) < (v1.size : Int))) (sel (decide ((byteAt v1 ((wr (v3 - (1 : Int))).toNat)) = (47 : Int))) (Kr false) (W v1 v2 (wr (v3 + (1 : Int)))))) (W v1 v2 (wr (v3 + (1 : Int))))) (W v1 v2 (wr (v3 + (1 : Int))))) (sel (decide ((byteAt v1 v3.toNat) = (45 : Int))) (sel (decide ((0 : Int) < v3)) (sel (decide ((byteAt v1 v3.toNat) = (47 : Int))) (chk (decide (0 ≤ (wr (v3 - (1 : Int))) ∧ (wr (v3 - (1 : Int))) < (v1.size : Int))) (sel (decide ((byteAt v1 ((wr (v3 - (1 : Int))).toNat)) = (47 : Int))) (Kr false) (W v1 v2 (wr (v3 + (1 : Int)))))) (W v1 v2 (wr (v3 + (1 : Int))))) (W v1 v2 (wr (v3 + (1 : Int))))) (sel ((!decide ((byteAt v1 v3.toNat) = (47 : Int)))) (Kr false) (sel (decide ((0 : Int) < v3)) (sel (decide ((byteAt v1 v3.toNat) = (47 : Int))) (chk (decide (0 ≤ (wr (v3 - (1 : Int))) ∧ (wr (v3 - (1 : Int))) < (v1.size : Int))) (sel (decide ((byteAt v1 ((wr (v3 - (1 : Int))).toNat)) = (47 : Int))) (Kr false) (W v1 v2 (wr (v3 + (1 : Int)))))) (W v1 v2 (wr (v3 + (1 : Int))))) (W v1 v2 (wr (v3 + (1 : Int))))))))) (sel (decide ((byteAt v1 v3.toNat) = (46 : Int))) (sel (decide ((0 : Int) < v3)) (sel (decide ((byteAt v1 v3.toNat) = (47 : Int))) (chk (decide (0 ≤ (wr (v3 - (1 : Int))) ∧ (wr (v3 - (1 : Int))) < (v1.size : Int))) (sel (decide ((byteAt v1 ((wr (v3 - (1 : Int))).toNat)) = (47 : Int))) (Kr false) (W v1 v2 (wr (v3 + (1 : Int)))))) (W v1 v2 (wr (v3 + (1 : Int))))) (W v1 v2 (wr (v3 + (1 : Int))))) (sel (decide ((byteAt v1 v3.toNat) = (45 : Int))) (sel (decide ((0 : Int) < v3)) (sel (decide ((byteAt v1 v3.toNat) = (47 : Int))) (chk (decide (0 ≤ (wr (v3 - (1 : Int))) ∧ (wr (v3 - (1 : Int))) < (v1.size : Int))) (sel (decide ((byteAt v1 ((wr (v3 - (1 : Int))).toNat)) = (47 : Int))) (Kr false) (W v1 v2 (wr (v3 + (1 : Int)))))) (W v1 v2 (wr (v3 + (1 : Int))))) (W v1 v2 (wr (v3 + (1 : Int))))) (sel ((!decide ((byteAt v1 v3.toNat) = (47 : Int)))) (Kr false) (sel (decide ((0 : Int) < v3)) (sel (decide ((byteAt v1 v3.toNat) = (47 : Int))) (chk (decide (0 ≤ (wr (v3 - (1 : Int))) ∧ (wr (v3 - (1 : Int))) < (v1.size : Int))) (sel (decide ((byteAt v1 ((wr (v3 - (1 : Int))).toNat)) = (47 : Int))) (Kr false) (W v1 v2 (wr (v3 + (1 : Int)))))) (W v1 v2 (wr (v3 + (1 : Int))))) (W v1 v2 (wr (v3 + (1 : Int))))))))))) (K0 ())
noncomputable def F0 {ρ : Type} : Nat → ByteArray → Int → Int → (Unit → Option ρ) → (Bool → Option ρ) → Option ρ
  | 0, _, _, _, _, _ => none
  | k + 1, v1, v2, v3, K0, Kr => B0 v1 v2 v3 (fun v1' v2' v3' => F0 k v1' v2' v3' K0 Kr) K0 Kr
noncomputable def B {ρ : Type} (C_spec_l01In : Int → Int → Int → Option Bool) (L0 : ByteArray → Int → Int → (Unit → Option ρ) → (Bool → Option ρ) → Option ρ) (a1 : ByteArray) (K : Bool → Option ρ) : Option ρ :=
  (C_spec_l01In (a1.size : Int) (1 : Int) (24 : Int)).bind fun r1 => sel ((!r1)) (K false) (chk (decide (0 ≤ (0 : Int) ∧ (0 : Int) < (a1.size : Int))) (sel (decide ((byteAt a1 ((0 : Int).toNat)) = (47 : Int))) (K false) (chk (decide (0 ≤ (wr ((a1.size : Int) - (1 : Int))) ∧ (wr ((a1.size : Int) - (1 : Int))) < (a1.size : Int))) (sel (decide ((byteAt a1 ((wr ((a1.size : Int) - (1 : Int))).toNat)) = (47 : Int))) (K false) (L0 a1 (a1.size : Int) (0 : Int) (fun _ => K true) (fun x01 => K x01))))))
noncomputable def F (a1 : ByteArray) : Option Bool := B spec_l01In.F (F0 fuelN) a1 (fun x1 => some (x1))
def encA (t : ByteArray) : List AV := [.c (.n (.v (.string t)))]
def encR (x : Bool) : AV × List Ob := (.c (.n (.v (.bool x))), [])
theorem encAI : ∀ a b, encA a = encA b → a = b := by
  intro a b h
  simp [encA, encRw_iff] at h
  simp_all
theorem encRI : ∀ a b, encR a = encR b → a = b := by
  intro a b h
  simp [encR, encRw_iff] at h
  simp_all
noncomputable def Q (args : List AV) : Option Bool := ofC encA (fun t => F t) args
theorem wrap : (fun (y1 : ByteArray) => Q [.c (.n (.v (.string y1)))]) = F := by
  funext y1
  exact ofC_enc encAI _ (y1)
noncomputable def G (q_spec_l01In : List AV → Option Bool) : Orc := ⟨fun f => sel (Nat.beq f 44) 0 (9), fun ρ f args K => sel (Nat.beq f 44) (qEntry spec_l01In.encR q_spec_l01In args K) (Option.none), noE⟩
noncomputable def L (W0 : (ρ : Type) → List AV → List Ob → (Unit → Option ρ) → (Bool → Option ρ) → Option ρ) : Lor := fun ρ j st K => sel (Nat.beq j 0) (cutO Try.prog 73 [0, 3, 4] 0 [] [] st fun avs obs => W0 ρ avs obs (fun _ => K (.exit 0) (mkS 73 [] [] [] [])) (fun z1 => K .ret (mkS 73 [2] [.c (.n (.v (.bool z1)))] [] []))) (Option.none)
noncomputable def c0 : Code := loopC (atomN [] 0 (bodyOf Try.f24) 0)
def ct0 : Cut := ⟨[0, 3, 4], []⟩
def lv0 : Exit → Cut
  | .exit 0 => ⟨[], []⟩
  | .ret => ⟨[2], []⟩
  | _ => ⟨[], []⟩
theorem step0 (q_spec_l01In : List AV → Option Bool) (W0 : (ρ : Type) → List AV → List Ob → (Unit → Option ρ) → (Bool → Option ρ) → Option ρ) {ρ : Type} (K : Exit → St → Option ρ) (W : List AV → List Ob → Option ρ) (v1 : ByteArray) (v2 : Int) (v3 : Int) : exC Try.prog (G q_spec_l01In) (L W0) [] 1 c0 (mkS 73 [0, 3, 4] [.c (.n (.v (.string v1))), .c (.n (.v (.int .i64 v2))), .c (.n (.v (.int .i64 v3)))] [] []) (bodyK Try.prog 73 0 [] ct0 W lv0 K) =
    B0 v1 v2 v3 (fun u1 u2 u3 => W [.c (.n (.v (.string u1))), .c (.n (.v (.int .i64 u2))), .c (.n (.v (.int .i64 u3)))] []) (fun _ => K (.exit 0) (mkS 73 [] [] [] [])) (fun z1 => K .ret (mkS 73 [2] [.c (.n (.v (.bool z1)))] [] [])) := by kernel_rfl
def enc0 (t : ByteArray × Int × Int) : List AV × List Ob := ([.c (.n (.v (.string t.1))), .c (.n (.v (.int .i64 t.2.1))), .c (.n (.v (.int .i64 t.2.2)))], [])
theorem enc0I : ∀ a b, enc0 a = enc0 b → a = b := by
  intro a b h
  obtain ⟨a0, a1, a2⟩ := a
  obtain ⟨b0, b1, b2⟩ := b
  simp [enc0, encRw_iff] at h
  simp_all
noncomputable def V0 : (ρ : Type) → List AV → List Ob → (Unit → Option ρ) → (Bool → Option ρ) → Option ρ := fun ρ avs obs k0 kr => ofC enc0 (fun t => F0 fuelN t.1 t.2.1 t.2.2 k0 kr) (avs, obs)
theorem V0_enc (ρ : Type) : (fun w1 w2 w3 k0 kr => V0 ρ [.c (.n (.v (.string w1))), .c (.n (.v (.int .i64 w2))), .c (.n (.v (.int .i64 w3)))] [] k0 kr) = F0 fuelN := by
  funext w1 w2 w3 k0 kr
  exact ofC_enc enc0I _ (w1, w2, w3)
theorem main (q_spec_l01In : List AV → Option Bool) (W0 : (ρ : Type) → List AV → List Ob → (Unit → Option ρ) → (Bool → Option ρ) → Option ρ) {ρ : Type} (K : AV → List Ob → Option ρ) (a1 : ByteArray) : exC Try.prog (G q_spec_l01In) (L W0) [] 0 (bodyOf Try.f24) (entry 73 [.c (.n (.v (.string a1)))] [] []) (finO Try.prog Try.f24.results.toList 0 [] [] K) =
    B (fun y1 y2 y3 => q_spec_l01In [.c (.n (.v (.int .i64 y1))), .c (.n (.v (.int .i64 y2))), .c (.n (.v (.int .i64 y3)))]) (fun w1 w2 w3 k0 kr => W0 ρ [.c (.n (.v (.string w1))), .c (.n (.v (.int .i64 w2))), .c (.n (.v (.int .i64 w3)))] [] k0 kr) a1 (fun x1 => K (.c (.n (.v (.bool x1)))) []) := by kernel_rfl
theorem Gok : (G spec_l01In.Q).ok Try.prog := ⟨(by
    intro ρ f args K r h
    rcases sel_cases h with ⟨hb, h⟩ | ⟨-, h⟩
    · obtain rfl := beq_nat hb
      exact qEntry_ok spec_l01In.ac h
    cases h),
  (by
    intro ρ f args K
    simp only [G]
    cases Nat.beq f 44 with
    | true => exact qEntry_nat args K
    | false =>
    simp only [sel]
    rfl),
  (fun ρ f st caps args dst K r h => (by cases h))⟩
theorem hm : Try.prog.follows .mixedOrders = true := by kernel_rfl
theorem e0 : atomsL [] 1 c0 = [] := by kernel_rfl
theorem ok0 (ρ : Type) (st : St) (K : Exit → St → Option ρ) (r : ρ) (h : (L V0) ρ 0 st K = some r) : AW Try.prog (.loop c0) st fun e st' => K e st' = some r := by
  refine loop_ok (ct := ct0) (lv := lv0) (n := 73) (m := 0) (ks := []) (j := 0) (jn := []) (L := (L V0)) Gok hm (by rw [e0]; exact Lor.ok_nil _ _) enc0I (fun k t => F0 k t.1 t.2.1 t.2.2 (fun _ => K (.exit 0) (mkS 73 [] [] [] [])) (fun z1 => K .ret (mkS 73 [2] [.c (.n (.v (.bool z1)))] [] []))) (fun t => rfl) (fun k t => ?_) (fun _ => fuelN) h
  refine (step0 spec_l01In.Q V0 K _ t.1 t.2.1 t.2.2).trans ?_
  refine congrArg (fun W => B0 t.1 t.2.1 t.2.2 W (fun _ => K (.exit 0) (mkS 73 [] [] [] [])) (fun z1 => K .ret (mkS 73 [2] [.c (.n (.v (.bool z1)))] [] []))) ?_
  funext u1 u2 u3
  exact ofC_enc enc0I _ (u1, u2, u3)
theorem e : atomsL [] 0 (bodyOf Try.f24) = [(0, 0, .loop c0)] := by kernel_rfl
theorem acc (t : ByteArray) (x : Bool) (h : F t = some x) : ACc Try.prog 24 (encA t) [] true [] fun rv obs => (rv, obs) = encR x := by
  refine fun_okc (L := (L V0)) (jn := []) (cmds := []) (ks := []) (hin := []) (fn := Try.f24) (body := (bodyOf Try.f24)) Gok hm Try.func24 (by kernel_rfl) (by kernel_rfl) (by rw [e]; exact Lor.ok_cons ok0 (Lor.ok_nil _ _)) ?_ h
  refine (main spec_l01In.Q V0 _ t).trans ?_
  rw [spec_l01In.wrap, V0_enc]
  refine congrArg (fun K => B spec_l01In.F (F0 fuelN) t K) ?_
  funext x1
  exact ofC_enc encRI some (x1)
theorem ac0 (t : ByteArray) (x : Bool) (h : F t = some x) : AC Try.prog 24 (encA t) [] true [] fun rv obs => (rv, obs) = encR x := ACc.ac (body := bodyOf Try.f24) Try.func24 (by kernel_rfl) (by kernel_rfl) (acc t x h)
theorem ac (args : List AV) (x : Bool) (h : Q args = some x) : AC Try.prog 24 args [] false [] fun rv obs => (rv, obs) = encR x := by
  obtain ⟨t, rfl, h2⟩ := ofC_some h
  refine (ac0 t x h2).flat fun rv obs e => ?_
  obtain rfl : rv = (encR x).1 := congrArg Prod.fst e
  obtain rfl : obs = (encR x).2 := congrArg Prod.snd e
  refine ⟨by simp [encR, AV.Flat, K.Flat, C.Flat], ?_⟩
  simp [encR]
end spec_PathOk
/-! loop.example/g00073/impl.inRange -/
namespace impl_inRange
noncomputable def B {ρ : Type} (a1 : Int) (a2 : Int) (a3 : Int) (K : Bool → Option ρ) : Option ρ :=
  sel (decide (a2 ≤ a1)) (K (decide (a1 ≤ a3))) (K false)
noncomputable def F (a1 : Int) (a2 : Int) (a3 : Int) : Option Bool := B a1 a2 a3 (fun x1 => some (x1))
def encA (t : Int × Int × Int) : List AV := [.c (.n (.v (.int .i64 t.1))), .c (.n (.v (.int .i64 t.2.1))), .c (.n (.v (.int .i64 t.2.2)))]
def encR (x : Bool) : AV × List Ob := (.c (.n (.v (.bool x))), [])
theorem encAI : ∀ a b, encA a = encA b → a = b := by
  intro a b h
  obtain ⟨a0, a1, a2⟩ := a
  obtain ⟨b0, b1, b2⟩ := b
  simp [encA, encRw_iff] at h
  simp_all
theorem encRI : ∀ a b, encR a = encR b → a = b := by
  intro a b h
  simp [encR, encRw_iff] at h
  simp_all
noncomputable def Q (args : List AV) : Option Bool := ofC encA (fun t => F t.1 t.2.1 t.2.2) args
theorem wrap : (fun (y1 : Int) (y2 : Int) (y3 : Int) => Q [.c (.n (.v (.int .i64 y1))), .c (.n (.v (.int .i64 y2))), .c (.n (.v (.int .i64 y3)))]) = F := by
  funext y1 y2 y3
  exact ofC_enc encAI _ (y1, y2, y3)
noncomputable def G : Orc := ⟨fun f => 9, fun ρ f args K => Option.none, noE⟩
noncomputable def L : Lor := fun ρ j st K => Option.none
theorem main {ρ : Type} (K : AV → List Ob → Option ρ) (a1 : Int) (a2 : Int) (a3 : Int) : exC Try.prog (G) (L) [] 0 (bodyOf Try.f50) (entry 15 [.c (.n (.v (.int .i64 a1))), .c (.n (.v (.int .i64 a2))), .c (.n (.v (.int .i64 a3)))] [] []) (finO Try.prog Try.f50.results.toList 0 [] [] K) =
    B a1 a2 a3 (fun x1 => K (.c (.n (.v (.bool x1)))) []) := by kernel_rfl
theorem Gok : (G).ok Try.prog := ⟨(fun ρ f args K r h => (by cases h)),
  (fun ρ f args K => rfl),
  (fun ρ f st caps args dst K r h => (by cases h))⟩
theorem hm : Try.prog.follows .mixedOrders = true := by kernel_rfl
theorem e : atomsL [] 0 (bodyOf Try.f50) = [] := by kernel_rfl
theorem acc (t : Int × Int × Int) (x : Bool) (h : F t.1 t.2.1 t.2.2 = some x) : ACc Try.prog 50 (encA t) [] true [] fun rv obs => (rv, obs) = encR x := by
  refine fun_okc (L := (L)) (jn := []) (cmds := []) (ks := []) (hin := []) (fn := Try.f50) (body := (bodyOf Try.f50)) Gok hm Try.func50 (by kernel_rfl) (by kernel_rfl) (by rw [e]; exact Lor.ok_nil _ _) ?_ h
  refine (main _ t.1 t.2.1 t.2.2).trans ?_
  refine congrArg (fun K => B t.1 t.2.1 t.2.2 K) ?_
  funext x1
  exact ofC_enc encRI some (x1)
theorem ac0 (t : Int × Int × Int) (x : Bool) (h : F t.1 t.2.1 t.2.2 = some x) : AC Try.prog 50 (encA t) [] true [] fun rv obs => (rv, obs) = encR x := ACc.ac (body := bodyOf Try.f50) Try.func50 (by kernel_rfl) (by kernel_rfl) (acc t x h)
theorem ac (args : List AV) (x : Bool) (h : Q args = some x) : AC Try.prog 50 args [] false [] fun rv obs => (rv, obs) = encR x := by
  obtain ⟨t, rfl, h2⟩ := ofC_some h
  refine (ac0 t x h2).flat fun rv obs e => ?_
  obtain rfl : rv = (encR x).1 := congrArg Prod.fst e
  obtain rfl : obs = (encR x).2 := congrArg Prod.snd e
  refine ⟨by simp [encR, AV.Flat, K.Flat, C.Flat], ?_⟩
  simp [encR]
end impl_inRange
/-! internal/stringslite.HasPrefix -/
namespace stringslite_HasPrefix
noncomputable def B {ρ : Type} (a1 : ByteArray) (a2 : ByteArray) (K : Bool → Option ρ) : Option ρ :=
  sel (decide ((a2.size : Int) ≤ (a1.size : Int))) (chk (decide (0 ≤ (0 : Int) ∧ (0 : Int) ≤ (a2.size : Int) ∧ (a2.size : Int) ≤ (a1.size : Int))) (K (decide ((a1.extract (0 : Int).toNat (a2.size : Int).toNat) = a2)))) (K false)
noncomputable def F (a1 : ByteArray) (a2 : ByteArray) : Option Bool := B a1 a2 (fun x1 => some (x1))
def encA (t : ByteArray × ByteArray) : List AV := [.c (.n (.v (.string t.1))), .c (.n (.v (.string t.2)))]
def encR (x : Bool) : AV × List Ob := (.c (.n (.v (.bool x))), [])
theorem encAI : ∀ a b, encA a = encA b → a = b := by
  intro a b h
  obtain ⟨a0, a1⟩ := a
  obtain ⟨b0, b1⟩ := b
  simp [encA, encRw_iff] at h
  simp_all
theorem encRI : ∀ a b, encR a = encR b → a = b := by
  intro a b h
  simp [encR, encRw_iff] at h
  simp_all
noncomputable def Q (args : List AV) : Option Bool := ofC encA (fun t => F t.1 t.2) args
theorem wrap : (fun (y1 : ByteArray) (y2 : ByteArray) => Q [.c (.n (.v (.string y1))), .c (.n (.v (.string y2)))]) = F := by
  funext y1 y2
  exact ofC_enc encAI _ (y1, y2)
noncomputable def G : Orc := ⟨fun f => 9, fun ρ f args K => Option.none, noE⟩
noncomputable def L : Lor := fun ρ j st K => Option.none
theorem main {ρ : Type} (K : AV → List Ob → Option ρ) (a1 : ByteArray) (a2 : ByteArray) : exC Try.prog (G) (L) [] 0 (bodyOf Try.f79) (entry 18 [.c (.n (.v (.string a1))), .c (.n (.v (.string a2)))] [] []) (finO Try.prog Try.f79.results.toList 0 [] [] K) =
    B a1 a2 (fun x1 => K (.c (.n (.v (.bool x1)))) []) := by kernel_rfl
theorem Gok : (G).ok Try.prog := ⟨(fun ρ f args K r h => (by cases h)),
  (fun ρ f args K => rfl),
  (fun ρ f st caps args dst K r h => (by cases h))⟩
theorem hm : Try.prog.follows .mixedOrders = true := by kernel_rfl
theorem e : atomsL [] 0 (bodyOf Try.f79) = [] := by kernel_rfl
theorem acc (t : ByteArray × ByteArray) (x : Bool) (h : F t.1 t.2 = some x) : ACc Try.prog 79 (encA t) [] true [] fun rv obs => (rv, obs) = encR x := by
  refine fun_okc (L := (L)) (jn := []) (cmds := []) (ks := []) (hin := []) (fn := Try.f79) (body := (bodyOf Try.f79)) Gok hm Try.func79 (by kernel_rfl) (by kernel_rfl) (by rw [e]; exact Lor.ok_nil _ _) ?_ h
  refine (main _ t.1 t.2).trans ?_
  refine congrArg (fun K => B t.1 t.2 K) ?_
  funext x1
  exact ofC_enc encRI some (x1)
theorem ac0 (t : ByteArray × ByteArray) (x : Bool) (h : F t.1 t.2 = some x) : AC Try.prog 79 (encA t) [] true [] fun rv obs => (rv, obs) = encR x := ACc.ac (body := bodyOf Try.f79) Try.func79 (by kernel_rfl) (by kernel_rfl) (acc t x h)
theorem ac (args : List AV) (x : Bool) (h : Q args = some x) : AC Try.prog 79 args [] false [] fun rv obs => (rv, obs) = encR x := by
  obtain ⟨t, rfl, h2⟩ := ofC_some h
  refine (ac0 t x h2).flat fun rv obs e => ?_
  obtain rfl : rv = (encR x).1 := congrArg Prod.fst e
  obtain rfl : obs = (encR x).2 := congrArg Prod.snd e
  refine ⟨by simp [encR, AV.Flat, K.Flat, C.Flat], ?_⟩
  simp [encR]
end stringslite_HasPrefix
/-! strings.HasPrefix -/
namespace strings_HasPrefix
noncomputable def B {ρ : Type} (C_stringslite_HasPrefix : ByteArray → ByteArray → Option Bool) (a1 : ByteArray) (a2 : ByteArray) (K : Bool → Option ρ) : Option ρ :=
  (C_stringslite_HasPrefix a1 a2).bind fun r1 => K r1
noncomputable def F (a1 : ByteArray) (a2 : ByteArray) : Option Bool := B stringslite_HasPrefix.F a1 a2 (fun x1 => some (x1))
def encA (t : ByteArray × ByteArray) : List AV := [.c (.n (.v (.string t.1))), .c (.n (.v (.string t.2)))]
def encR (x : Bool) : AV × List Ob := (.c (.n (.v (.bool x))), [])
theorem encAI : ∀ a b, encA a = encA b → a = b := by
  intro a b h
  obtain ⟨a0, a1⟩ := a
  obtain ⟨b0, b1⟩ := b
  simp [encA, encRw_iff] at h
  simp_all
theorem encRI : ∀ a b, encR a = encR b → a = b := by
  intro a b h
  simp [encR, encRw_iff] at h
  simp_all
noncomputable def Q (args : List AV) : Option Bool := ofC encA (fun t => F t.1 t.2) args
theorem wrap : (fun (y1 : ByteArray) (y2 : ByteArray) => Q [.c (.n (.v (.string y1))), .c (.n (.v (.string y2)))]) = F := by
  funext y1 y2
  exact ofC_enc encAI _ (y1, y2)
noncomputable def G (q_stringslite_HasPrefix : List AV → Option Bool) : Orc := ⟨fun f => sel (Nat.beq f 79) 0 (9), fun ρ f args K => sel (Nat.beq f 79) (qEntry stringslite_HasPrefix.encR q_stringslite_HasPrefix args K) (Option.none), noE⟩
noncomputable def L : Lor := fun ρ j st K => Option.none
theorem main (q_stringslite_HasPrefix : List AV → Option Bool) {ρ : Type} (K : AV → List Ob → Option ρ) (a1 : ByteArray) (a2 : ByteArray) : exC Try.prog (G q_stringslite_HasPrefix) (L) [] 0 (bodyOf Try.f51) (entry 8 [.c (.n (.v (.string a1))), .c (.n (.v (.string a2)))] [] []) (finO Try.prog Try.f51.results.toList 0 [] [] K) =
    B (fun y1 y2 => q_stringslite_HasPrefix [.c (.n (.v (.string y1))), .c (.n (.v (.string y2)))]) a1 a2 (fun x1 => K (.c (.n (.v (.bool x1)))) []) := by kernel_rfl
theorem Gok : (G stringslite_HasPrefix.Q).ok Try.prog := ⟨(by
    intro ρ f args K r h
    rcases sel_cases h with ⟨hb, h⟩ | ⟨-, h⟩
    · obtain rfl := beq_nat hb
      exact qEntry_ok stringslite_HasPrefix.ac h
    cases h),
  (by
    intro ρ f args K
    simp only [G]
    cases Nat.beq f 79 with
    | true => exact qEntry_nat args K
    | false =>
    simp only [sel]
    rfl),
  (fun ρ f st caps args dst K r h => (by cases h))⟩
theorem hm : Try.prog.follows .mixedOrders = true := by kernel_rfl
theorem e : atomsL [] 0 (bodyOf Try.f51) = [] := by kernel_rfl
theorem acc (t : ByteArray × ByteArray) (x : Bool) (h : F t.1 t.2 = some x) : ACc Try.prog 51 (encA t) [] true [] fun rv obs => (rv, obs) = encR x := by
  refine fun_okc (L := (L)) (jn := []) (cmds := []) (ks := []) (hin := []) (fn := Try.f51) (body := (bodyOf Try.f51)) Gok hm Try.func51 (by kernel_rfl) (by kernel_rfl) (by rw [e]; exact Lor.ok_nil _ _) ?_ h
  refine (main stringslite_HasPrefix.Q _ t.1 t.2).trans ?_
  rw [stringslite_HasPrefix.wrap]
  refine congrArg (fun K => B stringslite_HasPrefix.F t.1 t.2 K) ?_
  funext x1
  exact ofC_enc encRI some (x1)
theorem ac0 (t : ByteArray × ByteArray) (x : Bool) (h : F t.1 t.2 = some x) : AC Try.prog 51 (encA t) [] true [] fun rv obs => (rv, obs) = encR x := ACc.ac (body := bodyOf Try.f51) Try.func51 (by kernel_rfl) (by kernel_rfl) (acc t x h)
theorem ac (args : List AV) (x : Bool) (h : Q args = some x) : AC Try.prog 51 args [] false [] fun rv obs => (rv, obs) = encR x := by
  obtain ⟨t, rfl, h2⟩ := ofC_some h
  refine (ac0 t x h2).flat fun rv obs e => ?_
  obtain rfl : rv = (encR x).1 := congrArg Prod.fst e
  obtain rfl : obs = (encR x).2 := congrArg Prod.snd e
  refine ⟨by simp [encR, AV.Flat, K.Flat, C.Flat], ?_⟩
  simp [encR]
end strings_HasPrefix
/-! internal/stringslite.HasSuffix -/
namespace stringslite_HasSuffix
noncomputable def B {ρ : Type} (a1 : ByteArray) (a2 : ByteArray) (K : Bool → Option ρ) : Option ρ :=
  sel (decide ((a2.size : Int) ≤ (a1.size : Int))) (chk (decide (0 ≤ (wr ((a1.size : Int) - (a2.size : Int))) ∧ (wr ((a1.size : Int) - (a2.size : Int))) ≤ (a1.size : Int) ∧ (a1.size : Int) ≤ (a1.size : Int))) (K (decide ((a1.extract (wr ((a1.size : Int) - (a2.size : Int))).toNat (a1.size : Int).toNat) = a2)))) (K false)
noncomputable def F (a1 : ByteArray) (a2 : ByteArray) : Option Bool := B a1 a2 (fun x1 => some (x1))
def encA (t : ByteArray × ByteArray) : List AV := [.c (.n (.v (.string t.1))), .c (.n (.v (.string t.2)))]
def encR (x : Bool) : AV × List Ob := (.c (.n (.v (.bool x))), [])
theorem encAI : ∀ a b, encA a = encA b → a = b := by
  intro a b h
  obtain ⟨a0, a1⟩ := a
  obtain ⟨b0, b1⟩ := b
  simp [encA, encRw_iff] at h
  simp_all
theorem encRI : ∀ a b, encR a = encR b → a = b := by
  intro a b h
  simp [encR, encRw_iff] at h
  simp_all
noncomputable def Q (args : List AV) : Option Bool := ofC encA (fun t => F t.1 t.2) args
theorem wrap : (fun (y1 : ByteArray) (y2 : ByteArray) => Q [.c (.n (.v (.string y1))), .c (.n (.v (.string y2)))]) = F := by
  funext y1 y2
  exact ofC_enc encAI _ (y1, y2)
noncomputable def G : Orc := ⟨fun f => 9, fun ρ f args K => Option.none, noE⟩
noncomputable def L : Lor := fun ρ j st K => Option.none
theorem main {ρ : Type} (K : AV → List Ob → Option ρ) (a1 : ByteArray) (a2 : ByteArray) : exC Try.prog (G) (L) [] 0 (bodyOf Try.f80) (entry 21 [.c (.n (.v (.string a1))), .c (.n (.v (.string a2)))] [] []) (finO Try.prog Try.f80.results.toList 0 [] [] K) =
    B a1 a2 (fun x1 => K (.c (.n (.v (.bool x1)))) []) := by kernel_rfl
theorem Gok : (G).ok Try.prog := ⟨(fun ρ f args K r h => (by cases h)),
  (fun ρ f args K => rfl),
  (fun ρ f st caps args dst K r h => (by cases h))⟩
theorem hm : Try.prog.follows .mixedOrders = true := by kernel_rfl
theorem e : atomsL [] 0 (bodyOf Try.f80) = [] := by kernel_rfl
theorem acc (t : ByteArray × ByteArray) (x : Bool) (h : F t.1 t.2 = some x) : ACc Try.prog 80 (encA t) [] true [] fun rv obs => (rv, obs) = encR x := by
  refine fun_okc (L := (L)) (jn := []) (cmds := []) (ks := []) (hin := []) (fn := Try.f80) (body := (bodyOf Try.f80)) Gok hm Try.func80 (by kernel_rfl) (by kernel_rfl) (by rw [e]; exact Lor.ok_nil _ _) ?_ h
  refine (main _ t.1 t.2).trans ?_
  refine congrArg (fun K => B t.1 t.2 K) ?_
  funext x1
  exact ofC_enc encRI some (x1)
theorem ac0 (t : ByteArray × ByteArray) (x : Bool) (h : F t.1 t.2 = some x) : AC Try.prog 80 (encA t) [] true [] fun rv obs => (rv, obs) = encR x := ACc.ac (body := bodyOf Try.f80) Try.func80 (by kernel_rfl) (by kernel_rfl) (acc t x h)
theorem ac (args : List AV) (x : Bool) (h : Q args = some x) : AC Try.prog 80 args [] false [] fun rv obs => (rv, obs) = encR x := by
  obtain ⟨t, rfl, h2⟩ := ofC_some h
  refine (ac0 t x h2).flat fun rv obs e => ?_
  obtain rfl : rv = (encR x).1 := congrArg Prod.fst e
  obtain rfl : obs = (encR x).2 := congrArg Prod.snd e
  refine ⟨by simp [encR, AV.Flat, K.Flat, C.Flat], ?_⟩
  simp [encR]
end stringslite_HasSuffix
/-! strings.HasSuffix -/
namespace strings_HasSuffix
noncomputable def B {ρ : Type} (C_stringslite_HasSuffix : ByteArray → ByteArray → Option Bool) (a1 : ByteArray) (a2 : ByteArray) (K : Bool → Option ρ) : Option ρ :=
  (C_stringslite_HasSuffix a1 a2).bind fun r1 => K r1
noncomputable def F (a1 : ByteArray) (a2 : ByteArray) : Option Bool := B stringslite_HasSuffix.F a1 a2 (fun x1 => some (x1))
def encA (t : ByteArray × ByteArray) : List AV := [.c (.n (.v (.string t.1))), .c (.n (.v (.string t.2)))]
def encR (x : Bool) : AV × List Ob := (.c (.n (.v (.bool x))), [])
theorem encAI : ∀ a b, encA a = encA b → a = b := by
  intro a b h
  obtain ⟨a0, a1⟩ := a
  obtain ⟨b0, b1⟩ := b
  simp [encA, encRw_iff] at h
  simp_all
theorem encRI : ∀ a b, encR a = encR b → a = b := by
  intro a b h
  simp [encR, encRw_iff] at h
  simp_all
noncomputable def Q (args : List AV) : Option Bool := ofC encA (fun t => F t.1 t.2) args
theorem wrap : (fun (y1 : ByteArray) (y2 : ByteArray) => Q [.c (.n (.v (.string y1))), .c (.n (.v (.string y2)))]) = F := by
  funext y1 y2
  exact ofC_enc encAI _ (y1, y2)
noncomputable def G (q_stringslite_HasSuffix : List AV → Option Bool) : Orc := ⟨fun f => sel (Nat.beq f 80) 0 (9), fun ρ f args K => sel (Nat.beq f 80) (qEntry stringslite_HasSuffix.encR q_stringslite_HasSuffix args K) (Option.none), noE⟩
noncomputable def L : Lor := fun ρ j st K => Option.none
theorem main (q_stringslite_HasSuffix : List AV → Option Bool) {ρ : Type} (K : AV → List Ob → Option ρ) (a1 : ByteArray) (a2 : ByteArray) : exC Try.prog (G q_stringslite_HasSuffix) (L) [] 0 (bodyOf Try.f52) (entry 8 [.c (.n (.v (.string a1))), .c (.n (.v (.string a2)))] [] []) (finO Try.prog Try.f52.results.toList 0 [] [] K) =
    B (fun y1 y2 => q_stringslite_HasSuffix [.c (.n (.v (.string y1))), .c (.n (.v (.string y2)))]) a1 a2 (fun x1 => K (.c (.n (.v (.bool x1)))) []) := by kernel_rfl
theorem Gok : (G stringslite_HasSuffix.Q).ok Try.prog := ⟨(by
    intro ρ f args K r h
    rcases sel_cases h with ⟨hb, h⟩ | ⟨-, h⟩
    · obtain rfl := beq_nat hb
      exact qEntry_ok stringslite_HasSuffix.ac h
    cases h),
  (by
    intro ρ f args K
    simp only [G]
    cases Nat.beq f 80 with
    | true => exact qEntry_nat args K
    | false =>
    simp only [sel]
    rfl),
  (fun ρ f st caps args dst K r h => (by cases h))⟩
theorem hm : Try.prog.follows .mixedOrders = true := by kernel_rfl
theorem e : atomsL [] 0 (bodyOf Try.f52) = [] := by kernel_rfl
theorem acc (t : ByteArray × ByteArray) (x : Bool) (h : F t.1 t.2 = some x) : ACc Try.prog 52 (encA t) [] true [] fun rv obs => (rv, obs) = encR x := by
  refine fun_okc (L := (L)) (jn := []) (cmds := []) (ks := []) (hin := []) (fn := Try.f52) (body := (bodyOf Try.f52)) Gok hm Try.func52 (by kernel_rfl) (by kernel_rfl) (by rw [e]; exact Lor.ok_nil _ _) ?_ h
  refine (main stringslite_HasSuffix.Q _ t.1 t.2).trans ?_
  rw [stringslite_HasSuffix.wrap]
  refine congrArg (fun K => B stringslite_HasSuffix.F t.1 t.2 K) ?_
  funext x1
  exact ofC_enc encRI some (x1)
theorem ac0 (t : ByteArray × ByteArray) (x : Bool) (h : F t.1 t.2 = some x) : AC Try.prog 52 (encA t) [] true [] fun rv obs => (rv, obs) = encR x := ACc.ac (body := bodyOf Try.f52) Try.func52 (by kernel_rfl) (by kernel_rfl) (acc t x h)
theorem ac (args : List AV) (x : Bool) (h : Q args = some x) : AC Try.prog 52 args [] false [] fun rv obs => (rv, obs) = encR x := by
  obtain ⟨t, rfl, h2⟩ := ofC_some h
  refine (ac0 t x h2).flat fun rv obs e => ?_
  obtain rfl : rv = (encR x).1 := congrArg Prod.fst e
  obtain rfl : obs = (encR x).2 := congrArg Prod.snd e
  refine ⟨by simp [encR, AV.Flat, K.Flat, C.Flat], ?_⟩
  simp [encR]
end strings_HasSuffix
/-! loop.example/g00073/impl.PathOk -/
namespace impl_PathOk
noncomputable def B0 {ρ : Type} (v1 : ByteArray) (v2 : Int) (W : ByteArray → Int → Option ρ) (K0 : ByteArray → Option ρ) (Kr : Bool → Option ρ) : Option ρ :=
  sel (decide (v2 < (v1.size : Int))) (chk (decide (0 ≤ v2 ∧ v2 < (v1.size : Int))) (sel (decide ((97 : Int) ≤ (byteAt v1 v2.toNat))) (sel (decide ((byteAt v1 v2.toNat) ≤ (122 : Int))) (W v1 (wr (v2 + (1 : Int)))) (sel (decide ((48 : Int) ≤ (byteAt v1 v2.toNat))) (sel (decide ((byteAt v1 v2.toNat) ≤ (57 : Int))) (W v1 (wr (v2 + (1 : Int)))) (sel (decide ((byteAt v1 v2.toNat) = (46 : Int))) (W v1 (wr (v2 + (1 : Int)))) (sel (decide ((byteAt v1 v2.toNat) = (45 : Int))) (W v1 (wr (v2 + (1 : Int)))) (sel ((!decide ((byteAt v1 v2.toNat) = (47 : Int)))) (Kr false) (W v1 (wr (v2 + (1 : Int)))))))) (sel (decide ((byteAt v1 v2.toNat) = (46 : Int))) (W v1 (wr (v2 + (1 : Int)))) (sel (decide ((byteAt v1 v2.toNat) = (45 : Int))) (W v1 (wr (v2 + (1 : Int)))) (sel ((!decide ((byteAt v1 v2.toNat) = (47 : Int)))) (Kr false) (W v1 (wr (v2 + (1 : Int))))))))) (sel (decide ((48 : Int) ≤ (byteAt v1 v2.toNat))) (sel (decide ((byteAt v1 v2.toNat) ≤ (57 : Int))) (W v1 (wr (v2 + (1 : Int)))) (sel (decide ((byteAt v1 v2.toNat) = (46 : Int))) (W v1 (wr (v2 + (1 : Int)))) (sel (decide ((byteAt v1 v2.toNat) = (45 : Int))) (W v1 (wr (v2 + (1 : Int)))) (sel ((!decide ((byteAt v1 v2.toNat) = (47 : Int)))) (Kr false) (W v1 (wr (v2 + (1 : Int)))))))) (sel (decide ((byteAt v1 v2.toNat) = (46 : Int))) (W v1 (wr (v2 + (1 : Int)))) (sel (decide ((byteAt v1 v2.toNat) = (45 : Int))) (W v1 (wr (v2 + (1 : Int)))) (sel ((!decide ((byteAt v1 v2.toNat) = (47 : Int)))) (Kr false) (W v1 (wr (v2 + (1 : Int)))))))))) (K0 v1)
noncomputable def F0 {ρ : Type} : Nat → ByteArray → Int → (ByteArray → Option ρ) → (Bool → Option ρ) → Option ρ
  | 0, _, _, _, _ => none
  | k + 1, v1, v2, K0, Kr => B0 v1 v2 (fun v1' v2' => F0 k v1' v2' K0 Kr) K0 Kr
noncomputable def B {ρ : Type} (C_impl_inRange : Int → Int → Int → Option Bool) (C_strings_HasPrefix : ByteArray → ByteArray → Option Bool) (C_strings_HasSuffix : ByteArray → ByteArray → Option Bool) (C_strings_Contains : ByteArray → ByteArray → Option Bool) (L0 : ByteArray → Int → (ByteArray → Option ρ) → (Bool → Option ρ) → Option ρ) (a1 : ByteArray) (K : Bool → Option ρ) : Option ρ :=
  L0 a1 (0 : Int) (fun e01 => (C_impl_inRange (e01.size : Int) (1 : Int) (24 : Int)).bind fun r1 => sel ((!r1)) (K false) ((C_strings_HasPrefix e01 (ByteArray.mk #[47])).bind fun r2 => sel ((!r2)) ((C_strings_HasSuffix e01 (ByteArray.mk #[47])).bind fun r3 => sel ((!r3)) ((C_strings_Contains e01 (ByteArray.mk #[47, 47])).bind fun r4 => K (!r4)) (K false)) (K false))) (fun x01 => K x01)
noncomputable def F (a1 : ByteArray) : Option Bool := B impl_inRange.F strings_HasPrefix.F strings_HasSuffix.F strings_Contains.F (F0 fuelN) a1 (fun x1 => some (x1))
def encA (t : ByteArray) : List AV := [.c (.n (.v (.string t)))]
def encR (x : Bool) : AV × List Ob := (.c (.n (.v (.bool x))), [])
theorem encAI : ∀ a b, encA a = encA b → a = b := by
  intro a b h
  simp [encA, encRw_iff] at h
  simp_all
theorem encRI : ∀ a b, encR a = encR b → a = b := by
  intro a b h
  simp [encR, encRw_iff] at h
  simp_all
noncomputable def Q (args : List AV) : Option Bool := ofC encA (fun t => F t) args
theorem wrap : (fun (y1 : ByteArray) => Q [.c (.n (.v (.string y1)))]) = F := by
  funext y1
  exact ofC_enc encAI _ (y1)
noncomputable def G (q_impl_inRange : List AV → Option Bool) (q_strings_HasPrefix : List AV → Option Bool) (q_strings_HasSuffix : List AV → Option Bool) (q_strings_Contains : List AV → Option Bool) : Orc := ⟨fun f => sel (Nat.beq f 50) 0 (sel (Nat.beq f 51) 0 (sel (Nat.beq f 52) 0 (sel (Nat.beq f 53) 0 (9)))), fun ρ f args K => sel (Nat.beq f 50) (qEntry impl_inRange.encR q_impl_inRange args K) (sel (Nat.beq f 51) (qEntry strings_HasPrefix.encR q_strings_HasPrefix args K) (sel (Nat.beq f 52) (qEntry strings_HasSuffix.encR q_strings_HasSuffix args K) (sel (Nat.beq f 53) (qEntry strings_Contains.encR q_strings_Contains args K) (Option.none)))), noE⟩
noncomputable def L (W0 : (ρ : Type) → List AV → List Ob → (ByteArray → Option ρ) → (Bool → Option ρ) → Option ρ) : Lor := fun ρ j st K => sel (Nat.beq j 0) (cutO Try.prog 58 [0, 3] 0 [] [] st fun avs obs => W0 ρ avs obs (fun z1 => K (.exit 0) (mkS 58 [0] [.c (.n (.v (.string z1)))] [] [])) (fun z1 => K .ret (mkS 58 [2] [.c (.n (.v (.bool z1)))] [] []))) (Option.none)
noncomputable def c0 : Code := loopC (atomN [] 0 (bodyOf Try.f25) 0)
def ct0 : Cut := ⟨[0, 3], []⟩
def lv0 : Exit → Cut
  | .exit 0 => ⟨[0], []⟩
  | .ret => ⟨[2], []⟩
  | _ => ⟨[], []⟩
theorem step0 (q_impl_inRange : List AV → Option Bool) (q_strings_HasPrefix : List AV → Option Bool) (q_strings_HasSuffix : List AV → Option Bool) (q_strings_Contains : List AV → Option Bool) (W0 : (ρ : Type) → List AV → List Ob → (ByteArray → Option ρ) → (Bool → Option ρ) → Option ρ) {ρ : Type} (K : Exit → St → Option ρ) (W : List AV → List Ob → Option ρ) (v1 : ByteArray) (v2 : Int) : exC Try.prog (G q_impl_inRange q_strings_HasPrefix q_strings_HasSuffix q_strings_Contains) (L W0) [] 1 c0 (mkS 58 [0, 3] [.c (.n (.v (.string v1))), .c (.n (.v (.int .i64 v2)))] [] []) (bodyK Try.prog 58 0 [] ct0 W lv0 K) =
    B0 v1 v2 (fun u1 u2 => W [.c (.n (.v (.string u1))), .c (.n (.v (.int .i64 u2)))] []) (fun z1 => K (.exit 0) (mkS 58 [0] [.c (.n (.v (.string z1)))] [] [])) (fun z1 => K .ret (mkS 58 [2] [.c (.n (.v (.bool z1)))] [] [])) := by kernel_rfl
def enc0 (t : ByteArray × Int) : List AV × List Ob := ([.c (.n (.v (.string t.1))), .c (.n (.v (.int .i64 t.2)))], [])
theorem enc0I : ∀ a b, enc0 a = enc0 b → a = b := by
  intro a b h
  obtain ⟨a0, a1⟩ := a
  obtain ⟨b0, b1⟩ := b
  simp [enc0, encRw_iff] at h
  simp_all
noncomputable def V0 : (ρ : Type) → List AV → List Ob → (ByteArray → Option ρ) → (Bool → Option ρ) → Option ρ := fun ρ avs obs k0 kr => ofC enc0 (fun t => F0 fuelN t.1 t.2 k0 kr) (avs, obs)
theorem V0_enc (ρ : Type) : (fun w1 w2 k0 kr => V0 ρ [.c (.n (.v (.string w1))), .c (.n (.v (.int .i64 w2)))] [] k0 kr) = F0 fuelN := by
  funext w1 w2 k0 kr
  exact ofC_enc enc0I _ (w1, w2)
theorem main (q_impl_inRange : List AV → Option Bool) (q_strings_HasPrefix : List AV → Option Bool) (q_strings_HasSuffix : List AV → Option Bool) (q_strings_Contains : List AV → Option Bool) (W0 : (ρ : Type) → List AV → List Ob → (ByteArray → Option ρ) → (Bool → Option ρ) → Option ρ) {ρ : Type} (K : AV → List Ob → Option ρ) (a1 : ByteArray) : exC Try.prog (G q_impl_inRange q_strings_HasPrefix q_strings_HasSuffix q_strings_Contains) (L W0) [] 0 (bodyOf Try.f25) (entry 58 [.c (.n (.v (.string a1)))] [] []) (finO Try.prog Try.f25.results.toList 0 [] [] K) =
    B (fun y1 y2 y3 => q_impl_inRange [.c (.n (.v (.int .i64 y1))), .c (.n (.v (.int .i64 y2))), .c (.n (.v (.int .i64 y3)))]) (fun y1 y2 => q_strings_HasPrefix [.c (.n (.v (.string y1))), .c (.n (.v (.string y2)))]) (fun y1 y2 => q_strings_HasSuffix [.c (.n (.v (.string y1))), .c (.n (.v (.string y2)))]) (fun y1 y2 => q_strings_Contains [.c (.n (.v (.string y1))), .c (.n (.v (.string y2)))]) (fun w1 w2 k0 kr => W0 ρ [.c (.n (.v (.string w1))), .c (.n (.v (.int .i64 w2)))] [] k0 kr) a1 (fun x1 => K (.c (.n (.v (.bool x1)))) []) := by kernel_rfl
theorem Gok : (G impl_inRange.Q strings_HasPrefix.Q strings_HasSuffix.Q strings_Contains.Q).ok Try.prog := ⟨(by
    intro ρ f args K r h
    rcases sel_cases h with ⟨hb, h⟩ | ⟨-, h⟩
    · obtain rfl := beq_nat hb
      exact qEntry_ok impl_inRange.ac h
    rcases sel_cases h with ⟨hb, h⟩ | ⟨-, h⟩
    · obtain rfl := beq_nat hb
      exact qEntry_ok strings_HasPrefix.ac h
    rcases sel_cases h with ⟨hb, h⟩ | ⟨-, h⟩
    · obtain rfl := beq_nat hb
      exact qEntry_ok strings_HasSuffix.ac h
    rcases sel_cases h with ⟨hb, h⟩ | ⟨-, h⟩
    · obtain rfl := beq_nat hb
      exact qEntry_ok strings_Contains.ac h
    cases h),
  (by
    intro ρ f args K
    simp only [G]
    cases Nat.beq f 50 with
    | true => exact qEntry_nat args K
    | false =>
    simp only [sel]
    cases Nat.beq f 51 with
    | true => exact qEntry_nat args K
    | false =>
    simp only [sel]
    cases Nat.beq f 52 with
    | true => exact qEntry_nat args K
    | false =>
    simp only [sel]
    cases Nat.beq f 53 with
    | true => exact qEntry_nat args K
    | false =>
    simp only [sel]
    rfl),
  (fun ρ f st caps args dst K r h => (by cases h))⟩
theorem hm : Try.prog.follows .mixedOrders = true := by kernel_rfl
theorem e0 : atomsL [] 1 c0 = [] := by kernel_rfl
theorem ok0 (ρ : Type) (st : St) (K : Exit → St → Option ρ) (r : ρ) (h : (L V0) ρ 0 st K = some r) : AW Try.prog (.loop c0) st fun e st' => K e st' = some r := by
  refine loop_ok (ct := ct0) (lv := lv0) (n := 58) (m := 0) (ks := []) (j := 0) (jn := []) (L := (L V0)) Gok hm (by rw [e0]; exact Lor.ok_nil _ _) enc0I (fun k t => F0 k t.1 t.2 (fun z1 => K (.exit 0) (mkS 58 [0] [.c (.n (.v (.string z1)))] [] [])) (fun z1 => K .ret (mkS 58 [2] [.c (.n (.v (.bool z1)))] [] []))) (fun t => rfl) (fun k t => ?_) (fun _ => fuelN) h
  refine (step0 impl_inRange.Q strings_HasPrefix.Q strings_HasSuffix.Q strings_Contains.Q V0 K _ t.1 t.2).trans ?_
  refine congrArg (fun W => B0 t.1 t.2 W (fun z1 => K (.exit 0) (mkS 58 [0] [.c (.n (.v (.string z1)))] [] [])) (fun z1 => K .ret (mkS 58 [2] [.c (.n (.v (.bool z1)))] [] []))) ?_
  funext u1 u2
  exact ofC_enc enc0I _ (u1, u2)
theorem e : atomsL [] 0 (bodyOf Try.f25) = [(0, 0, .loop c0)] := by kernel_rfl
theorem acc (t : ByteArray) (x : Bool) (h : F t = some x) : ACc Try.prog 25 (encA t) [] true [] fun rv obs => (rv, obs) = encR x := by
  refine fun_okc (L := (L V0)) (jn := []) (cmds := []) (ks := []) (hin := []) (fn := Try.f25) (body := (bodyOf Try.f25)) Gok hm Try.func25 (by kernel_rfl) (by kernel_rfl) (by rw [e]; exact Lor.ok_cons ok0 (Lor.ok_nil _ _)) ?_ h
  refine (main impl_inRange.Q strings_HasPrefix.Q strings_HasSuffix.Q strings_Contains.Q V0 _ t).trans ?_
  rw [impl_inRange.wrap, strings_HasPrefix.wrap, strings_HasSuffix.wrap, strings_Contains.wrap, V0_enc]
  refine congrArg (fun K => B impl_inRange.F strings_HasPrefix.F strings_HasSuffix.F strings_Contains.F (F0 fuelN) t K) ?_
  funext x1
  exact ofC_enc encRI some (x1)
theorem ac0 (t : ByteArray) (x : Bool) (h : F t = some x) : AC Try.prog 25 (encA t) [] true [] fun rv obs => (rv, obs) = encR x := ACc.ac (body := bodyOf Try.f25) Try.func25 (by kernel_rfl) (by kernel_rfl) (acc t x h)
theorem ac (args : List AV) (x : Bool) (h : Q args = some x) : AC Try.prog 25 args [] false [] fun rv obs => (rv, obs) = encR x := by
  obtain ⟨t, rfl, h2⟩ := ofC_some h
  refine (ac0 t x h2).flat fun rv obs e => ?_
  obtain rfl : rv = (encR x).1 := congrArg Prod.fst e
  obtain rfl : obs = (encR x).2 := congrArg Prod.snd e
  refine ⟨by simp [encR, AV.Flat, K.Flat, C.Flat], ?_⟩
  simp [encR]
end impl_PathOk
/-! loop.example/g00073/laws.FnExactPathOk -/
namespace laws_FnExactPathOk
noncomputable def B {ρ : Type} (C_spec_PathOk : ByteArray → Option Bool) (C_impl_PathOk : ByteArray → Option Bool) (a1 : ByteArray) (K : Bool → Option ρ) : Option ρ :=
  sel (decide ((1048576 : Int) < (a1.size : Int))) (K true) ((C_spec_PathOk a1).bind fun r1 => (C_impl_PathOk a1).bind fun r2 => sel ((!(r2 == r1))) (K false) (K true))
noncomputable def F (a1 : ByteArray) : Option Bool := B spec_PathOk.F impl_PathOk.F a1 (fun x1 => some (x1))
def encA (t : ByteArray) : List AV := [.c (.n (.v (.string t)))]
def encR (x : Bool) : AV × List Ob := (.c (.n (.v (.bool x))), [])
theorem encAI : ∀ a b, encA a = encA b → a = b := by
  intro a b h
  simp [encA, encRw_iff] at h
  simp_all
theorem encRI : ∀ a b, encR a = encR b → a = b := by
  intro a b h
  simp [encR, encRw_iff] at h
  simp_all
noncomputable def Q (args : List AV) : Option Bool := ofC encA (fun t => F t) args
theorem wrap : (fun (y1 : ByteArray) => Q [.c (.n (.v (.string y1)))]) = F := by
  funext y1
  exact ofC_enc encAI _ (y1)
noncomputable def G (q_spec_PathOk : List AV → Option Bool) (q_impl_PathOk : List AV → Option Bool) : Orc := ⟨fun f => sel (Nat.beq f 24) 0 (sel (Nat.beq f 25) 0 (9)), fun ρ f args K => sel (Nat.beq f 24) (qEntry spec_PathOk.encR q_spec_PathOk args K) (sel (Nat.beq f 25) (qEntry impl_PathOk.encR q_impl_PathOk args K) (Option.none)), noE⟩
noncomputable def L : Lor := fun ρ j st K => Option.none
theorem main (q_spec_PathOk : List AV → Option Bool) (q_impl_PathOk : List AV → Option Bool) {ρ : Type} (K : AV → List Ob → Option ρ) (a1 : ByteArray) : exC Try.prog (G q_spec_PathOk q_impl_PathOk) (L) [] 0 (bodyOf Try.f7) (entry 15 [.c (.n (.v (.string a1)))] [] []) (finO Try.prog Try.f7.results.toList 0 [] [] K) =
    B (fun y1 => q_spec_PathOk [.c (.n (.v (.string y1)))]) (fun y1 => q_impl_PathOk [.c (.n (.v (.string y1)))]) a1 (fun x1 => K (.c (.n (.v (.bool x1)))) []) := by kernel_rfl
theorem Gok : (G spec_PathOk.Q impl_PathOk.Q).ok Try.prog := ⟨(by
    intro ρ f args K r h
    rcases sel_cases h with ⟨hb, h⟩ | ⟨-, h⟩
    · obtain rfl := beq_nat hb
      exact qEntry_ok spec_PathOk.ac h
    rcases sel_cases h with ⟨hb, h⟩ | ⟨-, h⟩
    · obtain rfl := beq_nat hb
      exact qEntry_ok impl_PathOk.ac h
    cases h),
  (by
    intro ρ f args K
    simp only [G]
    cases Nat.beq f 24 with
    | true => exact qEntry_nat args K
    | false =>
    simp only [sel]
    cases Nat.beq f 25 with
    | true => exact qEntry_nat args K
    | false =>
    simp only [sel]
    rfl),
  (fun ρ f st caps args dst K r h => (by cases h))⟩
theorem hm : Try.prog.follows .mixedOrders = true := by kernel_rfl
theorem e : atomsL [] 0 (bodyOf Try.f7) = [] := by kernel_rfl
theorem acc (t : ByteArray) (x : Bool) (h : F t = some x) : ACc Try.prog 7 (encA t) [] true [] fun rv obs => (rv, obs) = encR x := by
  refine fun_okc (L := (L)) (jn := []) (cmds := []) (ks := []) (hin := []) (fn := Try.f7) (body := (bodyOf Try.f7)) Gok hm Try.func7 (by kernel_rfl) (by kernel_rfl) (by rw [e]; exact Lor.ok_nil _ _) ?_ h
  refine (main spec_PathOk.Q impl_PathOk.Q _ t).trans ?_
  rw [spec_PathOk.wrap, impl_PathOk.wrap]
  refine congrArg (fun K => B spec_PathOk.F impl_PathOk.F t K) ?_
  funext x1
  exact ofC_enc encRI some (x1)
theorem ac0 (t : ByteArray) (x : Bool) (h : F t = some x) : AC Try.prog 7 (encA t) [] true [] fun rv obs => (rv, obs) = encR x := ACc.ac (body := bodyOf Try.f7) Try.func7 (by kernel_rfl) (by kernel_rfl) (acc t x h)
theorem ac (args : List AV) (x : Bool) (h : Q args = some x) : AC Try.prog 7 args [] false [] fun rv obs => (rv, obs) = encR x := by
  obtain ⟨t, rfl, h2⟩ := ofC_some h
  refine (ac0 t x h2).flat fun rv obs e => ?_
  obtain rfl : rv = (encR x).1 := congrArg Prod.fst e
  obtain rfl : obs = (encR x).2 := congrArg Prod.snd e
  refine ⟨by simp [encR, AV.Flat, K.Flat, C.Flat], ?_⟩
  simp [encR]
end laws_FnExactPathOk
end Go.Al
