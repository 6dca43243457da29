import Derived.Test.YtahffnkphppgoaaGreatAlD
set_option linter.unusedVariables false
set_option linter.unusedSimpArgs false
set_option linter.constructorNameAsVariable false
set_option linter.unusedSectionVars false
namespace Go.Al
inductive NE : N → N → Prop
  | refl (x : N) : NE x x
  | v (x : Value) : NE (.v x) (.v x)
  | im {x y : N} (h : NE x y) : NE (.im x) (.im y)
  | sl {sz : Nat} {xs ys : Rw N} (hn : xs.n = ys.n) (hl : ∀ i, i < xs.n → (xs.g i).length = (ys.g i).length)
      (h : ∀ i j x y, at2 xs i j = some x → at2 ys i j = some y → NE x y) : NE (.sl sz xs) (.sl sz ys)
section
variable {w : World} {I : Nat → Prop} {β : List Value}
theorem at2_same {xs ys : Rw N} (hn : xs.n = ys.n) (hl : ∀ i, i < xs.n → (xs.g i).length = (ys.g i).length) {i j : Nat} {y : N} (h : at2 ys i j = some y) : ∃ x, at2 xs i j = some x := by
  obtain ⟨h1, h2⟩ := at2_pos h
  have hi : i < xs.n := by omega
  have hj : j < (xs.g i).length := by rw [hl i hi]; exact (List.getElem?_eq_some_iff.1 h2).1
  exact ⟨(xs.g i)[j], by rw [at2_of hi]; simp [hj]⟩
theorem unif_same {xs ys : Rw N} (hn : xs.n = ys.n) (hl : ∀ i, i < xs.n → (xs.g i).length = (ys.g i).length) {sz : Nat} (h : unif sz xs) : unif sz ys := by
  intro i hi
  rw [← hl i (by omega)]
  exact h i (by omega)
theorem Im.ne {x : N} {c : Value} (h : Im w I x c) : ∀ {y : N}, NE x y → Im w I y c := by
  induction h with
  | v h => intro y hy; cases hy <;> exact .v h
  | im h ih => intro y hy; cases hy with | refl => exact .im h | im hy => exact .im (ih hy)
  | sl A cap ad c hu hn hcap hA hc H ih =>
    intro y hy
    cases hy with
    | refl => exact .sl A cap ad c hu hn hcap hA hc H
    | sl hnn hl hy =>
      rename_i xs sz ys
      have := Im.sl (w := w) (I := I) (sz := _) (xs := ys) A cap ad c (unif_same hnn hl hu) (by omega) (by omega) (fun h => hA (by omega))
        (fun i j z hz => by obtain ⟨z', hz'⟩ := at2_same hnn hl hz; exact hc i j z' hz')
        (fun i j z hz => by obtain ⟨z', hz'⟩ := at2_same hnn hl hz; exact ih i j z' hz' (hy i j z' z hz' hz))
      rw [← hnn] at this
      exact this
theorem Own.ne {x : N} {c : Value} {S : Nat → Prop} (h : Own w I x c S) : ∀ {y : N}, NE x y → Own w I y c S := by
  induction h with
  | v h => intro y hy; cases hy <;> exact .v h
  | im h => intro y hy; cases hy with | refl => exact .im h | im hy => exact .im (h.ne hy)
  | nil A h0 => intro y hy; cases hy with | refl => exact .nil A h0 | sl hnn hl hy => exact .nil A (by omega)
  | sl g cap e cur fr c F hu hn hcap hm hg hb hfr hs hc H hF hD ih =>
    intro y hy
    cases hy with
    | refl => exact .sl g cap e cur fr c F hu hn hcap hm hg hb hfr hs hc H hF hD
    | sl hnn hl hy =>
      rename_i xs S sz ys
      have := Own.sl (w := w) (I := I) (xs := ys) g cap e cur fr c F (unif_same hnn hl hu) (by omega) (by omega) hm hg hb hfr hs
        (fun i j z hz => by obtain ⟨z', hz'⟩ := at2_same hnn hl hz; exact hc i j z' hz')
        (fun i j z hz => by obtain ⟨z', hz'⟩ := at2_same hnn hl hz; exact ih i j z' hz' (hy i j z' z hz' hz)) hF hD
      rw [← hnn] at this
      exact this
inductive OE : Ob → Ob → Prop
  | refl (o : Ob) : OE o o
  | row {sz : Nat} {xs ys : Rw N} (h : NE (.sl sz xs) (.sl sz ys)) : OE (.row sz xs []) (.row sz ys [])
  | fro {sz : Nat} {xs ys : Rw N} (h : NE (.sl sz xs) (.sl sz ys)) : OE (.fro sz xs) (.fro sz ys)
theorem ObR.oe {b : Value} {S : Nat → Prop} {o o' : Ob} (h : ObR w I β b S o) (he : OE o o') : ObR w I β b S o' := by
  cases he with
  | refl => exact h
  | row he =>
    have h1 := RowR.own (show RowR w I β b S _ _ [] from h)
    exact RowR.of_own (h1.ne he)
  | fro he => exact Im.ne (show Im w I _ b from h) he
inductive AE : AV → AV → Prop
  | refl (a : AV) : AE a a
  | n {x y : N} (h : NE x y) : AE (.c (.n x)) (.c (.n y))
theorem AVR.ae {a b : AV} {v : Value} (h : AVR w I β a v) (he : AE a b) : AVR w I β b v := by
  cases he with
  | refl => exact h
  | n he => exact Im.ne (show Im w I _ v from h) he
end
theorem StLe.same {st st' : St} (h1 : st.slots.length = st'.slots.length) (h2 : ∀ (t : Nat) (x y : AV), st.slots[t]? = some x → st'.slots[t]? = some y → AE x y)
    (h3 : st.obs.length = st'.obs.length) (h4 : ∀ (i : Nat) (x y : Ob), st.obs[i]? = some x → st'.obs[i]? = some y → OE x y) (h5 : st.ks = st'.ks) : StLe st st' := by
  rintro cx a w ⟨I, β, S, hr, hc⟩
  refine ⟨I, β, S, ⟨by rw [← h1]; exact hr.sz, by rw [← h3]; exact hr.bl, fun t v u hv hu => ?_, fun i o b ho hb => ?_, hr.sdis, fun i b hb => by rw [← h3]; exact hr.slt i b hb, hr.il⟩,
    ⟨hc.own, hc.isub, hc.iinv, hc.frame, by rw [← h5]; exact hc.keep, hc.defers⟩⟩
  · have ht : t < st.slots.length := by rw [h1]; exact (Sl.some_iff.1 hv).1
    exact (hr.slot t _ u (Sl.get_lt ht) hu).ae (h2 t _ v (Sl.get_lt ht) hv)
  · have hi : i < st.obs.length := by rw [h3]; exact (List.getElem?_eq_some_iff.1 ho).1
    exact (hr.ob i _ b (List.getElem?_eq_getElem hi) hb).oe (h4 i _ o (List.getElem?_eq_getElem hi) ho)
theorem NE.rw {A : Type} [Enc A] {u v : Vec A} (h : Vec.Same u v) : NE (.sl (Enc.sz A) (encRw u)) (.sl (Enc.sz A) (encRw v)) := by
  refine .sl h.1 (fun i _ => by simp [encRw, Enc.len]) fun i j x y hx hy => ?_
  obtain ⟨hi, hx⟩ := at2_pos hx
  obtain ⟨-, hy⟩ := at2_pos hy
  have e : u.g i = v.g i := h.2 i hi
  simp only [encRw] at hx hy
  rw [e, hy] at hx
  obtain rfl := Option.some.inj hx
  exact .refl _
theorem AC.row {P : Program} {f : FuncId} {args : List AV} {A : Type} [Enc A] {v : Vec A} (h : AC P f args [] true [] fun rv obs => rv = .c (.h 0) ∧ ∃ u : Vec A, obs = [Go.Al.rw u] ∧ Vec.Same u v) :
    AC P f args [] true [] fun rv obs => (rv, obs) = (.c (.h 0), [Go.Al.rw v]) := by
  intro w vals I β S hr
  refine (h w vals I β S hr).mono ?_
  rintro x w' ⟨rv, obs, v', I', β', S', h1, ⟨rfl, u, rfl, hu⟩, h2, h3, h4, h5, h6, h7, h8, h9, h10⟩
  refine ⟨_, _, v', I', β', S', h1, rfl, h2, h3, h4, fun i o b ho hb => ?_, h6, h7, h8, h9, h10⟩
  cases i with
  | zero =>
    simp only [List.getElem?_cons_zero, Option.some.injEq] at ho
    subst ho
    exact (h5 0 _ b rfl hb).oe (.row (NE.rw hu))
  | succ i => simp at ho
structure QE where
  f : FuncId
  sh : Bool
  run : (ρ : Type) → List AV → (AV → List Ob → Option ρ) → Option ρ
structure EE where
  f : FuncId
  run : (ρ : Type) → St → List AV → Option Nat → (St → Option ρ) → Option ρ
def qE {R : Type} (f : FuncId) (sh : Bool) (encR : R → AV × List Ob) (Q : List AV → Option R) : QE := ⟨f, sh, fun _ args K => qEntry encR Q args K⟩
def eE {R : Type} (P : Program) (f : FuncId) (md : List Bool) (lend : Bool) (ks : List Bool) (encR : R → AV × List Ob) (Q : List AV → List Ob → Option R) : EE := ⟨f, fun _ st args dst K => callE P f md lend ks encR Q st args dst K⟩
noncomputable def kdL (l : List QE) : FuncId → Nat := l.rec (motive := fun _ => FuncId → Nat) (fun _ => 9) fun q _ ih f => sel (Nat.beq f q.f) (sel q.sh 1 0) (ih f)
noncomputable def runQ (l : List QE) : (ρ : Type) → FuncId → List AV → (AV → List Ob → Option ρ) → Option ρ :=
  l.rec (motive := fun _ => (ρ : Type) → FuncId → List AV → (AV → List Ob → Option ρ) → Option ρ) (fun _ _ _ _ => Option.none) fun q _ ih ρ f args K => sel (Nat.beq f q.f) (q.run ρ args K) (ih ρ f args K)
noncomputable def runE (l : List EE) : (ρ : Type) → FuncId → St → List AV → Option Nat → (St → Option ρ) → Option ρ :=
  l.rec (motive := fun _ => (ρ : Type) → FuncId → St → List AV → Option Nat → (St → Option ρ) → Option ρ) (fun _ _ _ _ _ _ => Option.none) fun q _ ih ρ f st args dst K => sel (Nat.beq f q.f) (q.run ρ st args dst K) (ih ρ f st args dst K)
noncomputable def mkO (qs : List QE) (es : List EE) (op : List Nat) : Orc := ⟨kdL qs, runQ qs, runE es, op⟩
def QE.ok (P : Program) (q : QE) : Prop := (∀ (ρ : Type) (args : List AV) (K : AV → List Ob → Option ρ) (r : ρ), q.run ρ args K = some r → AC P q.f args [] q.sh [] fun rv obs => K rv obs = some r) ∧
  ∀ (ρ : Type) (args : List AV) (K : AV → List Ob → Option ρ), q.run ρ args K = (q.run (AV × List Ob) args fun a n => some (a, n)).bind fun p => K p.1 p.2
def EE.ok (P : Program) (q : EE) : Prop := ∀ (ρ : Type) (st : St) (caps : List C) (args : List AV) (dst : Option Nat) (K : St → Option ρ) (r : ρ),
  q.run ρ st (args ++ caps.map .c) dst K = some r → callS P st (.fn q.f caps) args dst fun st' => K st' = some r
def allQ (P : Program) : List QE → Prop
  | [] => True
  | q :: l => q.ok P ∧ allQ P l
def allE (P : Program) : List EE → Prop
  | [] => True
  | q :: l => q.ok P ∧ allE P l
theorem qE_ok {P : Program} {R : Type} {f : FuncId} {sh : Bool} {encR : R → AV × List Ob} {Q : List AV → Option R} (h : ∀ args x, Q args = some x → AC P f args [] sh [] fun rv obs => (rv, obs) = encR x) : (qE f sh encR Q).ok P :=
  ⟨fun ρ args K r hr => qEntry_ok h hr, fun ρ args K => qEntry_nat args K⟩
theorem eE_ok {P : Program} {R : Type} {f : FuncId} {md : List Bool} {sh : Bool} {ks : List Bool} {encR : R → AV × List Ob} {Q : List AV → List Ob → Option R} {lend : Bool} (hl : lend = true → sh = false) (h : ∀ args hin x, Q args hin = some x → AC P f args hin sh ks fun rv obs => (rv, obs) = encR x) : (eE P f md lend ks encR Q).ok P :=
  fun ρ st caps args dst K r hr => callE_ok hl h hr
theorem zH {P : Program} {qs : List QE} {es : List EE} (hq : allQ P qs) (he : allE P es) {op : List Nat} : (mkO qs es op).ok P := by
  refine ⟨fun ρ f args K r h => ?_, fun ρ f args K => ?_, fun ρ f st caps args dst K r h => ?_⟩
  · induction qs with
    | nil => cases h
    | cons q l ih =>
      rcases sel_cases (show sel (Nat.beq f q.f) (q.run ρ args K) (runQ l ρ f args K) = some r from h) with ⟨hb, h2⟩ | ⟨hb, h2⟩
      · have hk : decide ((mkO (q :: l) es op).kd f ≠ 0) = q.sh := by
          show decide (sel (Nat.beq f q.f) (sel q.sh 1 0) (kdL l f) ≠ 0) = q.sh
          rw [hb]
          cases q.sh <;> rfl
        rw [hk]
        obtain rfl := beq_nat hb
        exact hq.1.1 ρ args K r h2
      · have hk : (mkO (q :: l) es op).kd f = (mkO l es op).kd f := by
          show sel (Nat.beq f q.f) (sel q.sh 1 0) (kdL l f) = kdL l f
          rw [hb]
          rfl
        rw [hk]
        exact ih hq.2 h2
  · induction qs with
    | nil => rfl
    | cons q l ih =>
      show sel (Nat.beq f q.f) (q.run ρ args K) (runQ l ρ f args K) = (sel (Nat.beq f q.f) (q.run (AV × List Ob) args fun a n => some (a, n)) (runQ l (AV × List Ob) f args fun a n => some (a, n))).bind fun p => K p.1 p.2
      cases Nat.beq f q.f with
      | true => exact hq.1.2 ρ args K
      | false => exact ih hq.2
  · induction es with
    | nil => cases h
    | cons q l ih =>
      rcases sel_cases (show sel (Nat.beq f q.f) (q.run ρ st (args ++ caps.map .c) dst K) (runE l ρ f st (args ++ caps.map .c) dst K) = some r from h) with ⟨hb, h2⟩ | ⟨hb, h2⟩
      · obtain rfl := beq_nat hb
        exact he.1 ρ st caps args dst K r h2
      · exact ih he.2 h2
theorem fl0 : ∀ o ∈ ([] : List Ob), o.Flat := fun o h => by cases h
theorem flc {a : Ob} {l : List Ob} (h : a.Flat) (t : ∀ o ∈ l, o.Flat) : ∀ o ∈ a :: l, o.Flat := fun o ho => by
  rcases List.mem_cons.1 ho with rfl | ho
  · exact h
  · exact t o ho
section
variable {P : Program} {G : Orc} {L : Lor} {T R : Type} {f : FuncId} {fn : Func} {body : Code} {ks : List Bool} {encR : R → AV × List Ob} {F : T → Option R} {cmds : List Cmd}
theorem accT {encA : T → List AV} (hG : G.ok P) (hm : P.follows .mixedOrders = true) (hf : P.funcs[f]? = some fn) (hn : (fn.name == "runtime.NumGoroutine") = false) (hb : fn.body = some body) (hL : L.ok P (zE [] 0 body))
    (h : ∀ t, exC P G L [] 0 body (entry fn.ntmps (encA t) [] ks) (finO P fn.results.toList 0 ks cmds fun rv obs => ofC encR some (rv, obs)) = F t) (t : T) (x : R) (hx : F t = some x) : ACc P f (encA t) [] true ks fun rv obs => (rv, obs) = encR x :=
  fun_okc hG hm hf hn hb hL (h t) hx
theorem accT2 {encA : T → List AV × List Ob} (m : Nat) (hlen : ∀ t, (encA t).2.length = m) (hG : G.ok P) (hm : P.follows .mixedOrders = true) (hf : P.funcs[f]? = some fn) (hn : (fn.name == "runtime.NumGoroutine") = false) (hb : fn.body = some body) (hL : L.ok P (zE [] 0 body))
    (h : ∀ t, exC P G L [] 0 body (entry fn.ntmps (encA t).1 (encA t).2 ks) (finO P fn.results.toList m ks cmds fun rv obs => ofC encR some (rv, obs)) = F t) (t : T) (x : R) (hx : F t = some x) : ACc P f (encA t).1 (encA t).2 true ks fun rv obs => (rv, obs) = encR x :=
  fun_okc hG hm hf hn hb hL (by rw [hlen t]; exact h t) hx
theorem acT {encA : T → List AV} (hf : P.funcs[f]? = some fn) (hn : (fn.name == "runtime.NumGoroutine") = false) (hb : fn.body = some body) (h : ∀ t x, F t = some x → ACc P f (encA t) [] true ks fun rv obs => (rv, obs) = encR x) (args : List AV) (x : R) (hq : ofC encA F args = some x) :
    AC P f args [] true ks fun rv obs => (rv, obs) = encR x := by
  obtain ⟨t, rfl, h2⟩ := ZF hq
  exact ACc.ac hf hn hb (h t x h2)
theorem acF {encA : T → List AV} (hf : P.funcs[f]? = some fn) (hn : (fn.name == "runtime.NumGoroutine") = false) (hb : fn.body = some body) (h : ∀ t x, F t = some x → ACc P f (encA t) [] true ks fun rv obs => (rv, obs) = encR x)
    (hfl : ∀ x, (encR x).1.Flat ∧ ∀ o ∈ (encR x).2, o.Flat) (args : List AV) (x : R) (hq : ofC encA F args = some x) : AC P f args [] false ks fun rv obs => (rv, obs) = encR x :=
  (acT hf hn hb h args x hq).flat fun rv obs e => by
    obtain rfl : rv = (encR x).1 := congrArg Prod.fst e
    obtain rfl : obs = (encR x).2 := congrArg Prod.snd e
    exact hfl x
theorem acT2 {encA : T → List AV × List Ob} (hf : P.funcs[f]? = some fn) (hn : (fn.name == "runtime.NumGoroutine") = false) (hb : fn.body = some body) (h : ∀ t x, F t = some x → ACc P f (encA t).1 (encA t).2 true ks fun rv obs => (rv, obs) = encR x) (args : List AV) (hin : List Ob) (x : R) (hq : ofC encA F (args, hin) = some x) :
    AC P f args hin true ks fun rv obs => (rv, obs) = encR x := by
  obtain ⟨t, he, h2⟩ := ZF hq
  obtain rfl : args = (encA t).1 := (congrArg Prod.fst he).symm
  obtain rfl : hin = (encA t).2 := (congrArg Prod.snd he).symm
  exact ACc.ac hf hn hb (h t x h2)
theorem acF2 {encA : T → List AV × List Ob} (hf : P.funcs[f]? = some fn) (hn : (fn.name == "runtime.NumGoroutine") = false) (hb : fn.body = some body) (h : ∀ t x, F t = some x → ACc P f (encA t).1 (encA t).2 true ks fun rv obs => (rv, obs) = encR x)
    (hfl : ∀ x, (encR x).1.Flat ∧ ∀ o ∈ (encR x).2, o.Flat) (args : List AV) (hin : List Ob) (x : R) (hq : ofC encA F (args, hin) = some x) : AC P f args hin false ks fun rv obs => (rv, obs) = encR x :=
  (acT2 hf hn hb h args hin x hq).flat fun rv obs e => by
    obtain rfl : rv = (encR x).1 := congrArg Prod.fst e
    obtain rfl : obs = (encR x).2 := congrArg Prod.snd e
    exact hfl x
end
abbrev YI : Type := Vec Int
abbrev YG : Type := Vec (Vec Int)
abbrev YS : Type := Vec ByteArray
abbrev YN : Type := ByteArray × Int × Int
abbrev YVN : Type := Vec (ByteArray × Int × Int)
abbrev YC : Type := (Vec Int) × ByteArray × (Vec (ByteArray × Int × Int))
abbrev YVC : Type := Vec ((Vec Int) × ByteArray × (Vec (ByteArray × Int × Int)))
abbrev YB : Type := ByteArray × Int × Int × (Vec Int)
abbrev YVB : Type := Vec (ByteArray × Int × Int × (Vec Int))
abbrev YW : Type := (Vec (Vec Int)) × (Vec (ByteArray × Int × Int × (Vec Int)))
abbrev YVW : Type := Vec ((Vec (Vec Int)) × (Vec (ByteArray × Int × Int × (Vec Int))))
abbrev YF : Type := ByteArray × ByteArray
abbrev YU : Type := Vec (IK .u8)
abbrev YK : Type := Vec (IK .u64)
abbrev YP : Type := Int × Int × Int × ByteArray
abbrev YVP : Type := Vec (Int × Int × Int × ByteArray)
abbrev YM : Type := Int × Int × ByteArray
abbrev YE : Type := Int × ByteArray
abbrev YA : Type := Bool × (Vec ByteArray) × (Vec ByteArray) × (Vec ByteArray)
abbrev YVA : Type := Vec (Bool × (Vec ByteArray) × (Vec ByteArray) × (Vec ByteArray))
abbrev YD : Type := Int × Int
abbrev YX : Type := Vec Bool
abbrev YVX : Type := Vec (Vec Bool)
abbrev YVI : Type := Vec (IVec (Vec Int))
abbrev LA : Type := List AV
abbrev LO : Type := List Ob
def OkL (P : Program) (L : Lor) (j : Nat) (c : Code) : Prop := ∀ (ρ : Type) (st : St) (K : Exit → St → Option ρ) (r : ρ), L ρ j st K = some r → AW P c st fun e st' => K e st' = some r
abbrev un1 {A R : Type} (f : A → R) (t : A) : R := f t
theorem fx1 {A R : Type} {f g : A → R} (h : ∀ t, un1 f t = un1 g t) : f = g := funext h
abbrev un2 {A0 A1 R : Type} (f : A0 → A1 → R) (t : A0 × A1) : R := f t.1 t.2
theorem fx2 {A0 A1 R : Type} {f g : A0 → A1 → R} (h : ∀ t, un2 f t = un2 g t) : f = g := by funext x0 x1; exact h (x0, x1)
abbrev un3 {A0 A1 A2 R : Type} (f : A0 → A1 → A2 → R) (t : A0 × A1 × A2) : R := f t.1 t.2.1 t.2.2
theorem fx3 {A0 A1 A2 R : Type} {f g : A0 → A1 → A2 → R} (h : ∀ t, un3 f t = un3 g t) : f = g := by funext x0 x1 x2; exact h (x0, x1, x2)
abbrev un4 {A0 A1 A2 A3 R : Type} (f : A0 → A1 → A2 → A3 → R) (t : A0 × A1 × A2 × A3) : R := f t.1 t.2.1 t.2.2.1 t.2.2.2
theorem fx4 {A0 A1 A2 A3 R : Type} {f g : A0 → A1 → A2 → A3 → R} (h : ∀ t, un4 f t = un4 g t) : f = g := by funext x0 x1 x2 x3; exact h (x0, x1, x2, x3)
abbrev un5 {A0 A1 A2 A3 A4 R : Type} (f : A0 → A1 → A2 → A3 → A4 → R) (t : A0 × A1 × A2 × A3 × A4) : R := f t.1 t.2.1 t.2.2.1 t.2.2.2.1 t.2.2.2.2
theorem fx5 {A0 A1 A2 A3 A4 R : Type} {f g : A0 → A1 → A2 → A3 → A4 → R} (h : ∀ t, un5 f t = un5 g t) : f = g := by funext x0 x1 x2 x3 x4; exact h (x0, x1, x2, x3, x4)
abbrev un6 {A0 A1 A2 A3 A4 A5 R : Type} (f : A0 → A1 → A2 → A3 → A4 → A5 → R) (t : A0 × A1 × A2 × A3 × A4 × A5) : R := f t.1 t.2.1 t.2.2.1 t.2.2.2.1 t.2.2.2.2.1 t.2.2.2.2.2
theorem fx6 {A0 A1 A2 A3 A4 A5 R : Type} {f g : A0 → A1 → A2 → A3 → A4 → A5 → R} (h : ∀ t, un6 f t = un6 g t) : f = g := by funext x0 x1 x2 x3 x4 x5; exact h (x0, x1, x2, x3, x4, x5)
abbrev un7 {A0 A1 A2 A3 A4 A5 A6 R : Type} (f : A0 → A1 → A2 → A3 → A4 → A5 → A6 → R) (t : A0 × A1 × A2 × A3 × A4 × A5 × A6) : R := f t.1 t.2.1 t.2.2.1 t.2.2.2.1 t.2.2.2.2.1 t.2.2.2.2.2.1 t.2.2.2.2.2.2
theorem fx7 {A0 A1 A2 A3 A4 A5 A6 R : Type} {f g : A0 → A1 → A2 → A3 → A4 → A5 → A6 → R} (h : ∀ t, un7 f t = un7 g t) : f = g := by funext x0 x1 x2 x3 x4 x5 x6; exact h (x0, x1, x2, x3, x4, x5, x6)
abbrev un8 {A0 A1 A2 A3 A4 A5 A6 A7 R : Type} (f : A0 → A1 → A2 → A3 → A4 → A5 → A6 → A7 → R) (t : A0 × A1 × A2 × A3 × A4 × A5 × A6 × A7) : R := f t.1 t.2.1 t.2.2.1 t.2.2.2.1 t.2.2.2.2.1 t.2.2.2.2.2.1 t.2.2.2.2.2.2.1 t.2.2.2.2.2.2.2
abbrev un9 {A0 A1 A2 A3 A4 A5 A6 A7 A8 R : Type} (f : A0 → A1 → A2 → A3 → A4 → A5 → A6 → A7 → A8 → R) (t : A0 × A1 × A2 × A3 × A4 × A5 × A6 × A7 × A8) : R := f t.1 t.2.1 t.2.2.1 t.2.2.2.1 t.2.2.2.2.1 t.2.2.2.2.2.1 t.2.2.2.2.2.2.1 t.2.2.2.2.2.2.2.1 t.2.2.2.2.2.2.2.2
theorem fx9 {A0 A1 A2 A3 A4 A5 A6 A7 A8 R : Type} {f g : A0 → A1 → A2 → A3 → A4 → A5 → A6 → A7 → A8 → R} (h : ∀ t, un9 f t = un9 g t) : f = g := by funext x0 x1 x2 x3 x4 x5 x6 x7 x8; exact h (x0, x1, x2, x3, x4, x5, x6, x7, x8)
abbrev un10 {A0 A1 A2 A3 A4 A5 A6 A7 A8 A9 R : Type} (f : A0 → A1 → A2 → A3 → A4 → A5 → A6 → A7 → A8 → A9 → R) (t : A0 × A1 × A2 × A3 × A4 × A5 × A6 × A7 × A8 × A9) : R := f t.1 t.2.1 t.2.2.1 t.2.2.2.1 t.2.2.2.2.1 t.2.2.2.2.2.1 t.2.2.2.2.2.2.1 t.2.2.2.2.2.2.2.1 t.2.2.2.2.2.2.2.2.1 t.2.2.2.2.2.2.2.2.2
theorem fx10 {A0 A1 A2 A3 A4 A5 A6 A7 A8 A9 R : Type} {f g : A0 → A1 → A2 → A3 → A4 → A5 → A6 → A7 → A8 → A9 → R} (h : ∀ t, un10 f t = un10 g t) : f = g := by funext x0 x1 x2 x3 x4 x5 x6 x7 x8 x9; exact h (x0, x1, x2, x3, x4, x5, x6, x7, x8, x9)
abbrev un11 {A0 A1 A2 A3 A4 A5 A6 A7 A8 A9 A10 R : Type} (f : A0 → A1 → A2 → A3 → A4 → A5 → A6 → A7 → A8 → A9 → A10 → R) (t : A0 × A1 × A2 × A3 × A4 × A5 × A6 × A7 × A8 × A9 × A10) : R := f t.1 t.2.1 t.2.2.1 t.2.2.2.1 t.2.2.2.2.1 t.2.2.2.2.2.1 t.2.2.2.2.2.2.1 t.2.2.2.2.2.2.2.1 t.2.2.2.2.2.2.2.2.1 t.2.2.2.2.2.2.2.2.2.1 t.2.2.2.2.2.2.2.2.2.2
theorem fx11 {A0 A1 A2 A3 A4 A5 A6 A7 A8 A9 A10 R : Type} {f g : A0 → A1 → A2 → A3 → A4 → A5 → A6 → A7 → A8 → A9 → A10 → R} (h : ∀ t, un11 f t = un11 g t) : f = g := by funext x0 x1 x2 x3 x4 x5 x6 x7 x8 x9 x10; exact h (x0, x1, x2, x3, x4, x5, x6, x7, x8, x9, x10)
abbrev un14 {A0 A1 A2 A3 A4 A5 A6 A7 A8 A9 A10 A11 A12 A13 R : Type} (f : A0 → A1 → A2 → A3 → A4 → A5 → A6 → A7 → A8 → A9 → A10 → A11 → A12 → A13 → R) (t : A0 × A1 × A2 × A3 × A4 × A5 × A6 × A7 × A8 × A9 × A10 × A11 × A12 × A13) : R := f t.1 t.2.1 t.2.2.1 t.2.2.2.1 t.2.2.2.2.1 t.2.2.2.2.2.1 t.2.2.2.2.2.2.1 t.2.2.2.2.2.2.2.1 t.2.2.2.2.2.2.2.2.1 t.2.2.2.2.2.2.2.2.2.1 t.2.2.2.2.2.2.2.2.2.2.1 t.2.2.2.2.2.2.2.2.2.2.2.1 t.2.2.2.2.2.2.2.2.2.2.2.2.1 t.2.2.2.2.2.2.2.2.2.2.2.2.2
theorem fx14 {A0 A1 A2 A3 A4 A5 A6 A7 A8 A9 A10 A11 A12 A13 R : Type} {f g : A0 → A1 → A2 → A3 → A4 → A5 → A6 → A7 → A8 → A9 → A10 → A11 → A12 → A13 → R} (h : ∀ t, un14 f t = un14 g t) : f = g := by funext x0 x1 x2 x3 x4 x5 x6 x7 x8 x9 x10 x11 x12 x13; exact h (x0, x1, x2, x3, x4, x5, x6, x7, x8, x9, x10, x11, x12, x13)
end Go.Al
