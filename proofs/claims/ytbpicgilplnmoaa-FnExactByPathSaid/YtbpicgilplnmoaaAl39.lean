import Derived.Test.YtbpicgilplnmoaaAl38
set_option linter.unusedVariables false
set_option linter.unusedSimpArgs false
namespace Go.Al

/-! ### 53. A law, entered -/
theorem law_calls {P : Program} {f : FuncId} {args : List AV} {vals : Array Value} {W : World} (h : ACc P f args [] true [] fun rv obs => (rv, obs) = (vb true, [])) (hamb : ∀ g, ambG = some g → ∃ m, W.cell? ⟨g, 0, none⟩ = some (.int .i64 m))
    (hl : vals.size = args.length) (hv : ∀ (j : Nat) (x : AV) (v : Value), args[j]? = some x → vals[j]? = some v → AVR W (fun b => b < W.heap.size) [] x v) :
    Calls P f vals W fun e W' => e = .returned (.bool true) ∧ RowKit.Below W.heap.size W W' := by
  refine (h W vals _ [] _ (args_rel hamb hl hv)).mono fun e W' ⟨v, he, hp⟩ => ?_
  obtain ⟨rv, obs, v', I', β', S', h1, h2, -, h4, h5, -, -, -, -, -, hfr⟩ := hp
  obtain ⟨rfl, rfl⟩ : rv = vb true ∧ obs = [] := ⟨congrArg Prod.fst h2, congrArg Prod.snd h2⟩
  obtain rfl : v = v' := by injection h1
  have hb : v = .bool true := by cases h4; rfl
  subst he
  exact ⟨by rw [hb], Fr.below hfr⟩
theorem weights_of {H : Type} {P : Program} {ts : List TypeId} {ds : List (DataW H)} (h : (DataW.weightsEach P ts ds).all (· ≤ reachBytes) = true) {j : Nat} {t : TypeId} {d : DataW H} (ht : ts[j]? = some t) (hd : ds[j]? = some d) :
    ∀ n ∈ d.weights P t, n ≤ reachBytes := fun n hn => by simpa using List.all_eq_true.1 h _ (DataW.weights_mem_each ht hd n hn)
theorem Vec.Same.symm {A : Type} {v w : Vec A} (h : Vec.Same v w) : Vec.Same w v := ⟨h.1.symm, fun i hi => (h.2 i (h.1.symm ▸ hi)).symm⟩
theorem Vec.Same.trans {A : Type} {u v w : Vec A} (h : Vec.Same u v) (h2 : Vec.Same v w) : Vec.Same u w := ⟨h.1.trans h2.1, fun i hi => (h.2 i hi).trans (h2.2 i (h.1 ▸ hi))⟩
/-- A function of the library's that reads alone, by its contract. -/
theorem AC_same {P : Program} {f : FuncId} {fn : Func} {body : Code} (hf : P.funcs[f]? = some fn) (hn : (fn.name == "runtime.NumGoroutine") = false) (hb : fn.body = some body) {args : List AV} {x : Value} (hx : x.oneCell' = true)
    (h : ∀ (w : World) (vals : Array Value) (I : Nat → Prop) (β : List Value), Amb w I → vals.size = args.length → (∀ (j : Nat) (y : AV) (v : Value), args[j]? = some y → vals[j]? = some v → AVR w I β y v) →
      Calls P f vals w fun e w' => e = .returned x ∧ w' = w) : AC P f args [] false [] fun rv obs => (rv, obs) = (.c (.n (.v x)), []) := by
  intro w vals I β S hr
  refine Goes.of_calls hf hn (by rw [hb]; rfl) ((h w vals I β hr.il.am (by simpa using hr.sz) (fun j y v hy hv => hr.slot j y v (by simpa using hy) hv)).mono ?_)
  rintro e w' ⟨rfl, rfl⟩
  exact ⟨x, rfl, .c (.n (.v x)), [], x, fun _ => False, [], fun _ _ => False, rfl, rfl, Nat.zero_le _, (Im.v hx : Im _ (fun _ => False) (.v x) x), rfl, by simp, by simp, by simp, by simp, by simp, Fr.refl _ _⟩

/-! ### 54. The order of strings -/
def bLt (a b : ByteArray) : Prop := a.toList < b.toList
theorem bLt_trans {a b c : ByteArray} (h : bLt a b) (h2 : bLt b c) : bLt a c := List.lt_trans h h2
theorem bLt_irrefl {a : ByteArray} : ¬ bLt a a := List.lt_irrefl _
theorem bLt_tri {a b : ByteArray} (h : ¬ bLt a b) (h2 : ¬ bLt b a) : a = b := by
  have h3 : a.toList = b.toList := List.le_antisymm (List.not_lt.1 h2) (List.not_lt.1 h)
  rw [ByteArray.toList_eq, ByteArray.toList_eq] at h3
  cases a; cases b
  simp only [ByteArray.mk.injEq]
  exact Array.toList_inj.1 h3

end Go.Al
