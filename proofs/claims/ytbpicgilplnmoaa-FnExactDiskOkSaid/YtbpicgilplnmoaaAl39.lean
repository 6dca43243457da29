import Derived.Test.YtbpicgilplnmoaaAl38
set_option linter.unusedVariables false
set_option linter.unusedSimpArgs false
namespace Go.Al

/-! ### 53. A law, entered -/
theorem law_calls {P : Program} {f : FuncId} {args : List AV} {vals : Array Value} {W : World} (h : ACc P f args [] true [] fun rv obs => (rv, obs) = (vb true, []))
    (hl : vals.size = args.length) (hv : ∀ (j : Nat) (x : AV) (v : Value), args[j]? = some x → vals[j]? = some v → AVR W (fun b => b < W.heap.size) [] x v) :
    Calls P f vals W fun e W' => e = .returned (.bool true) ∧ RowKit.Below W.heap.size W W' := by
  refine (h W vals _ [] _ (args_rel hl hv)).mono fun e W' ⟨v, he, hp⟩ => ?_
  obtain ⟨rv, obs, v', I', β', S', h1, h2, -, h4, h5, -, -, -, -, -, hfr⟩ := hp
  obtain ⟨rfl, rfl⟩ : rv = vb true ∧ obs = [] := ⟨congrArg Prod.fst h2, congrArg Prod.snd h2⟩
  obtain rfl : v = v' := by injection h1
  have hb : v = .bool true := by cases h4; rfl
  subst he
  exact ⟨by rw [hb], Fr.below hfr⟩
theorem weights_of {H : Type} {P : Program} {ts : List TypeId} {ds : List (DataW H)} (h : (DataW.weightsEach P ts ds).all (· ≤ reachBytes) = true) {j : Nat} {t : TypeId} {d : DataW H} (ht : ts[j]? = some t) (hd : ds[j]? = some d) :
    ∀ n ∈ d.weights P t, n ≤ reachBytes := fun n hn => by simpa using List.all_eq_true.1 h _ (DataW.weights_mem_each ht hd n hn)

end Go.Al
