import Derived.Test.YtbhcecfdgkgjmaaAlH
import Derived.Test.YtbhcecfdgkgjmaaAlF
set_option linter.unusedVariables false
set_option linter.unusedSimpArgs false
set_option linter.constructorNameAsVariable false
set_option linter.unusedSectionVars false
namespace Go.Al
/-! ### Rows with something put in, taken out -/
section
variable {A : Type}
theorem toL_del1 (v : Vec A) (i : Nat) (hi : i < v.n) : (v.del i (i + 1)).toL = v.toL.eraseIdx i := by
  have hd : ((i : Int) + 1 - (i : Int)).toNat = 1 := by omega
  refine toL_of ?_ fun t ht => ?_
  · show v.n - _ = _
    rw [hd, List.length_eraseIdx, Vec.toL_length, if_pos hi]
  · have ht : t < v.n - 1 := by
      have : (v.del i (i + 1)).n = v.n - 1 := by show v.n - _ = _; rw [hd]
      omega
    rw [List.getElem?_eraseIdx]
    show _ = some (v.g (delSrc i (i + 1) t))
    unfold delSrc
    rw [hd, Int.toNat_natCast]
    split
    · rw [toL_at, if_pos (by omega)]
    · rw [toL_at, if_pos (by omega)]
theorem toL_ins1 (v w : Vec A) (i : Nat) (hi : i ≤ v.n) : (v.ins i w).toL = v.toL.take i ++ w.g 0 :: v.toL.drop i := by
  refine toL_of ?_ fun t ht => ?_
  · show v.n + 1 = _
    simp
    omega
  · have ht : t < v.n + 1 := ht
    show _ = some (insSel _ t _ _ _)
    unfold insSel
    rw [Int.toNat_natCast]
    by_cases h1 : t < i
    · rw [if_pos h1, List.getElem?_append_left (by simp; omega), List.getElem?_take, if_pos h1, toL_at, if_pos (by omega)]
    · rw [if_neg h1, List.getElem?_append_right (by simp; omega), List.length_take, Vec.toL_length, Nat.min_eq_left hi]
      by_cases h2 : t = i
      · rw [if_pos h2, h2, Nat.sub_self]; rfl
      · rw [if_neg h2, show t - i = (t - 1 - i) + 1 by omega, List.getElem?_cons_succ, List.getElem?_drop, show i + (t - 1 - i) = t - 1 by omega, toL_at, if_pos (by omega)]
end
end Go.Al
