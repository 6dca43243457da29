/- Every name's shadow name is the same in the program and in its plain twin, for all names. -/
import Derived.Test.YtbpicgilplnmoaaPFnExactShadowNamex1
namespace Go.Proofs.Ytbpicgilplnmoaa.Pure
open Go.RowKit Go.Proofs.Ytbpicgilplnmoaa.PFnExactShadowName Go.Proofs.YtbpicgilplnmoaaW.PrintWords Go.Proofs.YtbpicgilplnmoaaW.PrintLast

theorem FnExactShadowName : laws_FnExactShadowName.Pure := by
  intro a0 h0
  unfold laws_FnExactShadowName.f spec_ShadowName.f impl_ShadowName.f
  by_cases h : (a0.size : Int) > 1048576
  · rw [if_pos h]
  · rw [if_neg h, if_pos (by omega)]
    simp

end Go.Proofs.Ytbpicgilplnmoaa.Pure
