import Derived.Test.YtahffnkphppgoaaGreatAlD
import Derived.Test.YtahffnkphppgoaaGreatShelf
set_option linter.unusedVariables false
namespace Go.Al
open Go.Proofs
theorem amb_ok {W : World} (h : W.ShapedOpen Tryz.prog) : ∀ g, ambG = some g → ∃ m, W.cell? ⟨g, 0, none⟩ = some (.int .i64 m) := fun g hg => by
  obtain rfl : (0 : Nat) = g := Option.some.inj hg
  exact Tryz.laysM144.s1_3 W h
namespace strings_Contains
def F (a1 a2 : ByteArray) : Option Bool := sel (decide (a1.size < 4294967281)) (some (Lib.contains a1.data.toList a2.data.toList)) none
def encA (t : ByteArray × ByteArray) : List AV := [.c (.n (.v (.string t.1))), .c (.n (.v (.string t.2)))]
def encR (x : Bool) : AV × List Ob := (.c (.n (.v (.bool x))), [])
theorem ZA : ∀ a b, encA a = encA b → a = b := by
  intro a b h
  obtain ⟨a0, a1⟩ := a
  obtain ⟨b0, b1⟩ := b
  simp [encA] at h
  simp_all
noncomputable def Q (args : List AV) : Option Bool := ofC encA (fun t => F t.1 t.2) args
theorem wrap : (fun (y1 : ByteArray) (y2 : ByteArray) => Q [.c (.n (.v (.string y1))), .c (.n (.v (.string y2)))]) = F := by
  funext y1 y2
  exact zD ZA _ (y1, y2)
theorem ac (args : List AV) (x : Bool) (h : Q args = some x) : AC Tryz.prog 228 args [] false [] fun rv obs => (rv, obs) = encR x := by
  obtain ⟨t, rfl, h2⟩ := ZF h
  unfold F at h2
  rcases sel_cases h2 with ⟨h3, h4⟩ | ⟨-, h4⟩
  · simp only [Option.some.injEq] at h4
    subst h4
    refine AC_same (body := zB Tryz.f228) Tryz.func228 (by kernel_rfl) (by kernel_rfl) rfl fun w vals I β ham hsz hv => ?_
    obtain ⟨-, m, hm⟩ := ham 0 rfl
    obtain ⟨l⟩ := vals
    match l, hsz, hv with
    | [v0, v1], _, hv =>
      have e0 : v0 = .string t.1 := by have := hv 0 _ v0 rfl rfl; cases this; rfl
      have e1 : v1 = .string t.2 := by have := hv 1 _ v1 rfl rfl; cases this; rfl
      subst e0 e1
      exact Tryz.strings_Contains t.1 t.2 m w (by simpa using h3) hm
  · cases h4
end strings_Contains
theorem hmT : Tryz.prog.follows .mixedOrders = true := by kernel_rfl
end Go.Al
