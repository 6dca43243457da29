import Derived.Test.YtnkmpehikhmbjaaPRegions
set_option linter.unusedVariables false
set_option linter.unusedSimpArgs false
set_option linter.constructorNameAsVariable false
set_option linter.unusedSectionVars false
namespace Go.Al
theorem rg_sim {x y : Rg} (h : rgL x = rgL y) : Sim.sim x y := by
  unfold rgL at h
  simp only [Prod.mk.injEq] at h
  exact ⟨h.1, Sim.same (same_iff.2 h.2.1), Sim.same (same_iff.2 h.2.2.1), Sim.same (same_iff.2 h.2.2.2)⟩
theorem rgs_sim {v w : Vec Rg} (h : v.toL.map rgL = w.toL.map rgL) : Sim.sim v w := by
  have hn : v.n = w.n := by
    have := congrArg List.length h
    rwa [List.length_map, List.length_map, Vec.toL_length, Vec.toL_length] at this
  refine ⟨hn, fun i hi => rg_sim ?_⟩
  have h1 := congrArg (fun l => l[i]?) h
  simp only [List.getElem?_map, Vec.toL_get v i hi, Vec.toL_get w i (hn ▸ hi), Option.map_some, Option.some.injEq] at h1
  exact h1
def rgGood (N : Nat) (p : ByteArray → Prop) (R : RgL) : Prop := (R.2.1.length ≤ N ∧ ∀ s ∈ R.2.1, p s) ∧ (R.2.2.1.length ≤ N ∧ ∀ s ∈ R.2.2.1, p s) ∧ (R.2.2.2.length ≤ N ∧ ∀ s ∈ R.2.2.2, p s)
theorem flsh_good {N : Nat} {p : ByteArray → Prop} {now : List Pr} (h : ∀ m ∈ now, p (lnOf m)) (hn : now.length ≤ N) : ∀ R ∈ flsh now, rgGood N p R := by
  intro R hR
  unfold flsh at hR
  split at hR
  · cases hR
  obtain rfl : R = regOf now := by simpa using hR
  have key : ∀ q : Pr → Bool, ((now.filter q).map lnOf).length ≤ N ∧ ∀ s ∈ (now.filter q).map lnOf, p s := fun q => ⟨by rw [List.length_map]; exact Nat.le_trans (List.length_filter_le _ _) hn, fun s hs => by
    obtain ⟨m, hm, rfl⟩ := List.mem_map.1 hs
    exact h m (List.mem_filter.1 hm).1⟩
  unfold regOf rgGood
  refine ⟨?_, key _, key _⟩
  simp only
  split
  · exact ⟨Nat.zero_le _, fun s hs => by cases hs⟩
  · exact key _
theorem rgs_good {N : Nat} {p : ByteArray → Prop} (hN : 1 ≤ N) : ∀ (l now : List Pr), (∀ m ∈ l, p (lnOf m)) → (∀ m ∈ now, p (lnOf m)) → l.length + now.length ≤ N → ∀ R ∈ rgs l now, rgGood N p R
  | [], now, _, h2, hn, R, hR => flsh_good h2 (by simpa using hn) R (by rwa [rgs] at hR)
  | m :: l, now, h1, h2, hn, R, hR => by
    rw [List.length_cons] at hn
    rw [rgs] at hR
    split at hR
    · rw [List.mem_append, List.mem_cons] at hR
      rcases hR with hR | rfl | hR
      · exact flsh_good h2 (by omega) R hR
      · exact ⟨⟨hN, fun s hs => by
          obtain rfl : s = lnOf m := by simpa using hs
          exact h1 m List.mem_cons_self⟩, ⟨Nat.zero_le _, fun s hs => by cases hs⟩, ⟨Nat.zero_le _, fun s hs => by cases hs⟩⟩
      · exact rgs_good hN l [] (fun m hm => h1 m (List.mem_cons_of_mem _ hm)) (fun m hm => by cases hm) (by simp; omega) R hR
    · refine rgs_good hN l (now ++ [m]) (fun m hm => h1 m (List.mem_cons_of_mem _ hm)) (fun x hx => ?_) (by simp; omega) R hR
      rcases List.mem_append.1 hx with hx | hx
      · exact h2 x hx
      · obtain rfl : x = m := by simpa using hx
        exact h1 x List.mem_cons_self
theorem str_sml {v : Vec ByteArray} {l : List ByteArray} (h : v.toL = l) (hl : l.length ≤ 400) (hp : ∀ s ∈ l, Sml.sml s) : Sml.sml v := sml_of h (by unfold sN; omega) hp
theorem rg_sml {x : Rg} (h : rgGood 400 (fun s => Sml.sml s) (rgL x)) : Sml.sml x := ⟨trivial, str_sml rfl h.1.1 h.1.2, str_sml rfl h.2.1.1 h.2.1.2, str_sml rfl h.2.2.1 h.2.2.2⟩
theorem rgs_sml {P : Gr} {B : Vec Bd} (hB : Sml.sml B) (hw : wvGood P B) {S T S' T' : Nat → Prop} {q : Vec Rg} (hq : q.toL.map rgL = rgs ((cmpN B S T B.n).map (markOf S' T')) []) (hn : q.n ≤ 700) : Sml.sml q := by
  refine sml_of (l := q.toL) rfl (by rw [Vec.toL_length]; unfold sN; omega) fun x hx => rg_sml ?_
  refine rgs_good (N := 400) (p := fun s => Sml.sml s) (by omega) ((cmpN B S T B.n).map (markOf S' T')) [] (fun m hm => ?_) (fun m hm => (by cases hm)) ?_ (rgL x) (by rw [← hq]; exact List.mem_map_of_mem hx)
  · exact (mk_sml (P := P) hB hm).2.2.2
  · rw [List.length_map]
    have := cmpN_len B S T B.n
    have := hw.2.1
    simp
    omega
end Go.Al
