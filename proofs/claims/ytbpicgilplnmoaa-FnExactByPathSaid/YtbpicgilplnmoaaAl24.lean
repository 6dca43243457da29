import Derived.Test.YtbpicgilplnmoaaAl23
set_option linter.unusedVariables false
set_option linter.unusedSimpArgs false
namespace Go.Al

/-! ### 28. Operations that write, calls, regions, code: as functions -/
def storeO {ρ : Type} (P : Program) (st : St) (t : TypeId) (addr av : AV) (K : St → Option ρ) : Option ρ :=
  chk (tyOf P t).ok ((partCs av).bind fun new => chk (decide (new.length = (tyOf P t).size)) (match addr with
    | .c (.p i off) => match st.obj i with
      | .box cs => chk (decide (off + new.length ≤ cs.length)) (K { st with obs := st.obs.set i (.box (setAt cs off new)) })
      | _ => Option.none
    | .ea i sz idx f => match st.obj i with
      | .row sz' xs [] => chk (decide (sz = sz')) (chk (decide (idx < xs.n)) (chk (decide (f + new.length ≤ (xs.g idx).length)) ((inlN st [i] (tyOf P t).zs new).bind fun p =>
          K { st with obs := consume i p.2 (st.obs.set i (.row sz (xs.set idx (setAt (xs.g idx) f p.1)) [])) })))
      | _ => Option.none
    | _ => Option.none))

def appendO {ρ : Type} (P : Program) (st : St) (t : TypeId) (s x : AV) (dst : Option Nat) (K : St → Option ρ) : Option ρ :=
  (tyOf P t).sl.bind fun e => chk (tyOf P e).ok (chk (decide (0 < (tyOf P e).size)) ((srcOf st x).bind fun p => chk (match srcSz st x with | some z => decide (z = (tyOf P e).size) | Option.none => true) (match s with
    | .c (.h i) => match st.obj i with
      | .row sz xs [] => chk (decide (sz = (tyOf P e).size)) (chk (!(kb st.ks i)) (chk (decide (p.2 ≠ some i)) (chk (decide ((xs.n + p.1.n) * ((tyOf P e).bytes + 1) ≤ maxN))
          (K ((({ st with obs := consume i p.2.toList (st.obs.set i (.row sz (xs.app p.1) [])) } : St).kill (fun k => k == i)).put dst (.c (.h i)))))))
      | _ => Option.none
    | .c .z => chk (decide (p.1.n * ((tyOf P e).bytes + 1) ≤ maxN))
        (K ((({ st with obs := consume st.obs.length p.2.toList st.obs } : St).new [.row (tyOf P e).size p.1 []]).put dst (.c (.h st.obs.length))))
    | _ => Option.none)))

def litO {ρ : Type} (P : Program) (t : TypeId) (len : Nat) (parts : List (Nat × AV)) (K : TyI → List C → Option ρ) : Option ρ :=
  (tyOf P t).sl.bind fun e => chk (tyOf P e).ok (chk (decide (len * (tyOf P e).size ≤ 16777216)) (chk ((tyOf P e).zero.all (·.oneCell')) (chk (decide ((tyOf P e).size ≠ 0))
    ((fillS (tyOf P e).size parts (List.replicate (len * (tyOf P e).size) .u)).bind fun cs => K (tyOf P e) cs))))
def buildOwnO {ρ : Type} (P : Program) (st : St) (t : TypeId) (len : Nat) (parts : List (Nat × AV)) (dst : Option Nat) (K : St → Option ρ) : Option ρ :=
  litO P t len parts fun ty cs => sel (decide (len = 0)) (K (st.put dst (.c .z))) ((inlN st [] (repN len ty.zs) cs).bind fun p =>
    K ((({ st with obs := consume st.obs.length p.2 st.obs } : St).new [.row ty.size (chunk ty.size len p.1) []]).put dst (.c (.h st.obs.length))))
def buildImmO {ρ : Type} (P : Program) (st : St) (t : TypeId) (len : Nat) (parts : List (Nat × AV)) (K : AV → List Ob → Option ρ) : Option ρ :=
  litO P t len parts fun ty cs => sel (decide (len = 0)) (K (.c .z) []) ((immCs st (repN len ty.zs) cs).bind fun ns => K (.c (.n (.sl ty.size (chunk ty.size len ns)))) [])

section
variable {ρ : Type} {P : Program} {st : St} {r : ρ}

theorem storeO_vc {t : TypeId} {addr av : AV} {K : St → Option ρ} (h : storeO P st t addr av K = some r) : storeK P st t addr av fun st' => K st' = some r := by
  unfold storeO at h
  unfold storeK
  obtain ⟨h1, h⟩ := chk_some h
  refine ⟨h1, is_mono (bind_some h) fun new h => ?_⟩
  obtain ⟨h2, h⟩ := chk_dec h
  refine ⟨h2, ?_⟩
  split at h
  · split at h
    · rename_i ho
      simp only [ho]
      exact chk_dec h
    · cases h
  · split at h
    · rename_i ho
      simp only [ho]
      obtain ⟨h3, h⟩ := chk_dec h
      obtain ⟨h4, h⟩ := chk_dec h
      obtain ⟨h5, h⟩ := chk_dec h
      exact ⟨h3, h4, h5, bind_some h⟩
    · cases h
  · cases h

theorem appendO_vc {t : TypeId} {s x : AV} {dst : Option Nat} {K : St → Option ρ} (h : appendO P st t s x dst K = some r) : appendK P st t s x dst fun st' => K st' = some r := by
  unfold appendO at h
  unfold appendK
  refine is_mono (bind_some h) fun e h => ?_
  obtain ⟨h1, h⟩ := chk_some h
  obtain ⟨h2, h⟩ := chk_dec h
  refine ⟨h1, h2, is_mono (bind_some h) fun p h => ?_⟩
  obtain ⟨h3, h⟩ := chk_some h
  refine ⟨?_, ?_⟩
  · split at h3
    · rename_i z hz
      simp only [hz]
      exact of_decide_eq_true h3
    · rename_i hz
      simp only [hz]
  · split at h
    · split at h
      · rename_i ho
        simp only [ho]
        obtain ⟨h4, h⟩ := chk_dec h
        obtain ⟨h5, h⟩ := chk_some h
        obtain ⟨h6, h⟩ := chk_dec h
        obtain ⟨h7, h⟩ := chk_dec h
        exact ⟨h4, by simpa using h5, h6, h7, h⟩
      · cases h
    · exact chk_dec h
    · cases h

theorem litO_vc {t : TypeId} {len : Nat} {parts : List (Nat × AV)} {K : TyI → List C → Option ρ} {K' : TyI → List C → Prop} (h : litO P t len parts K = some r) (hk : ∀ ty cs, K ty cs = some r → K' ty cs) : litK P t len parts K' := by
  unfold litO at h
  unfold litK
  refine is_mono (bind_some h) fun e h => ?_
  obtain ⟨h1, h⟩ := chk_some h
  obtain ⟨h2, h⟩ := chk_dec h
  obtain ⟨h3, h⟩ := chk_some h
  obtain ⟨h4, h⟩ := chk_dec h
  exact ⟨h1, h2, h3, h4, is_mono (bind_some h) fun cs h => hk _ _ h⟩

theorem buildOwnO_vc {t : TypeId} {len : Nat} {parts : List (Nat × AV)} {dst : Option Nat} {K : St → Option ρ} (h : buildOwnO P st t len parts dst K = some r) : buildOwnK P st t len parts dst fun st' => K st' = some r := by
  refine litO_vc h fun ty cs h => ?_
  rw [sel_ite] at h
  split at h
  · rename_i h0; rw [if_pos h0]; exact h
  · rename_i h0; rw [if_neg h0]; exact bind_some h

theorem buildImmO_vc {t : TypeId} {len : Nat} {parts : List (Nat × AV)} {K : AV → List Ob → Option ρ} (h : buildImmO P st t len parts K = some r) : buildImmK P st t len parts fun av news => K av news = some r := by
  refine litO_vc h fun ty cs h => ?_
  rw [sel_ite] at h
  split at h
  · rename_i h0; rw [if_pos h0]; exact h
  · rename_i h0; rw [if_neg h0]; exact bind_some h

end

end Go.Al
