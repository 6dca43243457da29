import Derived.Test.YtbpicgilplnmoaaAl27
import Derived.Orders
set_option linter.unusedVariables false
set_option linter.unusedSimpArgs false
namespace Go.Al

/-! ### 34. What comes out does not hang on what follows -/
section
variable {ρ σ : Type}
theorem chk_bind (b : Bool) (k : Option σ) (f : σ → Option ρ) : (chk b k).bind f = chk b (k.bind f) := by cases b <;> rfl
theorem sel_bind (b : Bool) (x y : Option σ) (f : σ → Option ρ) : (sel b x y).bind f = sel b (x.bind f) (y.bind f) := by cases b <;> rfl
theorem natO_bind (v : AV) (K : Int → Option σ) (f : σ → Option ρ) : (natO v K).bind f = natO v fun n => (K n).bind f := by
  unfold natO
  split <;> rfl
theorem optO_bind (v : Option AV) (d : Int) (K : Int → Option σ) (f : σ → Option ρ) : (optO v d K).bind f = optO v d fun n => (K n).bind f := by
  cases v with
  | none => rfl
  | some v => exact natO_bind v K f
theorem bind_bind {α : Type} (o : Option α) (k : α → Option σ) (f : σ → Option ρ) : (o.bind k).bind f = o.bind fun x => (k x).bind f := by cases o <;> rfl

variable {P : Program} {st : St}
theorem lenO_bind {ty : TyI} {v : AV} (K : AV → List Ob → Option σ) (f : σ → Option ρ) : (lenO st ty v K).bind f = lenO st ty v fun a n => (K a n).bind f := by
  unfold lenO
  split <;> first | exact chk_bind _ _ _ | rfl | (split <;> first | exact chk_bind _ _ _ | rfl)
theorem loadO_bind {ty : TyI} {v : AV} (K : AV → List Ob → Option σ) (f : σ → Option ρ) : (loadO st ty v K).bind f = loadO st ty v fun a n => (K a n).bind f := by
  unfold loadO
  split
  · split
    · exact bind_bind _ _ _
    · rfl
  · exact bind_bind _ _ _
  · split
    · simp only [chk_bind, bind_bind]
    · rfl
  · rfl
theorem idxO_bind {esz : Nat} {v : AV} {k : Int} (K : AV → List Ob → Option σ) (f : σ → Option ρ) : (idxO st esz v k K).bind f = idxO st esz v k fun a n => (K a n).bind f := by
  unfold idxO
  split
  · simp only [chk_bind]
  · split
    · simp only [chk_bind]
    · simp only [chk_bind]
    · rfl
  · rfl
theorem sliceO_bind {ty : TyI} {v : AV} {lo hi mx : Option AV} (K : AV → List Ob → Option σ) (f : σ → Option ρ) : (sliceO P ty v lo hi mx K).bind f = sliceO P ty v lo hi mx fun a n => (K a n).bind f := by
  unfold sliceO
  split
  · simp only [optO_bind, chk_bind]
  · simp only [optO_bind, chk_bind, bind_bind]
  · simp only [optO_bind, chk_bind, bind_bind]
  · rfl
theorem fieldAddrO_bind {ty : TyI} {v : AV} {fd : Nat} (K : AV → List Ob → Option σ) (f : σ → Option ρ) : (fieldAddrO P ty v fd K).bind f = fieldAddrO P ty v fd fun a n => (K a n).bind f := by
  unfold fieldAddrO
  simp only [bind_bind, chk_bind]
  congr 1
  funext p
  congr 1
  congr 1
  split <;> rfl
theorem convO_bind {s d : TyI} {v : AV} (K : AV → List Ob → Option σ) (f : σ → Option ρ) : (convO P st s d v K).bind f = convO P st s d v fun a n => (K a n).bind f := by
  unfold convO
  split
  · simp only [chk_bind, bind_bind]
  · simp only [chk_bind, sel_bind, bind_bind]
  · split
    · simp only [chk_bind, bind_bind]
    · rfl
  · rfl
theorem binO_bind {op : BinOp} {ty : TyI} {x y : Value} (K : Value → Option σ) (f : σ → Option ρ) : (binO op ty x y K).bind f = binO op ty x y fun a => (K a).bind f := by
  unfold binO
  split
  · split
    · simp only [chk_bind, bind_bind]
    · simp only [chk_bind, bind_bind]
    · simp only [chk_bind]
      congr 1
      congr 1
      split
      · rfl
      · exact bind_bind _ _ _
  · split
    · simp only [chk_bind]
    · exact bind_bind _ _ _
  · simp only [chk_bind, bind_bind]
  · rfl
theorem bin2O_bind {op : BinOp} {ty : TyI} {x y : AV} (K : Value → Option σ) (f : σ → Option ρ) : (bin2O op ty x y K).bind f = bin2O op ty x y fun a => (K a).bind f := by
  unfold bin2O
  split
  · exact binO_bind _ _
  · rfl

theorem pickO_bind (c : AV) (x y : Option σ) (f : σ → Option ρ) : (pickO c x y).bind f = pickO c (x.bind f) (y.bind f) := by
  unfold pickO
  split
  · exact sel_bind _ _ _ _
  · rfl

theorem qO_bind {o : Oper} (K : AV → List Ob → Option σ) (f : σ → Option ρ) : (qO P o st K).bind f = qO P o st fun a n => (K a n).bind f := by
  unfold qO
  split
  all_goals first
    | rfl
    | exact loadO_bind _ _
    | exact bin2O_bind _ _
    | exact convO_bind _ _
    | exact sliceO_bind _ _
    | exact fieldAddrO_bind _ _
    | exact bind_bind _ _ _
    | (simp only [chk_bind, bind_bind, natO_bind, idxO_bind, lenO_bind]; done)
    | exact pickO_bind _ _ _ _
    | (split <;> first | rfl | (simp only [bind_bind]; done) | (split <;> rfl))
    | (simp only [natO_bind]; congr 1; funext k; split <;> first | (simp only [chk_bind]; done) | rfl)

theorem qBp_bind {o : Oper} (K : AV → List Ob → Option σ) (f : σ → Option ρ) : (qBp P o st K).bind f = qBp P o st fun a n => (K a n).bind f := qO_bind _ _
theorem qBl_bind {o : Oper} (K : AV → List Ob → Option σ) (f : σ → Option ρ) : (qBl P o st K).bind f = qBl P o st fun a n => (K a n).bind f := by
  unfold qBl
  rw [qO_bind]
  simp only [chk_bind]
theorem loadE_bind {o : Oper} {t : TypeId} {x : AV} (K : AV → List Ob → Option σ) (f : σ → Option ρ) : (loadE P o st t x K).bind f = loadE P o st t x fun a n => (K a n).bind f := by
  unfold loadE
  split
  · split
    · simp only [sel_bind, chk_bind, bind_bind, qBp_bind]
    · rfl
  · exact qBp_bind _ _
theorem qB_bind {o : Oper} (K : AV → List Ob → Option σ) (f : σ → Option ρ) : (qB P o st K).bind f = qB P o st fun a n => (K a n).bind f := by
  unfold qB
  split
  · rfl
  · rfl
  · exact pickO_bind _ _ _ _
  · simp only [sel_bind, qBl_bind, loadE_bind]
  · split
    · simp only [sel_bind, qBl_bind, qBp_bind]
    · exact qBp_bind _ _

variable {G : Orc} {r : ρ}
theorem stepQ_det (hG : G.ok P) {o : Oper} {K : AV → List Ob → Option ρ} (h : stepQ P G o st K = some r) : ∃ p : AV × List Ob, stepQ P G o st (fun a n => some (a, n)) = some p ∧ K p.1 p.2 = some r := by
  have key : stepQ P G o st K = (stepQ P G o st fun a n => some (a, n)).bind fun p => K p.1 p.2 := by
    unfold stepQ
    split
    · rfl
    · rfl
    · rfl
    · unfold qcall
      split
      · rename_i args ts _ _ g caps _
        have e1 := hG.nat ρ g (qArgs P (G.kd g) st ts.toList (args.toList.map st.ev ++ caps.map AV.c)) (fun rv obs => K (rv.map (· + st.obs.length)).unb ((obs.map (Ob.map (· + st.obs.length))).map Ob.unb))
        have e2 := hG.nat (AV × List Ob) g (qArgs P (G.kd g) st ts.toList (args.toList.map st.ev ++ caps.map AV.c)) (fun rv obs => some ((rv.map (· + st.obs.length)).unb, (obs.map (Ob.map (· + st.obs.length))).map Ob.unb))
        rw [chk_bind, e1, e2, bind_bind]
        rfl
      · rfl
    · rw [qB_bind]
      rfl
  rw [key] at h
  cases hp : stepQ P G o st (fun a n => some (a, n)) with
  | none => rw [hp] at h; cases h
  | some p => rw [hp] at h; exact ⟨p, rfl, h⟩
end

/-! ### 35. Drawn regions -/
def dirs (o : Oper) : List Nat := (o.after.toList.filter (Region.binds .any)).map (·.on)
def ancsGo : List Oper → List (List Nat) → List (List Nat)
  | [], acc => acc
  | o :: rest, acc => ancsGo rest (acc ++ [(List.range acc.length).filter fun k => (dirs o).any fun j => j == k || ((acc[j]?).getD []).contains k])
def ancs (ops : List Oper) : List (List Nat) := ancsGo ops []
def ancOf (A : List (List Nat)) (i : Nat) : List Nat := (A[i]?).getD []
/-- How many of the operations come ahead of those that have all others before them. -/
def prefN (A : List (List Nat)) : Nat → Nat
  | 0 => 0
  | n + 1 => match (ancOf A n).length == n with
    | true => prefN A n
    | false => n + 1

abbrev Res : Type := Option (AV × List Ob)
def setD (l : Sl) (d : Option Nat) (v : AV) : Sl := match d with
  | some d => l.set d v
  | Option.none => l
def resV : Res → AV
  | some p => p.1
  | Option.none => skipAV
def resN : Res → List Ob
  | some p => p.2
  | Option.none => []
def dstOf (ops : Array Oper) (i : Nat) : Option Nat := (ops[i]?).bind (·.dst)
def accOf (acc : List Res) (i : Nat) : Res := (acc[i]?).getD Option.none
def deadD : List (Option Nat) → Sl → Sl
  | [], l => l
  | d :: ds, l => deadD ds (setD l d .dead)
def setK (ops : Array Oper) (acc : List Res) : List Nat → Sl → Sl
  | [], l => l
  | k :: ks, l => setK ops acc ks (setD l (dstOf ops k) (resV (accOf acc k)))
def newsK (acc : List Res) (ks : List Nat) : List Ob := ks.flatMap fun k => resN (accOf acc k)
/-- What is known for sure when an operation runs. -/
def drawV (st0 : St) (D : Sl) (ops : Array Oper) (acc : List Res) (ks : List Nat) : St :=
  ⟨(setK ops acc ks D).map (AV.kill fun i => decide ((st0.obs ++ newsK acc ks).length ≤ i)), (st0.obs ++ newsK acc ks).map (Ob.kill fun i => decide ((st0.obs ++ newsK acc ks).length ≤ i)), st0.ks⟩
def fixRes (b : Bool) : Res → Res
  | some (.c (.n (.v (.bool _))), []) => some (boolAV b, [])
  | x => x
def guardD {ρ : Type} (V : St) (ops : Array Oper) (anc : List Nat) (acc : List Res) (g : Option (Nat × Bool)) (K : Bool → List Res → Option ρ) : Option ρ :=
  match g with
  | Option.none => K true acc
  | some (j, want) => chk (anc.contains j) (match dstOf ops j with
    | some t => guard2O (V.get t) want (K true (acc.set j (fixRes want (accOf acc j)))) (K false (acc.set j (fixRes (!want) (accOf acc j)))) (K false acc)
    | Option.none => Option.none)
def newOk (anc : List Nat) (acc : List Res) (news : List Ob) : Bool := noNew news || (List.range acc.length).all fun k => anc.contains k || noNew (resN (accOf acc k))
def exD {ρ : Type} (P : Program) (G : Orc) (ops : Array Oper) (A : List (List Nat)) (st0 : St) (D : Sl) : List Oper → List Res → (List Res → Option ρ) → Option ρ
  | [], acc, K => K acc
  | o :: rest, acc, K => guardD (drawV st0 D ops acc (ancOf A acc.length)) ops (ancOf A acc.length) acc o.guard fun b acc => match b with
    | true => stepQ P G o (drawV st0 D ops acc (ancOf A acc.length)) fun av news => chk (newOk (ancOf A acc.length) acc news) (exD P G ops A st0 D rest (acc ++ [some (av, news)]) K)
    | false => exD P G ops A st0 D rest (acc ++ [Option.none]) K
def nodupD : List (Option Nat) → Bool
  | [] => true
  | some d :: ds => !(ds.contains (some d)) && nodupD ds
  | Option.none :: ds => nodupD ds
/-- A drawn region: what may come in any order, then the rest. -/
def exR {ρ : Type} (P : Program) (G : Orc) (ops : Array Oper) (st : St) (K : St → Option ρ) : Option ρ :=
  let A := ancs ops.toList
  let p := prefN A ops.size
  let ds := (ops.toList.take p).map (·.dst)
  chk (nodupD ds) (chk ((List.range ops.size).all fun i => ((ops[i]?).map fun o => (dirs o).all fun j => decide (j < i)).getD true) (
    exD P G ops A st (deadD ds st.slots) (ops.toList.take p) [] fun acc =>
      exL P G ops (ops.toList.drop p) ⟨setK ops acc (List.range p) st.slots, st.obs ++ newsK acc (List.range p), st.ks⟩ K))

end Go.Al
