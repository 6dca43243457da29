import Derived.Test.YtbpicgilplnmoaaAl36
import Derived.SizedLaws
import Derived.Carry
import Derived.ChangeArms
import Derived.ChangeOld
import Derived.WideShapes
import Derived.OpenShut
import Derived.ShutString
set_option linter.unusedVariables false
set_option linter.unusedSimpArgs false
namespace Go.Al
open Go.WideShapes

/-! ### 51. What a law is given, as typed data -/
/-- Data of a size that memory can hold. -/
class Bnd (A : Type) where
  bnd : A → Prop
def bN : Nat := 140737488351232
instance : Bnd Int := ⟨fun x => -9223372036854775808 ≤ x ∧ x ≤ 9223372036854775807⟩
instance {k : IntKind} : Bnd (IK k) := ⟨fun x => k.min ≤ x.v ∧ x.v ≤ k.max⟩
instance : Bnd Bool := ⟨fun _ => True⟩
instance : Bnd ByteArray := ⟨fun s => s.size ≤ bN⟩
instance {A : Type} [Bnd A] : Bnd (Vec A) := ⟨fun v => v.n ≤ bN ∧ ∀ i, i < v.n → Bnd.bnd (v.g i)⟩
instance {A B : Type} [Bnd A] [Bnd B] : Bnd (A × B) := ⟨fun p => Bnd.bnd p.1 ∧ Bnd.bnd p.2⟩

def ImL (w : World) (I : Nat → Prop) (ns : List N) (cs : List Value) : Prop := ns.length = cs.length ∧ ∀ (j : Nat) (x : N) (v : Value), ns[j]? = some x → cs[j]? = some v → Im w I x v
theorem ImL.one {w : World} {I : Nat → Prop} {x : N} {v : Value} (h : Im w I x v) : ImL w I [x] [v] := ⟨rfl, fun j a b ha hb => by
  cases j with
  | zero => simp at ha hb; subst ha; subst hb; exact h
  | succ j => simp at ha⟩

def Opens (P : Program) (t : TypeId) (A : Type) [Enc A] [Bnd A] : Prop :=
  ∀ (H : Type) (enc : TypeId × Value → H) (w : World) (fuel : Nat) (cs : List Value) (x : DataW H × List MemPlace), DataW.trod enc P w 0 (fun _ => true) true fuel t cs = some x →
    (∀ n ∈ x.1.weights P t, n ≤ reachBytes) → ∃ a : A, ImL w (fun b => b < w.heap.size) (Enc.enc a) cs ∧ Bnd.bnd a

section
variable {P : Program}
theorem opens_int {t : TypeId} (ht : P.underlying t = some (.int .i64)) : Opens P t Int := by
  intro H enc w fuel cs x h _
  obtain ⟨n, rfl, -, hw⟩ := DataW.trod_int ht h
  refine ⟨n, ImL.one (.v rfl), ?_⟩
  simp only [Lit.wf, Bool.and_eq_true, decide_eq_true_eq] at hw
  exact hw
theorem opens_ik {t : TypeId} {k : IntKind} (ht : P.underlying t = some (.int k)) : Opens P t (IK k) := by
  intro H enc w fuel cs x h _
  obtain ⟨n, rfl, -, hw⟩ := DataW.trod_int ht h
  refine ⟨⟨n⟩, ImL.one (.v rfl), ?_⟩
  simp only [Lit.wf, Bool.and_eq_true, decide_eq_true_eq] at hw
  exact hw
theorem opens_bool {t : TypeId} (ht : P.underlying t = some .bool) : Opens P t Bool := by
  intro H enc w fuel cs x h _
  obtain ⟨b, rfl, -⟩ := DataW.trod_bool ht h
  exact ⟨b, ImL.one (.v rfl), trivial⟩
theorem opens_string {t : TypeId} (ht : P.underlying t = some .string) : Opens P t ByteArray := by
  intro H enc w fuel cs x h hw
  obtain ⟨s, rfl, rfl, hs⟩ := DataW.trod_string ht h
  refine ⟨s, ImL.one (.v rfl), ?_⟩
  have := hw s.data.toList.length (by simp [DataW.weights])
  exact this

theorem opens_slice {t e : TypeId} {A : Type} [Enc A] [Bnd A] (ht : P.underlying t = some (.slice e)) (hsz : P.cellsOf e = Enc.sz A) (h0 : 0 < Enc.sz A) (hb : 0 < P.bytesOf e) (ho : Opens P e A) : Opens P t (Vec A) := by
  intro H enc w fuel cs x h hw
  rcases DataW.trod_slice ht h with ⟨rfl, rfl⟩ | ⟨ad, len, cap, elems, rest, n, rfl, rfl, rfl, -, hlc, hcm, hel, hE, hR, -⟩
  · exact ⟨⟨0, fun _ => Enc.zero⟩, ImL.one (Im.zero rfl none), ⟨Nat.zero_le _, fun i hi => absurd hi (Nat.not_lt_zero i)⟩⟩
  · simp only [DataW.weights, ht, List.mem_cons, List.mem_append] at hw
    have hlen : len ≤ bN := by
      have h1 := hw _ (.inl rfl)
      have h2 : len * 1 ≤ ((elems.map (·.1)).length + (rest.map (·.1)).length) * P.bytesOf e := Nat.mul_le_mul (by simp [hel]) hb
      have h3 : reachBytes = bN := rfl
      omega
    have hone : ∀ i, i < len → ∃ a : A, ∃ cs', w.cells? 0 (ad.add (i * P.cellsOf e)) (P.cellsOf e) = some cs' ∧ ImL w (fun b => b < w.heap.size) (Enc.enc a) cs' ∧ Bnd.bnd a := by
      intro i hi
      have h1 := hE i hi
      have hie : i < elems.length := by omega
      rw [List.getElem?_eq_getElem hie] at h1
      simp only [Option.bind_eq_some_iff] at h1
      obtain ⟨cs', hc, ht'⟩ := h1
      have hmem : elems[i].1 ∈ elems.map (·.1) := List.mem_map.2 ⟨_, List.getElem_mem hie, rfl⟩
      have key : ∀ (l : List (DataW H)) (d : DataW H), d ∈ l → ∀ n ∈ d.weights P e, n ∈ DataW.weightsAll P e l := by
        intro l
        induction l with
        | nil => intro d hd; simp at hd
        | cons d' r ih =>
          intro d hd n hn
          simp only [DataW.weightsAll, List.mem_append]
          rcases List.mem_cons.1 hd with rfl | h
          · exact Or.inl hn
          · exact Or.inr (ih d h n hn)
      obtain ⟨a, h2, h3⟩ := ho H enc w n cs' _ ht' (fun m hm => hw m (.inr (.inl (key _ _ hmem m hm))))
      exact ⟨a, cs', hc, h2, h3⟩
    classical
    let g : Nat → A := fun i => if h : i < len then Classical.choose (hone i h) else Enc.zero
    have hg : ∀ i, i < len → ∃ cs', w.cells? 0 (ad.add (i * P.cellsOf e)) (P.cellsOf e) = some cs' ∧ ImL w (fun b => b < w.heap.size) (Enc.enc (g i)) cs' ∧ Bnd.bnd (g i) := by
      intro i hi
      simp only [g, dif_pos hi]
      exact Classical.choose_spec (hone i hi)
    have hcell : ∀ i j x, at2 (encRw (⟨len, g⟩ : Vec A)) i j = some x → w.cell? (ad.add (i * Enc.sz A + j)) = some ((w.cell? (ad.add (i * Enc.sz A + j))).getD undef) ∧ Im w (fun b => b < w.heap.size) x ((w.cell? (ad.add (i * Enc.sz A + j))).getD undef) := by
      intro i j x hx
      obtain ⟨hi, hx⟩ := at2_pos hx
      obtain ⟨cs', hc, him, -⟩ := hg i hi
      obtain ⟨-, hcl, hcc⟩ := World.cells?_some hc
      have hj : j < (Enc.enc (g i)).length := (List.getElem?_eq_some_iff.1 hx).1
      have hj' : j < cs'.length := by rw [← him.1]; exact hj
      have h1 := hcc j (by rw [← hcl]; exact hj')
      rw [add_add, hsz] at h1
      rw [h1, List.getElem?_eq_getElem hj']
      exact ⟨rfl, him.2 j x _ hx (List.getElem?_eq_getElem hj')⟩
    refine ⟨⟨len, g⟩, ImL.one ?_, hlen, fun i hi => ?_⟩
    · refine Im.sl (xs := encRw (⟨len, g⟩ : Vec A)) (some ad) cap ad (fun i j => (w.cell? (ad.add (i * Enc.sz A + j))).getD undef) (fun i _ => Enc.len _) (Nat.le_trans hlen (by decide)) hlc (fun hne => ⟨rfl, ?_⟩) (fun i j x hx => (hcell i j x hx).1) (fun i j x hx => (hcell i j x hx).2)
      have hpos : 0 < len := Nat.pos_of_ne_zero hne
      obtain ⟨cs', hc, -⟩ := hg 0 hpos
      have := World.cells?_block hc (by rw [hsz]; exact h0)
      rwa [add_block] at this
    · obtain ⟨-, -, -, h⟩ := hg i hi
      exact h

/-- The fields of a struct from a place on. -/
def OpensF (P : Program) (fs : List Field) (off : Nat) (A : Type) [Enc A] [Bnd A] : Prop :=
  ∀ (H : Type) (enc : TypeId × Value → H) (w : World) (n : Nat) (cs : List Value) (xs : List (DataW H × List MemPlace)), xs.length = fs.length →
    (∀ (i : Nat) (f : Field), fs[i]? = some f → DataW.trod enc P w 0 (fun _ => true) true n f.type ((cs.drop f.offset).take (P.cellsOf f.type)) = xs[i]?) →
    (∀ n ∈ DataW.weightsEach P (fs.map (·.type)) (xs.map (·.1)), n ≤ reachBytes) → off + Enc.sz A ≤ cs.length → ∃ a : A, ImL w (fun b => b < w.heap.size) (Enc.enc a) ((cs.drop off).take (Enc.sz A)) ∧ Bnd.bnd a
theorem opensF_one {f : Field} {off : Nat} {A : Type} [Enc A] [Bnd A] (hoff : f.offset = off) (hsz : P.cellsOf f.type = Enc.sz A) (ho : Opens P f.type A) : OpensF P [f] off A := by
  intro H enc w n cs xs hl hx hw hlen
  match xs, hl with
  | [x], _ =>
    have h1 := hx 0 f rfl
    rw [hoff, hsz] at h1
    exact ho H enc w n _ x h1 fun m hm => hw m (by simpa [DataW.weightsEach] using hm)
theorem opensF_cons {f : Field} {fs : List Field} {off : Nat} {A B : Type} [Enc A] [Bnd A] [Enc B] [Bnd B] (hoff : f.offset = off) (hsz : P.cellsOf f.type = Enc.sz A) (ho : Opens P f.type A) (hr : OpensF P fs (off + Enc.sz A) B) : OpensF P (f :: fs) off (A × B) := by
  intro H enc w n cs xs hl hx hw hlen
  match xs, hl with
  | x :: xs, hl =>
    have h1 := hx 0 f rfl
    rw [hoff, hsz] at h1
    have hlen' : off + (Enc.sz A + Enc.sz B) ≤ cs.length := hlen
    obtain ⟨a, ha, hba⟩ := ho H enc w n _ x h1 fun m hm => hw m (by simp only [List.map_cons, DataW.weightsEach, List.mem_append]; exact .inl hm)
    obtain ⟨b, hb, hbb⟩ := hr H enc w n cs xs (by simpa using hl) (fun i f hf => hx (i + 1) f (by simpa using hf)) (fun m hm => hw m (by simp only [List.map_cons, DataW.weightsEach, List.mem_append]; exact .inr hm)) (by omega)
    refine ⟨(a, b), ?_, hba, hbb⟩
    have e : (cs.drop off).take (Enc.sz (A × B)) = (cs.drop off).take (Enc.sz A) ++ (cs.drop (off + Enc.sz A)).take (Enc.sz B) := by
      show (cs.drop off).take (Enc.sz A + Enc.sz B) = _
      rw [List.take_add, List.drop_drop]
    rw [e]
    have hla : ((cs.drop off).take (Enc.sz A)).length = Enc.sz A := by simp; omega
    refine ⟨by simp only [Enc.enc, List.length_append]; rw [ha.1, hb.1], fun j y v hy hv => ?_⟩
    simp only [Enc.enc] at hy
    rw [List.getElem?_append] at hy hv
    rw [Enc.len] at hy
    rw [hla] at hv
    split at hy
    · rename_i hj
      rw [if_pos hj] at hv
      exact ha.2 j y v hy hv
    · rename_i hj
      rw [if_neg hj] at hv
      exact hb.2 _ y v hy hv
theorem opens_struct {t : TypeId} {fs : Array Field} {A : Type} [Enc A] [Bnd A] (ht : P.underlying t = some (.struct fs)) (hsz : P.cellsOf t = Enc.sz A) (ho : OpensF P fs.toList 0 A) : Opens P t A := by
  intro H enc w fuel cs x h hw
  obtain ⟨xs, n, -, rfl, hl, hxl, hx⟩ := DataW.trod_struct ht h
  obtain ⟨a, ha, hb⟩ := ho H enc w n cs xs (by simpa using hxl) (fun i f hf => hx i f (by simpa using hf)) (fun m hm => hw m (by simpa [DataW.weights, ht] using hm)) (by rw [hl, hsz]; omega)
  refine ⟨a, ?_, hb⟩
  rwa [List.drop_zero, List.take_of_length_le (by rw [hl, hsz]; exact Nat.le_refl _)] at ha

theorem AVR_of_one {w : World} {I : Nat → Prop} {x : N} {v : Value} (h : ImL w I [x] [v]) : AVR w I [] (.c (.n x)) v := h.2 0 x v rfl rfl
theorem AVR_of_agg {w : World} {I : Nat → Prop} {ns : List N} {arr : Array Value} (h : ImL w I ns arr.toList) : AVR w I [] (.a (ns.map .n)) (.agg arr) :=
  ⟨arr, rfl, by simpa using h.1.symm, fun j x v hx hv => by
    simp only [List.getElem?_map, Option.map_eq_some_iff] at hx
    obtain ⟨y, hy, rfl⟩ := hx
    exact h.2 j y v hy (by simpa using hv)⟩
section
variable {H : Type} {enc : TypeId × Value → H} {w : World} {v : Value} {d : DataW H} {ps : List MemPlace} {base : Nat}
/-- One argument of a law. -/
theorem open_sl {t e : TypeId} {A : Type} [Enc A] [Bnd A] (ht : P.underlying t = some (.slice e)) (ho : Opens P t (Vec A)) (hv : Value.okWide P w .any base t v)
    (h : DataW.Trod enc P w 0 (fun _ => true) true t v d ps) (hw : ∀ n ∈ d.weights P t, n ≤ reachBytes) : ∃ a : Vec A, AVR w (fun b => b < w.heap.size) [] (vl a) v ∧ Bnd.bnd a := by
  obtain ⟨A', len, cap, rfl⟩ := okWide_slice ht hv
  obtain ⟨fuel, h⟩ := h
  obtain ⟨a, ha, hb⟩ := ho H enc w fuel _ _ h hw
  exact ⟨a, AVR_of_one ha, hb⟩
theorem open_i {t : TypeId} (ht : P.underlying t = some (.int .i64)) (hv : Value.okWide P w .any base t v) (h : DataW.Trod enc P w 0 (fun _ => true) true t v d ps) (hw : ∀ n ∈ d.weights P t, n ≤ reachBytes) :
    ∃ a : Int, AVR w (fun b => b < w.heap.size) [] (vi a) v ∧ Bnd.bnd a := by
  obtain ⟨n, rfl⟩ := okWide_int ht hv
  obtain ⟨fuel, h⟩ := h
  obtain ⟨a, ha, hb⟩ := opens_int ht H enc w fuel _ _ h hw
  exact ⟨a, AVR_of_one ha, hb⟩
theorem open_s {t : TypeId} (ht : P.underlying t = some .string) (hv : Value.okWide P w .any base t v) (h : DataW.Trod enc P w 0 (fun _ => true) true t v d ps) (hw : ∀ n ∈ d.weights P t, n ≤ reachBytes) :
    ∃ a : ByteArray, AVR w (fun b => b < w.heap.size) [] (vs a) v ∧ Bnd.bnd a := by
  obtain ⟨n, rfl⟩ := okWide_string ht hv
  obtain ⟨fuel, h⟩ := h
  obtain ⟨a, ha, hb⟩ := opens_string ht H enc w fuel _ _ h hw
  exact ⟨a, AVR_of_one ha, hb⟩
theorem open_b {t : TypeId} (ht : P.underlying t = some .bool) (hv : Value.okWide P w .any base t v) (h : DataW.Trod enc P w 0 (fun _ => true) true t v d ps) (hw : ∀ n ∈ d.weights P t, n ≤ reachBytes) :
    ∃ a : Bool, AVR w (fun b => b < w.heap.size) [] (vb a) v ∧ Bnd.bnd a := by
  obtain ⟨n, rfl⟩ := okWide_bool ht hv
  obtain ⟨fuel, h⟩ := h
  obtain ⟨a, ha, hb⟩ := opens_bool ht H enc w fuel _ _ h hw
  exact ⟨a, AVR_of_one ha, hb⟩
theorem open_st {t : TypeId} {fs : Array Field} {A : Type} [Enc A] [Bnd A] (ht : P.underlying t = some (.struct fs)) (ho : Opens P t A) (hv : Value.okWide P w .any base t v)
    (h : DataW.Trod enc P w 0 (fun _ => true) true t v d ps) (hw : ∀ n ∈ d.weights P t, n ≤ reachBytes) : ∃ a : A, AVR w (fun b => b < w.heap.size) [] (.a ((Enc.enc a).map .n)) v ∧ Bnd.bnd a := by
  obtain ⟨cs, rfl, -⟩ := okWide_struct ht hv
  obtain ⟨fuel, h⟩ := h
  obtain ⟨a, ha, hb⟩ := ho H enc w fuel _ _ h hw
  exact ⟨a, AVR_of_agg ha, hb⟩

/-- The arguments of a law, all together. -/
theorem cell_lt {w : World} {a : Addr} {v : Value} (h : w.cell? a = some v) : a.block < w.heap.size := by
  apply Classical.byContradiction
  intro hn
  have e : w.heap[a.block]? = none := Array.getElem?_eq_none (by omega)
  simp [World.cell?, e] at h
theorem amb_of {w : World} (h : ∀ g, ambG = some g → ∃ m, w.cell? ⟨g, 0, none⟩ = some (.int .i64 m)) : IL w (fun b => b < w.heap.size) :=
  ⟨fun _ h => h, fun g hg => by
    obtain ⟨m, hm⟩ := h g hg
    exact ⟨cell_lt hm, m, hm⟩⟩
theorem args_rel {args : List AV} {vals : Array Value} (hamb : ∀ g, ambG = some g → ∃ m, w.cell? ⟨g, 0, none⟩ = some (.int .i64 m)) (hl : vals.size = args.length) (h : ∀ (j : Nat) (x : AV) (v : Value), args[j]? = some x → vals[j]? = some v → AVR w (fun b => b < w.heap.size) [] x v) :
    RelV ⟨Sl.of args, [], []⟩ ⟨vals, []⟩ w (fun b => b < w.heap.size) [] (fun _ _ => False) :=
  ⟨by simpa using hl, rfl, fun t v c hv hc => h t v c (by simpa using hv) hc, by simp, by simp, by simp, amb_of hamb⟩
theorem Fr.below {w w' : World} (h : Fr (fun _ => ∃ _ : Nat, False) w w') : RowKit.Below w.heap.size w w' :=
  ⟨h.os, h.tape, h.output, h.size, fun k hk => h.block k hk (fun ⟨_, hf⟩ => hf)⟩
/-- Arguments read as they did. -/
theorem trodAll_below {w w' : World} (hb : RowKit.Below w.heap.size w w') (hl : laidOutB P = true) : ∀ {ts : List TypeId} {vs : List Value} {ds : List (DataW H)} {ps : List MemPlace}, (∀ t ∈ ts, P.readableRec t = true ∧ t < P.types.size) → (∀ x ∈ ps, x.block < w.heap.size) →
    DataW.TrodAll enc P w 0 (fun _ => true) true ts vs ds ps → DataW.TrodAll enc P w' 0 (fun b => decide (b < w.heap.size)) true ts vs ds ps
  | [], vs, ds, ps, _, _, h => by
    obtain ⟨rfl, rfl, rfl⟩ := ChangeShapes.trodAll_nil h
    exact ChangeShapes.trodAll_mk0
  | t :: ts, vs, ds, ps, hr, hlt, h => by
    obtain ⟨v, vs', d, ds', p, q, rfl, rfl, rfl, h1, h2⟩ := ChangeShapes.trodAll_cons h
    exact ⟨p, q, RowKit.Below.trod hl (hr t List.mem_cons_self).1 (hr t List.mem_cons_self).2 h1 hb (fun x hx => hlt x (List.mem_append.2 (.inl hx))),
      trodAll_below hb hl (fun t ht => hr t (List.mem_cons_of_mem _ ht)) (fun x hx => hlt x (List.mem_append.2 (.inr hx))) h2, rfl⟩
end
end

end Go.Al
