/- What comes in, by value; and that it is as it was. -/
import Derived.Test.YtcjlgmknclifmaaDoorAb17
import Derived.ReadAgain
import Derived.ChangeSame
import Derived.Below
import Derived.WalkKit
import Derived.ProofKit
import Derived.OpenShut
import Derived.JoinedCond
set_option linter.unusedVariables false
set_option linter.unusedSimpArgs false
namespace Go.Proofs.YtcjlgmknclifmaaDoor.Ab
open Go Go.ChangeShapes Go.WideShapes Go.ChangeAt Go.RowKit

/-! ### reading -/
def noMap : Map := fun _ => none
def oldB (W : World) : Nat → Prop := fun b => b < W.heap.size
/-- Whatever is read of a type is of a certain form. -/
def Opens (P : Program) (t : TypeId) (α : Type) (V : α → List AVal) (I : α → Prop) : Prop :=
  ∀ (H : Type) (enc : TypeId × Value → H) (W : World) (n : Nat) (cs : List Value) (x : DataW H × List MemPlace), DataW.trod enc P W 0 (fun _ => true) true n t cs = some x →
    ∃ a, I a ∧ VRels noMap (oldB W) W (V a) cs
section
variable {P : Program}

theorem Opens.bool {t : TypeId} (ht : P.underlying t = some .bool) : Opens P t Bool (fun b => [.bool b]) (fun _ => True) := by
  intro H enc W n cs x h
  obtain ⟨b, rfl, _⟩ := DataW.trod_bool ht h
  exact ⟨b, trivial, by simp only [VRels, VRel]; exact ⟨_, _, rfl, rfl, rfl⟩⟩
theorem Opens.int {t : TypeId} {k : IntKind} (ht : P.underlying t = some (.int k)) : Opens P t Int (fun n => [.int k n]) (fun n => k.min ≤ n ∧ n ≤ k.max) := by
  intro H enc W n cs x h
  obtain ⟨b, rfl, _, hw⟩ := DataW.trod_int ht h
  simp only [Lit.wf, Bool.and_eq_true, decide_eq_true_eq] at hw
  exact ⟨b, hw, by simp only [VRels, VRel]; exact ⟨_, _, rfl, rfl, rfl⟩⟩
theorem Opens.str {t : TypeId} (ht : P.underlying t = some .string) : Opens P t ByteArray (fun s => [.str s]) (fun _ => True) := by
  intro H enc W n cs x h
  obtain ⟨b, rfl, _, hw⟩ := DataW.trod_string ht h
  exact ⟨b, trivial, by simp only [VRels, VRel]; exact ⟨_, _, ⟨rfl, hw⟩, rfl, rfl⟩⟩

/-- A row of fields. -/
def RowTrod {H : Type} (enc : TypeId × Value → H) (P : Program) (W : World) (n : Nat) : List TypeId → List Value → Prop
  | [], cs => cs = []
  | t :: ts, cs => (∃ y, DataW.trod enc P W 0 (fun _ => true) true n t (cs.take (P.cellsOf t)) = some y) ∧ RowTrod enc P W n ts (cs.drop (P.cellsOf t))
def OpensR (P : Program) (ts : List TypeId) (α : Type) (V : α → List AVal) (I : α → Prop) : Prop :=
  ∀ (H : Type) (enc : TypeId × Value → H) (W : World) (n : Nat) (cs : List Value), RowTrod enc P W n ts cs → ∃ a, I a ∧ VRels noMap (oldB W) W (V a) cs
theorem OpensR.nil : OpensR P [] Unit (fun _ => []) (fun _ => True) := fun H enc W n cs h => ⟨(), trivial, by simp only [RowTrod] at h; simp only [VRels]; exact h⟩
theorem OpensR.cons {t : TypeId} {ts : List TypeId} {α β : Type} {V : α → List AVal} {V' : β → List AVal} {I : α → Prop} {I' : β → Prop} (h1 : Opens P t α V I) (h2 : OpensR P ts β V' I') :
    OpensR P (t :: ts) (α × β) (fun p => V p.1 ++ V' p.2) (fun p => I p.1 ∧ I' p.2) := by
  intro H enc W n cs h
  obtain ⟨⟨y, hy⟩, hr⟩ := h
  obtain ⟨a, ia, va⟩ := h1 H enc W n _ _ hy
  obtain ⟨b, ib, vb⟩ := h2 H enc W n _ hr
  exact ⟨(a, b), ⟨ia, ib⟩, by have := va.append vb; rwa [List.take_append_drop] at this⟩
/-- The fields lie one behind the other. -/
def laidFrom (P : Program) : Nat → List Field → Bool
  | _, [] => true
  | o, f :: r => f.offset == o && laidFrom P (o + P.cellsOf f.type) r
theorem rowTrod_of {H : Type} {enc : TypeId × Value → H} {W : World} {n : Nat} : ∀ (fs : List Field) (o : Nat) (cs : List Value), laidFrom P o fs = true → cs.length = o + (fs.map fun f => P.cellsOf f.type).sum →
    (∀ f ∈ fs, ∃ y, DataW.trod enc P W 0 (fun _ => true) true n f.type ((cs.drop f.offset).take (P.cellsOf f.type)) = some y) → RowTrod enc P W n (fs.map (·.type)) (cs.drop o)
  | [], o, cs, _, hl, _ => by simp only [List.map_nil, RowTrod]; exact List.drop_eq_nil_of_le (by simp at hl; omega)
  | f :: r, o, cs, h, hl, hf => by
    simp only [laidFrom, Bool.and_eq_true, beq_iff_eq] at h
    simp only [List.map_cons, RowTrod]
    refine ⟨by rw [← h.1]; exact hf f (by simp), ?_⟩
    rw [List.drop_drop]
    exact rowTrod_of r (o + P.cellsOf f.type) cs h.2 (by simp at hl; omega) (fun g hg => hf g (by simp [hg]))
theorem Opens.struct {t : TypeId} {fs : Array Field} {α : Type} {V : α → List AVal} {I : α → Prop} (ht : P.underlying t = some (.struct fs))
    (hl : (laidFrom P 0 fs.toList && P.cellsOf t == (fs.toList.map fun f => P.cellsOf f.type).sum) = true) (h : OpensR P (fs.toList.map (·.type)) α V I) : Opens P t α V I := by
  intro H enc W n cs x hx
  obtain ⟨xs, m, _, _, hlen, hxl, hf⟩ := DataW.trod_struct ht hx
  simp only [Bool.and_eq_true, beq_iff_eq] at hl
  refine h H enc W m cs ?_
  have := rowTrod_of (enc := enc) (W := W) (n := m) fs.toList 0 cs hl.1 (by omega) (fun f hfm => by
    obtain ⟨i, hi⟩ := List.getElem?_of_mem hfm
    have hlt := (List.getElem?_eq_some_iff.1 hi).1
    have h1 := hf i f (by simpa using hi)
    rw [List.getElem?_eq_getElem (by simp at hlt; omega)] at h1
    exact ⟨_, h1⟩)
  simpa using this
/-- The same, told otherwise. -/
theorem Opens.as {t : TypeId} {α β : Type} {V : α → List AVal} {I : α → Prop} {V' : β → List AVal} {I' : β → Prop} (h : Opens P t α V I) (f : α → β) (hv : ∀ a, V' (f a) = V a) (hi : ∀ a, I a → I' (f a)) : Opens P t β V' I' := by
  intro H enc W n cs x hx
  obtain ⟨a, ia, va⟩ := h H enc W n cs x hx
  exact ⟨f a, hi a ia, by rw [hv]; exact va⟩

/-! ### slices -/
theorem cellAt_of {W : World} {a : Addr} {v : Value} (h : W.cell? a = some v) : a.spot = none ∧ CellAt W a.block a.off v := by
  unfold World.cell? at h
  split at h
  · rename_i c t fr hb
    split at h
    · cases h
    · rename_i hs
      exact ⟨by cases hsp : a.spot <;> simp [hsp] at hs ⊢, ⟨c, t, fr, hb, h⟩⟩
  · cases h
theorem cells?_at {W : World} {a : Addr} {n : Nat} {cs : List Value} (h : W.cells? 0 a n = some cs) : cs.length = n ∧ ∀ j c, cs[j]? = some c → W.cell? (a.add j) = some c := by
  unfold World.cells? at h
  rw [if_pos (Nat.zero_le _)] at h
  have hl := mapM_some_length h
  refine ⟨by simpa using hl, fun j c hj => ?_⟩
  have hlt := (List.getElem?_eq_some_iff.1 hj).1
  have : j < n := by simp at hl; omega
  have := mapM_some_get h j j (List.getElem?_range (by omega : j < n))
  rw [hj] at this
  exact this
/-- What stands in a slice: values of so many cells each. -/
theorem vec_of {W : World} {e : Nat} (he : 0 < e) {a : Addr} {len cap : Nat} (hlc : len ≤ cap) (hcm : cap ≤ maxLen) {css : List (List Value)} {xs : List AVal} {vs : List Value} (hl : css.length = len)
    (hc : ∀ (i : Nat) (cs : List Value), css[i]? = some cs → W.cells? 0 (a.add (i * e)) e = some cs) (hv : vs.length = css.length) (hvc : ∀ (i : Nat) (v : Value) (cs : List Value), vs[i]? = some v → css[i]? = some cs → v.cells.toList = cs) (hr : VRels noMap (oldB W) W xs vs) :
    VRel noMap (oldB W) W (.vec e false xs) (.slice (some a) len cap) := by
  simp only [VRel]
  have hcm' : cap ≤ huge := hcm
  refine ⟨some a, cap, vs, hr, by rw [hv, hl], by omega, by omega, by simp, fun x hx => ?_, fun hne => ?_⟩
  · obtain ⟨i, hi⟩ := List.getElem?_of_mem hx
    have hlt := (List.getElem?_eq_some_iff.1 hi).1
    obtain ⟨cs, hcs⟩ : ∃ cs, css[i]? = some cs := ⟨_, List.getElem?_eq_getElem (by omega)⟩
    have := hvc i x cs hi hcs
    have h2 := (cells?_at (hc i cs hcs)).1
    rw [← Array.length_toList, this, h2]
  · have h0 : 0 < vs.length := by cases vs with | nil => exact absurd rfl hne | cons _ _ => simp
    obtain ⟨cs, hcs⟩ : ∃ cs, css[0]? = some cs := ⟨_, List.getElem?_eq_getElem (by omega)⟩
    obtain ⟨c0, hc0⟩ : ∃ c, cs[0]? = some c := ⟨_, List.getElem?_eq_getElem (by have := (cells?_at (hc 0 cs hcs)).1; omega)⟩
    have hz := (cells?_at (hc 0 cs hcs)).2 0 c0 hc0
    have ha : (a.add (0 * e)).add 0 = a := by simp [Addr.add]
    rw [ha] at hz
    have hs := (cellAt_of hz).1
    have hb : a.block < W.heap.size := by
      obtain ⟨C, t, fr, hb, _⟩ := (cellAt_of hz).2
      exact (Array.getElem?_eq_some_iff.1 hb).1
    have hae : a = ⟨a.block, a.off, none⟩ := by obtain ⟨x, y, z⟩ := a; simp only at hs; rw [hs]
    refine ⟨a.block, a.off, by rw [← hae], hb, fun i x hi j c hj => ?_⟩
    have hlt := (List.getElem?_eq_some_iff.1 hi).1
    obtain ⟨cs', hcs'⟩ : ∃ cs, css[i]? = some cs := ⟨_, List.getElem?_eq_getElem (by omega)⟩
    have hcell := (cells?_at (hc i cs' hcs')).2 j c (by rw [← hvc i x cs' hi hcs']; simpa using hj)
    have hat := (cellAt_of hcell).2
    have e1 : ((a.add (i * e)).add j).block = a.block := by unfold Addr.add; split <;> split <;> rfl
    have e2 : ((a.add (i * e)).add j).off = a.off + i * e + j := by
      have one : ∀ (b : Addr) (n : Nat), (b.add n).off = b.off + n := fun b n => by by_cases h0 : n = 0 <;> simp [Addr.add, h0]
      rw [one, one]
    rw [e1, e2] at hat
    exact hat
theorem choose_list {α β : Type} {R : β → α → Prop} : ∀ (l : List β), (∀ b ∈ l, ∃ a, R b a) → ∃ avs : List α, avs.length = l.length ∧ ∀ (i : Nat) (b : β) (a : α), l[i]? = some b → avs[i]? = some a → R b a
  | [], _ => ⟨[], rfl, fun i b a h => by simp at h⟩
  | b :: l, h => by
    obtain ⟨a, ha⟩ := h b (by simp)
    obtain ⟨avs, h1, h2⟩ := choose_list l (fun b' hb' => h b' (by simp [hb']))
    refine ⟨a :: avs, by simp [h1], fun i b' a' hi hj => ?_⟩
    cases i with
    | zero => simp at hi hj; subst hi; subst hj; exact ha
    | succ i => exact h2 i b' a' (by simpa using hi) (by simpa using hj)
/-- A slice, its elements read one by one: each element's cells, and how they are told. -/
theorem slice_parts {t e : TypeId} {α : Type} {V : α → List AVal} {I : α → Prop} (ht : P.underlying t = some (.slice e)) (hE : Opens P e α V I) {H : Type} {enc : TypeId × Value → H} {W : World} {n : Nat} {cs : List Value} {x : DataW H × List MemPlace}
    (hx : DataW.trod enc P W 0 (fun _ => true) true n t cs = some x) :
    cs = [.slice none 0 0] ∨ ∃ (a : Addr) (len cap : Nat) (css : List (List Value)) (avs : List α), cs = [.slice (some a) len cap] ∧ len ≤ cap ∧ cap ≤ maxLen ∧ css.length = len ∧ avs.length = len ∧
      (∀ (i : Nat) (cs : List Value), css[i]? = some cs → W.cells? 0 (a.add (i * P.cellsOf e)) (P.cellsOf e) = some cs) ∧ ∀ (i : Nat) (cs : List Value) (a : α), css[i]? = some cs → avs[i]? = some a → I a ∧ VRels noMap (oldB W) W (V a) cs := by
  rcases DataW.trod_slice ht hx with ⟨rfl, _⟩ | ⟨a, len, cap, elems, rest, m, _, rfl, _, _, hlc, hcm, hlen, hel, _⟩
  · exact .inl rfl
  · right
    have h1 : ∀ i ∈ List.range len, ∃ p : List Value × α, W.cells? 0 (a.add (i * P.cellsOf e)) (P.cellsOf e) = some p.1 ∧ I p.2 ∧ VRels noMap (oldB W) W (V p.2) p.1 := by
      intro i hi
      have hlt : i < len := List.mem_range.1 hi
      have := hel i hlt
      rw [List.getElem?_eq_getElem (by omega)] at this
      simp only [Option.bind_eq_some_iff] at this
      obtain ⟨c, hc, ht⟩ := this
      obtain ⟨b, ib, vb⟩ := hE H enc W m c _ ht
      exact ⟨(c, b), hc, ib, vb⟩
    obtain ⟨ps, hps, hp⟩ := choose_list (List.range len) h1
    simp only [List.length_range] at hps
    have hr : ∀ i p, ps[i]? = some p → (List.range len)[i]? = some i := fun i p hi => by rw [List.getElem?_range (by have := (List.getElem?_eq_some_iff.1 hi).1; omega)]
    refine ⟨a, len, cap, ps.map (·.1), ps.map (·.2), rfl, hlc, hcm, by simp [hps], by simp [hps], fun i cs hi => ?_, fun i cs b hi hj => ?_⟩
    · simp only [List.getElem?_map, Option.map_eq_some_iff] at hi
      obtain ⟨p, hp1, rfl⟩ := hi
      exact (hp i i p (hr i p hp1) hp1).1
    · simp only [List.getElem?_map, Option.map_eq_some_iff] at hi hj
      obtain ⟨p, hp1, rfl⟩ := hi
      obtain ⟨p', hp2, rfl⟩ := hj
      rw [hp1] at hp2; cases hp2
      exact (hp i i p (hr i p hp1) hp1).2
theorem VRel_nilvec {W : World} {e : Nat} {b : Bool} : VRel noMap (oldB W) W (.vec e b []) (.slice none 0 0) := by
  simp only [VRel]
  exact ⟨none, 0, [], by simp only [VRels], rfl, Nat.le_refl _, by simp [huge], fun _ => rfl, fun x hx => by simp at hx, fun hx => absurd rfl hx⟩
/-- A slice of structures. -/
theorem Opens.sliceS {t e : TypeId} {k : Nat} {α : Type} {V : α → List AVal} {I : α → Prop} (ht : P.underlying t = some (.slice e)) (hk : P.cellsOf e = k) (h0 : 0 < k) (hE : Opens P e α V I) :
    Opens P t (List α) (fun l => [.vec k false (l.map fun a => .agg (V a))]) (fun l => ∀ a ∈ l, I a) := by
  intro H enc W n cs x hx
  rcases slice_parts ht hE hx with rfl | ⟨a, len, cap, css, avs, rfl, hlc, hcm, hl, hla, hc, hv⟩
  · exact ⟨[], by simp, by simp only [VRels, List.map_nil]; exact ⟨_, _, VRel_nilvec, rfl, rfl⟩⟩
  · refine ⟨avs, fun b hb => ?_, ?_⟩
    · obtain ⟨i, hi⟩ := List.getElem?_of_mem hb
      have hlt := (List.getElem?_eq_some_iff.1 hi).1
      exact (hv i _ b (List.getElem?_eq_getElem (by omega)) hi).1
    · simp only [VRels]
      refine ⟨_, _, vec_of (vs := css.map fun c => .agg c.toArray) h0 hlc hcm hl (by rw [← hk]; exact hc) (by simp) (fun i v c hi hj => ?_) (VRels.mk (by simp [hl, hla]) fun i x v hi hj => ?_), rfl, rfl⟩
      · simp only [List.getElem?_map, hj, Option.map_some, Option.some.injEq] at hi
        subst hi; rfl
      · simp only [List.getElem?_map, Option.map_eq_some_iff] at hi hj
        obtain ⟨b, hb, rfl⟩ := hi
        obtain ⟨c, hc2, rfl⟩ := hj
        simp only [VRel]
        exact ⟨c, (hv i c b hc2 hb).2, rfl⟩
/-- A slice of single cells. -/
theorem Opens.slice1 {t e : TypeId} {α : Type} {E : α → AVal} {I : α → Prop} (ht : P.underlying t = some (.slice e)) (hk : P.cellsOf e = 1) (hE : Opens P e α (fun a => [E a]) I) (h1 : ∀ a, (E a).one = true) :
    Opens P t (List α) (fun l => [.vec 1 false (l.map E)]) (fun l => ∀ a ∈ l, I a) := by
  intro H enc W n cs x hx
  rcases slice_parts ht hE hx with rfl | ⟨a, len, cap, css, avs, rfl, hlc, hcm, hl, hla, hc, hv⟩
  · exact ⟨[], by simp, by simp only [VRels, List.map_nil]; exact ⟨_, _, VRel_nilvec, rfl, rfl⟩⟩
  · have hone : ∀ (i : Nat) (c : List Value), css[i]? = some c → ∃ (u : Value) (b : α), c = [u] ∧ avs[i]? = some b ∧ VRel noMap (oldB W) W (E b) u ∧ u.cells.toList = c := by
      intro i c hi
      have hlt := (List.getElem?_eq_some_iff.1 hi).1
      obtain ⟨b, hb⟩ : ∃ b, avs[i]? = some b := ⟨_, List.getElem?_eq_getElem (by omega)⟩
      have := (hv i c b hi hb).2
      simp only [VRels] at this
      obtain ⟨u, us, g1, rfl, rfl⟩ := this
      exact ⟨u, b, rfl, hb, g1, by rw [cells_of_one (oneCell_of g1 (h1 b))]⟩
    refine ⟨avs, fun b hb => ?_, ?_⟩
    · obtain ⟨i, hi⟩ := List.getElem?_of_mem hb
      have hlt := (List.getElem?_eq_some_iff.1 hi).1
      exact (hv i _ b (List.getElem?_eq_getElem (by omega)) hi).1
    · simp only [VRels]
      refine ⟨_, _, vec_of (e := 1) (vs := css.map fun c => c.headD undef) (by decide) hlc hcm hl (by rw [← hk]; exact hc) (by simp) (fun i v c hi hj => ?_) (VRels.mk (by simp [hl, hla]) fun i x v hi hj => ?_), rfl, rfl⟩
      · simp only [List.getElem?_map, hj, Option.map_some, Option.some.injEq] at hi
        obtain ⟨u, b, rfl, _, _, hu⟩ := hone i c hj
        simp only [List.headD_cons] at hi
        subst hi; exact hu
      · simp only [List.getElem?_map, Option.map_eq_some_iff] at hi hj
        obtain ⟨b, hb, rfl⟩ := hi
        obtain ⟨c, hc2, rfl⟩ := hj
        obtain ⟨u, b', rfl, hb', hu, _⟩ := hone i c hc2
        rw [hb] at hb'; cases hb'
        exact hu

/-! ### arguments -/
theorem Opens.arg1 {t : TypeId} {α : Type} {E : α → AVal} {I : α → Prop} (hE : Opens P t α (fun a => [E a]) I) {H : Type} {enc : TypeId × Value → H} {W : World} {v : Value} {d : DataW H} {ps : List MemPlace} (hv : v.cells = #[v])
    (hd : DataW.Trod enc P W 0 (fun _ => true) true t v d ps) : ∃ a, I a ∧ VRel noMap (oldB W) W (E a) v := by
  obtain ⟨n, hn⟩ := hd
  obtain ⟨a, ia, va⟩ := hE H enc W n _ _ hn
  rw [hv] at va
  simp only [VRels] at va
  obtain ⟨u, us, h1, rfl, h2⟩ := va
  simp at h2
  exact ⟨a, ia, by rw [h2]; exact h1⟩
theorem Opens.argS {t : TypeId} {α : Type} {V : α → List AVal} {I : α → Prop} (hE : Opens P t α V I) {H : Type} {enc : TypeId × Value → H} {W : World} {v : Value} {d : DataW H} {ps : List MemPlace} {C : Array Value} (hv : v = .agg C)
    (hd : DataW.Trod enc P W 0 (fun _ => true) true t v d ps) : ∃ a, I a ∧ VRel noMap (oldB W) W (.agg (V a)) v := by
  obtain ⟨n, hn⟩ := hd
  obtain ⟨a, ia, va⟩ := hE H enc W n _ _ hn
  subst hv
  refine ⟨a, ia, ?_⟩
  simp only [VRel]
  exact ⟨C.toList, by simpa [Value.cells] using va, by simp⟩
end

/-! ### behind the call -/
def noHeap : AHeap := ⟨fun _ => none, 0⟩
theorem Rel_none (W : World) (hT : Tabs (oldB W) W := by exact ⟨by rw [tabs_none.1]; intro b hb; cases hb, tabs_none.2 _⟩) : Rel noHeap noMap (oldB W) W :=
  ⟨fun id o h => by simp [noHeap] at h, fun id id' b o o' x x' h => by simp [noHeap] at h, fun _ _ => rfl, fun b h => h, hT⟩
theorem sameAt_of {W W' : World} {m' : Map} {F' : Nat → Prop} (e : Ext noMap (oldB W) W m' F' W') {p : MemPlace} (hp : p.block < W.heap.size) : W.sameAt W' p := by
  cases p with
  | cell b off =>
    have := e.keep b hp
    simp only [World.sameAt, World.cell?, this]
  | map b => exact e.keep b hp
theorem post_of_true {H : Type} {enc : TypeId × Value → H} {P : Program} {f : Func} {s : ChangeSpec} {apart fresh handsOn again : Bool} {W W' : World} {args : Array Value} {ds gs : List (DataW H)} {before : List MemPlace} {m' : Map} {F' : Nat → Prop} {tb : TypeId}
    (hW : DataW.Whole enc P f.params.toList s.vars apart W args.toList ds gs before) (hs : s.vars = []) (hfn : s.fn H (ds ++ gs) = { results := [.lit (.bool true)], args := ds })
    (hT : f.params.toList.all (fun t => decide (t < P.types.size)) = true) (hK : (laidOutB P && mapsRowed P) = true) (hz : ((List.range P.types.size).all fun t => match P.underlying t with | some (.slice e) => decide (0 < P.cellsOf e) | _ => true) = true)
    (hr : f.resultTypes = #[tb]) (htb : P.underlying tb = some .bool) (e : Ext noMap (oldB W) W m' F' W') : s.post enc P f apart fresh handsOn again W args (.bool true) W' := by
  simp only [Bool.and_eq_true] at hK
  have hlt := hW.lt
  have hW0 := hW
  obtain ⟨p, q, hA, hV, rfl, hfz, hnd⟩ := hW
  rw [hs] at hV
  obtain ⟨rfl, rfl⟩ := trodVars_none hV
  simp only [List.append_nil] at *
  have kids := kids_rows hK.1 hK.2
  have hA' : DataW.TrodAll enc P W' 0 (fun _ => true) true f.params.toList args.toList ds p := by
    have go : ∀ (ts : List TypeId) (vs : List Value) (ds : List (DataW H)) (ps : List MemPlace), (∀ x ∈ ps, x.block < W.heap.size) → DataW.TrodAll enc P W 0 (fun _ => true) true ts vs ds ps → DataW.TrodAll enc P W' 0 (fun _ => true) true ts vs ds ps := by
      intro ts
      induction ts with
      | nil => intro vs ds ps hl h; obtain ⟨rfl, rfl, rfl⟩ := trodAll_nil h; exact trodAll_mk0
      | cons t ts ih =>
        intro vs ds ps hl h
        obtain ⟨v, vs1, d, ds1, a, b, rfl, rfl, rfl, ⟨n, hn⟩, h2⟩ := trodAll_cons h
        exact trodAll_cons_mk ⟨n, DataW.trod_carry n _ _ _ hn fun x hx => sameAt_of e (hl x (List.mem_append_left _ hx))⟩ (ih _ _ _ (fun x hx => hl x (List.mem_append_right _ hx)) h2)
    exact go _ _ _ _ hlt hA
  have hAs : ∀ sp : Nat → Bool, (∀ x ∈ p, sp x.block = true) → DataW.TrodAll enc P W' 0 sp true f.params.toList args.toList (s.fn H ds).args p := by
    intro sp hsp
    rw [hfn]
    exact DataW.TrodAll.respare kids (slices_full_of P hz) (fun t ht => of_decide_eq_true (List.all_eq_true.1 hT t ht)) hA' hsp
  have hres : ∀ (b : Nat) (sp : Nat → Bool) (hd : Bool), DataW.TrodAll enc P W' b sp hd f.resultTypes.toList ((Value.bool true).resultList f.resultTypes.size) (s.fn H ds).results [] := by
    intro b sp hd
    rw [hfn, hr]
    exact trodAll_mk1 (shut_bool htb true)
  have hold : ∀ x ∈ p, (fun b => decide (b < W.heap.size)) x.block = true := fun x hx => by simpa using hlt x hx
  refine ⟨ds, [], p, [], p, [], hW0, by simpa using hres _ _ _, by simpa using hAs _ hold, by simp [hs, DataW.TrodVars, hfn], ?_, fun _ => ?_⟩
  · refine ⟨e.os, e.output, fun i hi => ?_⟩
    rw [e.keep i hi]
    cases W.heap[i]? with
    | none => trivial
    | some o => cases o <;> simp
  · refine ⟨?_, _, ([] : List (DataW H)), ([] ++ p) ++ [], ⟨[] ++ p, [], trodAll_append (hAs _ (fun _ _ => rfl)) (hres _ _ _), by simp [hs, DataW.TrodVars], rfl, ?_, ?_⟩, ?_⟩
    · rw [hr]
      intro j t r h1 h2
      cases j with
      | zero =>
        simp at h1; subst h1
        simp [Value.resultList] at h2; subst h2
        exact okWide_bool_mk htb true
      | succ j => simp at h1
    · intro b off hp
      simp only [List.nil_append, List.append_nil] at hp
      have := hfz b off hp
      rw [← this]
      have hk := e.keep b (hlt _ hp)
      simp only [World.frozen?, hk]
    · intro ha; simpa using hnd ha
    · intro x hx _; simpa using hx
end Go.Proofs.YtcjlgmknclifmaaDoor.Ab
