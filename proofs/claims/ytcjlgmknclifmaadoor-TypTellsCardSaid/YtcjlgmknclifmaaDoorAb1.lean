/- Values by value, blocks of the call's own by number, and how they stand to the model's values and worlds. -/
import Derived.Test.YtcjlgmknclifmaaDoorAb0
set_option linter.unusedVariables false
set_option linter.unusedSimpArgs false
namespace Go.Proofs.YtcjlgmknclifmaaDoor.Ab
open Go

/-- A value as the abstract machine has it. -/
inductive AVal where
  | junk
  | int (k : IntKind) (n : Int)
  | bool (b : Bool)
  | anyb
  | str (s : ByteArray)
  | nilp
  | ptr (id off : Nat)
  | ref (v : AVal)
  | nils
  | vec (e : Nat) (full : Bool) (xs : List AVal)
  | sl (e id off len : Nat) (cap : Option Nat)
  | nilm
  | map (id : Nat)
  | clo (f : FuncId) (cs : List AVal)
  | nilf
  | iface (t : TypeId) (v : AVal)
  | nili
  | agg (cs : List AVal)
  | tup (vs : List AVal)
  deriving Inhabited

inductive AObj where
  | cells (ty : TypeId) (cs : List AVal)
  | map (es : List (AVal × AVal))
  deriving Inhabited

structure AHeap where
  f : Nat → Option AObj
  next : Nat

/-- Bound of lengths. -/
def big : Nat := 140737488355328
theorem big_eq : big = 140737488355328 := rfl
/-- Bound of what comes in. -/
def huge : Nat := 9223372036854775807
theorem huge_eq : huge = 9223372036854775807 := rfl
theorem big_huge {n : Nat} (h : n ≤ big) : n ≤ huge := Nat.le_trans h (by decide)

abbrev Map := Nat → Option (Nat × Nat)

def SizeAt (w : World) (b n : Nat) : Prop := ∃ C t fr, w.heap[b]? = some (.cells C t fr) ∧ n ≤ C.size

def CellAt (w : World) (b o : Nat) (v : Value) : Prop := ∃ C t fr, w.heap[b]? = some (.cells C t fr) ∧ C[o]? = some v

def VecAt (F : Nat → Prop) (w : World) (e : Nat) (A : Option Addr) (vs : List Value) : Prop :=
  (∀ x ∈ vs, x.cells.size = e) ∧
  (vs ≠ [] → ∃ b o, A = some ⟨b, o, none⟩ ∧ F b ∧ ∀ i x, vs[i]? = some x → ∀ j c, x.cells[j]? = some c → CellAt w b (o + i * e + j) c)

mutual
def VRel (m : Map) (F : Nat → Prop) (w : World) : AVal → Value → Prop
  | .junk, _ => True
  | .int k n, v => v = .int k n
  | .bool b, v => v = .bool b
  | .anyb, v => ∃ b, v = .bool b
  | .str s, v => v = .string s ∧ s.size ≤ huge
  | .nilp, v => v = .pointer none
  | .ptr id off, v => ∃ b o, m id = some (b, o) ∧ v = .pointer (some ⟨b, o + off, none⟩)
  | .ref x, v => ∃ b o u, VRel m F w x u ∧ F b ∧ v = .pointer (some ⟨b, o, none⟩) ∧ ∀ i c, u.cells[i]? = some c → CellAt w b (o + i) c
  | .nils, v => v = .slice none 0 0
  | .vec e full xs, v => ∃ A c vs, VRels m F w xs vs ∧ v = .slice A vs.length c ∧ vs.length ≤ c ∧ vs.length ≤ huge ∧ (full = true → c = vs.length) ∧ VecAt F w e A vs
  | .sl e id off len cap, v => ∃ b o A c, m id = some (b, o) ∧ v = .slice (some A) len c ∧ len ≤ c ∧ (0 < c → A = ⟨b, o + off, none⟩) ∧ (∀ k, cap = some k → c = k) ∧
      (0 < c → SizeAt w b (o + off + c * e)) ∧ len ≤ big
  | .nilm, v => v = .map none
  | .map id, v => ∃ b, m id = some (b, 0) ∧ v = .map (some b)
  | .clo f cs, v => ∃ us, VRels m F w cs us ∧ v = .func (.func f) #[] us.toArray
  | .nilf, v => v = .nilFunc
  | .iface t x, v => ∃ u, VRel m F w x u ∧ v = .iface t u
  | .nili, v => v = .nilIface
  | .agg cs, v => ∃ us, VRels m F w cs us ∧ v = .agg us.toArray
  | .tup cs, v => ∃ us, VRels m F w cs us ∧ v = .tuple us.toArray
def VRels (m : Map) (F : Nat → Prop) (w : World) : List AVal → List Value → Prop
  | [], vs => vs = []
  | x :: xs, vs => ∃ u us, VRel m F w x u ∧ VRels m F w xs us ∧ vs = u :: us
end

/-- What a step may do. -/
structure Ext (m : Map) (F : Nat → Prop) (w : World) (m' : Map) (F' : Nat → Prop) (w' : World) : Prop where
  mm : ∀ id x, m id = some x → m' id = some x
  ff : ∀ b, F b → F' b
  keep : ∀ b, F b → w'.heap[b]? = w.heap[b]?
  shp : ∀ b n, SizeAt w b n → SizeAt w' b n
  size : w.heap.size ≤ w'.heap.size
  os : w'.os = w.os
  tape : w'.tape = w.tape
  output : w'.output = w.output

theorem Ext.refl (m : Map) (F : Nat → Prop) (w : World) : Ext m F w m F w :=
  ⟨fun _ _ h => h, fun _ h => h, fun _ _ => rfl, fun _ _ h => h, Nat.le_refl _, rfl, rfl, rfl⟩
theorem Ext.trans {m m' m'' : Map} {F F' F'' : Nat → Prop} {w w' w'' : World} (h : Ext m F w m' F' w') (k : Ext m' F' w' m'' F'' w'') : Ext m F w m'' F'' w'' :=
  ⟨fun id x hx => k.mm id x (h.mm id x hx), fun b hb => k.ff b (h.ff b hb), fun b hb => (k.keep b (h.ff b hb)).trans (h.keep b hb),
   fun b n hs => k.shp b n (h.shp b n hs), Nat.le_trans h.size k.size, k.os.trans h.os, k.tape.trans h.tape, k.output.trans h.output⟩

theorem CellAt.ext {m m' : Map} {F F' : Nat → Prop} {w w' : World} (h : Ext m F w m' F' w') {b o : Nat} {v : Value} (hF : F b) (hc : CellAt w b o v) : CellAt w' b o v := by
  obtain ⟨C, t, fr, h1, h2⟩ := hc
  exact ⟨C, t, fr, by rw [h.keep b hF]; exact h1, h2⟩
theorem VecAt.ext {m m' : Map} {F F' : Nat → Prop} {w w' : World} (h : Ext m F w m' F' w') {e : Nat} {A : Option Addr} {vs : List Value} (hv : VecAt F w e A vs) : VecAt F' w' e A vs := by
  refine ⟨hv.1, fun hne => ?_⟩
  obtain ⟨b, o, rfl, hF, hc⟩ := hv.2 hne
  exact ⟨b, o, rfl, h.ff b hF, fun i x hi j c hj => (hc i x hi j c hj).ext h hF⟩

mutual
theorem VRel.ext {m m' : Map} {F F' : Nat → Prop} {w w' : World} (h : Ext m F w m' F' w') : ∀ (x : AVal) (v : Value), VRel m F w x v → VRel m' F' w' x v
  | .junk, v, _ => by simp only [VRel]
  | .int k n, v, hv => by simp only [VRel] at hv ⊢; exact hv
  | .bool b, v, hv => by simp only [VRel] at hv ⊢; exact hv
  | .anyb, v, hv => by simp only [VRel] at hv ⊢; exact hv
  | .str s, v, hv => by simp only [VRel] at hv ⊢; exact hv
  | .nilp, v, hv => by simp only [VRel] at hv ⊢; exact hv
  | .ptr id off, v, hv => by
    simp only [VRel] at hv ⊢
    obtain ⟨b, o, h1, h2⟩ := hv
    exact ⟨b, o, h.mm _ _ h1, h2⟩
  | .ref x, v, hv => by
    simp only [VRel] at hv ⊢
    obtain ⟨b, o, u, h1, h2, h3, h4⟩ := hv
    exact ⟨b, o, u, VRel.ext h x u h1, h.ff _ h2, h3, fun i c hi => (h4 i c hi).ext h h2⟩
  | .nils, v, hv => by simp only [VRel] at hv ⊢; exact hv
  | .vec e full xs, v, hv => by
    simp only [VRel] at hv ⊢
    obtain ⟨A, c, vs, h1, h2, h3, h4, h6, h5⟩ := hv
    exact ⟨A, c, vs, VRels.ext h xs vs h1, h2, h3, h4, h6, h5.ext h⟩
  | .sl e id off len cap, v, hv => by
    simp only [VRel] at hv ⊢
    obtain ⟨b, o, A, c, h1, h2, h3, h4, h5, h6, h7⟩ := hv
    exact ⟨b, o, A, c, h.mm _ _ h1, h2, h3, h4, h5, fun hp => h.shp _ _ (h6 hp), h7⟩
  | .nilm, v, hv => by simp only [VRel] at hv ⊢; exact hv
  | .map id, v, hv => by
    simp only [VRel] at hv ⊢
    obtain ⟨b, h1, h2⟩ := hv
    exact ⟨b, h.mm _ _ h1, h2⟩
  | .clo f cs, v, hv => by
    simp only [VRel] at hv ⊢
    obtain ⟨us, h1, h2⟩ := hv
    exact ⟨us, VRels.ext h cs us h1, h2⟩
  | .nilf, v, hv => by simp only [VRel] at hv ⊢; exact hv
  | .iface t x, v, hv => by
    simp only [VRel] at hv ⊢
    obtain ⟨u, h1, h2⟩ := hv
    exact ⟨u, VRel.ext h x u h1, h2⟩
  | .nili, v, hv => by simp only [VRel] at hv ⊢; exact hv
  | .agg cs, v, hv => by
    simp only [VRel] at hv ⊢
    obtain ⟨us, h1, h2⟩ := hv
    exact ⟨us, VRels.ext h cs us h1, h2⟩
  | .tup cs, v, hv => by
    simp only [VRel] at hv ⊢
    obtain ⟨us, h1, h2⟩ := hv
    exact ⟨us, VRels.ext h cs us h1, h2⟩
theorem VRels.ext {m m' : Map} {F F' : Nat → Prop} {w w' : World} (h : Ext m F w m' F' w') : ∀ (xs : List AVal) (vs : List Value), VRels m F w xs vs → VRels m' F' w' xs vs
  | [], vs, hv => by simp only [VRels] at hv ⊢; exact hv
  | x :: xs, vs, hv => by
    simp only [VRels] at hv ⊢
    obtain ⟨u, us, h1, h2, h3⟩ := hv
    exact ⟨u, us, VRel.ext h x u h1, VRels.ext h xs us h2, h3⟩
end

/-! ### lists of values -/
theorem VRels.length {m : Map} {F : Nat → Prop} {w : World} : ∀ {xs : List AVal} {vs : List Value}, VRels m F w xs vs → vs.length = xs.length
  | [], vs, h => by simp only [VRels] at h; simp [h]
  | x :: xs, vs, h => by
    simp only [VRels] at h
    obtain ⟨u, us, _, h2, rfl⟩ := h
    simp [VRels.length h2]
theorem VRels.get {m : Map} {F : Nat → Prop} {w : World} : ∀ {xs : List AVal} {vs : List Value}, VRels m F w xs vs → ∀ {i : Nat} {x : AVal}, xs[i]? = some x → ∃ v, vs[i]? = some v ∧ VRel m F w x v
  | [], vs, h, i, x, hi => by simp at hi
  | y :: xs, vs, h, i, x, hi => by
    simp only [VRels] at h
    obtain ⟨u, us, h1, h2, rfl⟩ := h
    cases i with
    | zero => simp at hi; subst hi; exact ⟨u, by simp, h1⟩
    | succ i => simp at hi; obtain ⟨v, hv, hr⟩ := VRels.get h2 hi; exact ⟨v, by simpa using hv, hr⟩
theorem VRels.get' {m : Map} {F : Nat → Prop} {w : World} {xs : List AVal} {vs : List Value} (h : VRels m F w xs vs) {i : Nat} {v : Value} (hi : vs[i]? = some v) : ∃ x, xs[i]? = some x ∧ VRel m F w x v := by
  have hl := h.length
  have hlt : i < xs.length := by have := (List.getElem?_eq_some_iff.1 hi).1; omega
  obtain ⟨v', h1, h2⟩ := h.get (List.getElem?_eq_getElem hlt)
  rw [hi] at h1
  cases h1
  exact ⟨_, List.getElem?_eq_getElem hlt, h2⟩
theorem VRels.mk {m : Map} {F : Nat → Prop} {w : World} : ∀ {xs : List AVal} {vs : List Value}, vs.length = xs.length → (∀ (i : Nat) (x : AVal) (v : Value), xs[i]? = some x → vs[i]? = some v → VRel m F w x v) → VRels m F w xs vs
  | [], vs, hl, _ => by simp only [VRels]; exact List.eq_nil_of_length_eq_zero hl
  | x :: xs, [], hl, _ => by simp at hl
  | x :: xs, v :: vs, hl, h => by
    simp only [VRels]
    exact ⟨v, vs, h 0 x v (by simp) (by simp), VRels.mk (by simpa using hl) (fun i a b ha hb => h (i + 1) a b (by simpa using ha) (by simpa using hb)), rfl⟩
theorem VRels.append {m : Map} {F : Nat → Prop} {w : World} : ∀ {xs ys : List AVal} {vs us : List Value}, VRels m F w xs vs → VRels m F w ys us → VRels m F w (xs ++ ys) (vs ++ us)
  | [], ys, vs, us, h, k => by simp only [VRels] at h; subst h; simpa using k
  | x :: xs, ys, vs, us, h, k => by
    simp only [VRels] at h
    obtain ⟨u, us', h1, h2, rfl⟩ := h
    simp only [List.cons_append, VRels]
    exact ⟨u, us' ++ us, h1, VRels.append h2 k, rfl⟩
theorem VRels.take {m : Map} {F : Nat → Prop} {w : World} {xs : List AVal} {vs : List Value} (h : VRels m F w xs vs) (n : Nat) : VRels m F w (xs.take n) (vs.take n) := by
  refine VRels.mk (by simp [h.length]) fun i x v hx hv => ?_
  rw [List.getElem?_take] at hx hv
  split at hx
  · rename_i hlt
    rw [if_pos hlt] at hv
    obtain ⟨v', h1, h2⟩ := h.get hx
    rw [hv] at h1; cases h1; exact h2
  · cases hx
theorem VRels.drop {m : Map} {F : Nat → Prop} {w : World} {xs : List AVal} {vs : List Value} (h : VRels m F w xs vs) (n : Nat) : VRels m F w (xs.drop n) (vs.drop n) := by
  refine VRels.mk (by simp [h.length]) fun i x v hx hv => ?_
  rw [List.getElem?_drop] at hx hv
  obtain ⟨v', h1, h2⟩ := h.get hx
  rw [hv] at h1; cases h1; exact h2

/-! ### cells -/
def AVal.cells : AVal → List AVal
  | .agg cs => cs
  | v => [v]
/-- One cell of memory, and known. -/
def AVal.one : AVal → Bool
  | .agg _ | .tup _ | .junk => false
  | _ => true
theorem oneCell_of {m : Map} {F : Nat → Prop} {w : World} {x : AVal} {v : Value} (h : VRel m F w x v) (h1 : x.one = true) : v.oneCell' = true := by
  cases x <;> simp only [VRel, AVal.one, Bool.false_eq_true] at h h1
  case int => subst h; rfl
  case bool => subst h; rfl
  case anyb => obtain ⟨b, rfl⟩ := h; rfl
  case str => rw [h.1]; rfl
  case nilp => subst h; rfl
  case ptr => obtain ⟨b, o, _, rfl⟩ := h; rfl
  case ref => obtain ⟨b, o, u, _, _, rfl, _⟩ := h; rfl
  case nils => subst h; rfl
  case vec => obtain ⟨A, c, vs, _, rfl, _⟩ := h; rfl
  case sl => obtain ⟨b, o, A, c, _, rfl, _⟩ := h; rfl
  case nilm => subst h; rfl
  case map => obtain ⟨b, _, rfl⟩ := h; rfl
  case clo => obtain ⟨us, _, rfl⟩ := h; rfl
  case nilf => subst h; rfl
  case iface => obtain ⟨u, _, rfl⟩ := h; rfl
  case nili => subst h; rfl
theorem cells_of_one {v : Value} (h : v.oneCell' = true) : v.cells = #[v] := by
  cases v <;> first | rfl | simp [Value.oneCell'] at h
/-- All cells are single and known. -/
def ones (cs : List AVal) : Bool := cs.all AVal.one
theorem VRel.cells {m : Map} {F : Nat → Prop} {w : World} {x : AVal} {v : Value} (h : VRel m F w x v) (h1 : ones x.cells = true) : VRels m F w x.cells v.cells.toList := by
  cases hx : x with
  | agg cs =>
    subst hx
    simp only [VRel] at h
    obtain ⟨us, h2, rfl⟩ := h
    simpa [AVal.cells, Value.cells] using h2
  | _ =>
    all_goals
      have h2 : x.one = true := by simpa [hx, AVal.cells, ones] using h1
      have h3 := oneCell_of h h2
      rw [cells_of_one h3, ← hx]
      have : x.cells = [x] := by rw [hx]; rfl
      rw [this]
      simp only [VRels]
      exact ⟨v, [], h, rfl, rfl⟩
theorem VRels.ones {m : Map} {F : Nat → Prop} {w : World} {xs : List AVal} {vs : List Value} (h : VRels m F w xs vs) (h1 : ones xs = true) : ∀ v ∈ vs, v.oneCell' = true := by
  intro v hv
  obtain ⟨i, hi⟩ := List.getElem?_of_mem hv
  obtain ⟨x, hx, hr⟩ := h.get' hi
  exact oneCell_of hr (by simp [Ab.ones] at h1; exact h1 x (List.mem_of_getElem? hx))

/-! ### blocks -/
inductive ORel (m : Map) (F : Nat → Prop) (w : World) : AObj → Nat → Nat → Prop
  | cells {ty : TypeId} {cs : List AVal} {b off : Nat} {C : Array Value} {fr : Nat × Nat} (hb : w.heap[b]? = some (.cells C ty fr)) (hl : off + cs.length ≤ C.size)
      (hfr : fr.1 = fr.2 ∨ C.size ≤ fr.1) (hc : ∀ i x, cs[i]? = some x → ∃ v, C[off + i]? = some v ∧ v.oneCell' = true ∧ VRel m F w x v) : ORel m F w (.cells ty cs) b off
  | map {es : List (AVal × AVal)} {b : Nat} {E : Array MapEntry} {clock : Nat} (hb : w.heap[b]? = some (.map E clock)) (hl : E.size = es.length)
      (hc : ∀ (i : Nat) (x : AVal × AVal) (e : MapEntry), es[i]? = some x → E[i]? = some e → VRel m F w x.1 e.key ∧ VRel m F w x.2 e.val) : ORel m F w (.map es) b 0

theorem ORel.ext {m m' : Map} {F F' : Nat → Prop} {w w' : World} (h : Ext m F w m' F' w') {o : AObj} {b off : Nat} (hb' : w'.heap[b]? = w.heap[b]?) (k : ORel m F w o b off) : ORel m' F' w' o b off := by
  cases k with
  | cells hb hl hfr hc => exact .cells (by rw [hb']; exact hb) hl hfr fun i x hx => let ⟨v, h1, h2, h3⟩ := hc i x hx; ⟨v, h1, h2, h3.ext h⟩
  | map hb hl hc => exact .map (by rw [hb']; exact hb) hl fun i x e hx he => ⟨(hc i x e hx he).1.ext h, (hc i x e hx he).2.ext h⟩

/-- The tables lie in blocks that are never written. -/
def Tabs (F : Nat → Prop) (w : World) : Prop := (∀ b ∈ tabBlocks, F b) ∧ TabP w
theorem Tabs.ext {m m' : Map} {F F' : Nat → Prop} {w w' : World} (e : Ext m F w m' F' w') (t : Tabs F w) : Tabs F' w' :=
  ⟨fun b hb => e.ff b (t.1 b hb), TabP_ext (fun b hb => e.keep b (t.1 b hb)) t.2⟩
structure Rel (h : AHeap) (m : Map) (F : Nat → Prop) (w : World) : Prop where
  live : ∀ id o, h.f id = some o → ∃ b off, m id = some (b, off) ∧ ¬ F b ∧ ORel m F w o b off
  inj : ∀ id id' b o o' x x', h.f id = some x → h.f id' = some x' → m id = some (b, o) → m id' = some (b, o') → id = id'
  old : ∀ id, h.next ≤ id → m id = none
  flt : ∀ b, F b → b < w.heap.size
  tab : Tabs F w

theorem ORel.lt {m : Map} {F : Nat → Prop} {w : World} {o : AObj} {b off : Nat} (k : ORel m F w o b off) : b < w.heap.size := by
  cases k with
  | cells hb => exact (Array.getElem?_eq_some_iff.1 hb).1
  | map hb => exact (Array.getElem?_eq_some_iff.1 hb).1
theorem Rel.lt_next {h : AHeap} {m : Map} {F : Nat → Prop} {w : World} (r : Rel h m F w) {id : Nat} {o : AObj} (hi : h.f id = some o) : id < h.next := by
  obtain ⟨b, off, h1, _⟩ := r.live id o hi
  rcases Nat.lt_or_ge id h.next with hlt | hge
  · exact hlt
  · rw [r.old id hge] at h1; cases h1

/-! ### the heap's moves -/
def AHeap.alloc (h : AHeap) (o : AObj) : AHeap := ⟨fun i => if i = h.next then some o else h.f i, h.next + 1⟩
def AHeap.put (h : AHeap) (id : Nat) (o : AObj) : AHeap := ⟨fun i => if i = id then some o else h.f i, h.next⟩
def AHeap.drop (h : AHeap) (id : Nat) : AHeap := ⟨fun i => if i = id then none else h.f i, h.next⟩
def Map.put (m : Map) (id : Nat) (x : Nat × Nat) : Map := fun i => if i = id then some x else m i

theorem heap_push_lt (w : World) (o : Obj) (b : Nat) (hb : b < w.heap.size) : (w.alloc o).heap[b]? = w.heap[b]? := by
  show (w.heap.push o)[b]? = _
  rw [Array.getElem?_push, if_neg (by omega)]
theorem heap_push_at (w : World) (o : Obj) : (w.alloc o).heap[w.heap.size]? = some o := by
  show (w.heap.push o)[w.heap.size]? = _
  simp
theorem SizeAt.lt {w : World} {b n : Nat} (h : SizeAt w b n) : b < w.heap.size := by
  obtain ⟨C, t, fr, h1, _⟩ := h
  exact (Array.getElem?_eq_some_iff.1 h1).1

/-- A new block. -/
theorem Rel.alloc {h : AHeap} {m : Map} {F : Nat → Prop} {w : World} (r : Rel h m F w) (o : AObj) (O : Obj)
    (ho : ∀ m' w', Ext m F w m' F w' → w'.heap[w.heap.size]? = some O → ORel m' F w' o w.heap.size 0) :
    Rel (h.alloc o) (Map.put m h.next (w.heap.size, 0)) F (w.alloc O) ∧ Ext m F w (Map.put m h.next (w.heap.size, 0)) F (w.alloc O) := by
  have e : Ext m F w (Map.put m h.next (w.heap.size, 0)) F (w.alloc O) := by
    refine ⟨fun id x hx => ?_, fun _ hb => hb, fun b hb => heap_push_lt w O b (r.flt b hb), fun b n hs => ?_, ?_, rfl, rfl, rfl⟩
    · unfold Map.put
      split
      · rename_i he; subst he; rw [r.old _ (Nat.le_refl _)] at hx; cases hx
      · exact hx
    · obtain ⟨C, t, fr, h1, h2⟩ := hs
      exact ⟨C, t, fr, by rw [heap_push_lt w O b (Array.getElem?_eq_some_iff.1 h1).1]; exact h1, h2⟩
    · show w.heap.size ≤ (w.heap.push O).size
      simp
  refine ⟨⟨fun id x hx => ?_, fun id id' b o1 o2 x x' h1 h2 h3 h4 => ?_, fun id hid => ?_, fun b hb => ?_, r.tab.ext e⟩, e⟩
  · simp only [AHeap.alloc] at hx
    by_cases hid : id = h.next
    · subst hid
      simp only [if_true] at hx
      cases hx
      exact ⟨w.heap.size, 0, by simp [Map.put], fun hF => absurd (r.flt _ hF) (by omega), ho _ _ e (heap_push_at w O)⟩
    · rw [if_neg hid] at hx
      obtain ⟨b, off, h1, h2, h3⟩ := r.live id x hx
      exact ⟨b, off, e.mm _ _ h1, h2, h3.ext e (heap_push_lt w O b h3.lt)⟩
  · simp only [AHeap.alloc] at h1 h2
    simp only [Map.put] at h3 h4
    by_cases e1 : id = h.next <;> by_cases e2 : id' = h.next
    · rw [e1, e2]
    · rw [if_pos e1] at h3; rw [if_neg e2] at h4 h2
      obtain ⟨b', off', k1, _, k3⟩ := r.live id' x' h2
      rw [h4] at k1; cases k1; cases h3
      exact absurd k3.lt (by omega)
    · rw [if_neg e1] at h3 h1; rw [if_pos e2] at h4
      obtain ⟨b', off', k1, _, k3⟩ := r.live id x h1
      rw [h3] at k1; cases k1; cases h4
      exact absurd k3.lt (by omega)
    · rw [if_neg e1] at h3 h1; rw [if_neg e2] at h4 h2
      exact r.inj id id' b o1 o2 x x' h1 h2 h3 h4
  · simp only [AHeap.alloc] at hid
    simp only [Map.put]
    rw [if_neg (by omega)]
    exact r.old id (by omega)
  · have := r.flt b hb
    show b < (w.heap.push O).size
    simp; omega

/-- A block written: what stands in it, and what is told of it, turn; all else is as it was. -/
theorem Rel.write {h : AHeap} {m : Map} {F : Nat → Prop} {w w' : World} (r : Rel h m F w) {id b off : Nat} {o o' : AObj} (hi : h.f id = some o) (hm : m id = some (b, off))
    (hother : ∀ k, k ≠ b → w'.heap[k]? = w.heap[k]?) (hsz : w'.heap.size = w.heap.size) (hs : ∀ n, SizeAt w b n → SizeAt w' b n)
    (ho : Ext m F w m F w' → ORel m F w' o' b off) (h1 : w'.os = w.os) (h2 : w'.tape = w.tape) (h3 : w'.output = w.output) : Rel (h.put id o') m F w' ∧ Ext m F w m F w' := by
  obtain ⟨b0, off0, k1, kF, k3⟩ := r.live id o hi
  rw [hm] at k1; cases k1
  have e : Ext m F w m F w' := ⟨fun _ _ h => h, fun _ h => h, fun c hc => hother c (fun e => kF (e ▸ hc)), fun c n hn => by
    by_cases hcb : c = b
    · subst hcb; exact hs n hn
    · obtain ⟨C, t, fr, g1, g2⟩ := hn
      exact ⟨C, t, fr, by rw [hother c hcb]; exact g1, g2⟩, by omega, h1, h2, h3⟩
  refine ⟨⟨fun id1 x hx => ?_, fun id1 id2 c o1 o2 x x' g1 g2 g3 g4 => ?_, r.old, fun c hc => by rw [hsz]; exact r.flt c hc, r.tab.ext e⟩, e⟩
  · simp only [AHeap.put] at hx
    by_cases he : id1 = id
    · subst he
      simp only [if_true] at hx; cases hx
      exact ⟨b, off, hm, kF, ho e⟩
    · rw [if_neg he] at hx
      obtain ⟨b1, off1, g1, g2, g3⟩ := r.live id1 x hx
      refine ⟨b1, off1, g1, g2, g3.ext e (hother b1 fun hb => he ?_)⟩
      subst hb
      exact r.inj id1 id b1 off1 off x o hx hi g1 hm
  · have un : ∀ i y, (h.put id o').f i = some y → ∃ y', h.f i = some y' := by
      intro i y hy
      simp only [AHeap.put] at hy
      by_cases hii : i = id
      · subst hii; exact ⟨o, hi⟩
      · rw [if_neg hii] at hy; exact ⟨y, hy⟩
    obtain ⟨y1, e1⟩ := un id1 x g1
    obtain ⟨y2, e2⟩ := un id2 x' g2
    exact r.inj id1 id2 c o1 o2 y1 y2 e1 e2 g3 g4

/-- Some blocks are told of no more. -/
theorem Rel.sub {h h' : AHeap} {m : Map} {F : Nat → Prop} {w : World} (r : Rel h m F w) (hf : ∀ id o, h'.f id = some o → h.f id = some o) (hn : h.next ≤ h'.next) : Rel h' m F w :=
  ⟨fun id o hi => r.live id o (hf id o hi), fun id id' b o o' x x' h1 h2 h3 h4 => r.inj id id' b o o' x x' (hf _ _ h1) (hf _ _ h2) h3 h4, fun id hid => r.old id (by omega), r.flt, r.tab⟩
/-- An order was drawn. -/
theorem Rel.drew {h : AHeap} {m : Map} {F : Nat → Prop} {w w' : World} (r : Rel h m F w) (hh : w'.heap = w.heap) (h1 : w'.os = w.os) (h2 : w'.tape = w.tape) (h3 : w'.output = w.output) : Rel h m F w' ∧ Ext m F w m F w' := by
  have e : Ext m F w m F w' := ⟨fun _ _ h => h, fun _ h => h, fun c hc => by rw [hh], fun c n hn => by
    obtain ⟨C, t, fr, g1, g2⟩ := hn
    exact ⟨C, t, fr, by rw [hh]; exact g1, g2⟩, by rw [hh]; exact Nat.le_refl _, h1, h2, h3⟩
  exact ⟨⟨fun id o hi => let ⟨b, off, g1, g2, g3⟩ := r.live id o hi; ⟨b, off, g1, g2, g3.ext e (by rw [hh])⟩, r.inj, r.old, fun b hb => by rw [hh]; exact r.flt b hb, r.tab.ext e⟩, e⟩

/-- A block of the call's own becomes a value: its cells are read from here on, never written. -/
theorem Rel.freeze {h : AHeap} {m : Map} {F : Nat → Prop} {w : World} (r : Rel h m F w) {id b off : Nat} {o : AObj} (hi : h.f id = some o) (hm : m id = some (b, off)) :
    Rel (h.drop id) m (fun c => F c ∨ c = b) w ∧ Ext m F w m (fun c => F c ∨ c = b) w := by
  have e : Ext m F w m (fun c => F c ∨ c = b) w := ⟨fun _ _ h => h, fun _ h => .inl h, fun _ _ => rfl, fun _ _ h => h, Nat.le_refl _, rfl, rfl, rfl⟩
  obtain ⟨b0, off0, k1, kF, k3⟩ := r.live id o hi
  rw [hm] at k1; cases k1
  refine ⟨⟨fun id1 x hx => ?_, fun id1 id2 c o1 o2 x x' g1 g2 g3 g4 => ?_, r.old, fun c hc => ?_, r.tab.ext e⟩, e⟩
  · simp only [AHeap.drop] at hx
    by_cases he : id1 = id
    · rw [if_pos he] at hx; cases hx
    · rw [if_neg he] at hx
      obtain ⟨b1, off1, g1, g2, g3⟩ := r.live id1 x hx
      refine ⟨b1, off1, g1, fun hc => ?_, g3.ext e rfl⟩
      rcases hc with hc | hc
      · exact g2 hc
      · subst hc; exact he (r.inj id1 id b1 off1 off x o hx hi g1 hm)
  · simp only [AHeap.drop] at g1 g2
    split at g1 <;> try cases g1
    split at g2 <;> try cases g2
    exact r.inj id1 id2 c o1 o2 _ _ (by assumption) (by assumption) g3 g4
  · rcases hc with hc | hc
    · exact r.flt c hc
    · subst hc; exact k3.lt
end Go.Proofs.YtcjlgmknclifmaaDoor.Ab
