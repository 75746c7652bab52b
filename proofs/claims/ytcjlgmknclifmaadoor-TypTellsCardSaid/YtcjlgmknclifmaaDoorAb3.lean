/- How the model's operations are told by the abstract code; those that leave memory alone. -/
import Derived.Test.YtcjlgmknclifmaaDoorAb2
import Derived.Laws.StructEq
set_option linter.unusedVariables false
set_option linter.unusedSimpArgs false
namespace Go.Proofs.YtcjlgmknclifmaaDoor.Ab
open Go

/-! ### resolving -/
def toA1 : Value → Option AVal
  | .int k n => some (.int k n)
  | .bool b => some (.bool b)
  | .string s => if s.size ≤ big then some (.str s) else none
  | .pointer none => some .nilp
  | .slice none 0 0 => some .nils
  | .map none => some .nilm
  | .nilFunc => some .nilf
  | .nilIface => some .nili
  | _ => none
def toAs : List Value → Option (List AVal)
  | [] => some []
  | v :: r => match toA1 v, toAs r with | some x, some xs => some (x :: xs) | _, _ => none
def toA : Value → Option AVal
  | .agg cs => (toAs cs.toList).map .agg
  | v => toA1 v
def rOpd : Operand → Option Opd
  | .tmp t => some (.tmp t)
  | .const v => (toA v).map .con
  | .func f => some (.con (.clo f []))
  | .global _ => none
def rOpds : List Operand → Option (List Opd)
  | [] => some []
  | v :: r => match rOpd v, rOpds r with | some x, some xs => some (x :: xs) | _, _ => none
def rOpt : Option Operand → Option (Option Opd)
  | none => some none
  | some x => (rOpd x).map some
def rParts (place : Nat → Option (Nat × Nat)) : List (Nat × Operand) → Option (List (Nat × Nat × Opd))
  | [] => some []
  | (i, x) :: r => match place i, rOpd x, rParts place r with | some (o, n), some y, some l => some ((o, n, y) :: l) | _, _, _ => none

/-- Of a type: a struct's or an array's number of cells; else one cell. -/
def aggN (P : Program) (t : TypeId) : Option (Option Nat) :=
  match P.underlying t, P.info? t with
  | some (.struct _), some i => some (some i.size)
  | some (.array _ _), some i => some (some i.size)
  | some _, some i => if i.size = 1 then some none else none
  | _, _ => none
def zeroA (P : Program) (t : TypeId) : Option AVal := ((P.info? t).bind (·.zero)).bind toA
def zeroCs (P : Program) (t : TypeId) : Option (List AVal) := ((P.info? t).bind (·.zero)).bind fun v => toAs v.cells.toList
def eqK (P : Program) (t : TypeId) : Option EqK :=
  match P.underlying t with
  | some .bool => some .bool
  | some (.int _) => some .int
  | some .string => some .str
  | some (.slice _) => some .slice
  | some (.map _ _) => some .map
  | some (.func _ _ _) => some .func
  | some (.pointer _) => some .ptr
  | _ => none
/-- A struct of bools, ints and strings, cell by cell. -/
def plainK (P : Program) : Nat → List Field → Option (List EqK)
  | _, [] => some []
  | off, f :: fs =>
    if f.name ≠ "_" ∧ f.offset = off then
      match eqK P f.type, plainK P (off + 1) fs with
      | some k, some ks => if k = .bool ∨ k = .int ∨ k = .str then some (k :: ks) else none
      | _, _ => none
    else none
def rBin (P : Program) (op : BinOp) (t : TypeId) (x y : Operand) : Option AOp :=
  match rOpd x, rOpd y with
  | some x, some y =>
    if op = .eql ∨ op = .neq then
      match P.underlying t with
      | some (.int _) | some .string => some (.bin op x y)
      | some (.struct fs) =>
        if P.stoodInHeld t = false ∧ P.eqGuardType P.depth t = false then
          match plainK P 0 fs.toList, P.info? t with
          | some ks, some i => if ks.length = i.size then some (.eqs (op = .neq) ks x y) else none
          | _, _ => none
        else none
      | _ => match eqK P t with | some k => some (.eqv (op = .neq) k x y) | none => none
    else some (.bin op x y)
  | _, _ => none

def markable (P : Program) (src dst e : TypeId) : Bool := src == dst && (P.underlying e matches some (.int .u8))
def rConv (P : Program) (src dst : TypeId) (x : Operand) : Option AOp :=
  match rOpd x, P.underlying src, P.underlying dst with
  | some x, some (.int _), some (.int k) => some (.conv k x)
  | some x, some .string, some .string => some (.convs x)
  | some x, some (.slice e), some .string => if P.underlying e matches some (.int .u8) then some (.b2s x) else none
  | some x, some .string, some (.slice e) => if P.underlying e matches some (.int .u8) then some (.s2b e x) else none
  | some x, some (.slice _), some (.slice e) => if markable P src dst e then some (.mark x) else none
  | _, _, _ => none

def rCall (P : Program) (c : Call) : Option AOp :=
  match c.callee with
  | .value (.func f) => if isBody P f then (rOpds c.args.toList).map (.call f) else none
  | .value x => match rOpd x, rOpds c.args.toList with | some x, some l => some (.callv x l) | _, _ => none
  | .builtin .len =>
    match c.argTypes.toList, rOpds c.args.toList with
    | [t], some [x] => (match eqK P t with | some .str => some (.len .str x) | some .slice => some (.len .slice x) | some .map => some (.len .map x) | _ => none)
    | _, _ => none
  | .builtin .append =>
    match c.argTypes.toList, rOpds c.args.toList with
    | [t, u], some [x, y] =>
      (match P.underlying t, P.underlying u with
       | some (.slice e), some (.slice _) | some (.slice e), some .string => (match P.info? e with | some i => if i.size ≠ 0 ∧ i.bytes ≠ 0 ∧ (i.zero.map fun z => z.cells.size) = some i.size ∧ (i.zero.map fun z => z.cells.all fun c => c.oneCell') = some true then some (.append e i.size i.bytes x y) else none | none => none)
       | _, _ => none)
    | _, _ => none
  | .builtin .min => (rOpds c.args.toList).map (.minmax false)
  | .builtin .max => (rOpds c.args.toList).map (.minmax true)
  | _ => none

def resolveOp (P : Program) (o : Oper) : Option AOp :=
  match o.op with
  | .move x | .assign x => (rOpd x).map .move
  | .pick c a b => match rOpd c, rOpd a, rOpd b with | some c, some a, some b => some (.pick c a b) | _, _, _ => none
  | .load t x => match aggN P t, rOpd x with | some n, some x => some (.load n x) | _, _ => none
  | .nilCheck x => (rOpd x).map .nilc
  | .binOp op t x y _ => rBin P op t x y
  | .unOp op _ x => if op = .neg ∨ op = .not then (rOpd x).map (.un op) else none
  | .convert src dst x => rConv P src dst x
  | .makeFunc (.func f) first cap => if first.size = 0 ∧ isBody P f then (rOpds cap.toList).map (.mkfunc f) else none
  | .makeInterface t x => match P.underlying t, rOpd x with | some (.interface _), _ => none | some _, some x => some (.mkiface t x) | _, _ => none
  | .typeAssert x _ t ok => match P.underlying t, rOpd x, zeroA P t with | some (.interface _), _, _ => none | some _, some x, some z => some (.asrt t ok z x) | _, _, _ => none
  | .field t x f =>
    match P.underlying t, rOpd x with
    | some (.struct fs), some x => (match fs[f]? with | some fl => (aggN P fl.type).map fun n => .field fl.offset n x | none => none)
    | _, _ => none
  | .fieldAddr t x f =>
    match P.underlying t, rOpd x with
    | some (.struct fs), some x =>
      (match fs[f]? with | some fl => (match P.info? fl.type with | some i => if i.size ≠ 0 then (aggN P fl.type).map fun n => .faddr fl.offset n x else none | none => none) | none => none)
    | _, _ => none
  | .indexAddr t x i =>
    match P.underlying t, rOpd x, rOpd i with
    | some (.slice e), some x, some i => (match P.info? e with | some inf => if inf.size ≠ 0 then some (.iaddr inf.size x i) else none | none => none)
    | _, _, _ => none
  | .index t x i => match P.underlying t, rOpd x, rOpd i with | some .string, some x, some i => some (.index x i) | _, _, _ => none
  | .slice t x lo hi mx =>
    match P.underlying t, rOpd x, rOpt lo, rOpt hi, rOpt mx with
    | some .string, some x, some lo, some hi, some none => some (.sliceS x lo hi)
    | some (.slice e), some x, some lo, some hi, some mx => (match P.info? e with | some inf => if inf.size ≠ 0 ∧ (mx.isSome → hi.isSome) then some (.slice inf.size x lo hi mx) else none | none => none)
    | _, _, _, _, _ => none
  | .extract x i => (rOpd x).map (.extract i)
  | .lookup t x k ok =>
    match P.underlying t, rOpd x, rOpd k with
    | some (.map kt e), some x, some k => (match P.underlying kt, zeroA P e with | some (.int _), some z => some (.lookup false ok z x k) | some .string, some z => some (.lookup true ok z x k) | _, _ => none)
    | _, _, _ => none
  | .build t parts =>
    match P.underlying t, zeroCs P t with
    | some (.struct fs), some z => if !(fs.toList.all fun f => (P.info? f.type).isSome) then none else (rParts (fun i => match fs[i]? with | some f => (P.info? f.type).map fun inf => (f.offset, inf.size) | none => none) parts.toList).map (.build z)
    | _, _ => none
  | .alloc t => match zeroCs P t, P.info? t with | some z, some i => if ones z then some (.alloc t z) else none | _, _ => none
  | .box t x => match P.info? t, rOpd x with | some i, some x => some (.box t i.size x) | _, _ => none
  | .buildSlice t len parts =>
    match P.underlying t with
    | some (.slice e) =>
      (match P.info? e, zeroCs P e with
       | some inf, some z =>
         if inf.size = z.length ∧ inf.size ≠ 0 ∧ len * inf.size ≤ 2 ^ 24 ∧ ones z then
           (rParts (fun i => some (i * inf.size, inf.size)) parts.toList).map (.bslice e inf.size len (List.replicate len z).flatten) else none
       | _, _ => none)
    | _ => none
  | .makeSlice t l c =>
    match P.underlying t, rOpd l, rOpd c with
    | some (.slice e), some l, some c =>
      (match P.info? e, zeroCs P e with | some inf, some z => if inf.size = z.length ∧ inf.size ≠ 0 ∧ inf.bytes ≠ 0 ∧ ones z then some (.mkslice e inf.size inf.bytes z l c) else none | _, _ => none)
    | _, _, _ => none
  | .store t x y => match P.info? t, rOpd x, rOpd y with | some i, some x, some y => some (.store i.size x y) | _, _, _ => none
  | .makeMap t r => match r with | none => some .mkmap | some _ => none
  | .mapUpdate t m k v | .insert t m k v =>
    match P.underlying t, rOpd m, rOpd k, rOpd v with
    | some (.map kt e), some m, some k, some v => (match P.underlying kt with | some (.int _) => some (.mapupd false m k v) | some .string => some (.mapupd true m k v) | _ => none)
    | _, _, _, _ => none
  | .call c => rCall P c
  | _ => none

/-! ### operands -/
theorem toA1_sound {m : Map} {F : Nat → Prop} {w : World} : ∀ {v : Value} {x : AVal}, toA1 v = some x → VRel m F w x v := by
  intro v x h
  cases v <;> simp only [toA1] at h
  case int k n => cases h; simp only [VRel]
  case bool b => cases h; simp only [VRel]
  case string s => split at h <;> cases h; rename_i hs; simp only [VRel]; exact ⟨trivial, big_huge hs⟩
  case pointer a => cases a <;> simp only at h <;> cases h; simp only [VRel]
  case slice a l c =>
    split at h
    all_goals first
      | (cases h; simp_all [VRel]; done)
      | simp_all
  case map r => cases r <;> simp only at h <;> cases h; simp only [VRel]
  case nilFunc => cases h; simp only [VRel]
  case nilIface => cases h; simp only [VRel]
  all_goals cases h
theorem toAs_sound {m : Map} {F : Nat → Prop} {w : World} : ∀ {vs : List Value} {xs : List AVal}, toAs vs = some xs → VRels m F w xs vs
  | [], xs, h => by simp only [toAs] at h; cases h; simp only [VRels]
  | v :: vs, xs, h => by
    simp only [toAs] at h
    split at h
    · rename_i x xs' h1 h2
      cases h
      simp only [VRels]
      exact ⟨v, vs, toA1_sound h1, toAs_sound h2, rfl⟩
    · cases h
theorem toA_sound {m : Map} {F : Nat → Prop} {w : World} {v : Value} {x : AVal} (h : toA v = some x) : VRel m F w x v := by
  unfold toA at h
  split at h
  · rename_i cs
    cases hc : toAs cs.toList with
    | none => simp [hc] at h
    | some xs =>
      simp only [hc, Option.map_some] at h
      cases h
      simp only [VRel]
      exact ⟨cs.toList, toAs_sound hc, by simp⟩
  · exact toA1_sound h

structure ARel (n : Nat) (m : Map) (F : Nat → Prop) (w : World) (ρ : Nat → AVal) (a : Act) : Prop where
  dfr : a.defers = []
  sz : a.tmps.size = n
  rel : ∀ t, VRel m F w (ρ t) (a.tmps.getD t undef)

theorem ARel.ext {n : Nat} {m m' : Map} {F F' : Nat → Prop} {w w' : World} {ρ : Nat → AVal} {a : Act} (h : Ext m F w m' F' w') (k : ARel n m F w ρ a) : ARel n m' F' w' ρ a :=
  ⟨k.dfr, k.sz, fun t => (k.rel t).ext h⟩
theorem ARel.put {n : Nat} {m : Map} {F : Nat → Prop} {w : World} {ρ : Nat → AVal} {a : Act} (k : ARel n m F w ρ a) {d : Option Nat} (hd : ∀ t, d = some t → t < n) {x : AVal} {v : Value} (hv : VRel m F w x v) : ARel n m F w (putd ρ d x) (a.put d v) := by
  cases d with
  | none => exact k
  | some d =>
    have hd' := hd d rfl
    refine ⟨k.dfr, by simp [Act.put, k.sz], fun t => ?_⟩
    have hs : d < a.tmps.size := by rw [k.sz]; exact hd'
    simp only [putd, upd, Act.put]
    by_cases e : t = d
    · subst e; simp [hs]; exact hv
    · rw [if_neg e]
      have := k.rel t
      simpa [Array.getElem?_setIfInBounds_ne (Ne.symm e)] using this

theorem rOpd_sound {n : Nat} {m : Map} {F : Nat → Prop} {w : World} {ρ : Nat → AVal} {a : Act} (k : ARel n m F w ρ a) {x : Operand} {y : Opd} (h : rOpd x = some y) : VRel m F w (ev ρ y) (a.eval x) := by
  cases x with
  | tmp t => simp only [rOpd] at h; cases h; exact k.rel t
  | const v =>
    simp only [rOpd] at h
    cases hv : toA v with
    | none => simp [hv] at h
    | some x => simp only [hv, Option.map_some] at h; cases h; exact toA_sound hv
  | global g => simp [rOpd] at h
  | func f =>
    simp only [rOpd] at h
    cases h
    simp only [ev, VRel, VRels]
    exact ⟨[], rfl, rfl⟩
theorem rOpds_sound {n : Nat} {m : Map} {F : Nat → Prop} {w : World} {ρ : Nat → AVal} {a : Act} (k : ARel n m F w ρ a) : ∀ {xs : List Operand} {ys : List Opd}, rOpds xs = some ys → VRels m F w (ys.map (ev ρ)) (xs.map a.eval)
  | [], ys, h => by simp only [rOpds] at h; cases h; simp only [List.map_nil, VRels]
  | x :: xs, ys, h => by
    simp only [rOpds] at h
    split at h
    · rename_i y ys' h1 h2
      cases h
      simp only [List.map_cons, VRels]
      exact ⟨_, _, rOpd_sound k h1, rOpds_sound k h2, rfl⟩
    · cases h

/-! ### running -/
section
variable {P : Program} {w : World}
theorem run_und {t : TypeId} {d : TypeDesc} (h : P.underlying t = some d) : (underlying t).run P w = .ok d w := by simp [underlying, h]
theorem run_ti {t : TypeId} {i : TypeInfo} (h : P.info? t = some i) : (typeInfo t).run P w = .ok i w := by simp [typeInfo, h]
theorem run_sz {t : TypeId} {i : TypeInfo} (h : P.info? t = some i) : (sizeOf t).run P w = .ok i.size w := by simp [sizeOf, run_ti h]
theorem run_zv {t : TypeId} {i : TypeInfo} {z : Value} (h : P.info? t = some i) (hz : i.zero = some z) : (zeroValue t).run P w = .ok z w := by simp [zeroValue, run_ti h, hz]
theorem run_isAgg {t : TypeId} {d : TypeDesc} (h : P.underlying t = some d) : (isAgg t).run P w = .ok (match d with | .struct _ | .array _ _ => true | _ => false) w := by
  unfold isAgg
  simp only [Sem.run_bind, run_und h, Result.andThen_ok]
  cases d <;> rfl
theorem aggN_none {t : TypeId} (h : aggN P t = some none) : (isAgg t).run P w = .ok false w ∧ ∃ i, P.info? t = some i ∧ i.size = 1 := by
  unfold aggN at h
  split at h
  · cases h
  · cases h
  · rename_i d i hn1 hn2 hd hi
    split at h
    · rename_i hs
      refine ⟨?_, i, hi, hs⟩
      rw [run_isAgg hd]
      cases d <;> first | rfl | (exfalso; first | exact hn1 _ rfl | exact hn2 _ _ rfl)
    · cases h
  · cases h
theorem aggN_some {t : TypeId} {n : Nat} (h : aggN P t = some (some n)) : (isAgg t).run P w = .ok true w ∧ ∃ i, P.info? t = some i ∧ i.size = n := by
  unfold aggN at h
  split at h
  · rename_i fs i hd hi; cases h; exact ⟨by rw [run_isAgg hd], i, hi, rfl⟩
  · rename_i fs i hd hi; cases h; exact ⟨by rw [run_isAgg hd], _, ‹_›, rfl⟩
  · split at h <;> cases h
  · cases h
theorem add_plain (b o n : Nat) : (⟨b, o, none⟩ : Addr).add n = ⟨b, o + n, none⟩ := by unfold Addr.add; split <;> simp_all
theorem CellAt.cell? {b o : Nat} {v : Value} (h : CellAt w b o v) : w.cell? ⟨b, o, none⟩ = some v := by
  obtain ⟨C, t, fr, h1, h2⟩ := h
  simp [World.cell?, h1, h2]
theorem run_load_at {b o : Nat} {v : Value} (h : CellAt w b o v) : (load ⟨b, o, none⟩).run P w = .ok v w := by simp [h.cell?]
theorem run_loadCellsFrom {b o : Nat} : ∀ (vs : List Value) (i : Nat) (acc : Array Value), (∀ j v, vs[j]? = some v → CellAt w b (o + (i + j)) v) →
    (loadCellsFrom ⟨b, o, none⟩ i vs.length acc).run P w = .ok (acc ++ vs.toArray) w
  | [], i, acc, _ => by simp [loadCellsFrom]
  | v :: vs, i, acc, h => by
    have h0 := h 0 v (by simp)
    simp only [List.length_cons, loadCellsFrom, Sem.run_bind, add_plain]
    rw [run_load_at (by simpa using h0)]
    simp only [Result.andThen_ok]
    rw [run_loadCellsFrom vs (i + 1) (acc.push v) (fun j u hj => by have := h (j + 1) u (by simpa using hj); rwa [show i + (j + 1) = i + 1 + j from by omega] at this)]
    simp
theorem run_loadCells {b o : Nat} (vs : List Value) (h : ∀ j v, vs[j]? = some v → CellAt w b (o + j) v) (n : Nat) (hn : n = vs.length) : (loadCells ⟨b, o, none⟩ n).run P w = .ok vs.toArray w := by
  subst hn
  unfold loadCells
  rw [run_loadCellsFrom vs 0 #[] (fun j v hj => by simpa using h j v hj)]
  simp
end

/-! ### reading a block -/
theorem ORel.cellAt {m : Map} {F : Nat → Prop} {w : World} {ty : TypeId} {cs : List AVal} {b off : Nat} (h : ORel m F w (.cells ty cs) b off) {i : Nat} {x : AVal} (hx : cs[i]? = some x) : ∃ v, CellAt w b (off + i) v ∧ v.oneCell' = true ∧ VRel m F w x v := by
  cases h with
  | cells hb hl hfr hc =>
    obtain ⟨v, h1, h2, h3⟩ := hc i x hx
    exact ⟨v, ⟨_, _, _, hb, h1⟩, h2, h3⟩
theorem cells_vals {m : Map} {F : Nat → Prop} {w : World} {b off : Nat} : ∀ (cs : List AVal), (∀ i x, cs[i]? = some x → ∃ v, CellAt w b (off + i) v ∧ v.oneCell' = true ∧ VRel m F w x v) →
    ∃ vs : List Value, VRels m F w cs vs ∧ (∀ j v, vs[j]? = some v → CellAt w b (off + j) v) ∧ ∀ v ∈ vs, v.oneCell' = true := by
  intro cs
  induction cs generalizing off with
  | nil => intro _; exact ⟨[], by simp only [VRels], by simp, by simp⟩
  | cons x cs ih =>
    intro h
    obtain ⟨v, h1, h2, h3⟩ := h 0 x (by simp)
    obtain ⟨vs, k1, k2, k3⟩ := ih (off := off + 1) (fun i y hy => by have := h (i + 1) y (by simpa using hy); rwa [show off + (i + 1) = off + 1 + i from by omega] at this)
    refine ⟨v :: vs, by simp only [VRels]; exact ⟨v, vs, h3, k1, rfl⟩, fun j u hj => ?_, fun u hu => ?_⟩
    · cases j with
      | zero => simp at hj; subst hj; simpa using h1
      | succ j => have := k2 j u (by simpa using hj); rwa [show off + 1 + j = off + (j + 1) from by omega] at this
    · rcases List.mem_cons.1 hu with rfl | hu
      · exact h2
      · exact k3 u hu
theorem ORel.vals {m : Map} {F : Nat → Prop} {w : World} {ty : TypeId} {cs : List AVal} {b off : Nat} (h : ORel m F w (.cells ty cs) b off) (k n : Nat) (hk : k + n ≤ cs.length) :
    ∃ vs : List Value, VRels m F w ((cs.drop k).take n) vs ∧ vs.length = n ∧ (∀ j v, vs[j]? = some v → CellAt w b (off + k + j) v) ∧ ∀ v ∈ vs, v.oneCell' = true := by
  obtain ⟨vs, h1, h2, h3⟩ := cells_vals (m := m) (F := F) (w := w) (b := b) (off := off + k) ((cs.drop k).take n) (fun i x hx => by
    rw [List.getElem?_take] at hx
    split at hx
    · rw [List.getElem?_drop] at hx
      have := h.cellAt hx
      rwa [show off + (k + i) = off + k + i from by omega] at this
    · cases hx)
  exact ⟨vs, h1, by rw [h1.length]; simp; omega, h2, h3⟩
end Go.Proofs.YtcjlgmknclifmaaDoor.Ab
