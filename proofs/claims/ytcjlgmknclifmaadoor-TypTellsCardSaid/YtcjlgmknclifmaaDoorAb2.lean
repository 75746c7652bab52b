/- The abstract code: what it is, how it is evaluated, how it comes of the model's code. -/
import Derived.Test.YtcjlgmknclifmaaDoorAb1
import Derived.WalkKit
set_option linter.unusedVariables false
set_option linter.unusedSimpArgs false
namespace Go.Proofs.YtcjlgmknclifmaaDoor.Ab
open Go

inductive Opd where
  | tmp (t : Nat)
  | con (v : AVal)
  deriving Inhabited

inductive EqK where
  | bool | int | str | slice | map | func | ptr
  deriving Inhabited, DecidableEq

inductive AOp where
  -- these leave memory alone
  | move (x : Opd)
  | pick (c a b : Opd)
  | load (n : Option Nat) (x : Opd)
  | nilc (x : Opd)
  | bin (op : BinOp) (x y : Opd)
  | eqv (neg : Bool) (k : EqK) (x y : Opd)
  | eqs (neg : Bool) (ks : List EqK) (x y : Opd)
  | un (op : UnOp) (x : Opd)
  | conv (k : IntKind) (x : Opd)
  | convs (x : Opd)
  | b2s (x : Opd)
  | mkfunc (f : FuncId) (cap : List Opd)
  | mkiface (t : TypeId) (x : Opd)
  | asrt (t : TypeId) (ok : Bool) (zero : AVal) (x : Opd)
  | field (off : Nat) (n : Option Nat) (x : Opd)
  | faddr (off : Nat) (n : Option Nat) (x : Opd)
  | iaddr (e : Nat) (x i : Opd)
  | index (x i : Opd)
  | slice (e : Nat) (x : Opd) (lo hi mx : Option Opd)
  | sliceS (x : Opd) (lo hi : Option Opd)
  | extract (i : Nat) (x : Opd)
  | len (k : EqK) (x : Opd)
  | lookup (st ok : Bool) (zero : AVal) (x k : Opd)
  | build (zero : List AVal) (parts : List (Nat × Nat × Opd))
  | minmax (mx : Bool) (xs : List Opd)
  -- these make or write memory
  | alloc (ty : TypeId) (zero : List AVal)
  | box (ty : TypeId) (n : Nat) (x : Opd)
  | bslice (ty : TypeId) (e len : Nat) (zero : List AVal) (parts : List (Nat × Nat × Opd))
  | mkslice (ty : TypeId) (e bytes : Nat) (zero : List AVal) (l c : Opd)
  | store (n : Nat) (x y : Opd)
  | append (ty : TypeId) (e bytes : Nat) (x y : Opd)
  | mkmap
  | mapupd (st : Bool) (m k v : Opd)
  | s2b (ty : TypeId) (x : Opd)
  | mark (x : Opd)
  -- calls
  | call (f : FuncId) (args : List Opd)
  | callv (x : Opd) (args : List Opd)
  -- not told of: never to be reached
  | bad
  deriving Inhabited

structure AOper where
  dst : Option Nat
  op : AOp
  guard : Option (Nat × Bool)
  deriving Inhabited

/-- In which orders operations may be taken: at any time, alone, two in either order, one of several first. -/
inductive Pl where
  | nil
  | take (o : AOper) (r : Pl)
  | only (o : AOper) (ns : Bool) (r : Pl)
  | both (o p : AOper) (ns : Bool) (r : Pl)
  | alt (o : AOper) (ns : Bool) (r r' : Pl)
  deriving Inhabited

inductive ACode where
  | skip
  | ops (l : List AOper)
  | draw (p : Pl)
  | bad
  | seq (a b : ACode)
  | cond (c : Opd) (a b : ACode)
  | block (id : Nat) (c : ACode)
  | loop (c : ACode)
  | exit (id : Nat)
  | ret
  deriving Inhabited

/-! ### evaluation -/
structure St where
  ρ : Nat → AVal
  h : AHeap

def upd (ρ : Nat → AVal) (d : Nat) (v : AVal) : Nat → AVal := fun t => if t = d then v else ρ t
def putd (ρ : Nat → AVal) (d : Option Nat) (v : AVal) : Nat → AVal :=
  match d with
  | some d => upd ρ d v
  | none => ρ
def ev (ρ : Nat → AVal) : Opd → AVal
  | .tmp t => ρ t
  | .con v => v

def arith (op : BinOp) (k : IntKind) (x y : Int) : Option AVal :=
  match op with
  | .add => some (.int k (k.wrap (x + y)))
  | .sub => some (.int k (k.wrap (x - y)))
  | .mul => some (.int k (k.wrap (x * y)))
  | .quo => if y = 0 then none else some (.int k (k.wrap (x.tdiv y)))
  | .rem => if y = 0 then none else some (.int k (x.tmod y))
  | .and => some (.int k (k.wrap (BitVec.ofInt k.bits x &&& BitVec.ofInt k.bits y).toNat))
  | .or => some (.int k (k.wrap (BitVec.ofInt k.bits x ||| BitVec.ofInt k.bits y).toNat))
  | .xor => some (.int k (k.wrap (BitVec.ofInt k.bits x ^^^ BitVec.ofInt k.bits y).toNat))
  | .andNot => some (.int k (k.wrap (BitVec.ofInt k.bits x &&& ~~~ BitVec.ofInt k.bits y).toNat))
  | .eql => some (.bool (x == y))
  | .neq => some (.bool (x != y))
  | .lss => some (.bool (decide (x < y)))
  | .leq => some (.bool (decide (x ≤ y)))
  | .gtr => some (.bool (decide (x > y)))
  | .geq => some (.bool (decide (x ≥ y)))
  | _ => none

def shiftI (op : BinOp) (k : IntKind) (x y : Int) : Option AVal :=
  if y < 0 then none else
  match op with
  | .shl => some (.int k (k.wrap (x * 2 ^ (min y.toNat k.bits))))
  | .shr => some (.int k (x.fdiv (2 ^ (min y.toNat k.bits))))
  | _ => none

def strop (op : BinOp) (x y : ByteArray) : Option AVal :=
  match op with
  | .add => if x.size + y.size ≤ big then some (.str (x ++ y)) else none
  | .eql => some (.bool (x.toList == y.toList))
  | .neq => some (.bool (!(x.toList == y.toList)))
  | .lss => some (.bool (Op.bytesLess x.toList y.toList))
  | .geq => some (.bool (!Op.bytesLess x.toList y.toList))
  | .leq => some (.bool (Op.bytesLess x.toList y.toList || x.toList == y.toList))
  | .gtr => some (.bool (!(Op.bytesLess x.toList y.toList || x.toList == y.toList)))
  | _ => none

def binop (op : BinOp) (x y : AVal) : Option AVal :=
  match x, y with
  | .int k a, .int k' b =>
    if op = .shl ∨ op = .shr then shiftI op k a b else if k = k' then arith op k a b else none
  | .str a, .str b => strop op a b
  | _, _ => none

/-- Equality of single cells. -/
def eq1 (k : EqK) (x y : AVal) : Option Bool :=
  match k, x, y with
  | .bool, .bool a, .bool b => some (a == b)
  | .int, .int k a, .int k' b => if k = k' then some (a == b) else none
  | .str, .str a, .str b => some (a.toList == b.toList)
  | .slice, .nils, .nils => some true
  | .slice, .vec _ _ xs, .nils => if xs.isEmpty then none else some false
  | .slice, .sl .., .nils => some false
  | .map, .nilm, .nilm => some true
  | .map, .map _, .nilm => some false
  | .func, .nilf, .nilf => some true
  | .func, .clo _ _, .nilf => some false
  | .ptr, .nilp, .nilp => some true
  | .ptr, .ptr _ _, .nilp => some false
  | .ptr, .ref _, .nilp => some false
  | _, _, _ => none
def eqAll : List EqK → List AVal → List AVal → Option Bool
  | [], [], [] => some true
  | k :: ks, x :: xs, y :: ys =>
    match eq1 k x y, eqAll ks xs ys with
    | some a, some b => some (a && b)
    | _, _ => none
  | _, _, _ => none

/-- Whether an empty slice by value is nil is not known. -/
def eqvV (neg : Bool) (k : EqK) (x y : AVal) : Option AVal :=
  match k, x, y with
  | .slice, .vec _ _ [], .nils => some .anyb
  | k, x, y => (eq1 k x y).map fun b => .bool (if neg then !b else b)

def unop (op : UnOp) (x : AVal) : Option AVal :=
  match op, x with
  | .neg, .int k n => some (.int k (k.wrap (0 - n)))
  | .not, .bool b => some (.bool (!b))
  | _, _ => none

def slCells (h : AHeap) : AVal → Option (List AVal)
  | .nils => some []
  | .vec _ _ xs => some (xs.flatMap AVal.cells)
  | .sl e id off len _ =>
    match h.f id with
    | some (.cells _ cs) => if off + len * e ≤ cs.length then some ((cs.drop off).take (len * e)) else none
    | _ => none
  | _ => none
def bytesOf : List AVal → Option (List UInt8)
  | [] => some []
  | .int .u8 n :: r => (bytesOf r).map fun l => UInt8.ofNat n.toNat :: l
  | _ => none
def slLen : AVal → Option Nat
  | .nils => some 0
  | .vec _ _ xs => some xs.length
  | .sl _ _ _ len _ => some len
  | _ => none

def loadV (h : AHeap) (n : Option Nat) : AVal → Option AVal
  | .ptr id off =>
    match h.f id with
    | some (.cells _ cs) =>
      match n with
      | none => cs[off]?
      | some n => if off + n ≤ cs.length then some (.agg ((cs.drop off).take n)) else none
    | _ => none
  | .ref v =>
    match n, v with
    | some n, .agg cs => if cs.length = n ∧ ones cs = true then some (.agg cs) else none
    | none, v => if v.one then some v else none
    | _, _ => none
  | _ => none

def fieldV (off : Nat) (n : Option Nat) : AVal → Option AVal
  | .agg cs =>
    match n with
    | none => cs[off]?
    | some n => if off + n ≤ cs.length then some (.agg ((cs.drop off).take n)) else none
  | _ => none

def faddrV (off : Nat) (n : Option Nat) : AVal → Option AVal
  | .ptr id o => some (.ptr id (o + off))
  | .ref (.agg cs) =>
    if ones cs = true then
      match n with
      | none => cs[off]?.map .ref
      | some n => if off + n ≤ cs.length then some (.ref (.agg ((cs.drop off).take n))) else none
    else none
  | _ => none

def iaddrV (e : Nat) (x i : AVal) : Option AVal :=
  match x, i with
  | .vec e' _ xs, .int _ n => if e' = e then (if 0 ≤ n then xs[n.toNat]?.map .ref else none) else none
  | .sl e' id off len _, .int _ n => if e' = e then (if 0 ≤ n ∧ n < len then some (.ptr id (off + n.toNat * e)) else none) else none
  | _, _ => none

def indexV (x i : AVal) : Option AVal :=
  match x, i with
  | .str s, .int _ n => if 0 ≤ n then s[n.toNat]?.map (fun b => .int .u8 b.toNat) else none
  | _, _ => none

def intOf' : Option AVal → Option (Option Int)
  | none => some none
  | some (.int _ n) => some (some n)
  | _ => none

/-- lo, hi: of something so long; what lies behind hi is not told of. -/
def sliceV (e0 : Nat) (x : AVal) (lo hi mx : Option AVal) : Option AVal :=
  match intOf' lo, intOf' hi, intOf' mx with
  | some lo, some hi, some mx =>
    match x with
    | .vec e full xs =>
      let m := mx.getD xs.length
      let h := hi.getD xs.length
      let l := lo.getD 0
      if e = e0 ∧ 0 ≤ l ∧ l ≤ h ∧ h ≤ m ∧ m ≤ xs.length then
        (match mx, full with
         | some _, _ => if m = h then some (.vec e true ((xs.take h.toNat).drop l.toNat)) else some (.vec e false ((xs.take h.toNat).drop l.toNat))
         | none, true => some (.vec e (decide (h = xs.length)) ((xs.take h.toNat).drop l.toNat))
         | none, false => some (.vec e false ((xs.take h.toNat).drop l.toNat)))
      else none
    | .sl e id off len cap =>
      let h := hi.getD len
      let l := lo.getD 0
      match mx with
      | none => if e = e0 ∧ 0 ≤ l ∧ l ≤ h ∧ h ≤ len then some (.sl e id (off + l.toNat * e) (h.toNat - l.toNat) (cap.map (· - l.toNat))) else none
      | some m => if e = e0 ∧ 0 ≤ l ∧ l ≤ h ∧ h ≤ m ∧ m ≤ len then some (.sl e id (off + l.toNat * e) (h.toNat - l.toNat) (some (m.toNat - l.toNat))) else none
    | .nils => if (lo.getD 0 = 0 ∧ hi.getD 0 = 0 ∧ mx.getD 0 = 0) then some .nils else none
    | _ => none
  | _, _, _ => none

def sliceSV (x : AVal) (lo hi : Option AVal) : Option AVal :=
  match intOf' lo, intOf' hi, x with
  | some lo, some hi, .str s => if 0 ≤ lo.getD 0 ∧ lo.getD 0 ≤ hi.getD s.size ∧ hi.getD s.size ≤ s.size then some (.str (s.extract (lo.getD 0).toNat (hi.getD s.size).toNat)) else none
  | _, _, _ => none

/-- st: are the keys strings? -/
def keyEq (st : Bool) (x y : AVal) : Option Bool :=
  match st, x, y with
  | false, .int k a, .int k' b => if k = k' then some (a == b) else none
  | true, .str a, .str b => some (a == b)
  | _, _, _ => none
def findK (st : Bool) (k : AVal) : List (AVal × AVal) → Option (Option AVal)
  | [] => some none
  | (k', v) :: r =>
    match keyEq st k k' with
    | some true => some (some v)
    | some false => findK st k r
    | none => none
/-- Put under a key: in its place, or at the end. -/
def putK (st : Bool) (k v : AVal) : List (AVal × AVal) → Option (List (AVal × AVal))
  | [] => some [(k, v)]
  | (k', v') :: r =>
    match keyEq st k k' with
    | some true => some ((k, v) :: r)
    | some false => (putK st k v r).map ((k', v') :: ·)
    | none => none

def fillV (cells : List AVal) : List (Nat × Nat × AVal) → Option (List AVal)
  | [] => some cells
  | (off, n, v) :: r =>
    if v.cells.length = n ∧ off + n ≤ cells.length ∧ ones v.cells = true then fillV (cells.take off ++ v.cells ++ cells.drop (off + n)) r else none

def minmax2 (mx : Bool) (x y : AVal) : Option AVal :=
  match x, y with
  | .int k a, .int k' b => if k = k' then some (.int k (if mx then (if b > a then b else a) else (if b < a then b else a))) else none
  | _, _ => none
def minmaxV (mx : Bool) : List AVal → Option AVal
  | [] => none
  | x :: r => r.foldl (fun o y => o.bind fun a => minmax2 mx a y) (some x)

def b2sV (h : AHeap) (x : AVal) : Option AVal :=
  match slCells h x, slLen x with
  | some cs, some n => if cs.length = n then (bytesOf cs).map fun l => .str ⟨l.toArray⟩ else none
  | _, _ => none

def lookupV (h : AHeap) (st ok : Bool) (zero x k : AVal) : Option AVal :=
  match x with
  | .nilm => some (if ok then .tup [zero, .bool false] else zero)
  | .map id =>
    match h.f id with
    | some (.map es) => (findK st k es).map fun r => if ok then .tup [r.getD zero, .bool r.isSome] else r.getD zero
    | _ => none
  | _ => none
def lenV (h : AHeap) (k : EqK) (x : AVal) : Option AVal :=
  match k, x with
  | .str, .str s => some (.int .i64 s.size)
  | .map, .nilm => some (.int .i64 0)
  | .map, .map id => match h.f id with | some (.map es) => some (.int .i64 es.length) | _ => none
  | .slice, v => (slLen v).map fun (n : Nat) => AVal.int .i64 (n : Int)
  | _, _ => none

/-- What leaves memory alone. -/
def aval (op : AOp) (ρ : Nat → AVal) (h : AHeap) : Option AVal :=
  match op with
  | .move x => some (ev ρ x)
  | .pick c a b => match ev ρ c with | .bool t => some (if t then ev ρ a else ev ρ b) | _ => none
  | .load n x => loadV h n (ev ρ x)
  | .nilc x => match ev ρ x with | .ptr id o => some (.ptr id o) | .ref v => some (.ref v) | .clo f cs => some (.clo f cs) | _ => none
  | .bin op x y => binop op (ev ρ x) (ev ρ y)
  | .eqv neg k x y => eqvV neg k (ev ρ x) (ev ρ y)
  | .eqs neg ks x y => match ev ρ x, ev ρ y with | .agg xs, .agg ys => (eqAll ks xs ys).map fun b => .bool (if neg then !b else b) | _, _ => none
  | .un op x => unop op (ev ρ x)
  | .conv k x => match ev ρ x with | .int _ n => some (.int k (k.wrap n)) | _ => none
  | .convs x => match ev ρ x with | .str s => some (.str s) | _ => none
  | .b2s x => b2sV h (ev ρ x)
  | .mkfunc f cap => some (.clo f (cap.map (ev ρ)))
  | .mkiface t x => some (.iface t (ev ρ x))
  | .asrt t ok zero x =>
    match ev ρ x with
    | .iface t' v => if t' = t then some (if ok then .tup [v, .bool true] else v) else if ok then some (.tup [zero, .bool false]) else none
    | .nili => if ok then some (.tup [zero, .bool false]) else none
    | _ => none
  | .field off n x => fieldV off n (ev ρ x)
  | .faddr off n x => faddrV off n (ev ρ x)
  | .iaddr e x i => iaddrV e (ev ρ x) (ev ρ i)
  | .index x i => indexV (ev ρ x) (ev ρ i)
  | .slice e x lo hi mx => sliceV e (ev ρ x) (lo.map (ev ρ)) (hi.map (ev ρ)) (mx.map (ev ρ))
  | .sliceS x lo hi => sliceSV (ev ρ x) (lo.map (ev ρ)) (hi.map (ev ρ))
  | .extract i x => match ev ρ x with | .tup vs => vs[i]? | _ => none
  | .len k x => lenV h k (ev ρ x)
  | .lookup st ok zero x k => lookupV h st ok zero (ev ρ x) (ev ρ k)
  | .build zero parts => (fillV zero (parts.map fun p => (p.1, p.2.1, ev ρ p.2.2))).map .agg
  | .minmax mx xs => minmaxV mx (xs.map (ev ρ))
  | _ => none

/-- Which block it reads. -/
def rid (op : AOp) (ρ : Nat → AVal) : Option Nat :=
  match op with
  | .load _ x => match ev ρ x with | .ptr id _ => some id | _ => none
  | .b2s x => match ev ρ x with | .sl _ id _ _ _ => some id | _ => none
  | .len _ x => match ev ρ x with | .map id => some id | _ => none
  | .lookup _ _ _ x _ => match ev ρ x with | .map id => some id | _ => none
  | _ => none

def AOp.stay : AOp → Bool
  | .alloc .. | .box .. | .bslice .. | .mkslice .. | .store .. | .append .. | .mkmap | .mapupd .. | .s2b .. | .mark .. | .call .. | .callv .. => false
  | _ => true

/-- What is appended: its cells, its length. -/
def srcCells (h : AHeap) : AVal → Option (List AVal)
  | .str s => some (s.data.toList.map fun b : UInt8 => AVal.int .u8 b.toNat)
  | v => slCells h v
def srcLen : AVal → Option Nat
  | .str s => some s.size
  | v => slLen v

/-- What makes or writes memory: a condition, the value, the heap. -/
def achg (op : AOp) (ρ : Nat → AVal) (h : AHeap) : Option (Prop × AVal × AHeap) :=
  match op with
  | .alloc ty zero => some (True, .ptr h.next 0, h.alloc (.cells ty zero))
  | .box ty n x => if (ev ρ x).cells.length = n ∧ ones (ev ρ x).cells = true then some (True, .ptr h.next 0, h.alloc (.cells ty (ev ρ x).cells)) else none
  | .bslice ty e len zero parts =>
    match fillV zero (parts.map fun p => (p.1, p.2.1, ev ρ p.2.2)) with
    | some cs => some (True, .sl e h.next 0 len (some len), h.alloc (.cells ty cs))
    | none => none
  | .mkslice ty e bytes zero l c =>
    match ev ρ l, ev ρ c with
    | .int _ l, .int _ c =>
      some (0 ≤ l ∧ l ≤ c ∧ c * bytes ≤ big ∧ c ≤ big, .sl e h.next 0 l.toNat (some c.toNat), h.alloc (.cells ty (List.replicate c.toNat zero).flatten))
    | _, _ => none
  | .store n x y =>
    match ev ρ x with
    | .ptr id off =>
      match h.f id with
      | some (.cells ty cs) =>
        if (ev ρ y).cells.length = n ∧ off + n ≤ cs.length ∧ ones (ev ρ y).cells = true then
          some (True, .tup [], h.put id (.cells ty (cs.take off ++ (ev ρ y).cells ++ cs.drop (off + n)))) else none
      | _ => none
    | _ => none
  | .append ty e bytes x y =>
    match srcCells h (ev ρ y), srcLen (ev ρ y) with
    | some ys, some n =>
      if ys.length = n * e ∧ ones ys = true then
        match ev ρ x with
        | .nils => some (n * bytes ≤ big ∧ n ≤ big, (if n = 0 then .nils else .sl e h.next 0 n none), if n = 0 then h else h.alloc (.cells ty ys))
        | .vec e' true xs =>
          if e' = e ∧ ones (xs.flatMap AVal.cells) = true then
            some ((xs.length + n) * bytes ≤ big ∧ xs.length + n ≤ big, (if n = 0 then .vec e' true xs else .sl e h.next 0 (xs.length + n) none), if n = 0 then h else h.alloc (.cells ty (xs.flatMap AVal.cells ++ ys))) else none
        | .sl e' id off len cap =>
          if e' = e then
            match h.f id with
            | some (.cells ty' cs) =>
              if ty' = ty ∧ off + len * e ≤ cs.length ∧ ones ((cs.drop off).take (len * e)) = true then
                match cap with
                | none => some ((len + n) * bytes ≤ big ∧ len + n ≤ big, .sl e h.next 0 (len + n) none, (h.drop id).alloc (.cells ty ((cs.drop off).take (len * e) ++ ys)))
                | some c =>
                  if n = 0 then some (True, .sl e' id off len (some c), h)
                  else if len + n ≤ c then
                    (if off + (len + n) * e ≤ cs.length then some (len + n ≤ big, .sl e' id off (len + n) (some c), h.put id (.cells ty (cs.take (off + len * e) ++ ys ++ cs.drop (off + (len + n) * e)))) else none)
                  else some ((len + n) * bytes ≤ big ∧ len + n ≤ big, .sl e h.next 0 (len + n) none, h.alloc (.cells ty ((cs.drop off).take (len * e) ++ ys)))
              else none
            | _ => none
          else none
        | _ => none
      else none
    | _, _ => none
  | .mkmap => some (True, .map h.next, h.alloc (.map []))
  | .mapupd st m k v =>
    match ev ρ m with
    | .map id =>
      match h.f id with
      | some (.map es) => (putK st (ev ρ k) (ev ρ v) es).map fun es' => (True, .tup [], h.put id (.map es'))
      | _ => none
    | _ => none
  | .s2b ty x =>
    match ev ρ x with
    | .str s => some (s.size ≤ big, .sl 1 h.next 0 s.size none, h.alloc (.cells ty (s.data.toList.map fun b : UInt8 => AVal.int .u8 b.toNat)))
    | _ => none
  | .mark x =>
    match ev ρ x with
    | .sl e id off len cap => match h.f id with | some (.cells _ _) => some (0 < len, .sl e id off len cap, h) | _ => none
    | _ => none
  | _ => none

/-! ### what each value and block obeys -/
mutual
def AVal.ok (n : Nat) : AVal → Prop
  | .str s => s.size ≤ huge
  | .ptr id _ => id < n
  | .ref v => v.ok n
  | .vec _ _ xs => xs.length ≤ huge ∧ AVal.oks n xs
  | .sl _ id _ len _ => id < n ∧ len ≤ big
  | .map id => id < n
  | .clo _ cs => AVal.oks n cs
  | .iface _ v => v.ok n
  | .agg cs => AVal.oks n cs
  | .tup cs => AVal.oks n cs
  | .junk | .int .. | .bool _ | .anyb | .nilp | .nils | .nilm | .nilf | .nili => True
def AVal.oks (n : Nat) : List AVal → Prop
  | [] => True
  | x :: xs => x.ok n ∧ AVal.oks n xs
end
def AObj.ok (n : Nat) : AObj → Prop
  | .cells _ cs => AVal.oks n cs
  | .map es => ∀ p ∈ es, p.1.ok n ∧ p.2.ok n
/-- Every block is of the heap's, and tells of no other. -/
def HOk (h : AHeap) : Prop := ∀ id o, h.f id = some o → id < h.next ∧ o.ok h.next
def SOk (s : St) : Prop := HOk s.h ∧ ∀ t, (s.ρ t).ok s.h.next
/-- All that stands in the first stands in the second. -/
def Sub (h h' : AHeap) : Prop := h.next ≤ h'.next ∧ ∀ id o, h.f id = some o → h'.f id = some o
/-- Less is told of a value. -/
def Weak (v v' : AVal) : Prop := v' = v ∨ v' = .junk ∨ (v = .nils ∧ ∃ e b, v' = .vec e b []) ∨ (∃ e id off c, v = .sl e id off 0 c ∧ v' = .vec e false [])
/-! #### other numbers for blocks -/
mutual
def AVal.ren (π : Nat → Nat) : AVal → AVal
  | .ptr id off => .ptr (π id) off
  | .ref v => .ref (v.ren π)
  | .vec e b xs => .vec e b (AVal.rens π xs)
  | .sl e id off len cap => .sl e (π id) off len cap
  | .map id => .map (π id)
  | .clo f cs => .clo f (AVal.rens π cs)
  | .iface t v => .iface t (v.ren π)
  | .agg cs => .agg (AVal.rens π cs)
  | .tup cs => .tup (AVal.rens π cs)
  | .junk => .junk
  | .int k n => .int k n
  | .bool b => .bool b
  | .anyb => .anyb
  | .str s => .str s
  | .nilp => .nilp
  | .nils => .nils
  | .nilm => .nilm
  | .nilf => .nilf
  | .nili => .nili
def AVal.rens (π : Nat → Nat) : List AVal → List AVal
  | [] => []
  | x :: xs => x.ren π :: AVal.rens π xs
end
def AObj.ren (π : Nat → Nat) : AObj → AObj
  | .cells ty cs => .cells ty (AVal.rens π cs)
  | .map es => .map (es.map fun p => (p.1.ren π, p.2.ren π))
/-- The second heap's blocks, by other numbers, stand in the first; those below n keep theirs. -/
def Renamed (n : Nat) (π : Nat → Nat) (h h' : AHeap) : Prop :=
  (∀ id, id < n → π id = id) ∧ (∀ i j, i < h'.next → j < h'.next → π i = π j → i = j) ∧ n ≤ h'.next ∧ HOk h' ∧ ∀ id o, h'.f id = some o → h.f (π id) = some (o.ren π)
/-! #### what is never written again is told by value -/
mutual
/-- Less is told; of the blocks in Z, by value. -/
inductive Le (Z : Nat → Prop) (h : AHeap) : AVal → AVal → Prop
  | refl (v : AVal) : Le Z h v v
  | junk (v : AVal) : Le Z h v .junk
  | anyb (b : Bool) : Le Z h (.bool b) .anyb
  | nils (e : Nat) (b : Bool) : Le Z h .nils (.vec e b [])
  | empty (e id off : Nat) (c : Option Nat) : Le Z h (.sl e id off 0 c) (.vec e false [])
  | frz1 {id off len : Nat} {c : Option Nat} {ty : TypeId} {cs xs : List AVal} : Z id → h.f id = some (.cells ty cs) → off + len ≤ cs.length → Les Z h ((cs.drop off).take len) xs → Le Z h (.sl 1 id off len c) (.vec 1 false xs)
  | frzN {e id off len : Nat} {c : Option Nat} {ty : TypeId} {cs : List AVal} {ys : List (List AVal)} : Z id → h.f id = some (.cells ty cs) → 0 < e → off + len * e ≤ cs.length → ys.length = len → (∀ y ∈ ys, y.length = e) →
      Les Z h ((cs.drop off).take (len * e)) ys.flatten → Le Z h (.sl e id off len c) (.vec e false (ys.map .agg))
  | ref1 {id off : Nat} {ty : TypeId} {cs : List AVal} {x y : AVal} : Z id → h.f id = some (.cells ty cs) → cs[off]? = some x → Le Z h x y → Le Z h (.ptr id off) (.ref y)
  | refN {id off : Nat} {ty : TypeId} {cs ys : List AVal} : Z id → h.f id = some (.cells ty cs) → off + ys.length ≤ cs.length → Les Z h ((cs.drop off).take ys.length) ys → Le Z h (.ptr id off) (.ref (.agg ys))
  | ref {x y : AVal} : Le Z h x y → Le Z h (.ref x) (.ref y)
  | vec {e : Nat} {b b' : Bool} {xs ys : List AVal} : (b' = true → b = true) → Les Z h xs ys → Le Z h (.vec e b xs) (.vec e b' ys)
  | clo {f : FuncId} {xs ys : List AVal} : Les Z h xs ys → Le Z h (.clo f xs) (.clo f ys)
  | iface {t : TypeId} {x y : AVal} : Le Z h x y → Le Z h (.iface t x) (.iface t y)
  | agg {xs ys : List AVal} : Les Z h xs ys → Le Z h (.agg xs) (.agg ys)
  | tup {xs ys : List AVal} : Les Z h xs ys → Le Z h (.tup xs) (.tup ys)
inductive Les (Z : Nat → Prop) (h : AHeap) : List AVal → List AVal → Prop
  | nil : Les Z h [] []
  | cons {x y : AVal} {xs ys : List AVal} : Le Z h x y → Les Z h xs ys → Les Z h (x :: xs) (y :: ys)
end
def OLe (Z : Nat → Prop) (h : AHeap) : AObj → AObj → Prop
  | .cells ty cs, .cells ty' cs' => ty' = ty ∧ Les Z h cs cs'
  | .map es, .map es' => Les Z h (es.map (·.1)) (es'.map (·.1)) ∧ Les Z h (es.map (·.2)) (es'.map (·.2))
  | _, _ => False
/-- The second heap's blocks, by other numbers, stand in the first, maybe more being told there; those below n keep their numbers; those in Z are told by value. -/
def RenZ (n : Nat) (π : Nat → Nat) (Z : Nat → Prop) (h h' : AHeap) : Prop :=
  (∀ id, id < n → π id = id) ∧ (∀ i j, i < h'.next → j < h'.next → π i = π j → i = j) ∧ n ≤ h'.next ∧ HOk h' ∧ ∀ id o, h'.f id = some o → ¬ Z (π id) ∧ ∃ o0, h.f (π id) = some o0 ∧ OLe Z h o0 (o.ren π)
/-- The second tells less than the first, maybe by other numbers for the blocks from n on. -/
def Tidy (n : Nat) (s s' : St) : Prop := ∃ π Z, RenZ n π Z s.h s'.h ∧ ∀ t, Le Z s.h (s.ρ t) ((s'.ρ t).ren π) ∧ (s'.ρ t).ok s'.h.next

/-! ### two ways -/
def Br (b : Bool) (A B : Prop) : Prop := (b = true → A) ∧ (b = false → B)
theorem Br_true (A B : Prop) : Br true A B = A := by simp [Br]
theorem Br_false (A B : Prop) : Br false A B = B := by simp [Br]
@[congr] theorem Br_congr {b b' : Bool} {A B : Prop} (h : b = b') : Br b A B = Br b' A B := by rw [h]
theorem Br.mk {b : Bool} {A B : Prop} (h1 : b = true → A) (h2 : b = false → B) : Br b A B := ⟨h1, h2⟩

/-! ### calls -/
def isBody (P : Program) (f : FuncId) : Bool :=
  match P.funcs[f]? with
  | some fn => fn.name != "runtime.NumGoroutine" && fn.body.isSome
  | none => false
def Post (h : AHeap) (m : Map) (F : Nat → Prop) (w : World) (Q : AVal → AHeap → Prop) : Ending → World → Prop
  | .returned v', w' => ∃ v h' m' F', h.next ≤ h'.next ∧ Q v h' ∧ Rel h' m' F' w' ∧ VRel m' F' w' v v' ∧ Ext m F w m' F' w'
  | _, _ => False
def ACalls (P : Program) (f : FuncId) (args : List AVal) (h : AHeap) (Q : AVal → AHeap → Prop) : Prop :=
  isBody P f = true ∧ ∀ m F w us, Rel h m F w → VRels m F w args us → Calls P f us.toArray w (Post h m F w Q)
@[congr] theorem ACalls_congr {P : Program} {f : FuncId} {args args' : List AVal} {h h' : AHeap} {Q : AVal → AHeap → Prop} (e1 : args = args') (e2 : h = h') : ACalls P f args h Q = ACalls P f args' h' Q := by rw [e1, e2]

def aexec (P : Program) (op : AOp) (d : Option Nat) (K : St → Prop) (s : St) : Prop :=
  match op with
  | .call f args => ACalls P f (args.map (ev s.ρ)) s.h fun v h' => K ⟨putd s.ρ d v, h'⟩
  | .callv x args => match ev s.ρ x with | .clo f cs => ACalls P f (args.map (ev s.ρ) ++ cs) s.h fun v h' => K ⟨putd s.ρ d v, h'⟩ | _ => False
  | op =>
    if op.stay then match aval op s.ρ s.h with | some v => K ⟨putd s.ρ d v, s.h⟩ | none => False
    else match achg op s.ρ s.h with | some (c, v, h') => c ∧ K ⟨putd s.ρ d v, h'⟩ | none => False

/-- Is a guarded operation wanted? What was passed over itself wants nothing. -/
def guardV (v : AVal) (want : Bool) : Option Bool :=
  match v with
  | .bool b => some (b == want)
  | .tup [] => some false
  | _ => none

def aop1 (P : Program) (o : AOper) (K : St → Prop) (s : St) : Prop :=
  match o.guard with
  | none => aexec P o.op o.dst K s
  | some (g, want) => match guardV (s.ρ g) want with | some b => Br b (aexec P o.op o.dst K s) (K ⟨putd s.ρ o.dst (.tup []), s.h⟩) | none => False

def aops (P : Program) : List AOper → (St → Prop) → St → Prop
  | [], K, s => K s
  | o :: l, K, s => aop1 P o (aops P l K) s

/-- What was read ahead of time stands. -/
def Held (R : List (Nat × AObj)) (h : AHeap) : Prop := ∀ p ∈ R, h.f p.1 = some p.2

def logR (R : List (Nat × AObj)) (h : AHeap) : Option Nat → List (Nat × AObj)
  | none => R
  | some id => match h.f id with | some o => (id, o) :: R | none => R

def adraw (P : Program) : Pl → List (Nat × AObj) → (St → Prop) → St → Prop
  | .nil, _, K, s => K s
  | .take o l, R, K, s =>
    match o.guard with
    | none => match aval o.op s.ρ s.h with | some v => adraw P l (logR R s.h (rid o.op s.ρ)) K ⟨putd s.ρ o.dst v, s.h⟩ | none => False
    | some (g, want) =>
      match guardV (s.ρ g) want with
      | some b => Br b (match aval o.op s.ρ s.h with | some v => adraw P l (logR R s.h (rid o.op s.ρ)) K ⟨putd s.ρ o.dst v, s.h⟩ | none => False) (adraw P l R K ⟨putd s.ρ o.dst (.tup []), s.h⟩)
      | none => False
  | .only o ns l, R, K, s => aop1 P o (fun s' => (ns = true → Held R s'.h) ∧ adraw P l R K s') s
  | .both o p ns l, R, K, s =>
    aop1 P o (fun s' => (ns = true → Held R s'.h) ∧ aop1 P p (fun s' => (ns = true → Held R s'.h) ∧ adraw P l R K s') s') s ∧
    aop1 P p (fun s' => (ns = true → Held R s'.h) ∧ aop1 P o (fun s' => (ns = true → Held R s'.h) ∧ adraw P l R K s') s') s
  | .alt o ns l l', R, K, s => aop1 P o (fun s' => (ns = true → Held R s'.h) ∧ adraw P l R K s') s ∧ adraw P l' R K s

inductive AExit where
  | normal
  | exit (id : Nat)
  | ret

def thenK (K : St → Prop) (Q : AExit → St → Prop) : AExit → St → Prop
  | .normal, s => K s
  | e, s => Q e s
def blockK (id : Nat) (Q : AExit → St → Prop) : AExit → St → Prop
  | .exit i, s => if i = id then Q .normal s else Q (.exit i) s
  | e, s => Q e s

/-- N: from where on blocks are the function's own. -/
def Ev (P : Program) (N : Nat) : ACode → (AExit → St → Prop) → St → Prop
  | .skip, Q, s => Q .normal s
  | .ops l, Q, s => aops P l (Q .normal) s
  | .draw p, Q, s => adraw P p [] (Q .normal) s
  | .seq a b, Q, s => Ev P N a (thenK (Ev P N b Q) Q) s
  | .cond c a b, Q, s => match ev s.ρ c with | .bool t => Br t (Ev P N a Q s) (Ev P N b Q s) | .anyb => Ev P N a Q s ∧ Ev P N b Q s | _ => False
  | .block id c, Q, s => Ev P N c (blockK id Q) s
  | .loop c, Q, s => SOk s → N ≤ s.h.next → ∃ (ι : Type) (I : ι → Prop) (S : ι → St) (μ : ι → Nat), (∃ i, I i ∧ Tidy N s (S i)) ∧
    ∀ i, I i → SOk (S i) → Ev P N c (thenK (fun s' => SOk s' → ∃ j, I j ∧ μ j < μ i ∧ Tidy N s' (S j)) Q) (S i)
  | .exit id, Q, s => Q (.exit id) s
  | .ret, Q, s => Q .ret s
  | .bad, _, _ => False

@[congr] theorem aops_congr {P : Program} {l l' : List AOper} {K : St → Prop} {s s' : St} (e1 : l = l') (e2 : s = s') : aops P l K s = aops P l' K s' := by rw [e1, e2]
@[congr] theorem aop1_congr {P : Program} {l l' : AOper} {K : St → Prop} {s s' : St} (e1 : l = l') (e2 : s = s') : aop1 P l K s = aop1 P l' K s' := by rw [e1, e2]
@[congr] theorem aexec_congr {P : Program} {l l' : AOp} {d d' : Option Nat} {K : St → Prop} {s s' : St} (e1 : l = l') (e3 : d = d') (e2 : s = s') : aexec P l d K s = aexec P l' d' K s' := by rw [e1, e2, e3]
@[congr] theorem adraw_congr {P : Program} {l l' : Pl} {R R' : List (Nat × AObj)} {K : St → Prop} {s s' : St} (e1 : l = l') (e3 : R = R') (e2 : s = s') : adraw P l R K s = adraw P l' R' K s' := by rw [e1, e2, e3]
@[congr] theorem Ev_congr {P : Program} {N : Nat} {c c' : ACode} {Q : AExit → St → Prop} {s s' : St} (e1 : c = c') (e2 : s = s') : Ev P N c Q s = Ev P N c' Q s' := by rw [e1, e2]
end Go.Proofs.YtcjlgmknclifmaaDoor.Ab
