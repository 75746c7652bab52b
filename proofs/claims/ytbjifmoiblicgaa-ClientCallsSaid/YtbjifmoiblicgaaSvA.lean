/- Calls, requests, replies: plain facts, small walks. -/
import Derived.Test.YtbjifmoiblicgaaByH
set_option linter.unusedVariables false
set_option linter.unusedSimpArgs false
namespace Go.Proofs.Ytbjifmoiblicgaa.Ab
open Go

structure Cl where
  epoch : Int
  seq : Int
  deriving DecidableEq
@[simp] def clV (c : Cl) : AVal := .agg [.int .i64 c.epoch, .int .i64 c.seq]
def isC (c : Cl) : Bool := decide (0 ≤ c.epoch) && decide (c.epoch ≤ 2147483647) && decide (0 ≤ c.seq) && decide (c.seq ≤ 2147483647)
theorem isC_of {c : Cl} (h : isC c = true) : (0 ≤ c.epoch ∧ c.epoch ≤ 2147483647) ∧ 0 ≤ c.seq ∧ c.seq ≤ 2147483647 := by
  simp only [isC, Bool.and_eq_true, decide_eq_true_eq] at h; omega
theorem fn30_ok (c : Cl) (h : AHeap) : Returns Try.prog 30 [clV c] h (.bool (isC c)) h := by
  refine Returns.val fn30 (by simp) fun h1 h2 => ⟨by simp [AVal.ok], ?_⟩
  by_cases c1 : 0 ≤ c.epoch
  case neg => simp [code30, isC, c1, Sub.alloc h1]
  by_cases c2 : c.epoch ≤ 2147483647
  case neg => simp [code30, isC, c1, c2, Sub.alloc h1]
  by_cases c3 : 0 ≤ c.seq
  case neg => simp [code30, isC, c1, c2, c3, Sub.alloc h1]
  simp [code30, isC, c1, c2, c3, Sub.alloc h1]
theorem fn36_ok (c : Cl) (h : AHeap) : Returns Try.prog 36 [clV c] h (.bool (isC c)) h := by
  refine Returns.val fn36 (by simp) fun h1 h2 => ⟨by simp [AVal.ok], ?_⟩
  have e1 : decide (c.epoch ≤ 2147483647) = decide (c.epoch < 2147483648) := by rw [decide_eq_decide]; omega
  have e2 : decide (c.seq ≤ 2147483647) = decide (c.seq < 2147483648) := by rw [decide_eq_decide]; omega
  rw [isC, e1, e2]
  by_cases c1 : 0 ≤ c.epoch
  case neg => simp [code36, c1, Sub.alloc h1]
  by_cases c2 : c.epoch < 2147483648
  case neg => simp [code36, c1, c2, Sub.alloc h1]
  by_cases c3 : 0 ≤ c.seq
  case neg => simp [code36, c1, c2, c3, Sub.alloc h1]
  simp [code36, c1, c2, c3, Sub.alloc h1]

/-- A number at the beginning, at most so much; what is behind it. -/
def rd (most : Nat) (l : List Nat) : Option (Nat × List Nat) :=
  match getU l with
  | some (v, n) => if v ≤ most then some (v, l.drop n) else none
  | none => none
def mark8 (m : Nat) : List Nat := [m / 72057594037927936 % 256, m / 281474976710656 % 256, m / 1099511627776 % 256, m / 4294967296 % 256, m / 16777216 % 256, m / 65536 % 256, m / 256 % 256, m % 256]
def callB (c : Cl) : List Nat := putU c.epoch.toNat ++ putU c.seq.toNat
def reqB (c : Cl) (m : Nat) (arg : List Nat) : Option (List Nat) := if isC c then putF 1 (callB c ++ (mark8 m ++ arg)) else none
structure Rp where
  call : Cl
  err : Int
  bytes : List Nat
  deriving DecidableEq
@[simp] def rpV (r : Rp) : AVal := .agg [.int .i64 r.call.epoch, .int .i64 r.call.seq, .int .i64 r.err, .vec 1 false (bVs r.bytes)]
def noRp : Rp := ⟨⟨0, 0⟩, 0, []⟩
def ansV (o : Option Rp) : AVal := .tup [rpV (o.getD noRp), .bool o.isSome]
/-- A reply's body. -/
def body3 (l : List Nat) : Option Rp :=
  match rd 2147483647 l with
  | none => none
  | some (e, b1) =>
    match rd 2147483647 b1 with
    | none => none
    | some (s, b2) =>
      match rd 12 b2 with
      | none => none
      | some (x, b3) => if x ≠ 0 ∧ b3 ≠ [] then none else some ⟨⟨e, s⟩, x, b3⟩
def ans (l : List Nat) : Option Rp :=
  match getF l with
  | some (k, b, n) => if k = 2 ∧ n = l.length then body3 b else none
  | none => none

theorem fn19_ok (a b : Rp) (h : AHeap) (ha : ∀ x ∈ a.bytes, x < 256) (hb : ∀ x ∈ b.bytes, x < 256) : Returns Try.prog 19 [rpV a, rpV b] h (.bool (decide (a = b))) h := by
  refine Returns.val fn19 (by simp) fun h1 h2 => ⟨by simp [AVal.ok], ?_⟩
  have e : (a = b) = (a.call = b.call ∧ a.err = b.err ∧ a.bytes = b.bytes) := by cases a; cases b; simp
  have ec : (a.call = b.call) = (a.call.epoch = b.call.epoch ∧ a.call.seq = b.call.seq) := by
    cases a.call; cases b.call; simp
  have s1 := fun h => (IsB.vec (h := h) false a.bytes).b2s ha
  have s2 := fun h => (IsB.vec (h := h) false b.bytes).b2s hb
  by_cases c1 : a.call = b.call
  case neg =>
    have c1' := c1
    rw [ec] at c1'
    by_cases c3 : a.call.epoch = b.call.epoch
    · have c4 : ¬ a.call.seq = b.call.seq := fun h => c1' ⟨c3, h⟩
      simp [code19, c1, e, c3, c4]
      repeat' (first | exact Sub.refl _ | refine Sub.put_both ?_ | refine Sub.alloc h1 ?_ | refine Sub.put h1 ?_ (by simp) | refine Sub.drop h1 ?_ (by simp))
    · simp [code19, c1, e, c3]
      repeat' (first | exact Sub.refl _ | refine Sub.put_both ?_ | refine Sub.alloc h1 ?_ | refine Sub.put h1 ?_ (by simp) | refine Sub.drop h1 ?_ (by simp))
  by_cases c2 : a.err = b.err
  case neg =>
    simp [code19, c1, c2, e]
    repeat' (first | exact Sub.refl _ | refine Sub.put_both ?_ | refine Sub.alloc h1 ?_ | refine Sub.put h1 ?_ (by simp) | refine Sub.drop h1 ?_ (by simp))
  simp [code19, c1, c2, e, s1, s2, bytes_inj ha hb]
  repeat' (first | exact Sub.refl _ | refine Sub.put_both ?_ | refine Sub.alloc h1 ?_ | refine Sub.put h1 ?_ (by simp) | refine Sub.drop h1 ?_ (by simp))
def newer (a b : Cl) : Bool := decide (b.epoch < a.epoch) || (decide (a.epoch = b.epoch) && decide (b.seq < a.seq))
theorem fn21_ok (a b : Cl) (h : AHeap) : Returns Try.prog 21 [clV a, clV b] h (.bool (newer a b)) h := by
  refine Returns.val fn21 (by simp) fun h1 h2 => ⟨by simp [AVal.ok], ?_⟩
  by_cases c1 : b.epoch < a.epoch
  case pos =>
    simp [code21, newer, c1]
    repeat' (first | exact Sub.refl _ | refine Sub.put_both ?_ | refine Sub.alloc h1 ?_ | refine Sub.put h1 ?_ (by simp) | refine Sub.drop h1 ?_ (by simp))
  by_cases c2 : a.epoch = b.epoch
  case neg =>
    simp [code21, newer, c1, c2]
    repeat' (first | exact Sub.refl _ | refine Sub.put_both ?_ | refine Sub.alloc h1 ?_ | refine Sub.put h1 ?_ (by simp) | refine Sub.drop h1 ?_ (by simp))
  simp [code21, newer, c1, c2]
  repeat' (first | exact Sub.refl _ | refine Sub.put_both ?_ | refine Sub.alloc h1 ?_ | refine Sub.put h1 ?_ (by simp) | refine Sub.drop h1 ?_ (by simp))
end Go.Proofs.Ytbjifmoiblicgaa.Ab
