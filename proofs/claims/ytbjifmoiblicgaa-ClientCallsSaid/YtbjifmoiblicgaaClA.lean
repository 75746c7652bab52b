/- A client: what it is, what it does. -/
import Derived.Test.YtbjifmoiblicgaaSvD
set_option linter.unusedVariables false
set_option linter.unusedSimpArgs false
namespace Go.Proofs.Ytbjifmoiblicgaa.Ab
open Go

structure CS where
  mark : Nat
  last : Cl
  pending : Bool
  req : List Nat
  ticks : Int
def cliO (ty : TypeId) (s : CS) : AObj := .cells ty [.int .u64 s.mark, .int .i64 s.last.epoch, .int .i64 s.last.seq, .bool s.pending, .vec 1 false (bVs s.req), .int .i64 s.ticks]
def CS.ok (s : CS) : Prop := s.mark < 18446744073709551616 ∧ (∀ b ∈ s.req, b < 256) ∧ s.req.length ≤ 5000
theorem cliO_ok {s : CS} {n : Nat} {ty : TypeId} (hs : s.ok) : (cliO ty s).ok n := by
  have := hs.2.2
  simp [cliO, AObj.ok, AVal.oks, AVal.ok, huge]; omega
def CS.next (s : CS) : Cl := ⟨s.last.epoch, IntKind.i64.wrap (s.last.seq + 1)⟩
def callR (s : CS) (arg : List Nat) : Option (List Nat) := if s.pending then none else reqB s.next s.mark arg
def callS (s : CS) (arg : List Nat) : CS := match callR s arg with | some b => ⟨s.mark, s.next, true, b, 0⟩ | none => s
def tickN (s : CS) : Int := IntKind.i64.wrap (s.ticks + 1)
def tickR (s : CS) : Option (List Nat) := if s.pending then (if (tickN s).tmod 3 = 0 then some s.req else none) else none
def tickS (s : CS) : CS := if s.pending then { s with ticks := tickN s } else s
def takeR (s : CS) (b : List Nat) : Option Rp := match ans b with | some r => if s.pending = true ∧ r.call = s.last then some r else none | none => none
def takeS (s : CS) (b : List Nat) : CS := if (takeR s b).isSome then { s with pending := false } else s
def restartS (s : CS) : CS := { s with last := ⟨IntKind.i64.wrap (s.last.epoch + 1), 0⟩, pending := false }
def pendV (s : CS) : AVal := .tup [clV (if s.pending then s.last else ⟨0, 0⟩), .bool s.pending]
theorem reqB_lt {c : Cl} {m : Nat} {arg r : List Nat} (hl : ∀ b ∈ arg, b < 256) (h : reqB c m arg = some r) : (∀ b ∈ r, b < 256) ∧ r.length ≤ 4015 := by
  have hlen := reqB_len c m arg
  rw [h] at hlen
  unfold reqB at h
  split at h
  · refine ⟨putF_lt (by decide) ?_ h, hlen⟩
    intro b hb
    simp only [callB, List.mem_append] at hb
    rcases hb with (hb | hb) | hb | hb
    · exact putU_lt _ b hb
    · exact putU_lt _ b hb
    · exact mark8_lt m b hb
    · exact hl b hb
  · cases h
theorem callR_lt {s : CS} {arg r : List Nat} (hl : ∀ b ∈ arg, b < 256) (h : callR s arg = some r) : (∀ b ∈ r, b < 256) ∧ r.length ≤ 4015 := by
  unfold callR at h
  split at h
  · cases h
  · exact reqB_lt hl h
theorem callS_ok {s : CS} {arg : List Nat} (hs : s.ok) (hl : ∀ b ∈ arg, b < 256) : (callS s arg).ok := by
  unfold callS
  split
  · rename_i b hb
    have := callR_lt hl hb
    exact ⟨hs.1, this.1, by show b.length ≤ _; omega⟩
  · exact hs
theorem tickS_ok {s : CS} (hs : s.ok) : (tickS s).ok := by
  unfold tickS; split
  · exact hs
  · exact hs
theorem takeS_ok {s : CS} {b : List Nat} (hs : s.ok) : (takeS s b).ok := by
  unfold takeS; split
  · exact hs
  · exact hs
theorem restartS_ok {s : CS} (hs : s.ok) : (restartS s).ok := hs
theorem put_self {h : AHeap} {id : Nat} {o : AObj} (hi : h.f id = some o) : h.put id o = h := AHeap.ext' (fun j => by simp only [put_at]; split <;> simp_all) rfl

theorem fn7_ok (m : Nat) (h : AHeap) : Returns Try.prog 7 [.int .u64 m] h (.ptr h.next 0) (h.alloc (cliO 55 ⟨m, ⟨0, 0⟩, false, [], 0⟩)) := by
  refine Returns.one fn7 (by simp) fun h1 h2 => ⟨by simp [AVal.ok], by simp [cliO, AObj.ok, AVal.oks, AVal.ok], ?_⟩
  simp [code7]
  refine ⟨h.next, by simp, .cells 55 [.int .u64 m, .int .i64 0, .int .i64 0, .bool false, .nils, .int .i64 0], by simp, ?_, ?_, ?_⟩
  · repeat' (first | exact Sub.refl _ | refine Sub.put_both ?_ | refine Sub.alloc h1 ?_ | refine Sub.put h1 ?_ (by simp) | refine Sub.drop h1 ?_ (by simp))
  · simp [OLe, cliO, AObj.ren, AVal.rens, AVal.ren]
  · simp [AVal.ren]
theorem chg_put {h h' : AHeap} {id : Nat} {o : AObj} (hk : HOk (h.put id o)) (hs : Sub (h.put id o) h') : Chg h.next h' (h.put id o) := Chg.of_sub (hr := h.put id o) hs
theorem fn8_ok (s : CS) (arg : List Nat) (v : AVal) (id : Nat) (h : AHeap) (hi : h.f id = some (cliO 55 s)) (hs : s.ok) (hl : ∀ b ∈ arg, b < 256) (hB : IsB h v arg) (ha : arg.length ≤ 100000) :
    Returns Try.prog 8 [.ptr id 0, v] h (optV (callR s arg)) (h.put id (cliO 55 (callS s arg))) := by
  refine Returns.chg fn8 (by simp) fun h1 h2 => ?_
  have hid := (h1 id _ hi).1
  have hne : id ≠ h.next := by omega
  have hk : HOk (h.put id (cliO 55 (callS s arg))) := h1.put hid (cliO_ok (callS_ok hs hl))
  have hrl : ((callR s arg).getD []).length ≤ 4015 := by
    cases hr : callR s arg with
    | none => simp
    | some r => exact (callR_lt hl hr).2
  refine ⟨by simp, hk, optV_ok _ _ (Nat.le_trans hrl (by decide)), ?_⟩
  cases hp : s.pending with
  | true =>
    have hr : callR s arg = none := by simp [callR, hp]
    have hS : callS s arg = s := by simp [callS, hr]
    rw [hS, hr, put_self hi]
    simp only [cliO, hp] at hi
    simp [code8, hi]
    exact Chg.of_sub (Sub.refl _)
  | false =>
    have hr : callR s arg = reqB s.next s.mark arg := by simp [callR, hp]
    have hi' := hi
    simp only [cliO, hp] at hi'
    simp [code8, hi', hne]
    refine (fn23_ok s.next s.mark arg v _ hs.1 hl (hB.sub ?_) ha).to ?_
    · repeat' (first | exact Sub.refl _ | refine Sub.put_both ?_ | refine Sub.alloc h1 ?_ | refine Sub.put h1 ?_ (by simp) | refine Sub.drop h1 ?_ (by simp))
    cases hq : reqB s.next s.mark arg with
    | none =>
      have hS : callS s arg = s := by simp [callS, hr, hq]
      rw [hS, hr, hq, put_self hi]
      simp
      refine Chg.of_sub ?_
      repeat' (first | exact Sub.refl _ | refine Sub.put_both ?_ | refine Sub.alloc h1 ?_ | refine Sub.put h1 ?_ (by simp) | refine Sub.drop h1 ?_ (by simp))
    | some r =>
      have hrr := reqB_lt hl hq
      have hS : callS s arg = ⟨s.mark, s.next, true, r, 0⟩ := by simp [callS, hr, hq]
      rw [hS] at hk ⊢
      rw [hr, hq]
      simp [hi', hne]
      refine (fn24_ok r _ _ (.vec _ _) (by simp only [big]; omega)).to ?_
      simp [cliO, CS.next]
      refine Chg.of_sub (hr := h.put id _) ?_
      simp only [cliO, CS.next] at hk
      repeat' (first | exact Sub.refl _ | refine Sub.put_both ?_ | refine Sub.alloc hk ?_ | refine Sub.put hk ?_ (by simp) | refine Sub.drop hk ?_ (by simp))
end Go.Proofs.Ytbjifmoiblicgaa.Ab
