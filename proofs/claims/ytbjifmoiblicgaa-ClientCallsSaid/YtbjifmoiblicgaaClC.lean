/- What is known of a client: the third tick. -/
import Derived.Test.YtbjifmoiblicgaaClB
set_option linter.unusedVariables false
set_option linter.unusedSimpArgs false
namespace Go.Proofs.Ytbjifmoiblicgaa.Ab
open Go

theorem reqB_some {c : Cl} {m : Nat} {arg : List Nat} (hc : isC c = true) (ha : arg.length ≤ 100) : ∃ r, reqB c m arg = some r ∧ 0 < r.length := by
  obtain ⟨e, s, rfl, he, hs⟩ := isC_nat hc
  have l1 := putU_length e (by omega)
  have l2 := putU_length s (by omega)
  have hl : (callB ⟨e, s⟩ ++ (mark8 m ++ arg)).length ≤ 4000 := by simp [callB_nat, mark8]; omega
  have hr : reqB ⟨e, s⟩ m arg = putF 1 (callB ⟨e, s⟩ ++ (mark8 m ++ arg)) := by simp [reqB, hc]
  have hz := putF_size 1 _ hl
  unfold putF at hr hz
  rw [if_neg (by omega)] at hr hz
  refine ⟨_, hr, ?_⟩
  simp only [Option.getD_some] at hz
  omega
theorem call_some {s : CS} {arg : List Nat} (hp : s.pending = false) (hc : isC s.next = true) (ha : arg.length ≤ 100) : ∃ r, callR s arg = some r ∧ 0 < r.length ∧ callS s arg = ⟨s.mark, s.next, true, r, 0⟩ := by
  obtain ⟨r, hr, hl⟩ := reqB_some (m := s.mark) hc ha
  have h2 : callR s arg = some r := by simp [callR, hp, hr]
  exact ⟨r, h2, hl, by simp [callS, h2]⟩
def s0 (m : Nat) : CS := ⟨m, ⟨0, 0⟩, false, [], 0⟩
theorem s0_ok {m : Nat} (hm : m < 18446744073709551616) : (s0 m).ok := ⟨hm, by simp [s0], by simp [s0]⟩
theorem s0_next (m : Nat) : isC (s0 m).next = true := by
  have : (s0 m).next = ⟨0, 1⟩ := by simp [CS.next, s0]
  rw [this]; decide
theorem fn12_ok (h : AHeap) : Returns Try.prog 12 [] h (.bool true) h := by
  refine Returns.val fn12 (by simp) fun h1 h2 => ⟨by simp [AVal.ok], ?_⟩
  simp [code12]
  refine (fn7_ok 7 h).to ?_
  have hok := s0_ok (m := 7) (by decide)
  obtain ⟨r, hr, hl, hS⟩ := call_some (s := s0 7) (arg := [97]) rfl (s0_next 7) (by decide)
  have hrl := callR_lt (s := s0 7) (arg := [97]) (by decide) hr
  simp
  refine (fn8_ok (s0 7) [97] _ h.next _ (by simp [s0]) hok (by decide) (IsB.whole 5 (by simp) (by simp)) (by decide)).to ?_
  have ok1 : (⟨7, (s0 7).next, true, r, 0⟩ : CS).ok := by have := callS_ok (arg := [97]) hok (by decide); rwa [hS] at this
  rw [hr, hS]
  simp
  refine (fn9_ok ⟨7, (s0 7).next, true, r, 0⟩ h.next _ (by simp [s0]) ok1).to ?_
  have t1 : tickR ⟨7, (s0 7).next, true, r, 0⟩ = none := by simp [tickR, tickN]
  have u1 : tickS ⟨7, (s0 7).next, true, r, 0⟩ = ⟨7, (s0 7).next, true, r, 1⟩ := by simp [tickS, tickN]
  rw [t1, u1]
  simp
  refine (fn9_ok ⟨7, (s0 7).next, true, r, 1⟩ h.next _ (by simp) ok1).to ?_
  have t2 : tickR ⟨7, (s0 7).next, true, r, 1⟩ = none := by simp [tickR, tickN]
  have u2 : tickS ⟨7, (s0 7).next, true, r, 1⟩ = ⟨7, (s0 7).next, true, r, 2⟩ := by simp [tickS, tickN]
  rw [t2, u2]
  simp
  refine (fn9_ok ⟨7, (s0 7).next, true, r, 2⟩ h.next _ (by simp) ok1).to ?_
  have t3 : tickR ⟨7, (s0 7).next, true, r, 2⟩ = some r := by simp [tickR, tickN]
  rw [t3]
  have hb := fun h => (IsB.vec (h := h) false r).b2s hrl.1
  simp [hb, hl]
  repeat' (first | exact Sub.refl _ | refine Sub.put_both ?_ | refine Sub.alloc h1 ?_ | refine Sub.put h1 ?_ (by simp) | refine Sub.drop h1 ?_ (by simp))
end Go.Proofs.Ytbjifmoiblicgaa.Ab
