/- Calls that are told what lies in memory by value. -/
import Derived.Test.YtcjlgmknclifmaaDoorAb20
set_option linter.unusedVariables false
set_option linter.unusedSimpArgs false
namespace Go.Proofs.YtcjlgmknclifmaaDoor.Ab
open Go

/-- The blocks below k. -/
def AHeap.below (k : Nat) (h : AHeap) : AHeap := ⟨fun id => if id < k then h.f id else none, h.next⟩
@[simp] theorem below_next (k : Nat) (h : AHeap) : (h.below k).next = h.next := rfl
@[simp] theorem below_at (k : Nat) (h : AHeap) (id : Nat) : (h.below k).f id = if id < k then h.f id else none := rfl
theorem HOk.below {k : Nat} {h : AHeap} (hk : HOk h) : HOk (h.below k) := fun id o ho => by
  simp only [below_at] at ho
  split at ho
  · exact hk id o ho
  · cases ho
theorem Sub.below {h h' : AHeap} {k : Nat} (hk : HOk h) (hs : Sub h h') (hn : h.next ≤ k) : Sub h (h'.below k) :=
  ⟨hs.1, fun id o ho => by
    have := (hk id o ho).1
    simp only [below_at]
    rw [if_pos (by omega)]
    exact hs.2 id o ho⟩
theorem Sub.of_below {h : AHeap} {k : Nat} : Sub (h.below k) h := ⟨Nat.le_refl _, fun id o ho => by
  simp only [below_at] at ho
  split at ho
  · exact ho
  · cases ho⟩
/-- A call is told the blocks from k on by value; they are never written again. -/
theorem ACalls.frz {P : Program} {f : FuncId} {args args' : List AVal} {h : AHeap} {Q : AVal → AHeap → Prop} (k : Nat) (ha : Les (newZ k) h args args') (hc : ACalls P f args' (h.below k) Q) : ACalls P f args h Q :=
  ⟨hc.1, fun m F w us R hu => by
    have hr : RenZ h.next (fun i => i) (newZ k) h (h.below k) := ⟨fun _ _ => rfl, fun _ _ _ _ e => e, Nat.le_refl _, R.hok.below, fun id o ho => by
      simp only [below_at] at ho
      split at ho
      · exact ⟨by simp only [newZ_at]; omega, o, ho, by rw [AObj.ren_ok (n := h.next) (fun _ _ => rfl) (R.hok id o ho).2]; exact ole_refl o⟩
      · cases ho⟩
    have R2 := R.renz hr
    have hm : m.via (h.below k).next (fun i => i) = m := by
      funext id
      by_cases hlt : id < h.next
      · exact if_pos hlt
      · exact (if_neg hlt).trans (R.old id (by omega)).symm
    rw [hm] at R2
    refine (hc.2 m _ w us R2 (les_sound R ha hu)).mono fun e w' hp => ?_
    cases e <;> first | exact hp.elim | skip
    obtain ⟨v, h', m', F', q1, q2, q3, q4, q5⟩ := hp
    exact ⟨v, h', m', F', q1, q2, q3, q4, Ext.frozen.trans q5⟩⟩
end Go.Proofs.YtcjlgmknclifmaaDoor.Ab
