/- What is put is got again. -/
import Derived.Test.YtbjifmoiblicgaaClC
set_option linter.unusedVariables false
set_option linter.unusedSimpArgs false
namespace Go.Proofs.Ytbjifmoiblicgaa.Ab
open Go

theorem runs_putU (x : Nat) : Runs (putU x) := by
  rw [putU]
  split
  · have := runs_putU (x / 128)
    obtain ⟨a, l, hl⟩ : ∃ a l, putU (x / 128) = a :: l := by
      cases h : putU (x / 128) with
      | nil => exact absurd h (putU_ne _)
      | cons a l => exact ⟨a, l, rfl⟩
    rw [hl] at this ⊢
    exact ⟨by omega, by omega, this⟩
  · simp [Runs]; omega
termination_by x
decreasing_by omega
theorem endU_runs : ∀ (l r : List Nat), Runs l → endU (l ++ r) = some (l.length - 1)
  | [], r, h => h.elim
  | [b], r, h => by
    simp only [Runs] at h
    simp [endU, List.findIdx?_cons, h]
  | b :: c :: l, r, h => by
    obtain ⟨h1, h2, h3⟩ := h
    have := endU_runs (c :: l) r h3
    unfold endU at this ⊢
    rw [List.cons_append, List.findIdx?_cons]
    have hb : ¬ b < 128 := by omega
    simp only [hb, decide_false, Bool.false_eq_true, if_false, this]
    simp
theorem getU_putU (v : Nat) (hv : v < 18446744073709551616) (r : List Nat) : getU (putU v ++ r) = some (v, (putU v).length) := by
  have hl := putU_length v (by omega)
  have hp := putU_pos v
  have e : (putU v).length - 1 + 1 = (putU v).length := by omega
  unfold getU
  rw [endU_runs _ r (runs_putU v)]
  simp only [e]
  have ht : (putU v ++ r).take (putU v).length = putU v := by simp
  rw [ht, val_putU, Nat.mod_eq_of_lt hv, if_pos ⟨by omega, rfl⟩]
theorem getU_small (v : Nat) (hv : v < 128) (r : List Nat) : getU (v :: r) = some (v, 1) := by
  have h := getU_putU v (by omega) r
  have hp : putU v = [v] := by rw [putU]; simp; omega
  rw [hp] at h
  simpa using h
theorem rd_small (most v : Nat) (hv : v < 128) (r : List Nat) : rd most (v :: r) = if v ≤ most then some (v, r) else none := by
  unfold rd
  rw [getU_small v hv r]
  simp
theorem getF_putF {k : Nat} {b w : List Nat} (h : putF k b = some w) : getF w = some (k, b, w.length) := by
  have hw := h
  unfold putF at h
  split at h
  · cases h
  · rename_i hlt
    cases h
    have hu := getU_putU b.length (by omega) (b ++ sum4 (adler (frm k b)))
    have e : frm k b ++ sum4 (adler (frm k b)) = k :: (putU b.length ++ (b ++ sum4 (adler (frm k b)))) := by simp [frm]
    generalize hw' : frm k b ++ sum4 (adler (frm k b)) = w at *
    rw [e]
    simp only [getF, hu]
    have hb : bodyF (putU b.length ++ (b ++ sum4 (adler (frm k b)))) b.length (putU b.length).length = b := by simp [bodyF]
    rw [hb, ← e, hw]
    have h4 : (sum4 (adler (frm k b))).length = 4 := rfl
    rw [if_pos ⟨by omega, by simp [h4], by simp⟩]
    rfl
/-- A reply of small numbers. -/
theorem ans_small {e s x : Nat} {l w : List Nat} (h : putF 2 (e :: s :: x :: l) = some w) (he : e < 128) (hs : s < 128) (hx : x < 128) :
    ans w = if x ≤ 12 then (if x ≠ 0 ∧ l ≠ [] then none else some ⟨⟨e, s⟩, x, l⟩) else none := by
  unfold ans
  rw [getF_putF h]
  simp only [true_and, if_true]
  unfold body3
  rw [rd_small _ _ he, if_pos (by omega)]
  simp only
  rw [rd_small _ _ hs, if_pos (by omega)]
  simp only
  rw [rd_small _ _ hx]
  by_cases h12 : x ≤ 12
  · simp [h12]
  · simp [h12]
theorem putF_some {k : Nat} {l : List Nat} (h : l.length ≤ 4000) : ∃ w, putF k l = some w := by
  unfold putF; rw [if_neg (by omega)]; exact ⟨_, rfl⟩
end Go.Proofs.Ytbjifmoiblicgaa.Ab
