/- What is sent has kids that are; types that come in. -/
import Derived.Test.YtcjlgmknclifmaaDoorTyI
import Derived.Test.YtcjlgmknclifmaaDoorAb26
set_option linter.unusedVariables false
set_option linter.unusedSimpArgs false
namespace Go.Proofs.YtcjlgmknclifmaaDoor.Ab
open Go Go.ChangeShapes Go.WideShapes Go.ChangeAt Go.RowKit

mutual
/-- All numbers are such. -/
def allM (p : Int → Prop) : Ty → Prop
  | .mk _ n ks => p n ∧ allMs p ks
def allMs (p : Int → Prop) : List Ty → Prop
  | [] => True
  | k :: ks => allM p k ∧ allMs p ks
end
theorem allMs_mem {p : Int → Prop} : ∀ {ks : List Ty}, allMs p ks ↔ ∀ k ∈ ks, allM p k
  | [] => by simp [allMs]
  | k :: ks => by simp [allMs, allMs_mem (ks := ks)]
def inR (t : Ty) : Prop := allM (fun n => -9223372036854775808 ≤ n ∧ n ≤ 9223372036854775807) t
theorem opensTyN : ∀ N, OpensN Tryd.prog N 24 Ty tyC inR
  | 0 => .zero
  | 1 => fun H enc W n cs x hn hx => by
    obtain ⟨xs, m, hm, _⟩ := DataW.trod_struct Tryd.underlying24 hx
    omega
  | N + 2 => by
    have hK : OpensN Tryd.prog (N + 1) 22 (List Ty) (fun l => [.vec 3 false (l.map fun a => .agg (tyC a))]) (fun l => ∀ a ∈ l, inR a) := OpensN.sliceS Tryd.underlying22 (by kernel_rfl) (by decide) (opensTyN N)
    refine (OpensN.struct Tryd.underlying24 (by kernel_rfl) (OpensRN.cons ((Opens.str Tryd.underlying9).toN (N + 1)) (OpensRN.cons ((Opens.i64 Tryd.underlying3).toN (N + 1)) (OpensRN.cons hK .nil)))).as (fun p => .mk p.1 p.2.1 p.2.2.1) ?_ ?_
    · rintro ⟨op, n, ks, _⟩ _
      simp [tyC]
      intro a ha
      rw [tyV_eq]
    · rintro ⟨op, n, ks, _⟩ ⟨_, h1, h2, _⟩
      exact ⟨h1, allMs_mem.2 h2⟩
theorem opensTy : Opens Tryd.prog 24 Ty tyC inR := .ofN opensTyN
theorem fn20_frz (t : Ty) (v : AVal) (h : AHeap) (k : Nat) {Q : AVal → AHeap → Prop} (hle : Le (newZ k) h v (tyV t)) (hq : Q (.bool (sent t)) (h.below k)) : ACalls Tryd.prog 20 [v] h Q :=
  ACalls.frz k (.cons hle .nil) ((fn20_ok t _).to hq)
theorem fn6_ok (a b : Ty) (h : AHeap) : Returns Tryd.prog 6 [tyV a, tyV b] h (.bool true) h := by
  refine Returns.val fn6 (by simp) fun h1 h2 => ⟨by simp [AVal.ok], ?_⟩
  have a8 := fn8_ok a
  have b8 := fn8_ok b
  have a9 := fn9_ok a
  have b9 := fn9_ok b
  have a20 := fn20_ok a
  have b20 := fn20_ok b
  have ea := tyV_eq a
  have eb := tyV_eq b
  rw [ea] at a8 a9 a20
  rw [eb] at b8 b9 b20
  rw [ea, eb]
  simp [code6]
  refine (a8 _).to ?_
  by_cases l1 : 300 < sz a
  · simp [l1]
    repeat' (first | exact Sub.refl _ | refine Sub.alloc h1 ?_ | refine Sub.below h1 ?_ (by simp))
  simp [l1]
  refine (b8 _).to ?_
  by_cases l2 : 300 < sz b
  · simp [l2]
    repeat' (first | exact Sub.refl _ | refine Sub.alloc h1 ?_ | refine Sub.below h1 ?_ (by simp))
  simp [l2]
  refine (a9 _).to ?_
  cases i1 : isT a
  · simp
    repeat' (first | exact Sub.refl _ | refine Sub.alloc h1 ?_ | refine Sub.below h1 ?_ (by simp))
  simp
  refine (b9 _).to ?_
  cases i2 : isT b
  · simp
    repeat' (first | exact Sub.refl _ | refine Sub.alloc h1 ?_ | refine Sub.below h1 ?_ (by simp))
  simp
  refine (a20 _).to ?_
  simp
  refine (b20 _).to ?_
  simp
  refine fn23_ty sPair [a, b] _ _ (h.next + 2) (Le.tys _ (by simp) (by simp; rfl) (by simp [tyCs, tyC]) rfl) ?_
  simp
  have c20 := fn20_ok (.mk sPair 0 [a, b])
  have s20 : sent (.mk sPair 0 [a, b]) = (sent a && sent b) := by simp [sent_mk]
  rw [tyV_mk, s20] at c20
  have l20 := fn20_ok (.mk sList 0 [a])
  have sl20 : sent (.mk sList 0 [a]) = sent a := by simp [sent_mk]
  rw [tyV_mk, sl20] at l20
  have r20 := fn20_ok (.mk sRef 0 [b])
  have sr20 : sent (.mk sRef 0 [b]) = sent b := by simp [sent_mk]
  rw [tyV_mk, sr20] at r20
  have f20 := fn20_ok (.mk sFun 0 [a, b])
  have sf20 : sent (.mk sFun 0 [a, b]) = false := by simp [sent_mk]
  rw [tyV_mk, sf20] at f20
  refine (c20 _).to ?_
  cases hx : sent a <;> cases hy : sent b
  all_goals
    rw [hx] at l20
    rw [hy] at r20
    simp
    refine fn23_ty sList [a] _ _ (h.next + 2) (Le.tys _ (by simp) (by simp; rfl) (by simp [tyCs, tyC]) rfl) ?_
    simp
    refine (l20 _).to ?_
    simp
    refine fn23_ty sRef [b] _ _ (h.next + 2) (Le.tys _ (by simp) (by simp; rfl) (by simp [tyCs, tyC]) rfl) ?_
    simp
    refine (r20 _).to ?_
    simp
    refine fn23_ty sFun [a, b] _ _ (h.next + 2) (Le.tys _ (by simp) (by simp; rfl) (by simp [tyCs, tyC]) rfl) ?_
    simp
    refine (f20 _).to ?_
    simp
    refine (fn11_ok _).to ?_
    simp
    repeat' (first | exact Sub.refl _ | refine Sub.alloc h1 ?_ | refine Sub.below h1 ?_ (by simp))
end Go.Proofs.YtcjlgmknclifmaaDoor.Ab
