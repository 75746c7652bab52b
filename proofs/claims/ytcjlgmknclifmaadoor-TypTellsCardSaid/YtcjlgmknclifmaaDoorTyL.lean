/- Normed twice it is as once. -/
import Derived.Test.YtcjlgmknclifmaaDoorTyK
set_option linter.unusedVariables false
set_option linter.unusedSimpArgs false
namespace Go.Proofs.YtcjlgmknclifmaaDoor.Ab
open Go

theorem fn4_ok (t : Ty) (h : AHeap) : Returns Tryd.prog 4 [tyV t] h (.bool true) h := by
  refine Returns.val fn4 (by simp) fun h1 h2 => ⟨by simp [AVal.ok], ?_⟩
  simp only [AVal.oks, tyV_ok] at h2
  have ht := h2.1
  have a8 := fn8_ok t
  have a9 := fn9_ok t
  have a16 := fn16_ok t
  have a13 := fn13_ok t
  rw [tyV_eq] at a8 a9 a16 a13 ⊢
  simp [code4]
  refine (a8 _).to ?_
  by_cases l1 : 300 < sz t
  · simp [l1]
    repeat' (first | exact Sub.refl _ | refine Sub.put_both ?_ | refine Sub.alloc h1 ?_ | refine Sub.put h1 ?_ (by simp) | refine Sub.drop h1 ?_ (by simp))
  simp [l1]
  refine (a9 _).to ?_
  cases i1 : isT t
  · simp
    repeat' (first | exact Sub.refl _ | refine Sub.put_both ?_ | refine Sub.alloc h1 ?_ | refine Sub.put h1 ?_ (by simp) | refine Sub.drop h1 ?_ (by simp))
  simp
  have hg : good t = true := by simp [isT] at i1; exact i1.2
  have hz := sz_norm t
  have hn := norm_norm t hg
  have hv := vars_norm t hg
  have hl := adds_len t []
  have n16 := fn16_ok (norm t)
  have n13 := fn13_ok (norm t)
  have n15 := fn15_ok (norm t) (norm t)
  have e15 : eqT (norm t) (norm t) = true := by rw [eqT_iff]
  rw [hn] at n16
  rw [hv] at n13
  rw [e15] at n15
  have en := tyV_eq (norm t)
  rw [en] at n16 n13 n15
  refine (a16 _ (by omega)).to ?_
  rw [en]
  simp
  refine (n13 _ (by omega)).to ?_
  simp
  have hk : (vars t).length ≤ 300 := by simp at hl; simp only [vars]; omega
  generalize hkk : (vars t).length = k at *
  refine Ev.countV (fun i => upd (upd (upd (upd noEnv 1 (.ptr h.next 0)) 3 (.ptr (h.next + 1) 0)) 4 (.vec 1 false (iVs (rng k)))) 5 (.int .i64 i)) k (fun _ => True) (fun _ => ⟨trivial, ?_⟩) ?_
  · repeat' (first | exact TidyV_none _ _ _ _ | (refine TidyV_upd (by simp [AVal.ok, AVal.oks, huge, big] <;> omega) ?_))
  intro i hi _ hok
  by_cases hlt : i < k
  · have hw : IntKind.i64.wrap (↑i + 1) = ↑i + 1 := wrap_i64 (by omega) (by omega)
    have hp : ∀ hh, (iVs (rng k))[i]'hh = .int .i64 i := by intro hh; simp [iVs, rng]
    simp [hlt, hw, hp]
    intro _
    repeat' (first | exact TidyV_none _ _ _ _ | (refine TidyV_upd (by simp [AVal.ok, AVal.oks, huge, big] <;> omega) ?_))
  · simp [hlt]
    refine (n16 _ (by omega)).to ?_
    simp
    refine (n15 _).to ?_
    simp
    refine (a13 _ (by omega)).to ?_
    simp [hkk]
    refine (fn11_ok _).to ?_
    simp
    repeat' (first | exact Sub.refl _ | refine Sub.put_both ?_ | refine Sub.alloc h1 ?_ | refine Sub.put h1 ?_ (by simp) | refine Sub.drop h1 ?_ (by simp))
end Go.Proofs.YtcjlgmknclifmaaDoor.Ab
