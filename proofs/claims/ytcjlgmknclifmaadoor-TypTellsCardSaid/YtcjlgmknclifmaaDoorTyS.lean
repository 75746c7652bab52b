/- Any type: is it one? its vars, normed, shown, is it sent? -/
import Derived.Test.YtcjlgmknclifmaaDoorTyR
set_option linter.unusedVariables false
set_option linter.unusedSimpArgs false
namespace Go.Proofs.YtcjlgmknclifmaaDoor.Ab
open Go

theorem fn3_ok (t : Ty) (rt : inR t) (h : AHeap) : Returns Tryd.prog 3 [tyV t] h (.bool true) h := by
  refine Returns.val fn3 (by simp) fun h1 h2 => ⟨by simp [AVal.ok], ?_⟩
  have a8 := fn8_ok t
  have a9 := fn9_ok t
  have a10 := fn10_ok t
  have a13 := fn13_ok t
  have a14 := fn14_ok t
  have a16 := fn16_ok t
  have a17 := fn17_ok t
  have a18 := fn18_ok dec t
  have a19 := fn19_ok dec t
  have a20 := fn20_ok t
  have a21 := fn21_ok t
  have n15 := fn15_ok (norm t) (norm t)
  have e15 : eqT (norm t) (norm t) = true := by rw [eqT_iff]
  rw [e15] at n15
  rw [tyV_eq t] at a8 a9 a10 a13 a14 a16 a17 a18 a19 a20 a21 ⊢
  simp [code3]
  refine (a8 _).to ?_
  by_cases l1 : 300 < sz t
  · simp [l1]
    repeat' (first | exact Sub.refl _ | refine Sub.put_both ?_ | refine Sub.alloc h1 ?_ | refine Sub.put h1 ?_ (by simp) | refine Sub.drop h1 ?_ (by simp))
  simp [l1]
  refine (a9 _).to ?_
  cases i1 : isT t
  · rw [i1] at a10
    simp
    refine (a10 _).to ?_
    simp
    refine (fn11_ok _).to ?_
    simp
    repeat' (first | exact Sub.refl _ | refine Sub.put_both ?_ | refine Sub.alloc h1 ?_ | refine Sub.put h1 ?_ (by simp) | refine Sub.drop h1 ?_ (by simp))
  rw [i1] at a10
  have hg : good t = true := by simp [isT] at i1; exact i1.2
  have hal := allN_dec t hg rt
  simp
  refine (a10 _).to ?_
  simp
  refine (a13 _ (by omega)).to ?_
  simp
  refine (a14 _ (by omega)).to ?_
  simp
  refine (fn12_ok (vars t) _).to ?_
  simp
  refine (a16 _ (by omega)).to ?_
  simp
  refine (a17 _ (by omega)).to ?_
  simp
  refine (n15 _).to ?_
  simp
  refine (a18 _ (by omega) hg (allN.mono (fun n hn => ⟨hn.1, hn.2.1⟩) t hal)).to ?_
  simp
  refine (a19 _ (by omega) hg (allN.mono (fun n hn => ⟨hn.1, hn.2.2⟩) t hal)).to ?_
  simp
  refine (a20 _).to ?_
  simp
  refine (a21 _).to ?_
  simp
  refine (fn11_ok _).to ?_
  simp
  repeat' (first | exact Sub.refl _ | refine Sub.put_both ?_ | refine Sub.alloc h1 ?_ | refine Sub.put h1 ?_ (by simp) | refine Sub.drop h1 ?_ (by simp))
end Go.Proofs.YtcjlgmknclifmaaDoor.Ab
