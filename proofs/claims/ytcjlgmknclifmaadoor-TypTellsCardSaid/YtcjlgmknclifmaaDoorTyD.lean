/- Long, is, sent; types made. -/
import Derived.Test.YtcjlgmknclifmaaDoorTyC
import Derived.Test.YtcjlgmknclifmaaDoorAb24
set_option linter.unusedVariables false
set_option linter.unusedSimpArgs false
namespace Go.Proofs.YtcjlgmknclifmaaDoor.Ab
open Go

def isT (t : Ty) : Bool := decide (sz t ≤ 2000) && good t
theorem fn8_ok (t : Ty) (h : AHeap) : Returns Tryd.prog 8 [tyV t] h (.bool (decide (300 < sz t))) h := by
  refine Returns.val fn8 (by simp) fun h1 h2 => ⟨by simp [AVal.ok], ?_⟩
  have hc := fn25_ok t 301
  rw [tyV_eq] at hc ⊢
  simp [code8]
  refine (hc _ (by omega) (by omega)).to ?_
  have e : (300 : Int) < (min (sz t) 301 : Nat) ↔ 300 < sz t := by omega
  simp [e]
  repeat' (first | exact Sub.refl _ | refine Sub.put_both ?_ | refine Sub.alloc h1 ?_ | refine Sub.put h1 ?_ (by simp) | refine Sub.drop h1 ?_ (by simp))
theorem fn9_ok (t : Ty) (h : AHeap) : Returns Tryd.prog 9 [tyV t] h (.bool (isT t)) h := by
  refine Returns.val fn9 (by simp) fun h1 h2 => ⟨by simp [AVal.ok], ?_⟩
  have hc := fn25_ok t 2001
  have hg := fn26_ok t
  rw [tyV_eq] at hc hg ⊢
  simp [code9]
  refine (hc _ (by omega) (by omega)).to ?_
  have e : (min (sz t) 2001 : Nat) ≤ (2000 : Int) ↔ sz t ≤ 2000 := by omega
  by_cases hs : sz t ≤ 2000
  · simp [e, hs]
    refine (hg _).to ?_
    simp [isT, hs]
    repeat' (first | exact Sub.refl _ | refine Sub.put_both ?_ | refine Sub.alloc h1 ?_ | refine Sub.put h1 ?_ (by simp) | refine Sub.drop h1 ?_ (by simp))
  · simp [e, hs, isT]
    repeat' (first | exact Sub.refl _ | refine Sub.put_both ?_ | refine Sub.alloc h1 ?_ | refine Sub.put h1 ?_ (by simp) | refine Sub.drop h1 ?_ (by simp))
theorem fn10_ok (t : Ty) (h : AHeap) : Returns Tryd.prog 10 [tyV t] h (.bool (isT t)) h := by
  refine Returns.val fn10 (by simp) fun h1 h2 => ⟨by simp [AVal.ok], ?_⟩
  have hc := fn27_ok t 2001
  have hg := fn28_ok t
  rw [tyV_eq] at hc hg ⊢
  simp [code10]
  refine (hc _ (by omega) (by omega)).to ?_
  have e : (min (sz t) 2001 : Nat) ≤ (2000 : Int) ↔ sz t ≤ 2000 := by omega
  by_cases hs : sz t ≤ 2000
  · simp [e, hs]
    refine (hg _).to ?_
    simp [isT, hs]
    repeat' (first | exact Sub.refl _ | refine Sub.put_both ?_ | refine Sub.alloc h1 ?_ | refine Sub.put h1 ?_ (by simp) | refine Sub.drop h1 ?_ (by simp))
  · simp [e, hs, isT]
    repeat' (first | exact Sub.refl _ | refine Sub.put_both ?_ | refine Sub.alloc h1 ?_ | refine Sub.put h1 ?_ (by simp) | refine Sub.drop h1 ?_ (by simp))

mutual
def sent : Ty → Bool
  | .mk op _ ks => decide (op ≠ sVar) && decide (op ≠ sFun) && sents ks
def sents : List Ty → Bool
  | [] => true
  | k :: ks => sent k && sents ks
end
theorem sents_all : ∀ (ks : List Ty), sents ks = ks.all sent
  | [] => by simp [sents]
  | k :: ks => by simp [sents, sents_all ks]
theorem sent_mk (op : ByteArray) (n : Int) (ks : List Ty) : sent (.mk op n ks) = (decide (op ≠ sVar) && decide (op ≠ sFun) && ks.all sent) := by simp [sent, sents_all]
theorem fn36_of (t : Ty) (b : Bool) (h : AHeap) (hc : ∀ h', Returns Tryd.prog 20 [tyV t] h' (.bool b) h') : Returns Tryd.prog 36 [tyV t] h (.bool (!b)) h := by
  refine Returns.val fn36 (by simp) fun h1 h2 => ⟨by simp [AVal.ok], ?_⟩
  rw [tyV_eq] at hc ⊢
  simp [code36]
  refine (hc _).to ?_
  simp
  repeat' (first | exact Sub.refl _ | refine Sub.put_both ?_ | refine Sub.alloc h1 ?_ | refine Sub.put h1 ?_ (by simp) | refine Sub.drop h1 ?_ (by simp))
theorem fn20_ok (t : Ty) : ∀ (h : AHeap), Returns Tryd.prog 20 [tyV t] h (.bool (sent t)) h := by
  refine Ty.ind (motive := fun t => ∀ (h : AHeap), Returns Tryd.prog 20 [tyV t] h (.bool (sent t)) h) (fun op n ks ih => ?_) t
  intro h
  refine Returns.val fn20 (by simp) fun h1 h2 => ⟨by simp [AVal.ok], ?_⟩
  have tail : ∀ h', Returns Tryd.prog 35 [.vec 3 false (ks.map tyV), .clo 36 []] h' (.bool (ks.any fun k => !sent k)) h' := fun h' =>
    fn35_ok ks 36 (fun k => !sent k) h' fun k hk h'' => fn36_of k (sent k) h'' (ih k hk)
  have hall : (!ks.any fun k => !sent k) = ks.all sent := by rw [List.not_any_eq_all_not]; simp
  have hs := sent_mk op n ks
  rw [tyV_mk]
  by_cases c1 : op = sVar
  · subst c1
    simp at hs
    simp [code20, hs]
    repeat' (first | exact Sub.refl _ | refine Sub.put_both ?_ | refine Sub.alloc h1 ?_ | refine Sub.put h1 ?_ (by simp) | refine Sub.drop h1 ?_ (by simp))
  by_cases c2 : op = sFun
  · subst c2
    simp at hs
    simp [code20, hs]
    repeat' (first | exact Sub.refl _ | refine Sub.put_both ?_ | refine Sub.alloc h1 ?_ | refine Sub.put h1 ?_ (by simp) | refine Sub.drop h1 ?_ (by simp))
  simp [c1, c2] at hs
  simp [code20, c1, c2]
  refine (tail _).to ?_
  simp [hs, hall]
  repeat' (first | exact Sub.refl _ | refine Sub.put_both ?_ | refine Sub.alloc h1 ?_ | refine Sub.put h1 ?_ (by simp) | refine Sub.drop h1 ?_ (by simp))
/-- A type made of kids: whatever these lie in. -/
theorem fn23_ok (op : ByteArray) (v : AVal) (h : AHeap) (hv : v.cells = [v]) (ho : v.one = true) : Returns Tryd.prog 23 [.str op, v] h (.agg [.str op, .int .i64 0, v]) h := by
  refine Returns.val fn23 (by simp) fun h1 h2 => ⟨by simp only [AVal.oks] at h2; simp [AVal.ok, AVal.oks]; simpa [AVal.ok] using ⟨h2.1, h2.2.1⟩, ?_⟩
  simp [code23, hv]
  refine ⟨ho, ?_⟩
  repeat' (first | exact Sub.refl _ | refine Sub.put_both ?_ | refine Sub.alloc h1 ?_ | refine Sub.put h1 ?_ (by simp) | refine Sub.drop h1 ?_ (by simp))
def varT (n : Int) : Ty := .mk sVar n []
theorem fn22_ok (n : Int) (h : AHeap) : Returns Tryd.prog 22 [.int .i64 n] h (tyV (varT n)) h := by
  refine Returns.val fn22 (by simp) fun h1 h2 => ⟨by rw [tyV_ok, varT, TyOk_mk]; exact ⟨by decide, by simp, by simp⟩, ?_⟩
  simp [code22, varT, tyV_mk]
  repeat' (first | exact Sub.refl _ | refine Sub.put_both ?_ | refine Sub.alloc h1 ?_ | refine Sub.put h1 ?_ (by simp) | refine Sub.drop h1 ?_ (by simp))
end Go.Proofs.YtcjlgmknclifmaaDoor.Ab
