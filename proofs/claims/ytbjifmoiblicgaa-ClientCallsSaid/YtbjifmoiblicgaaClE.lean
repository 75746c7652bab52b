/- Calls come one after the other. -/
import Derived.Test.YtbjifmoiblicgaaClD
set_option linter.unusedVariables false
set_option linter.unusedSimpArgs false
namespace Go.Proofs.Ytbjifmoiblicgaa.Ab
open Go

theorem fn22_ok (n : Int) (h : AHeap) : Returns Try.prog 22 [.int .i64 n] h (.sl 1 h.next 0 1 (some 1)) (h.alloc (.cells 5 [.int .u8 (n % 128 % 256)])) := by
  refine Returns.exact fn22 (by simp) fun _ _ => ?_
  simp [code22]
theorem fn8_nil (v : AVal) (h : AHeap) : Returns Try.prog 8 [.nilp, v] h (.tup [.nils, .bool false]) h := by
  refine Returns.exact fn8 (by simp) fun _ _ => ?_
  simp [code8]
theorem fn9_nil (h : AHeap) : Returns Try.prog 9 [.nilp] h (.tup [.nils, .bool false]) h := by
  refine Returns.exact fn9 (by simp) fun _ _ => ?_
  simp [code9]
theorem fn16_nil (h : AHeap) : Returns Try.prog 16 [.nilp] h (.tup []) h := by
  refine Returns.exact fn16 (by simp) fun _ _ => ?_
  simp [code16]
def clO (c : Cl) : AObj := .cells 31 [.int .i64 c.epoch, .int .i64 c.seq]
def duo (h : AHeap) (s : CS) (c : Cl) : AHeap := (h.alloc (cliO 55 s)).alloc (clO c)
theorem clO_ok (n : Nat) (c : Cl) : (clO c).ok n := by simp [clO, AObj.ok, AVal.oks, AVal.ok]
theorem duo_ok {h : AHeap} {s : CS} {c : Cl} (hk : HOk h) (hs : s.ok) : HOk (duo h s c) := (hk.alloc (cliO_ok hs)).alloc (clO_ok _ _)
theorem oks_bools (n : Nat) (l : List Bool) : AVal.oks n (l.map AVal.bool) := by
  rw [oks_iff]
  intro x hx
  obtain ⟨b, _, rfl⟩ := List.mem_map.1 hx
  simp [AVal.ok]
def Goes (i : Nat) (s : CS) (c : Cl) : Prop := s.ok ∧ s.pending = false ∧ ∃ e q : Nat, s.last = ⟨e, q⟩ ∧ e ≤ i ∧ q ≤ i ∧ (c.epoch < e ∨ (c.epoch = e ∧ c.seq ≤ q))
theorem fn6_ok (l : List Bool) (h : AHeap) : Returns Try.prog 6 [.vec 1 false (l.map AVal.bool)] h (.bool true) h := by
  refine Returns.val fn6 (by simp) fun h1 h2 => ⟨by simp [AVal.ok], ?_⟩
  by_cases c1 : 50 < l.length
  · simp [code6, c1]
  simp [code6, c1]
  refine (fn7_ok 1 h).to ?_
  simp
  refine Ev.over (ι := Nat × CS × Cl) (fun p => p.1 ≤ l.length ∧ Goes p.1 p.2.1 p.2.2)
    (fun p => ⟨upd (upd (upd (upd noEnv 0 (.vec 1 false (l.map AVal.bool))) 3 (.ptr h.next 0)) 4 (.ptr (h.next + 1) 0)) 5 (.int .i64 (p.1 : Int)), duo h p.2.1 p.2.2⟩) (fun p => l.length - p.1)
    (fun _ _ => ⟨(0, s0 1, ⟨0, 0⟩), ⟨by omega, s0_ok (by decide), rfl, 0, 0, rfl, by omega, by omega, .inr ⟨rfl, by simp⟩⟩, ?_⟩) ?_
  · have hk := duo_ok (c := ⟨0, 0⟩) h1 (s0_ok (m := 1) (by decide))
    refine Tidy.chg (by simp [duo]) hk (Chg.of_sub ?_) ?_
    · simp only [duo, clO, s0] at hk ⊢
      repeat' (first | exact Sub.refl _ | refine Sub.put_both ?_ | refine Sub.alloc hk ?_ | refine Sub.put hk ?_ (by simp) | refine Sub.drop hk ?_ (by simp))
    · repeat' (first | exact TidyV_none _ _ _ _ | (refine TidyV_upd (by simp [AVal.ok, AVal.oks, huge, big, duo, oks_bools] <;> omega) ?_))
  rintro ⟨i, s, c⟩ ⟨hi, hs, hp, e, q, hlast, he, hq, hnew⟩ hsok
  simp only at hi hs hp hlast he hq hnew
  have hk := duo_ok (c := c) h1 hs
  by_cases hlt : i < l.length
  case neg =>
    simp [hlt]
    refine (fn8_nil .nils _).to ?_
    simp
    refine (fn9_nil _).to ?_
    simp
    refine (fn16_nil _).to ?_
    simp
    refine (fn12_ok _).to ?_
    simp [duo]
    repeat' (first | exact Sub.refl _ | refine Sub.put_both ?_ | refine Sub.alloc h1 ?_ | refine Sub.put h1 ?_ (by simp) | refine Sub.drop h1 ?_ (by simp))
  have hw1 : IntKind.i64.wrap ((i : Int) + 1) = i + 1 := wrap_i64 (by omega) (by omega)
  have hwe : IntKind.i64.wrap ((e : Int) + 1) = ((e + 1 : Nat) : Int) := by rw [wrap_i64 (by omega) (by omega)]; simp
  have hwq : IntKind.i64.wrap ((q : Int) + 1) = ((q + 1 : Nat) : Int) := by rw [wrap_i64 (by omega) (by omega)]; simp
  cases hb : l[i] with
  | true =>
    simp [hlt, hb, duo]
    refine (fn16_ok s h.next _ (by simp) hs).to ?_
    simp
    refine (fn13_ok (restartS s) h.next _ (by simp)).to ?_
    have hrs : (restartS s).pending = false := rfl
    simp [pendV, hrs, hw1]
    intro _
    refine ⟨i + 1, restartS s, c, ⟨by omega, restartS_ok hs, rfl, e + 1, 0, ?_, by omega, by omega, .inl ?_⟩, by omega, ?_⟩
    · simp only [restartS, hlast, hwe]; rfl
    · omega
    have hk' := duo_ok (c := c) h1 (restartS_ok hs)
    refine Tidy.chg (by simp [duo]) hk' (Chg.of_sub ?_) ?_
    · simp only [duo] at hk' ⊢
      repeat' (first | exact Sub.refl _ | refine Sub.put_both ?_ | refine Sub.alloc hk' ?_ | refine Sub.put hk' ?_ (by simp) | refine Sub.drop hk' ?_ (by simp))
    · repeat' (first | exact TidyV_none _ _ _ _ | (refine TidyV_upd (by simp [AVal.ok, AVal.oks, huge, big, duo, oks_bools] <;> omega) ?_))
  | false =>
    have hnx : s.next = ⟨e, ((q + 1 : Nat) : Int)⟩ := by simp only [CS.next, hlast, hwq]
    have hisc : isC s.next = true := by rw [hnx]; simp [isC]; omega
    obtain ⟨r, k1, k2, k3⟩ := call_some (s := s) (arg := []) hp hisc (by simp)
    have ok1 := callS_ok (arg := []) hs (by simp)
    rw [k3] at ok1
    simp [hlt, hb, duo]
    refine (fn8_ok s [] .nils h.next _ (by simp) hs (by simp) .nils (by simp)).to ?_
    rw [k1, k3]
    simp
    refine (fn8_ok ⟨s.mark, s.next, true, r, 0⟩ [] .nils h.next _ (by simp) ok1 (by simp) .nils (by simp)).to ?_
    have k4 : callR ⟨s.mark, s.next, true, r, 0⟩ [] = none := by simp [callR]
    have k5 : callS ⟨s.mark, s.next, true, r, 0⟩ [] = ⟨s.mark, s.next, true, r, 0⟩ := by simp [callS, k4]
    rw [k4, k5]
    simp
    refine (fn13_ok ⟨s.mark, s.next, true, r, 0⟩ h.next _ (by simp)).to ?_
    have hn2 : newer s.next c = true := by
      rw [hnx]
      simp only [newer, Bool.or_eq_true, Bool.and_eq_true, decide_eq_true_eq]
      rcases hnew with h | h
      · exact .inl h
      · exact .inr ⟨h.1.symm, by omega⟩
    simp [pendV, clO]
    refine (fn21_ok s.next c _).to ?_
    rw [hn2]
    simp
    obtain ⟨w, hw⟩ := putF_some (k := 2) (l := [e, q + 1, 0]) (by simp)
    have hb3 : ∀ b ∈ [e, q + 1, 0], b < 256 := by simp; omega
    have hwl := putF_lt (k := 2) (by decide) hb3 hw
    have hans := ans_small hw (by omega) (by omega) (by decide)
    simp at hans
    have hme : s.next.epoch % 128 % 256 = (e : Int) := by rw [hnx]; simp only; omega
    have hmq : s.next.seq % 128 % 256 = ((q + 1 : Nat) : Int) := by rw [hnx]; simp only; omega
    have hR : takeR ⟨s.mark, s.next, true, r, 0⟩ w = some ⟨s.next, 0, []⟩ := by simp [takeR, hans, hnx]
    have hSt : takeS ⟨s.mark, s.next, true, r, 0⟩ w = ⟨s.mark, s.next, false, r, 0⟩ := by simp [takeS, hR]
    have okf : (⟨s.mark, s.next, false, r, 0⟩ : CS).ok := ok1
    refine ⟨?_, ?_⟩
    · refine (fn22_ok _ _).to ?_
      simp
      refine ⟨?_, ?_⟩
      · refine (fn22_ok _ _).to ?_
        simp [hme, hmq, big]
        refine (fn10_ok 2 [e, q + 1, 0] _ _ (by decide) hb3 (IsB.whole 5 (by simp) (by simp))).to ?_
        rw [hw]
        simp
        refine (fn11_ok ⟨s.mark, s.next, true, r, 0⟩ w _ h.next _ (by simp) ok1 hwl (.vec _ _)).to ?_
        rw [hR, hSt]
        simp [ansV, hw1]
        intro _
        refine ⟨i + 1, ⟨s.mark, s.next, false, r, 0⟩, s.next, ⟨by omega, okf, rfl, e, q + 1, hnx, by omega, by omega, .inr ?_⟩, by omega, ?_⟩
        · rw [hnx]; simp
        have hk' := duo_ok (c := s.next) h1 okf
        refine Tidy.chg (by simp [duo]) hk' (Chg.of_sub ?_) ?_
        · simp only [duo, clO] at hk' ⊢
          repeat' (first | exact Sub.refl _ | refine Sub.put_both ?_ | refine Sub.alloc hk' ?_ | refine Sub.put hk' ?_ (by simp) | refine Sub.drop hk' ?_ (by simp))
        · repeat' (first | exact TidyV_none _ _ _ _ | (refine TidyV_upd (by simp [AVal.ok, AVal.oks, huge, big, duo, oks_bools] <;> omega) ?_))
      · refine (fn22_ok _ _).to ?_
        simp [hme, hmq, big]
        refine (fn10_ok 2 [e, q + 1, 0] _ _ (by decide) hb3 (IsB.whole 5 (by simp) (by simp))).to ?_
        rw [hw]
        simp
        refine (fn11_ok ⟨s.mark, s.next, true, r, 0⟩ w _ h.next _ (by simp) ok1 hwl (.vec _ _)).to ?_
        rw [hR, hSt]
        simp [ansV, hw1]
        intro _
        refine ⟨i + 1, ⟨s.mark, s.next, false, r, 0⟩, s.next, ⟨by omega, okf, rfl, e, q + 1, hnx, by omega, by omega, .inr ?_⟩, by omega, ?_⟩
        · rw [hnx]; simp
        have hk' := duo_ok (c := s.next) h1 okf
        refine Tidy.chg (by simp [duo]) hk' (Chg.of_sub ?_) ?_
        · simp only [duo, clO] at hk' ⊢
          repeat' (first | exact Sub.refl _ | refine Sub.put_both ?_ | refine Sub.alloc hk' ?_ | refine Sub.put hk' ?_ (by simp) | refine Sub.drop hk' ?_ (by simp))
        · repeat' (first | exact TidyV_none _ _ _ _ | (refine TidyV_upd (by simp [AVal.ok, AVal.oks, huge, big, duo, oks_bools] <;> omega) ?_))
    · refine (fn22_ok _ _).to ?_
      simp
      refine (fn22_ok _ _).to ?_
      simp [hme, hmq, big]
      refine (fn10_ok 2 [e, q + 1, 0] _ _ (by decide) hb3 (IsB.whole 5 (by simp) (by simp))).to ?_
      rw [hw]
      simp
      refine (fn11_ok ⟨s.mark, s.next, true, r, 0⟩ w _ h.next _ (by simp) ok1 hwl (.vec _ _)).to ?_
      rw [hR, hSt]
      simp [ansV, hw1]
      intro _
      refine ⟨i + 1, ⟨s.mark, s.next, false, r, 0⟩, s.next, ⟨by omega, okf, rfl, e, q + 1, hnx, by omega, by omega, .inr ?_⟩, by omega, ?_⟩
      · rw [hnx]; simp
      have hk' := duo_ok (c := s.next) h1 okf
      refine Tidy.chg (by simp [duo]) hk' (Chg.of_sub ?_) ?_
      · simp only [duo, clO] at hk' ⊢
        repeat' (first | exact Sub.refl _ | refine Sub.put_both ?_ | refine Sub.alloc hk' ?_ | refine Sub.put hk' ?_ (by simp) | refine Sub.drop hk' ?_ (by simp))
      · repeat' (first | exact TidyV_none _ _ _ _ | (refine TidyV_upd (by simp [AVal.ok, AVal.oks, huge, big, duo, oks_bools] <;> omega) ?_))
end Go.Proofs.Ytbjifmoiblicgaa.Ab
