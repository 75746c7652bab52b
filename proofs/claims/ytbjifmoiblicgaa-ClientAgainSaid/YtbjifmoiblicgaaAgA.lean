/- Each so many ticks the request again. -/
import Derived.Test.YtbjifmoiblicgaaClD
set_option linter.unusedVariables false
set_option linter.unusedSimpArgs false
namespace Go.Proofs.Ytbjifmoiblicgaa.Ab
open Go

theorem fn3_ok (arg : List Nat) (ticks : Int) (h : AHeap) (hl : ∀ b ∈ arg, b < 256) : Returns Try.prog 3 [.vec 1 false (bVs arg), .int .i64 ticks] h (.bool true) h := by
  refine Returns.val fn3 (by simp) fun h1 h2 => ⟨by simp [AVal.ok], ?_⟩
  by_cases c1 : 100 < arg.length
  · simp [code3, c1]
  by_cases c2 : ticks < 0
  · simp [code3, c1, c2]
  by_cases c3 : 40 < ticks
  · simp [code3, c1, c2, c3]
  obtain ⟨T, rfl⟩ : ∃ T : Nat, ticks = T := ⟨ticks.toNat, by omega⟩
  have hT : T ≤ 40 := by omega
  have c2' : ¬ ((T : Int) < 0) := c2
  have c3' : ¬ (40 < T) := by omega
  simp [code3, c1, c2', c3']
  refine (fn7_ok 3 h).to ?_
  have hok := s0_ok (m := 3) (by decide)
  obtain ⟨r, hr, hrl, hS⟩ := call_some (s := s0 3) (arg := arg) rfl (s0_next 3) (by omega)
  have hrr := callR_lt (s := s0 3) hl hr
  simp
  refine (fn8_ok (s0 3) arg _ h.next _ (by simp [s0]) hok hl (.vec _ _) (by omega)).to ?_
  rw [hr, hS]
  have okt : ∀ t, (⟨3, (s0 3).next, true, r, t⟩ : CS).ok := fun t => by have := callS_ok (arg := arg) hok hl; rw [hS] at this; exact this
  have hb := fun h => (IsB.vec (h := h) false r).b2s hrr.1
  simp
  refine Ev.over (ι := Nat) (fun i => i ≤ T) (fun i => ⟨upd (upd (upd (upd noEnv 1 (.int .i64 T)) 5 (.ptr h.next 0)) 6 (.vec 1 false (bVs r))) 8 (.int .i64 ((i : Int) + 1)), h.alloc (cliO 55 ⟨3, (s0 3).next, true, r, i⟩)⟩) (fun i => T - i) (fun _ _ => ⟨0, by omega, ?_⟩) ?_
  · refine Tidy.own h.next (by simp) h1 ?_ (by simp) (by simp [s0]) (cliO_ok (okt _)) ?_
    · repeat' (first | exact Sub.refl _ | refine Sub.put_both ?_ | refine Sub.alloc h1 ?_ | refine Sub.put h1 ?_ (by simp) | refine Sub.drop h1 ?_ (by simp))
    · have := hrr.2
      repeat' (first | exact TidyW_none _ _ _ _ _ | (refine TidyW_upd (by simp [AVal.ok, AVal.oks, AVal.ren, huge, big] <;> omega) ?_))
  intro i hi hsok
  have hw1 : IntKind.i64.wrap ((i : Int) + 1) = i + 1 := wrap_i64 (by omega) (by omega)
  have hw2 : IntKind.i64.wrap ((i : Int) + 1 + 1) = i + 1 + 1 := wrap_i64 (by omega) (by omega)
  by_cases hlt : i < T
  · have hle : (i : Int) + 1 ≤ T := by omega
    have hS' : tickS ⟨3, (s0 3).next, true, r, i⟩ = ⟨3, (s0 3).next, true, r, ((i + 1 : Nat) : Int)⟩ := by simp [tickS, tickN, hw1]
    have hmod : ((i : Int) + 1).tmod 3 = ((i : Int) + 1) % 3 := tmod_pos (by omega)
    simp [hle]
    refine (fn9_ok ⟨3, (s0 3).next, true, r, i⟩ h.next _ (by simp) (okt _)).to ?_
    rw [hS']
    by_cases hm : ((i : Int) + 1) % 3 = 0
    · have hR : tickR ⟨3, (s0 3).next, true, r, i⟩ = some r := by simp [tickR, tickN, hw1, hmod, hm]
      rw [hR]
      simp [hmod, hm, hb, hw2]
      intro _
      refine ⟨i + 1, by omega, by omega, ?_⟩
      simp
      refine Tidy.own h.next (by simp) h1 ?_ (by simp) (by simp) (cliO_ok (okt _)) ?_
      · repeat' (first | exact Sub.refl _ | refine Sub.put_both ?_ | refine Sub.alloc h1 ?_ | refine Sub.put h1 ?_ (by simp) | refine Sub.drop h1 ?_ (by simp))
      · have := hrr.2
        repeat' (first | exact TidyW_none _ _ _ _ _ | (refine TidyW_upd (by simp [AVal.ok, AVal.oks, AVal.ren, huge, big] <;> omega) ?_))
    · have hR : tickR ⟨3, (s0 3).next, true, r, i⟩ = none := by simp [tickR, tickN, hw1, hmod, hm]
      rw [hR]
      simp [hmod, hm, hb, hw2]
      intro _
      refine ⟨i + 1, by omega, by omega, ?_⟩
      simp
      refine Tidy.own h.next (by simp) h1 ?_ (by simp) (by simp) (cliO_ok (okt _)) ?_
      · repeat' (first | exact Sub.refl _ | refine Sub.put_both ?_ | refine Sub.alloc h1 ?_ | refine Sub.put h1 ?_ (by simp) | refine Sub.drop h1 ?_ (by simp))
      · have := hrr.2
        repeat' (first | exact TidyW_none _ _ _ _ _ | (refine TidyW_upd (by simp [AVal.ok, AVal.oks, AVal.ren, huge, big] <;> omega) ?_))
  · have hle : ¬ (i : Int) + 1 ≤ T := by omega
    obtain ⟨w, hw⟩ := putF_some (k := 2) (l := [0, 1, 0]) (by decide)
    have hwl := putF_lt (k := 2) (l := [0, 1, 0]) (by decide) (by decide) hw
    have hans := ans_small hw (by decide) (by decide) (by decide)
    simp at hans
    simp [hle]
    refine (fn10_ok 2 [0, 1, 0] _ _ (by decide) (by decide) (IsB.whole 5 (by simp) (by simp))).to ?_
    rw [hw]
    simp
    refine (fn11_ok ⟨3, (s0 3).next, true, r, i⟩ w _ h.next _ (by simp) (okt _) hwl (.vec _ _)).to ?_
    have hnx : (s0 3).next = ⟨0, 1⟩ := by simp [CS.next, s0]
    have hR : takeR ⟨3, (s0 3).next, true, r, i⟩ w = some ⟨⟨0, 1⟩, 0, []⟩ := by simp [takeR, hans, hnx]
    have hSt : takeS ⟨3, (s0 3).next, true, r, i⟩ w = ⟨3, (s0 3).next, false, r, i⟩ := by simp [takeS, hR]
    have okf : (⟨3, (s0 3).next, false, r, (i : Int)⟩ : CS).ok := okt 0
    rw [hR, hSt]
    simp [ansV]
    refine (fn11_ok ⟨3, (s0 3).next, false, r, i⟩ w _ h.next _ (by simp) okf hwl (.vec _ _)).to ?_
    have hR2 : takeR ⟨3, (s0 3).next, false, r, i⟩ w = none := by simp [takeR, hans]
    have hS2 : takeS ⟨3, (s0 3).next, false, r, i⟩ w = ⟨3, (s0 3).next, false, r, i⟩ := by simp [takeS, hR2]
    rw [hR2, hS2]
    simp [ansV]
    have tR : tickR ⟨3, (s0 3).next, false, r, i⟩ = none := by simp [tickR]
    have tS : tickS ⟨3, (s0 3).next, false, r, i⟩ = ⟨3, (s0 3).next, false, r, i⟩ := by simp [tickS]
    refine Ev.unroll 5 fun _ => ?_
    rw [Un_succ]
    simp
    refine (fn9_ok ⟨3, (s0 3).next, false, r, i⟩ h.next _ (by simp) okf).to ?_
    rw [tR, tS]
    simp
    intro _
    rw [Un_succ]
    simp
    refine (fn9_ok ⟨3, (s0 3).next, false, r, i⟩ h.next _ (by simp) okf).to ?_
    rw [tR, tS]
    simp
    intro _
    rw [Un_succ]
    simp
    refine (fn9_ok ⟨3, (s0 3).next, false, r, i⟩ h.next _ (by simp) okf).to ?_
    rw [tR, tS]
    simp
    intro _
    rw [Un_succ]
    simp
    refine (fn9_ok ⟨3, (s0 3).next, false, r, i⟩ h.next _ (by simp) okf).to ?_
    rw [tR, tS]
    simp
    intro _
    rw [Un_succ]
    simp
    refine (fn12_ok _).to ?_
    simp
    repeat' (first | exact Sub.refl _ | refine Sub.put_both ?_ | refine Sub.alloc h1 ?_ | refine Sub.put h1 ?_ (by simp) | refine Sub.drop h1 ?_ (by simp))
end Go.Proofs.Ytbjifmoiblicgaa.Ab
