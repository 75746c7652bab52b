/- A client: the other methods, and the reference's. -/
import Derived.Test.YtbjifmoiblicgaaClA
set_option linter.unusedVariables false
set_option linter.unusedSimpArgs false
namespace Go.Proofs.Ytbjifmoiblicgaa.Ab
open Go

theorem fn14_ok (s : CS) (arg : List Nat) (v : AVal) (id : Nat) (h : AHeap) (hi : h.f id = some (cliO 45 s)) (hs : s.ok) (hl : ∀ b ∈ arg, b < 256) (hB : IsB h v arg) (ha : arg.length ≤ 100000) :
    Returns Try.prog 14 [.ptr id 0, v] h (optV (callR s arg)) (h.put id (cliO 45 (callS s arg))) := by
  refine Returns.chg fn14 (by simp) fun h1 h2 => ?_
  have hid := (h1 id _ hi).1
  have hne : id ≠ h.next := by omega
  have hk : HOk (h.put id (cliO 45 (callS s arg))) := h1.put hid (cliO_ok (callS_ok hs hl))
  have hrl : ((callR s arg).getD []).length ≤ 4015 := by
    cases hr : callR s arg with
    | none => simp
    | some r => exact (callR_lt hl hr).2
  refine ⟨by simp, hk, optV_ok _ _ (Nat.le_trans hrl (by decide)), ?_⟩
  have hi' := hi
  simp only [cliO] at hi'
  simp [code14, hi', hne]
  refine (fn28_ok s.next s.mark arg v _ hs.1 hl (hB.sub ?_) ha).to ?_
  · repeat' (first | exact Sub.refl _ | refine Sub.put_both ?_ | refine Sub.alloc h1 ?_ | refine Sub.put h1 ?_ (by simp) | refine Sub.drop h1 ?_ (by simp))
  cases hp : s.pending with
  | true =>
    have hr : callR s arg = none := by simp [callR, hp]
    have hS : callS s arg = s := by simp [callS, hr]
    rw [hS, hr, put_self hi]
    simp [hi', hne, hp]
    refine Chg.of_sub ?_
    repeat' (first | exact Sub.refl _ | refine Sub.put_both ?_ | refine Sub.alloc h1 ?_ | refine Sub.put h1 ?_ (by simp) | refine Sub.drop h1 ?_ (by simp))
  | false =>
    have hr : callR s arg = reqB s.next s.mark arg := by simp [callR, hp]
    cases hq : reqB s.next s.mark arg with
    | none =>
      have hS : callS s arg = s := by simp [callS, hr, hq]
      rw [hS, hr, hq, put_self hi]
      simp [hi', hne, hp]
      refine Chg.of_sub ?_
      repeat' (first | exact Sub.refl _ | refine Sub.put_both ?_ | refine Sub.alloc h1 ?_ | refine Sub.put h1 ?_ (by simp) | refine Sub.drop h1 ?_ (by simp))
    | some r =>
      have hS : callS s arg = ⟨s.mark, s.next, true, r, 0⟩ := by simp [callS, hr, hq]
      rw [hS] at hk ⊢
      rw [hr, hq]
      simp [hi', hne, hp]
      simp [cliO, CS.next]
      refine Chg.of_sub (hr := h.put id _) ?_
      simp only [cliO, CS.next] at hk
      repeat' (first | exact Sub.refl _ | refine Sub.put_both ?_ | refine Sub.alloc hk ?_ | refine Sub.put hk ?_ (by simp) | refine Sub.drop hk ?_ (by simp))
theorem tickR_len {s : CS} (hs : s.ok) : ((tickR s).getD []).length ≤ 5000 := by
  unfold tickR
  split
  · split
    · exact hs.2.2
    · simp
  · simp
theorem fn9_ok (s : CS) (id : Nat) (h : AHeap) (hi : h.f id = some (cliO 55 s)) (hs : s.ok) : Returns Try.prog 9 [.ptr id 0] h (optV (tickR s)) (h.put id (cliO 55 (tickS s))) := by
  refine Returns.chg fn9 (by simp) fun h1 h2 => ?_
  have hid := (h1 id _ hi).1
  have hk : HOk (h.put id (cliO 55 (tickS s))) := h1.put hid (cliO_ok (tickS_ok hs))
  refine ⟨by simp, hk, optV_ok _ _ (Nat.le_trans (tickR_len hs) (by decide)), ?_⟩
  have hi' := hi
  simp only [cliO] at hi'
  cases hp : s.pending with
  | false =>
    have hr : tickR s = none := by simp [tickR, hp]
    have hS : tickS s = s := by simp [tickS, hp]
    rw [hS, hr, put_self hi]
    simp [code9, hi', hp]
    exact Chg.of_sub (Sub.refl _)
  | true =>
    have hS : tickS s = { s with ticks := tickN s } := by simp [tickS, hp]
    rw [hS] at hk ⊢
    simp only [cliO] at hk
    by_cases h3 : (tickN s).tmod 3 = 0
    · have hr : tickR s = some s.req := by simp [tickR, hp, h3]
      have h3' := h3
      unfold tickN at h3'
      rw [hr]
      simp [code9, hi', hp, h3']
      refine (fn24_ok s.req _ _ (.vec _ _) (by have := hs.2.2; simp only [big]; omega)).to ?_
      simp [cliO, tickN, hp]
      exact Chg.of_sub (hr := h.put id _) (Sub.refl _)
    · have hr : tickR s = none := by simp [tickR, hp, h3]
      have h3' := h3
      unfold tickN at h3'
      rw [hr]
      simp [code9, hi', hp, h3', cliO, tickN]
      exact Chg.of_sub (hr := h.put id _) (Sub.refl _)
theorem fn15_ok (s : CS) (id : Nat) (h : AHeap) (hi : h.f id = some (cliO 45 s)) (hs : s.ok) : Returns Try.prog 15 [.ptr id 0] h (optV (tickR s)) (h.put id (cliO 45 (tickS s))) := by
  refine Returns.chg fn15 (by simp) fun h1 h2 => ?_
  have hid := (h1 id _ hi).1
  have hk : HOk (h.put id (cliO 45 (tickS s))) := h1.put hid (cliO_ok (tickS_ok hs))
  refine ⟨by simp, hk, optV_ok _ _ (Nat.le_trans (tickR_len hs) (by decide)), ?_⟩
  have hi' := hi
  simp only [cliO] at hi'
  cases hp : s.pending with
  | false =>
    have hr : tickR s = none := by simp [tickR, hp]
    have hS : tickS s = s := by simp [tickS, hp]
    rw [hS, hr, put_self hi]
    simp [code15, hi', hp]
    exact Chg.of_sub (Sub.refl _)
  | true =>
    have hS : tickS s = { s with ticks := tickN s } := by simp [tickS, hp]
    rw [hS] at hk ⊢
    simp only [cliO] at hk
    by_cases h3 : (tickN s).tmod 3 = 0
    · have hr : tickR s = some s.req := by simp [tickR, hp, h3]
      have h3' := h3
      unfold tickN at h3'
      rw [hr]
      simp [code15, hi', hp, h3', cliO, tickN]
      exact Chg.of_sub (hr := h.put id _) (Sub.refl _)
    · have hr : tickR s = none := by simp [tickR, hp, h3]
      have h3' := h3
      unfold tickN at h3'
      rw [hr]
      simp [code15, hi', hp, h3', cliO, tickN]
      exact Chg.of_sub (hr := h.put id _) (Sub.refl _)
theorem takeR_ok {n : Nat} {s : CS} {b : List Nat} (hl : ∀ x ∈ b, x < 256) : (ansV (takeR s b)).ok n := by
  have := ansV_ok (n := n) hl
  unfold takeR
  cases ha : ans b with
  | none => simp [ansV, noRp, AVal.ok, AVal.oks]
  | some r =>
    rw [ha] at this
    simp only
    split
    · exact this
    · simp [ansV, noRp, AVal.ok, AVal.oks]
theorem fn11_ok (s : CS) (b : List Nat) (v : AVal) (id : Nat) (h : AHeap) (hi : h.f id = some (cliO 55 s)) (hs : s.ok) (hl : ∀ x ∈ b, x < 256) (hB : IsB h v b) : Returns Try.prog 11 [.ptr id 0, v] h (ansV (takeR s b)) (h.put id (cliO 55 (takeS s b))) := by
  refine Returns.chg fn11 (by simp) fun h1 h2 => ?_
  have hid := (h1 id _ hi).1
  have hne : id ≠ h.next := by omega
  have hne2 : id ≠ h.next + 1 := by omega
  have hk : HOk (h.put id (cliO 55 (takeS s b))) := h1.put hid (cliO_ok (takeS_ok hs))
  refine ⟨by simp, hk, takeR_ok hl, ?_⟩
  have hi' := hi
  simp only [cliO] at hi'
  simp [code11]
  refine (fn27_ok b v _ hl (hB.sub ?_)).to ?_
  · repeat' (first | exact Sub.refl _ | refine Sub.put_both ?_ | refine Sub.alloc h1 ?_ | refine Sub.put h1 ?_ (by simp) | refine Sub.drop h1 ?_ (by simp))
  cases ha : ans b with
  | none =>
    have hr : takeR s b = none := by simp [takeR, ha]
    have hS : takeS s b = s := by simp [takeS, hr]
    rw [hS, hr, put_self hi]
    simp [ansV, noRp, hi', hne, hne2]
    refine Chg.of_sub ?_
    repeat' (first | exact Sub.refl _ | refine Sub.put_both ?_ | refine Sub.alloc h1 ?_ | refine Sub.put h1 ?_ (by simp) | refine Sub.drop h1 ?_ (by simp))
  | some r =>
    by_cases hp : s.pending = true
    case neg =>
      have hp : s.pending = false := by simpa using hp
      have hr : takeR s b = none := by simp [takeR, ha, hp]
      have hS : takeS s b = s := by simp [takeS, hr]
      rw [hS, hr, put_self hi]
      simp [ansV, noRp, hi', hne, hne2, hp]
      refine Chg.of_sub ?_
      repeat' (first | exact Sub.refl _ | refine Sub.put_both ?_ | refine Sub.alloc h1 ?_ | refine Sub.put h1 ?_ (by simp) | refine Sub.drop h1 ?_ (by simp))
    have ec : (r.call = s.last) = (r.call.epoch = s.last.epoch ∧ r.call.seq = s.last.seq) := by
      cases r.call; cases s.last; simp
    by_cases hc : r.call = s.last
    · have hr : takeR s b = some r := by simp [takeR, ha, hp, hc]
      have hS : takeS s b = { s with pending := false } := by simp [takeS, hr]
      rw [hS] at hk ⊢
      rw [hr]
      have hc' := hc
      rw [ec] at hc'
      simp [ansV, hi', hne, hne2, Ne.symm hne, Ne.symm hne2, hp, hc'.1, hc'.2, hc]
      simp only [cliO] at hk ⊢
      refine Chg.of_sub (hr := h.put id _) ?_
      repeat' (first | exact Sub.refl _ | refine Sub.put_both ?_ | refine Sub.alloc hk ?_ | refine Sub.put hk ?_ (by simp) | refine Sub.drop hk ?_ (by simp))
    · have hr : takeR s b = none := by simp [takeR, ha, hc]
      have hS : takeS s b = s := by simp [takeS, hr]
      rw [hS, hr, put_self hi]
      have hc' := hc
      rw [ec] at hc'
      by_cases h3 : r.call.epoch = s.last.epoch
      · have h4 : ¬ r.call.seq = s.last.seq := fun h => hc' ⟨h3, h⟩
        simp [ansV, noRp, hi', hne, hne2, hp, h3, h4]
        refine Chg.of_sub ?_
        repeat' (first | exact Sub.refl _ | refine Sub.put_both ?_ | refine Sub.alloc h1 ?_ | refine Sub.put h1 ?_ (by simp) | refine Sub.drop h1 ?_ (by simp))
      · simp [ansV, noRp, hi', hne, hne2, hp, h3]
        refine Chg.of_sub ?_
        repeat' (first | exact Sub.refl _ | refine Sub.put_both ?_ | refine Sub.alloc h1 ?_ | refine Sub.put h1 ?_ (by simp) | refine Sub.drop h1 ?_ (by simp))
theorem fn18_ok (s : CS) (b : List Nat) (f : Bool) (id : Nat) (h : AHeap) (hi : h.f id = some (cliO 45 s)) (hs : s.ok) (hl : ∀ x ∈ b, x < 256) : Returns Try.prog 18 [.ptr id 0, .vec 1 f (bVs b)] h (ansV (takeR s b)) (h.put id (cliO 45 (takeS s b))) := by
  refine Returns.chg fn18 (by simp) fun h1 h2 => ?_
  have hid := (h1 id _ hi).1
  have hne : id ≠ h.next := by omega
  have hne2 : id ≠ h.next + 1 := by omega
  have hk : HOk (h.put id (cliO 45 (takeS s b))) := h1.put hid (cliO_ok (takeS_ok hs))
  refine ⟨by simp, hk, takeR_ok hl, ?_⟩
  have hi' := hi
  simp only [cliO] at hi'
  simp [code18]
  refine (fn29_ok b f _ hl).to ?_
  cases ha : ans b with
  | none =>
    have hr : takeR s b = none := by simp [takeR, ha]
    have hS : takeS s b = s := by simp [takeS, hr]
    rw [hS, hr, put_self hi]
    simp [ansV, noRp, hi', hne, hne2]
    refine Chg.of_sub ?_
    repeat' (first | exact Sub.refl _ | refine Sub.put_both ?_ | refine Sub.alloc h1 ?_ | refine Sub.put h1 ?_ (by simp) | refine Sub.drop h1 ?_ (by simp))
  | some r =>
    by_cases hp : s.pending = true
    case neg =>
      have hp : s.pending = false := by simpa using hp
      have hr : takeR s b = none := by simp [takeR, ha, hp]
      have hS : takeS s b = s := by simp [takeS, hr]
      rw [hS, hr, put_self hi]
      simp [ansV, noRp, hi', hne, hne2, hp]
      refine Chg.of_sub ?_
      repeat' (first | exact Sub.refl _ | refine Sub.put_both ?_ | refine Sub.alloc h1 ?_ | refine Sub.put h1 ?_ (by simp) | refine Sub.drop h1 ?_ (by simp))
    have ec : (r.call = s.last) = (r.call.epoch = s.last.epoch ∧ r.call.seq = s.last.seq) := by
      cases r.call; cases s.last; simp
    by_cases hc : r.call = s.last
    · have hr : takeR s b = some r := by simp [takeR, ha, hp, hc]
      have hS : takeS s b = { s with pending := false } := by simp [takeS, hr]
      rw [hS] at hk ⊢
      rw [hr]
      have hc' := hc
      rw [ec] at hc'
      simp [ansV, hi', hne, hne2, Ne.symm hne, Ne.symm hne2, hp, hc'.1, hc'.2, hc]
      simp only [cliO] at hk ⊢
      refine Chg.of_sub (hr := h.put id _) ?_
      repeat' (first | exact Sub.refl _ | refine Sub.put_both ?_ | refine Sub.alloc hk ?_ | refine Sub.put hk ?_ (by simp) | refine Sub.drop hk ?_ (by simp))
    · have hr : takeR s b = none := by simp [takeR, ha, hc]
      have hS : takeS s b = s := by simp [takeS, hr]
      rw [hS, hr, put_self hi]
      have hc' := hc
      rw [ec] at hc'
      by_cases h3 : r.call.epoch = s.last.epoch
      · have h4 : ¬ r.call.seq = s.last.seq := fun h => hc' ⟨h3, h⟩
        simp [ansV, noRp, hi', hne, hne2, hp, h3, h4]
        refine Chg.of_sub ?_
        repeat' (first | exact Sub.refl _ | refine Sub.put_both ?_ | refine Sub.alloc h1 ?_ | refine Sub.put h1 ?_ (by simp) | refine Sub.drop h1 ?_ (by simp))
      · simp [ansV, noRp, hi', hne, hne2, hp, h3]
        refine Chg.of_sub ?_
        repeat' (first | exact Sub.refl _ | refine Sub.put_both ?_ | refine Sub.alloc h1 ?_ | refine Sub.put h1 ?_ (by simp) | refine Sub.drop h1 ?_ (by simp))
theorem fn16_ok (s : CS) (id : Nat) (h : AHeap) (hi : h.f id = some (cliO 55 s)) (hs : s.ok) : Returns Try.prog 16 [.ptr id 0] h (.tup []) (h.put id (cliO 55 (restartS s))) := by
  refine Returns.exact fn16 (by simp) fun h1 h2 => ?_
  simp only [cliO] at hi
  simp [code16, hi, cliO, restartS]
theorem fn17_ok (s : CS) (id : Nat) (h : AHeap) (hi : h.f id = some (cliO 45 s)) (hs : s.ok) : Returns Try.prog 17 [.ptr id 0] h (.tup []) (h.put id (cliO 45 (restartS s))) := by
  refine Returns.exact fn17 (by simp) fun h1 h2 => ?_
  simp only [cliO] at hi
  simp [code17, hi, cliO, restartS]
theorem pendV_ok {n : Nat} {s : CS} : (pendV s).ok n := by simp [pendV, AVal.ok, AVal.oks]
theorem fn13_ok (s : CS) (id : Nat) (h : AHeap) (hi : h.f id = some (cliO 55 s)) : Returns Try.prog 13 [.ptr id 0] h (pendV s) h := by
  refine Returns.val fn13 (by simp) fun h1 h2 => ⟨pendV_ok, ?_⟩
  have hid := (h1 id _ hi).1
  have hne : id ≠ h.next := by omega
  simp only [cliO] at hi
  cases hp : s.pending with
  | true =>
    simp [code13, hi, hne, pendV, hp]
    repeat' (first | exact Sub.refl _ | refine Sub.put_both ?_ | refine Sub.alloc h1 ?_ | refine Sub.put h1 ?_ (by simp) | refine Sub.drop h1 ?_ (by simp))
  | false =>
    simp [code13, hi, hne, pendV, hp]
    repeat' (first | exact Sub.refl _ | refine Sub.put_both ?_ | refine Sub.alloc h1 ?_ | refine Sub.put h1 ?_ (by simp) | refine Sub.drop h1 ?_ (by simp))
theorem fn20_ok (s : CS) (id : Nat) (h : AHeap) (hi : h.f id = some (cliO 45 s)) : Returns Try.prog 20 [.ptr id 0] h (pendV s) h := by
  refine Returns.val fn20 (by simp) fun h1 h2 => ⟨pendV_ok, ?_⟩
  have hid := (h1 id _ hi).1
  have hne : id ≠ h.next := by omega
  simp only [cliO] at hi
  cases hp : s.pending with
  | true =>
    simp [code20, hi, hne, pendV, hp]
    repeat' (first | exact Sub.refl _ | refine Sub.put_both ?_ | refine Sub.alloc h1 ?_ | refine Sub.put h1 ?_ (by simp) | refine Sub.drop h1 ?_ (by simp))
  | false =>
    simp [code20, hi, hne, pendV, hp]
    repeat' (first | exact Sub.refl _ | refine Sub.put_both ?_ | refine Sub.alloc h1 ?_ | refine Sub.put h1 ?_ (by simp) | refine Sub.drop h1 ?_ (by simp))
end Go.Proofs.Ytbjifmoiblicgaa.Ab
