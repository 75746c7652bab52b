/- A reply of a call that is not the pending one is not taken. -/
import Derived.Test.YtbjifmoiblicgaaClD
set_option linter.unusedVariables false
set_option linter.unusedSimpArgs false
namespace Go.Proofs.Ytbjifmoiblicgaa.Ab
open Go

def qL (j : Nat) : List Nat := if j = 0 then [] else (reqB ⟨0, j⟩ 1 []).getD []
def csL (j : Nat) (p : Bool) : CS := ⟨1, ⟨0, j⟩, p, qL j, 0⟩
theorem csL_ok (j : Nat) (p : Bool) : (csL j p).ok := by
  refine ⟨by show 1 < _; omega, ?_, ?_⟩
  all_goals
    simp only [csL, qL]
    split
    · simp
    · cases h : reqB ⟨0, (j : Int)⟩ 1 [] with
      | none => simp
      | some r =>
        have := reqB_lt (by simp) h
        simp only [Option.getD_some]
        first | exact this.1 | (have := this.2; omega)
theorem csL_call (j : Nat) (hj : j < 1000) : (callR (csL j false) []).isSome = true ∧ callS (csL j false) [] = csL (j + 1) true := by
  have hn : (csL j false).next = ⟨0, ((j + 1 : Nat) : Int)⟩ := by
    have : IntKind.i64.wrap ((j : Int) + 1) = j + 1 := wrap_i64 (by omega) (by omega)
    simp [CS.next, csL, this]
  have hc : isC ⟨0, ((j + 1 : Nat) : Int)⟩ = true := by simp [isC]; omega
  obtain ⟨r, h1, h2, h3⟩ := call_some (s := csL j false) (arg := []) rfl (by rw [hn]; exact hc) (by simp)
  refine ⟨by rw [h1]; rfl, ?_⟩
  rw [h3, hn]
  have h4 : reqB ⟨0, ((j + 1 : Nat) : Int)⟩ 1 [] = some r := by
    have : callR (csL j false) [] = reqB (csL j false).next 1 [] := by simp [callR, csL]
    rw [← h1, this, hn]
  have h5 : qL (j + 1) = r := by
    unfold qL
    rw [if_neg (by omega), h4]; rfl
  simp only [csL, h5]
theorem csL_take (j : Nat) (w : List Nat) (r : Rp) (ha : ans w = some r) : takeR (csL j true) w = (if r.call = ⟨0, j⟩ then some r else none) ∧ takeS (csL j true) w = csL j (!decide (r.call = ⟨0, j⟩)) := by
  have h1 : takeR (csL j true) w = (if r.call = ⟨0, j⟩ then some r else none) := by simp [takeR, ha, csL]
  refine ⟨h1, ?_⟩
  unfold takeS
  rw [h1]
  by_cases hc : r.call = ⟨0, j⟩ <;> simp [hc, csL]
theorem fn4_ok (calls epoch seq : Int) (h : AHeap) : Returns Try.prog 4 [.int .i64 calls, .int .i64 epoch, .int .i64 seq] h (.bool true) h := by
  refine Returns.val fn4 (by simp) fun h1 h2 => ⟨by simp [AVal.ok], ?_⟩
  by_cases c1 : calls < 1
  · simp [code4, c1]
  by_cases c2 : 20 < calls
  · simp [code4, c1, c2]
  by_cases c3 : epoch < 0
  · simp [code4, c1, c2, c3]
  by_cases c4 : 5 < epoch
  · simp [code4, c1, c2, c3, c4]
  by_cases c5 : seq < 0
  · simp [code4, c1, c2, c3, c4, c5]
  by_cases c6 : 25 < seq
  · simp [code4, c1, c2, c3, c4, c5, c6]
  obtain ⟨T, rfl⟩ : ∃ T : Nat, calls = T := ⟨calls.toNat, by omega⟩
  obtain ⟨E, rfl⟩ : ∃ E : Nat, epoch = E := ⟨epoch.toNat, by omega⟩
  obtain ⟨S, rfl⟩ : ∃ S : Nat, seq = S := ⟨seq.toNat, by omega⟩
  have hT : 1 ≤ T ∧ T ≤ 20 := by omega
  have hE : E ≤ 5 := by omega
  have hS : S ≤ 25 := by omega
  have d1 : ¬ (T : Int) < 1 := c1
  have d2 : ¬ 20 < T := by omega
  have d3 : ¬ (E : Int) < 0 := c3
  have d4 : ¬ 5 < E := by omega
  have d5 : ¬ (S : Int) < 0 := c5
  have d6 : ¬ 25 < S := by omega
  simp [code4, d1, d2, d3, d4, d5, d6]
  refine (fn7_ok 1 h).to ?_
  simp
  refine Ev.over (ι := Nat) (fun j => j ≤ T) (fun j => ⟨upd (upd (upd (upd (upd noEnv 0 (.int .i64 T)) 1 (.int .i64 E)) 2 (.int .i64 S)) 7 (.ptr h.next 0)) 8 (.int .i64 ((j : Int) + 1)), h.alloc (cliO 55 (csL j (decide (j = T))))⟩) (fun i => T - i) (fun _ _ => ⟨0, by omega, ?_⟩) ?_
  · have h0 : ¬ 0 = T := by omega
    refine Tidy.own h.next (by simp) h1 ?_ (by simp) (by simp [csL, qL, h0]) (cliO_ok (csL_ok _ _)) ?_
    · repeat' (first | exact Sub.refl _ | refine Sub.put_both ?_ | refine Sub.alloc h1 ?_ | refine Sub.put h1 ?_ (by simp) | refine Sub.drop h1 ?_ (by simp))
    · repeat' (first | exact TidyW_none _ _ _ _ _ | (refine TidyW_upd (by simp [AVal.ok, AVal.oks, AVal.ren, huge, big] <;> omega) ?_))
  intro j hj hsok
  have hw2 : IntKind.i64.wrap ((j : Int) + 1 + 1) = j + 1 + 1 := wrap_i64 (by omega) (by omega)
  by_cases hlt : j < T
  · have hle : (j : Int) + 1 ≤ T := by omega
    have hjT : ¬ j = T := by omega
    obtain ⟨k1, k2⟩ := csL_call j (by omega)
    simp [hle]
    refine (fn8_ok (csL j (decide (j = T))) [] .nils h.next _ (by simp) (csL_ok _ _) (by simp) .nils (by decide)).to ?_
    simp only [hjT, decide_false]
    rw [k2]
    by_cases hlast : (j : Int) + 1 < T
    · obtain ⟨w, hw⟩ := putF_some (k := 2) (l := [0, j + 1, 0]) (by simp)
      have hb3 : ∀ b ∈ [0, j + 1, 0], b < 256 := by simp; omega
      have hwl := putF_lt (k := 2) (by decide) hb3 hw
      have hans := ans_small hw (by decide) (by omega) (by decide)
      simp at hans
      obtain ⟨q1, q2⟩ := csL_take (j + 1) w _ hans
      have hjm : ((j : Int) + 1) % 256 = ((j + 1 : Nat) : Int) := by omega
      have hjT2 : ¬ j + 1 = T := by omega
      simp [hlast, hjm]
      refine (fn10_ok 2 [0, j + 1, 0] _ _ (by decide) hb3 (IsB.whole 5 (by simp) (by simp))).to ?_
      rw [hw]
      simp
      refine (fn11_ok (csL (j + 1) true) w _ h.next _ (by simp) (csL_ok _ _) hwl (.vec _ _)).to ?_
      rw [q2]
      simp [hw2]
      intro _
      refine ⟨j + 1, by omega, by omega, ?_⟩
      simp [hjT2]
      refine Tidy.own h.next (by simp) h1 ?_ (by simp) (by simp) (cliO_ok (csL_ok _ _)) ?_
      · repeat' (first | exact Sub.refl _ | refine Sub.put_both ?_ | refine Sub.alloc h1 ?_ | refine Sub.put h1 ?_ (by simp) | refine Sub.drop h1 ?_ (by simp))
      · repeat' (first | exact TidyW_none _ _ _ _ _ | (refine TidyW_upd (by simp [AVal.ok, AVal.oks, AVal.ren, huge, big] <;> omega) ?_))
    · have hjT2 : j + 1 = T := by omega
      simp [hlast, hw2]
      intro _
      refine ⟨j + 1, by omega, by omega, ?_⟩
      simp [hjT2]
      refine Tidy.own h.next (by simp) h1 ?_ (by simp) (by simp [hjT2]) (cliO_ok (csL_ok _ _)) ?_
      · repeat' (first | exact Sub.refl _ | refine Sub.put_both ?_ | refine Sub.alloc h1 ?_ | refine Sub.put h1 ?_ (by simp) | refine Sub.drop h1 ?_ (by simp))
      · have hT' : (T : Int) = j + 1 := by omega
        repeat' (first | exact TidyW_none _ _ _ _ _ | (refine TidyW_upd (by simp [AVal.ok, AVal.oks, AVal.ren, huge, big, hw2, hT'] <;> omega) ?_))
  · have hjT : j = T := by omega
    subst hjT
    have hle : ¬ (j : Int) + 1 ≤ j := by omega
    obtain ⟨w, hw⟩ := putF_some (k := 2) (l := [E, S, 0, 9]) (by simp)
    have hb4 : ∀ b ∈ [E, S, 0, 9], b < 256 := by simp; omega
    have hwl := putF_lt (k := 2) (by decide) hb4 hw
    have hans := ans_small hw (by omega) (by omega) (by decide)
    simp at hans
    obtain ⟨q1, q2⟩ := csL_take j w _ hans
    have hEm : (E : Int) % 256 = E := by omega
    have hSm : (S : Int) % 256 = S := by omega
    simp [hle, hEm, hSm]
    refine (fn10_ok 2 [E, S, 0, 9] _ _ (by decide) hb4 (IsB.whole 5 (by simp) (by simp))).to ?_
    rw [hw]
    simp
    refine (fn11_ok (csL j true) w _ h.next _ (by simp) (csL_ok _ _) hwl (.vec _ _)).to ?_
    rw [q1, q2]
    by_cases hE0 : E = 0
    · by_cases hSj : S = j
      · simp [hE0, hSj, ansV]
        refine (fn13_ok (csL j false) h.next _ (by simp)).to ?_
        have hb9 := fun h => (IsB.vec (h := h) false [9]).b2s (by decide)
        have hs9 : bytesS [9] = ⟨#[9]⟩ := rfl
        simp [bVs_cons] at hb9
        simp [pendV, csL, hb9, hs9]
        refine (fn12_ok _).to ?_
        simp
        repeat' (first | exact Sub.refl _ | refine Sub.put_both ?_ | refine Sub.alloc h1 ?_ | refine Sub.put h1 ?_ (by simp) | refine Sub.drop h1 ?_ (by simp))
      · simp [hE0, hSj, ansV]
        refine (fn13_ok (csL j true) h.next _ (by simp)).to ?_
        simp [pendV, csL]
        refine (fn12_ok _).to ?_
        simp
        repeat' (first | exact Sub.refl _ | refine Sub.put_both ?_ | refine Sub.alloc h1 ?_ | refine Sub.put h1 ?_ (by simp) | refine Sub.drop h1 ?_ (by simp))
    · simp [hE0, ansV]
      refine (fn13_ok (csL j true) h.next _ (by simp)).to ?_
      simp [pendV, csL]
      refine (fn12_ok _).to ?_
      simp
      repeat' (first | exact Sub.refl _ | refine Sub.put_both ?_ | refine Sub.alloc h1 ?_ | refine Sub.put h1 ?_ (by simp) | refine Sub.drop h1 ?_ (by simp))
end Go.Proofs.Ytbjifmoiblicgaa.Ab
