/- Numbers as bytes: the walks. -/
import Derived.Test.YtbjifmoiblicgaaByA
set_option linter.unusedVariables false
set_option linter.unusedSimpArgs false
namespace Go.Proofs.Ytbjifmoiblicgaa.Ab
open Go

theorem fn25_own (v : Nat) (hv : v < 2 ^ 64) (h : AHeap) : Returns Try.prog 25 [.int .u64 v] h (.sl 1 h.next 0 (putU v).length none) (h.alloc (.cells 5 (bVs (putU v)))) := by
  have hlen := putU_length v hv
  refine Returns.new fn25 (by simp) fun h1 h2 => ⟨by simp [AVal.ok, big]; omega, by simp only [AObj.ok]; exact oks_bV _ _, ?_⟩
  simp [code25]
  refine Ev.over (ι := List Nat × Nat) (fun p => putU v = p.1 ++ putU p.2 ∧ p.2 < 2 ^ 64) (fun p => ⟨upd (upd noEnv 0 (.int .u64 p.2)) 3 (accV h.next p.1), accH h p.1⟩) (fun p => p.2) (fun hok _ => ⟨([], v), ⟨by simp, hv⟩, ?_⟩) ?_
  · refine Tidy.mk (by simp) (by simp) (by simpa using h1) ?_
    repeat' (first | exact TidyR_none _ _ | (refine TidyR_upd (by simp [AVal.ok, AVal.oks, huge, big] <;> omega) ?_))
  rintro ⟨l, x⟩ ⟨hp, hx⟩ hok
  simp only at hp hx
  have hll : l.length + (putU x).length = (putU v).length := by rw [hp]; simp
  by_cases hge : 128 ≤ x
  · have e1 : orI .u64 ((x : Int) % 128) 128 = (x : Int) % 128 + 128 := by rw [orI_128 (.inr rfl) (by omega) (by omega)]; omega
    have e3 : ((x : Int) % 128 + 128) % 256 = (x : Int) % 128 + 128 := by omega
    have hpx : putU x = (x % 128 + 128) :: putU (x / 128) := by rw [putU]; simp [hge]
    have hp2 : putU v = (l ++ [x % 128 + 128]) ++ putU (x / 128) := by rw [hp, hpx]; simp
    have hl2 : l.length + 1 ≤ 10 := by rw [hp2] at hlen; simp at hlen; omega
    cases l with
    | nil =>
      simp [hge, e1, e3, big]
      intro _
      refine ⟨[x % 128 + 128], x / 128, ⟨hp2, by omega⟩, by omega, Tidy.acc (id0 := h.next + 1) (by simp) (by simp) h1 ?_ (by simp) (by simp) ?_⟩
      · repeat' (first | exact Sub.refl _ | refine Sub.put_both ?_ | refine Sub.alloc h1 ?_ | refine Sub.put h1 ?_ (by simp) | refine Sub.drop h1 ?_ (by simp))
      · repeat' (first | exact TidyW_none _ _ _ _ _ | (refine TidyW_upd (by simp [AVal.ok, AVal.oks, AVal.ren, huge, big] <;> omega) ?_))
    | cons a l =>
      have hl4 : l.length + 1 + 1 ≤ 10 := hl2
      have hl3 : l.length + 2 ≤ big := by simp [big]; omega
      simp [hge, e1, e3, hl3]
      intro _
      refine ⟨a :: (l ++ [x % 128 + 128]), x / 128, ⟨hp2, by omega⟩, by omega, Tidy.acc (id0 := h.next + 2) (by simp) (by simp) h1 ?_ (by simp) (by simp) ?_⟩
      · repeat' (first | exact Sub.refl _ | refine Sub.put_both ?_ | refine Sub.alloc h1 ?_ | refine Sub.put h1 ?_ (by simp) | refine Sub.drop h1 ?_ (by simp))
      · repeat' (first | exact TidyW_none _ _ _ _ _ | (refine TidyW_upd (by simp [AVal.ok, AVal.oks, AVal.ren, huge, big, Nat.add_assoc, hl3] <;> omega) ?_))
  · have hpx : putU x = [x] := by rw [putU]; simp [hge]
    have hp2 : putU v = l ++ [x] := by rw [hp, hpx]
    have e1 : (x : Int) % 256 = x := by omega
    cases l with
    | nil =>
      simp [hge, big, hp2, e1]
      refine ⟨h.next + 1, by simp [AVal.ren], by simp, by simp, ?_⟩
      repeat' (first | exact Sub.refl _ | refine Sub.put_both ?_ | refine Sub.alloc h1 ?_ | refine Sub.put h1 ?_ (by simp) | refine Sub.drop h1 ?_ (by simp))
    | cons a l =>
      have hl3 : l.length + 2 ≤ big := by simp [big, hp2] at hlen ⊢; omega
      simp [hge, hl3, hp2, e1]
      refine ⟨h.next + 2, by simp [AVal.ren], by simp, by simp, ?_⟩
      repeat' (first | exact Sub.refl _ | refine Sub.put_both ?_ | refine Sub.alloc h1 ?_ | refine Sub.put h1 ?_ (by simp) | refine Sub.drop h1 ?_ (by simp))
theorem fn25_ok (v : Nat) (hv : v < 2 ^ 64) (h : AHeap) : Returns Try.prog 25 [.int .u64 v] h (.vec 1 false (bVs (putU v))) h :=
  (fn25_own v hv h).frz (Le.frzw 5 (by simp) (by simp) (by simp)) fun _ _ => by
    have hlen := putU_length v hv
    simp [AVal.ok, huge]; omega
theorem fn40_ok (v : Nat) (hv : v < 2 ^ 64) (h : AHeap) : Returns Try.prog 40 [.int .u64 v] h (.vec 1 false (bVs (putU v))) h := by
  have hlen := putU_length v hv
  refine Returns.val fn40 (by simp) fun h1 h2 => ⟨by simp [AVal.ok, huge, oks_bV]; omega, ?_⟩
  simp [code40]
  refine Ev.over (ι := List Nat × Nat) (fun p => putU v = p.1 ++ putU p.2 ∧ p.2 < 2 ^ 64) (fun p => ⟨upd (upd noEnv 0 (.int .u64 p.2)) 3 (accV h.next p.1), accH h p.1⟩) (fun p => p.2) (fun hok _ => ⟨([], v), ⟨by simp, hv⟩, ?_⟩) ?_
  · refine Tidy.mk (by simp) (by simp) (by simpa using h1) ?_
    repeat' (first | exact TidyR_none _ _ | (refine TidyR_upd (by simp [AVal.ok, AVal.oks, huge, big] <;> omega) ?_))
  rintro ⟨l, x⟩ ⟨hp, hx⟩ hok
  simp only at hp hx
  have hll : l.length + (putU x).length = (putU v).length := by rw [hp]; simp
  by_cases hge : 128 ≤ x
  · have e1 : orI .u8 ((x : Int) % 256) 128 = (x : Int) % 128 + 128 := by rw [orI_128 (.inl rfl) (by omega) (by omega)]; omega
    have e3 : ((x : Int) % 128 + 128) % 256 = (x : Int) % 128 + 128 := by omega
    have hpx : putU x = (x % 128 + 128) :: putU (x / 128) := by rw [putU]; simp [hge]
    have hp2 : putU v = (l ++ [x % 128 + 128]) ++ putU (x / 128) := by rw [hp, hpx]; simp
    have hl2 : l.length + 1 ≤ 10 := by rw [hp2] at hlen; simp at hlen; omega
    cases l with
    | nil =>
      simp [hge, e1, e3, big]
      intro _
      refine ⟨[x % 128 + 128], x / 128, ⟨hp2, by omega⟩, by omega, Tidy.acc (id0 := h.next + 1) (by simp) (by simp) h1 ?_ (by simp) (by simp) ?_⟩
      · repeat' (first | exact Sub.refl _ | refine Sub.put_both ?_ | refine Sub.alloc h1 ?_ | refine Sub.put h1 ?_ (by simp) | refine Sub.drop h1 ?_ (by simp))
      · repeat' (first | exact TidyW_none _ _ _ _ _ | (refine TidyW_upd (by simp [AVal.ok, AVal.oks, AVal.ren, huge, big] <;> omega) ?_))
    | cons a l =>
      have hl4 : l.length + 1 + 1 ≤ 10 := hl2
      have hl3 : l.length + 2 ≤ big := by simp [big]; omega
      simp [hge, e1, e3, hl3]
      intro _
      refine ⟨a :: (l ++ [x % 128 + 128]), x / 128, ⟨hp2, by omega⟩, by omega, Tidy.acc (id0 := h.next + 2) (by simp) (by simp) h1 ?_ (by simp) (by simp) ?_⟩
      · repeat' (first | exact Sub.refl _ | refine Sub.put_both ?_ | refine Sub.alloc h1 ?_ | refine Sub.put h1 ?_ (by simp) | refine Sub.drop h1 ?_ (by simp))
      · repeat' (first | exact TidyW_none _ _ _ _ _ | (refine TidyW_upd (by simp [AVal.ok, AVal.oks, AVal.ren, huge, big, Nat.add_assoc, hl3] <;> omega) ?_))
  · have hpx : putU x = [x] := by rw [putU]; simp [hge]
    have hp2 : putU v = l ++ [x] := by rw [hp, hpx]
    have e1 : (x : Int) % 256 = x := by omega
    cases l with
    | nil =>
      simp [hge, big, hp2, e1]
      refine ⟨Le.frzw 5 (by simp) (by simp) (by simp), ?_⟩
      repeat' (first | exact Sub.refl _ | refine Sub.put_both ?_ | refine Sub.alloc h1 ?_ | refine Sub.put h1 ?_ (by simp) | refine Sub.drop h1 ?_ (by simp))
    | cons a l =>
      have hl3 : l.length + 2 ≤ big := by simp [big, hp2] at hlen ⊢; omega
      simp [hge, hl3, hp2, e1]
      refine ⟨Le.frzw 5 (by simp) (by simp) (by simp), ?_⟩
      repeat' (first | exact Sub.refl _ | refine Sub.put_both ?_ | refine Sub.alloc h1 ?_ | refine Sub.put h1 ?_ (by simp) | refine Sub.drop h1 ?_ (by simp))
end Go.Proofs.Ytbjifmoiblicgaa.Ab
