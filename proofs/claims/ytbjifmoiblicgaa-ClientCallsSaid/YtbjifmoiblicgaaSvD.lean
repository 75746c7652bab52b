/- Requests as bytes. -/
import Derived.Test.YtbjifmoiblicgaaSvC
set_option linter.unusedVariables false
set_option linter.unusedSimpArgs false
namespace Go.Proofs.Ytbjifmoiblicgaa.Ab
open Go

theorem isC_nat {c : Cl} (h : isC c = true) : ∃ e s : Nat, c = ⟨e, s⟩ ∧ e ≤ 2147483647 ∧ s ≤ 2147483647 := by
  have := isC_of h
  exact ⟨c.epoch.toNat, c.seq.toNat, by cases c; simp only [Cl.mk.injEq]; simp only at this; omega, by omega, by omega⟩
/-- The two numbers of a call. -/
theorem fn31_ok (e s : Nat) (he : e ≤ 2147483647) (hs : s ≤ 2147483647) (id : Nat) (cp : Option Nat) (h : AHeap) (hi : h.f id = some (.cells 3 [.int .i64 e, .int .i64 s])) :
    Returns Try.prog 31 [.sl 1 id 0 2 cp] h (.sl 1 h.next 0 (putU e ++ putU s).length none) (h.alloc (.cells 5 (bVs (putU e ++ putU s)))) := by
  have l1 := putU_length e (by omega)
  have l2 := putU_length s (by omega)
  refine Returns.new fn31 (by simp) fun h1 h2 => ⟨by simp [AVal.ok, big]; omega, by simp only [AObj.ok]; exact oks_bV _ _, ?_⟩
  have hid := (h1 id _ hi).1
  have hne : id ≠ h.next := by omega
  have he1 : (e : Int) % 18446744073709551616 = e := by omega
  have he2 : (s : Int) % 18446744073709551616 = s := by omega
  have hp1 := putU_ne e
  have hp2 := putU_ne s
  have hq1 := putU_pos e
  have hq2 := putU_pos s
  have b1 : (putU e).length ≤ big := by simp only [big]; omega
  have b2 : (putU e).length + (putU s).length ≤ big := by simp only [big]; omega
  simp [code31]
  refine Ev.unroll 3 fun _ => ?_
  rw [Un_succ]
  simp [hi, he1]
  refine (fn40_ok e (by omega) _).to ?_
  simp [hq1, hp1, b1]
  intro _
  rw [Un_succ]
  simp [hi, he2, hne]
  refine (fn40_ok s (by omega) _).to ?_
  simp [hq1, hp1, b2]
  intro _
  rw [Un_succ]
  simp
  exact ⟨h.next + 1, by simp [AVal.ren], by simp, by simp, by
    repeat' (first | exact Sub.refl _ | refine Sub.put_both ?_ | refine Sub.alloc h1 ?_ | refine Sub.put h1 ?_ (by simp) | refine Sub.drop h1 ?_ (by simp))
    ⟩
theorem reqB_len (c : Cl) (m : Nat) (arg : List Nat) : ((reqB c m arg).getD []).length ≤ 4015 := by
  unfold reqB
  split
  · exact putF_len _ _
  · simp
theorem callB_nat (e s : Nat) : callB ⟨e, s⟩ = putU e ++ putU s := by simp [callB]
theorem mark8_lt (m : Nat) : ∀ b ∈ mark8 m, b < 256 := by
  intro b hb
  simp only [mark8, List.mem_cons, List.not_mem_nil, or_false] at hb
  omega
theorem req_lt {e s m : Nat} {arg : List Nat} (hl : ∀ b ∈ arg, b < 256) : ∀ b ∈ putU e ++ putU s ++ (mark8 m ++ arg), b < 256 := by
  intro b hb
  simp only [List.mem_append] at hb
  rcases hb with (hb | hb) | hb | hb
  · exact putU_lt _ b hb
  · exact putU_lt _ b hb
  · exact mark8_lt m b hb
  · exact hl b hb
theorem fn23_ok (c : Cl) (m : Nat) (arg : List Nat) (v : AVal) (h : AHeap) (hm : m < 18446744073709551616) (hl : ∀ b ∈ arg, b < 256) (hB : IsB h v arg) (ha : arg.length ≤ 100000) : Returns Try.prog 23 [clV c, .int .u64 m, v] h (optV (reqB c m arg)) h := by
  refine Returns.val fn23 (by simp) fun h1 h2 => ⟨optV_ok _ _ (Nat.le_trans (reqB_len c m arg) (by decide)), ?_⟩
  simp [AVal.oks, AVal.ok] at h2
  simp [code23]
  refine (fn30_ok c _).to ?_
  cases hc : isC c with
  | false =>
    simp [reqB, hc]
    repeat' (first | exact Sub.refl _ | refine Sub.put_both ?_ | refine Sub.alloc h1 ?_ | refine Sub.put h1 ?_ (by simp) | refine Sub.drop h1 ?_ (by simp))
  | true =>
    obtain ⟨e, s, rfl, he, hs⟩ := isC_nat hc
    have l1 := putU_length e (by omega)
    have l2 := putU_length s (by omega)
    have b1 : ∀ k, k ≤ 8 → (putU e).length + ((putU s).length + k) ≤ big := fun k hk => by simp only [big]; omega
    have b9 : (putU e).length + ((putU s).length + (8 + arg.length)) ≤ big := by simp only [big]; omega
    simp
    refine (fn31_ok e s he hs _ _ _ (by simp)).to ?_
    simp
    refine Ev.unroll 9 fun _ => ?_
    rw [Un_succ]
    simp [b1]
    intro _
    rw [Un_succ]
    simp [b1]
    intro _
    rw [Un_succ]
    simp [b1]
    intro _
    rw [Un_succ]
    simp [b1]
    intro _
    rw [Un_succ]
    simp [b1]
    intro _
    rw [Un_succ]
    simp [b1]
    intro _
    rw [Un_succ]
    simp [b1]
    intro _
    rw [Un_succ]
    simp [b1]
    intro _
    rw [Un_succ]
    simp [srcCells_alloc h2, srcCells_drop h2, hB.src, hB.srcLen, b9]
    have hreq : reqB ⟨e, s⟩ m arg = putF 1 (putU e ++ putU s ++ (mark8 m ++ arg)) := by simp [reqB, hc, callB_nat]
    refine (fn32_ok 1 (putU e ++ putU s ++ (mark8 m ++ arg)) _ _ (by decide) (req_lt hl) (IsB.whole 5 (by simp [mark8]) (by simp [mark8] <;> omega))).to ?_
    rw [hreq]
    simp
    repeat' (first | exact Sub.refl _ | refine Sub.put_both ?_ | refine Sub.alloc h1 ?_ | refine Sub.put h1 ?_ (by simp) | refine Sub.drop h1 ?_ (by simp))
theorem fn37_ok (e s : Nat) (he : e ≤ 2147483647) (hs : s ≤ 2147483647) (h : AHeap) : Returns Try.prog 37 [clV ⟨e, s⟩] h (.sl 1 h.next 0 (putU e ++ putU s).length none) (h.alloc (.cells 5 (bVs (putU e ++ putU s)))) := by
  have l1 := putU_length e (by omega)
  have l2 := putU_length s (by omega)
  refine Returns.new fn37 (by simp) fun h1 h2 => ⟨by simp [AVal.ok, big]; omega, by simp only [AObj.ok]; exact oks_bV _ _, ?_⟩
  have he1 : (e : Int) % 18446744073709551616 = e := by omega
  have he2 : (s : Int) % 18446744073709551616 = s := by omega
  have b2 : (putU e).length + (putU s).length ≤ big := by simp only [big]; omega
  simp [code37, he1, he2]
  refine (fn25_own e (by omega) _).to ?_
  simp
  refine (fn25_ok s (by omega) _).to ?_
  simp [b2]
  exact ⟨h.next + 2, by simp [AVal.ren], by simp, by simp, by
    repeat' (first | exact Sub.refl _ | refine Sub.put_both ?_ | refine Sub.alloc h1 ?_ | refine Sub.put h1 ?_ (by simp) | refine Sub.drop h1 ?_ (by simp))
    ⟩
theorem fn28_ok (c : Cl) (m : Nat) (arg : List Nat) (v : AVal) (h : AHeap) (hm : m < 18446744073709551616) (hl : ∀ b ∈ arg, b < 256) (hB : IsB h v arg) (ha : arg.length ≤ 100000) : Returns Try.prog 28 [clV c, .int .u64 m, v] h (optV (reqB c m arg)) h := by
  refine Returns.val fn28 (by simp) fun h1 h2 => ⟨optV_ok _ _ (Nat.le_trans (reqB_len c m arg) (by decide)), ?_⟩
  simp [AVal.oks, AVal.ok] at h2
  simp [code28]
  refine (fn36_ok c _).to ?_
  cases hc : isC c with
  | false =>
    simp [reqB, hc]
    repeat' (first | exact Sub.refl _ | refine Sub.put_both ?_ | refine Sub.alloc h1 ?_ | refine Sub.put h1 ?_ (by simp) | refine Sub.drop h1 ?_ (by simp))
  | true =>
    obtain ⟨e, s, rfl, he, hs⟩ := isC_nat hc
    have l1 := putU_length e (by omega)
    have l2 := putU_length s (by omega)
    have b1 : ∀ k, k ≤ 8 → (putU e).length + ((putU s).length + k) ≤ big := fun k hk => by simp only [big]; omega
    have b9 : (putU e).length + ((putU s).length + (8 + arg.length)) ≤ big := by simp only [big]; omega
    simp
    refine (fn37_ok e s he hs _).to ?_
    simp
    refine Ev.unroll 9 fun _ => ?_
    rw [Un_succ]
    simp [b1]
    intro _
    rw [Un_succ]
    simp [b1]
    intro _
    rw [Un_succ]
    simp [b1]
    intro _
    rw [Un_succ]
    simp [b1]
    intro _
    rw [Un_succ]
    simp [b1]
    intro _
    rw [Un_succ]
    simp [b1]
    intro _
    rw [Un_succ]
    simp [b1]
    intro _
    rw [Un_succ]
    simp [b1]
    intro _
    rw [Un_succ]
    simp [srcCells_alloc h2, srcCells_drop h2, hB.src, hB.srcLen, b9]
    have hreq : reqB ⟨e, s⟩ m arg = putF 1 (putU e ++ putU s ++ (mark8 m ++ arg)) := by simp [reqB, hc, callB_nat]
    refine (fn10_ok 1 (putU e ++ putU s ++ (mark8 m ++ arg)) _ _ (by decide) (req_lt hl) (IsB.whole 5 (by simp [mark8]) (by simp [mark8] <;> omega))).to ?_
    rw [hreq]
    simp
    repeat' (first | exact Sub.refl _ | refine Sub.put_both ?_ | refine Sub.alloc h1 ?_ | refine Sub.put h1 ?_ (by simp) | refine Sub.drop h1 ?_ (by simp))
end Go.Proofs.Ytbjifmoiblicgaa.Ab
