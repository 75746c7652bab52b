/- Messages as bytes. -/
import Derived.Test.YtbjifmoiblicgaaByC
set_option linter.unusedVariables false
set_option linter.unusedSimpArgs false
namespace Go.Proofs.Ytbjifmoiblicgaa.Ab
open Go

def sum4 (s : Nat) : List Nat := [s / 16777216 % 256, s / 65536 % 256, s / 256 % 256, s % 256]
def frm (k : Nat) (l : List Nat) : List Nat := k :: (putU l.length ++ l)
def putF (k : Nat) (l : List Nat) : Option (List Nat) := if 4000 < l.length then none else some (frm k l ++ sum4 (adler (frm k l)))
theorem adler_lt (l : List Nat) : adler l < 4294967296 := by have := adl_lt l; unfold adler; omega
theorem frm_lt {k : Nat} {l : List Nat} (hk : k < 256) (hl : ∀ b ∈ l, b < 256) : ∀ b ∈ frm k l, b < 256 := by
  intro b hb
  simp only [frm, List.mem_cons, List.mem_append] at hb
  rcases hb with rfl | hb | hb
  · exact hk
  · exact putU_lt _ b hb
  · exact hl b hb
theorem putF_lt {k : Nat} {l : List Nat} {r : List Nat} (hk : k < 256) (hl : ∀ b ∈ l, b < 256) (h : putF k l = some r) : ∀ b ∈ r, b < 256 := by
  unfold putF at h
  split at h <;> cases h
  intro b hb
  rcases List.mem_append.1 hb with hb | hb
  · exact frm_lt hk hl b hb
  · simp only [sum4, List.mem_cons, List.not_mem_nil, or_false] at hb; omega
theorem putU_ne (v : Nat) : putU v ≠ [] := by rw [putU]; split <;> simp
theorem putU_pos (v : Nat) : (putU v).length ≠ 0 := fun h => putU_ne v (List.length_eq_zero_iff.1 h)
theorem frm_len (k : Nat) (l : List Nat) : (frm k l).length = (putU l.length).length + (l.length + 1) := by simp [frm]
theorem putF_len (k : Nat) (l : List Nat) : ((putF k l).getD []).length ≤ 4015 := by
  unfold putF
  split
  · simp
  · have := putU_length l.length (by omega)
    simp [sum4, frm_len]; omega
theorem fn10_ok (k : Nat) (l : List Nat) (v : AVal) (h : AHeap) (hk : k < 256) (hl : ∀ b ∈ l, b < 256) (hB : IsB h v l) : Returns Try.prog 10 [bV k, v] h (optV (putF k l)) h := by
  refine Returns.val fn10 (by simp) fun h1 h2 => ⟨optV_ok _ _ (Nat.le_trans (putF_len k l) (by decide)), ?_⟩
  simp [AVal.oks, AVal.ok] at h2
  have hlen := hB.len_le h2
  simp only [huge] at hlen
  by_cases hlt : 4000 < l.length
  · simp [code10, hB.lenV, hlt, putF]
  have hu : l.length < 2 ^ 64 := by omega
  have hul := putU_length l.length hu
  have e64 : (l.length : Int) % 18446744073709551616 = l.length := by omega
  have hpn := putU_pos l.length
  have hpn2 := putU_ne l.length
  have b1 : (putU l.length).length + 1 ≤ big := by simp only [big]; omega
  have b2 : (putU l.length).length + (l.length + 1) ≤ big := by simp only [big]; omega
  have b3 : (putU l.length).length + (l.length + 5) ≤ big := by simp only [big]; omega
  simp [code10, hB.lenV, hlt, e64]
  refine (fn25_ok l.length hu _).to ?_
  simp [hpn, hpn2, b1, srcCells_alloc h2, hB.src, hB.srcLen]
  refine ⟨b2, ?_⟩
  have ha := adler_lt (frm k l)
  refine (fn26_ok (frm k l) _ _ (frm_lt hk hl) (IsB.whole 5 (by simp [frm]) (by simp [frm]))).to ?_
  have e1 : (adler (frm k l) : Int) / 16777216 % 256 = ((adler (frm k l) / 16777216 % 256 : Nat) : Int) := by simp
  simp [b3, putF, hlt, frm, sum4]
  refine ⟨.tup (.cons (Le.frzw 5 (by simp) (by simp) (by simp)) (les_refl _)), ?_⟩
  repeat' (first | exact Sub.refl _ | refine Sub.put_both ?_ | refine Sub.alloc h1 ?_ | refine Sub.put h1 ?_ (by simp) | refine Sub.drop h1 ?_ (by simp))
theorem fn32_ok (k : Nat) (l : List Nat) (v : AVal) (h : AHeap) (hk : k < 256) (hl : ∀ b ∈ l, b < 256) (hB : IsB h v l) : Returns Try.prog 32 [bV k, v] h (optV (putF k l)) h := by
  refine Returns.val fn32 (by simp) fun h1 h2 => ⟨optV_ok _ _ (Nat.le_trans (putF_len k l) (by decide)), ?_⟩
  simp [AVal.oks, AVal.ok] at h2
  have hlen := hB.len_le h2
  simp only [huge] at hlen
  by_cases hlt : 4000 < l.length
  · simp [code32, hB.lenV, hlt, putF]
  have hu : l.length < 2 ^ 64 := by omega
  have hul := putU_length l.length hu
  have e64 : (l.length : Int) % 18446744073709551616 = l.length := by omega
  have hpn := putU_pos l.length
  have hpn2 := putU_ne l.length
  have b1 : (putU l.length).length + 1 ≤ big := by simp only [big]; omega
  have b2 : (putU l.length).length + (l.length + 1) ≤ big := by simp only [big]; omega
  simp [code32, hB.lenV, hlt, e64]
  refine (fn40_ok l.length hu _).to ?_
  simp [hpn, hpn2, b1, srcCells_alloc h2, hB.src, hB.srcLen]
  refine ⟨b2, ?_⟩
  have ha := adler_lt (frm k l)
  refine (fn41_ok (frm k l) (.sl 1 (h.next + 2) 0 ((putU l.length).length + (l.length + 1)) none) _ _ _ 22 (frm_lt hk hl) (IsB.whole 5 (by simp [frm]) (by simp [frm])) (by simp)).to ?_
  simp
  refine Ev.over (ι := Nat) (fun i => i ≤ 4) (fun i => ⟨upd (upd (upd noEnv 6 (.sl 1 h.next 0 ((frm k l).length + i) none)) 7 (.int .u32 (adler (frm k l)))) 25 (.int .i64 i), h.alloc (.cells 5 (bVs (frm k l) ++ bVs ((sum4 (adler (frm k l))).take i)))⟩) (fun i => 4 - i) (fun hok _ => ⟨0, by decide, ?_⟩) ?_
  · refine Tidy.own (h.next + 2) (by simp) h1 ?_ (by simp) (by simp [frm]) (by simp [AObj.ok, frm, AVal.oks, AVal.ok]) ?_
    · repeat' (first | exact Sub.refl _ | refine Sub.put_both ?_ | refine Sub.alloc h1 ?_ | refine Sub.put h1 ?_ (by simp) | refine Sub.drop h1 ?_ (by simp))
    · repeat' (first | exact TidyW_none _ _ _ _ _ | (refine TidyW_upd (by simp [AVal.ok, AVal.oks, AVal.ren, huge, big, frm] <;> omega) ?_))
  intro i hi hok
  have hi5 : i = 0 ∨ i = 1 ∨ i = 2 ∨ i = 3 ∨ i = 4 := by omega
  have b5 : (putU l.length).length + (l.length + 5) ≤ big := by simp only [big]; omega
  have b4 : (putU l.length).length + (l.length + 4) ≤ big := by simp only [big]; omega
  have b3 : (putU l.length).length + (l.length + 3) ≤ big := by simp only [big]; omega
  have b2' : (putU l.length).length + (l.length + 2) ≤ big := by simp only [big]; omega
  rcases hi5 with rfl | rfl | rfl | rfl | rfl
  · simp [sum4, frm, b2']
    refine fun _ => ⟨1, by decide, by decide, ?_⟩
    simp
    refine Tidy.own (h.next + 2) (by simp) h1 ?_ (by simp) (by simp) (by simp [AObj.ok, AVal.oks, AVal.ok]) ?_
    · repeat' (first | exact Sub.refl _ | refine Sub.put_both ?_ | refine Sub.alloc h1 ?_ | refine Sub.put h1 ?_ (by simp) | refine Sub.drop h1 ?_ (by simp))
    · simp only [big] at b2' b3 b4 b5
      repeat' (first | exact TidyW_none _ _ _ _ _ | (refine TidyW_upd (by simp [AVal.ok, AVal.oks, AVal.ren, huge, big] <;> omega) ?_))
  · simp [sum4, frm, b3]
    refine fun _ => ⟨2, by decide, by decide, ?_⟩
    simp
    refine Tidy.own (h.next + 2) (by simp) h1 ?_ (by simp) (by simp) (by simp [AObj.ok, AVal.oks, AVal.ok]) ?_
    · repeat' (first | exact Sub.refl _ | refine Sub.put_both ?_ | refine Sub.alloc h1 ?_ | refine Sub.put h1 ?_ (by simp) | refine Sub.drop h1 ?_ (by simp))
    · simp only [big] at b2' b3 b4 b5
      repeat' (first | exact TidyW_none _ _ _ _ _ | (refine TidyW_upd (by simp [AVal.ok, AVal.oks, AVal.ren, huge, big] <;> omega) ?_))
  · simp [sum4, frm, b4]
    refine fun _ => ⟨3, by decide, by decide, ?_⟩
    simp
    refine Tidy.own (h.next + 2) (by simp) h1 ?_ (by simp) (by simp) (by simp [AObj.ok, AVal.oks, AVal.ok]) ?_
    · repeat' (first | exact Sub.refl _ | refine Sub.put_both ?_ | refine Sub.alloc h1 ?_ | refine Sub.put h1 ?_ (by simp) | refine Sub.drop h1 ?_ (by simp))
    · simp only [big] at b2' b3 b4 b5
      repeat' (first | exact TidyW_none _ _ _ _ _ | (refine TidyW_upd (by simp [AVal.ok, AVal.oks, AVal.ren, huge, big] <;> omega) ?_))
  · simp [sum4, frm, b5]
    refine fun _ => ⟨4, by decide, by decide, ?_⟩
    simp
    refine Tidy.own (h.next + 2) (by simp) h1 ?_ (by simp) (by simp) (by simp [AObj.ok, AVal.oks, AVal.ok]) ?_
    · repeat' (first | exact Sub.refl _ | refine Sub.put_both ?_ | refine Sub.alloc h1 ?_ | refine Sub.put h1 ?_ (by simp) | refine Sub.drop h1 ?_ (by simp))
    · simp only [big] at b2' b3 b4 b5
      repeat' (first | exact TidyW_none _ _ _ _ _ | (refine TidyW_upd (by simp [AVal.ok, AVal.oks, AVal.ren, huge, big] <;> omega) ?_))
  · simp [sum4, frm, putF, hlt]
    refine ⟨.tup (.cons (Le.frzw 5 (by simp) (by simp) (by simp)) (les_refl _)), ?_⟩
    repeat' (first | exact Sub.refl _ | refine Sub.put_both ?_ | refine Sub.alloc h1 ?_ | refine Sub.put h1 ?_ (by simp) | refine Sub.drop h1 ?_ (by simp))
end Go.Proofs.Ytbjifmoiblicgaa.Ab
