/- Messages of bytes. -/
import Derived.Test.YtbjifmoiblicgaaByG
set_option linter.unusedVariables false
set_option linter.unusedSimpArgs false
namespace Go.Proofs.Ytbjifmoiblicgaa.Ab
open Go

theorem getU_some {l : List Nat} {v n : Nat} (h : getU l = some (v, n)) : putU v = l.take n ∧ (putU v).length = n ∧ n ≤ l.length ∧ v < 18446744073709551616 ∧ n ≤ 10 := by
  unfold getU at h
  split at h
  · cases h
  · rename_i e he
    split at h
    · rename_i hc
      simp only [Option.some.injEq, Prod.mk.injEq] at h
      obtain ⟨rfl, rfl⟩ := h
      have hel : e < l.length := by
        unfold endU at he
        rw [List.findIdx?_eq_some_iff_getElem] at he
        exact he.1
      refine ⟨hc.2, by rw [hc.2]; simp; omega, by omega, Nat.mod_lt _ (by decide), by omega⟩
    · cases h
def bodyF (r : List Nat) (v n : Nat) : List Nat := (r.drop n).take v
def getF (l : List Nat) : Option (Nat × List Nat × Nat) :=
  match l with
  | [] => none
  | k :: r =>
    match getU r with
    | none => none
    | some (v, n) => if v ≤ 4000 ∧ n + v + 4 ≤ r.length ∧ ((putF k (bodyF r v n)).getD []) <+: k :: r then some (k, bodyF r v n, ((putF k (bodyF r v n)).getD []).length) else none
@[simp] def getFV (o : Option (Nat × List Nat × Nat)) : AVal := .tup [.int .u8 (o.getD (0, [], 0)).1, .vec 1 false (bVs (o.getD (0, [], 0)).2.1), .int .i64 (o.getD (0, [], 0)).2.2, .bool o.isSome]
theorem putF_size (k : Nat) (l : List Nat) (h : l.length ≤ 4000) : ((putF k l).getD []).length = (putU l.length).length + l.length + 5 := by
  unfold putF
  rw [if_neg (by omega)]
  simp [sum4, frm_len]
theorem getF_ok {n : Nat} {l : List Nat} (hl : l.length ≤ huge) : (getFV (getF l)).ok n := by
  have : ((getF l).getD (0, [], 0)).2.1.length ≤ l.length := by
    unfold getF
    cases l with
    | nil => simp
    | cons k r =>
      simp only
      split
      · simp
      · split
        · simp [bodyF]; omega
        · simp
  simp [AVal.ok, AVal.oks]; omega
theorem bodyF_lt {r : List Nat} {v n : Nat} (h : ∀ b ∈ r, b < 256) : ∀ b ∈ bodyF r v n, b < 256 := fun b hb => h b (List.mem_of_mem_drop (List.mem_of_mem_take hb))
theorem fn42_ok (l : List Nat) (v : AVal) (h : AHeap) (hl : ∀ b ∈ l, b < 256) (hB : IsB h v l) : Returns Try.prog 42 [v] h (getFV (getF l)) h := by
  refine ACalls.facts (isBody_of fn42) fun _ hv => ?_
  simp [AVal.oks, AVal.ok] at hv
  have hlen := hB.len_le hv
  refine Returns.val fn42 (by simp) fun h1 h2 => ⟨getF_ok hlen, ?_⟩
  simp only [huge] at hlen
  clear h2
  cases l with
  | nil => simp [code42, hB.lenV, getF]
  | cons k r =>
    have hk : k < 256 := hl k (by simp)
    have hr : ∀ b ∈ r, b < 256 := fun b hb => hl b (by simp [hb])
    have hlr : r.length + 1 ≤ 9223372036854775807 := by simpa using hlen
    obtain ⟨u, hu, hBu, huok⟩ := hB.slice (some 1) none 1 (r.length + 1) rfl rfl (by omega) (by simp)
    simp at hu hBu
    obtain ⟨p, p1, p2⟩ := hB.at (i := 0) (by simp)
    simp at p1 p2
    have hne : ¬ ((r.length : Int) + 1 = 0) := by omega
    simp [code42, hB.lenV, hu, hne]
    refine (fn43_ok r u h hr hBu).to ?_
    cases hg : getU r with
    | none => simp [getF, hg]
    | some q =>
      obtain ⟨m, n⟩ := q
      obtain ⟨g1, g2, g3, g4, g5⟩ := getU_some hg
      simp only [getF, hg]
      by_cases hm : 4000 < m
      · have : ¬ m ≤ 4000 := by omega
        simp [hm, this]
      have hm' : m ≤ 4000 := by omega
      have w1 : IntKind.i64.wrap (r.length : Int) = r.length := wrap_i64 (by omega) (by omega)
      have w2 : IntKind.i64.wrap ((r.length : Int) - n) = r.length - n := wrap_i64 (by omega) (by omega)
      have w3 : IntKind.i64.wrap ((r.length : Int) - n - 4) = r.length - n - 4 := wrap_i64 (by omega) (by omega)
      have w4 : IntKind.i64.wrap (m : Int) = m := wrap_i64 (by omega) (by omega)
      have w5 : IntKind.i64.wrap (1 + (n : Int)) = ((n + 1 : Nat) : Int) := by rw [wrap_i64 (by omega) (by omega)]; omega
      by_cases hs : n + (m + 4) ≤ r.length
      case neg =>
        have hlt : (r.length : Int) - n - 4 < m := by omega
        simp [hm, w1, w2, w3, w4, hlt, hs, hB.lenV]
      have hlt : ¬ (r.length : Int) - n - 4 < m := by omega
      obtain ⟨u2, hu2, hBu2, huok2⟩ := hB.slice (some ((n + 1 : Nat) : Int)) none (n + 1) (r.length + 1) rfl rfl (by omega) (by simp)
      obtain ⟨u3, hu3, hBu3, huok3⟩ := hBu2.slice none (some (m : Int)) 0 m rfl rfl (by omega) (by simp; omega) (k2 := .u64)
      have hbody : (((k :: r).take (r.length + 1)).drop (n + 1)).take m = bodyF r m n := by simp [bodyF]
      simp only [List.drop_zero, hbody] at hBu3
      simp at hu2 hu3
      have hbl : (bodyF r m n).length = m := by simp [bodyF]; omega
      have hbr := bodyF_lt (v := m) (n := n) hr
      have hfn : ∀ {w}, putF k (bodyF r m n) = some w → ∀ b ∈ w, b < 256 := fun hw => putF_lt hk hbr hw
      simp [hm, hm', w1, w2, w3, w4, hlt, hs, w5, hu2, hu3, hB.lenV]
      refine (fn24_ok _ u3 h hBu3 (by simp only [big]; omega)).to ?_
      simp [p1, p2]
      refine (fn32_ok k (bodyF r m n) (.vec 1 false (bVs (bodyF r m n))) h hk hbr (.vec _ _)).to ?_
      simp
      have hps : ∃ w, putF k (bodyF r m n) = some w := by unfold putF; rw [if_neg (by omega)]; exact ⟨_, rfl⟩
      obtain ⟨w, hw⟩ := hps
      simp only [hw, Option.getD_some]
      refine (fn46_ok (k :: r) w v (.vec 1 false (bVs w)) h hB (.vec _ _) hl (hfn hw)).to ?_
      by_cases hpre : w <+: k :: r
      · simp [hpre, p1, p2]
      · simp [hpre]
theorem fn44_ok (l : List Nat) (f : Bool) (h : AHeap) (hl : ∀ b ∈ l, b < 256) : Returns Try.prog 44 [.vec 1 f (bVs l)] h (getFV (getF l)) h := by
  have hB : IsB h (.vec 1 f (bVs l)) l := .vec _ _
  refine ACalls.facts (isBody_of fn44) fun _ hv => ?_
  simp [AVal.oks, AVal.ok] at hv
  refine Returns.val fn44 (by simp) fun h1 h2 => ⟨getF_ok hv, ?_⟩
  have hlen := hv
  simp only [huge] at hlen
  clear h2
  cases l with
  | nil => simp [code44, hB.lenV, getF]
  | cons k r =>
    have hk : k < 256 := hl k (by simp)
    have hr : ∀ b ∈ r, b < 256 := fun b hb => hl b (by simp [hb])
    have hlr : r.length + 1 ≤ 9223372036854775807 := by simpa using hlen
    have hu := vec_slice f (k :: r) (some 1) none 1 (r.length + 1) rfl rfl (by omega) (by simp)
    simp at hu
    have hne : ¬ ((r.length : Int) + 1 < 1) := by omega
    simp [code44, hu, hne]
    refine (fn45_ok r _ h hr (.vec _ _)).to ?_
    cases hg : getU r with
    | none => simp [getF, hg]
    | some q =>
      obtain ⟨m, n⟩ := q
      obtain ⟨g1, g2, g3, g4, g5⟩ := getU_some hg
      simp only [getF, hg]
      by_cases hm : 4000 < m
      · have : ¬ m ≤ 4000 := by omega
        simp [hm, this]
      have hm' : m ≤ 4000 := by omega
      have w1 : ((r.length : Int) + 1) % 18446744073709551616 = r.length + 1 := by omega
      have w2 : (n : Int) % 18446744073709551616 = n := by omega
      have w3 : ((n : Int) + m) % 18446744073709551616 = n + m := by omega
      have w4 : ((n : Int) + m + 5) % 18446744073709551616 = n + m + 5 := by omega
      have w5 : IntKind.i64.wrap (1 + (n : Int)) = ((n + 1 : Nat) : Int) := by rw [wrap_i64 (by omega) (by omega)]; omega
      have w6 : IntKind.i64.wrap (m : Int) = m := wrap_i64 (by omega) (by omega)
      have w7 : IntKind.i64.wrap ((n : Int) + 1 + m) = ((n + 1 + m : Nat) : Int) := by rw [wrap_i64 (by omega) (by omega)]; omega
      by_cases hs : n + (m + 4) ≤ r.length
      case neg =>
        have hlt : (r.length : Int) + 1 < n + m + 5 := by omega
        simp [hm, w1, w2, w3, w4, hlt, hs]
      have hlt : ¬ (r.length : Int) + 1 < n + m + 5 := by omega
      have hu2 := vec_slice f (k :: r) (some ((n + 1 : Nat) : Int)) (some ((n + 1 + m : Nat) : Int)) (n + 1) (n + 1 + m) rfl rfl (by omega) (by simp; omega)
      have hbody : ((k :: r).take (n + 1 + m)).drop (n + 1) = bodyF r m n := by
        rw [List.drop_take, show n + 1 + m - (n + 1) = m from by omega]
        simp [bodyF]
      rw [hbody] at hu2
      simp at hu2
      have hbl : (bodyF r m n).length = m := by simp [bodyF]; omega
      have hbr := bodyF_lt (v := m) (n := n) hr
      have hfn : ∀ {w}, putF k (bodyF r m n) = some w → ∀ b ∈ w, b < 256 := fun hw => putF_lt hk hbr hw
      have hsz := putF_size k (bodyF r m n) (by omega)
      rw [hbl, g2] at hsz
      simp [hm, hm', w1, w2, w3, w4, hlt, hs, w5, w6, w7, hu2]
      refine (fn10_ok k (bodyF r m n) _ h hk hbr (.vec _ _)).to ?_
      simp
      have hps : ∃ w, putF k (bodyF r m n) = some w := by unfold putF; rw [if_neg (by omega)]; exact ⟨_, rfl⟩
      obtain ⟨w, hw⟩ := hps
      rw [hw] at hsz
      simp only [Option.getD_some] at hsz
      have hu3 := vec_slice f (k :: r) none (some (w.length : Int)) 0 w.length rfl rfl (by omega) (by simp; omega)
      simp only [List.drop_zero] at hu3
      simp only [Option.map_none, Option.map_some, bVs_cons] at hu3
      have hb1 := (IsB.vec (h := h) false w).b2s (hfn hw)
      have hb2 := fun f0 => (IsB.vec (h := h) f0 ((k :: r).take w.length)).b2s (fun b hb => hl b (List.mem_of_mem_take hb))
      have e : (w = (k :: r).take w.length) = (w <+: k :: r) := by rw [eq_iff_iff, List.prefix_iff_eq_take]
      have hinj := bytes_inj (hfn hw) (l' := (k :: r).take w.length) (fun b hb => hl b (List.mem_of_mem_take hb))
      rw [e] at hinj
      simp only [hw, Option.getD_some]
      by_cases hpre : w <+: k :: r
      · simp [hb1, hb2, hu3, hinj, hpre]
      · simp [hb1, hb2, hu3, hinj, hpre]
end Go.Proofs.Ytbjifmoiblicgaa.Ab
