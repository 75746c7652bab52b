/- Numbers of bytes: Get, twice. -/
import Derived.Test.YtbjifmoiblicgaaByF
set_option linter.unusedVariables false
set_option linter.unusedSimpArgs false
namespace Go.Proofs.Ytbjifmoiblicgaa.Ab
open Go

@[simp] def getV (o : Option (Nat × Nat)) : AVal := .tup [.int .u64 (o.getD (0, 0)).1, .int .i64 (o.getD (0, 0)).2, .bool o.isSome]
theorem val_mod_take_zero (l : List Nat) : val (l.take 0) % 18446744073709551616 = 0 := by simp [val]
theorem shl_7 (i : Nat) (hi : i < 10) (x : Int) : shiftI .shl .u64 x (7 * (i : Int)) = some (.int .u64 (x * 2 ^ (7 * i) % 18446744073709551616)) := by
  rw [shl_int _ _ _ (by omega), bits64]
  have e : min (7 * (i : Int)).toNat 64 = 7 * i := by omega
  rw [e, wrapU64]
theorem or_step' (l : List Nat) (i : Nat) (hi : i < l.length) (h9 : i < 10) :
    orI .u64 ((val (l.take i) : Int) % 18446744073709551616) (((l[i] : Int) % 128 * 2 ^ (7 * i)) % 18446744073709551616) = (val (l.take (i + 1)) : Int) % 18446744073709551616 := by
  have := or_step l i hi h9
  simpa using this
theorem fn43_ok (l : List Nat) (v : AVal) (h : AHeap) (hl : ∀ b ∈ l, b < 256) (hB : IsB h v l) : Returns Try.prog 43 [v] h (getV (getU l)) h := by
  refine Returns.val fn43 (by simp) fun h1 h2 => ⟨by simp [AVal.ok, AVal.oks], ?_⟩
  simp [AVal.oks, AVal.ok] at h2
  simp [code43]
  refine (fn47_ok l v h hB).to ?_
  cases he : endU l with
  | none => simp [getU, he]
  | some e =>
    obtain ⟨hel, h128, hbef, hruns⟩ := endU_some he hl
    by_cases h10 : e < 10
    case neg =>
      have h9 : 9 < e := by omega
      simp [getU, he, h10, h9]
    have h9 : ¬ 9 < e := by omega
    obtain ⟨p, p1, p2⟩ := hB.at hel
    have hiff := putU_iff he hl h10 hel
    have hl8 := len8_bound l[e] h128
    have hm7 : IntKind.i64.wrap (7 * (e : Int)) = 7 * e := wrap_i64 (by omega) (by omega)
    have hs7 : IntKind.i64.wrap (7 * (e : Int) + len8 l[e]) = 7 * e + len8 l[e] := wrap_i64 (by omega) (by omega)
    have he1 : IntKind.i64.wrap ((e : Int) + 1) = ((e + 1 : Nat) : Int) := by rw [wrap_i64 (by omega) (by omega)]; simp
    obtain ⟨u, hu, hBu, huok⟩ := hB.slice none (some ((e + 1 : Nat) : Int)) 0 (e + 1) rfl rfl (by omega) (by omega)
    simp at hu hBu
    have huk := huok _ h2
    have hul : (l.take (e + 1)).length = e + 1 := by simp; omega
    by_cases hz : 0 < e ∧ l[e] = 0
    · have : getU l = none := by
        simp only [getU, he]
        rw [if_neg]
        intro hc; exact (hiff.1 hc.2).1 hz
      simp [h9, hz, p1, p2, this]
    by_cases h2' : e = 9 ∧ 2 ≤ l[e]
    · have hgt : (64 : Int) < 7 * e + len8 l[e] := by have := hl8.2; omega
      have : getU l = none := by
        simp only [getU, he]
        rw [if_neg]
        intro hc; exact (hiff.1 hc.2).2 h2'
      have hz2 : ¬ l[e] = 0 := by omega
      have h0 : 0 < e := by omega
      simp [h9, h0, p1, p2, this, hz2, hm7]
      refine (fn49_ok l[e] (by omega) h).to ?_
      simp [hs7, hgt, p1, p2]
    have hng : ¬ (64 : Int) < 7 * e + len8 l[e] := by
      have := hl8.2
      by_cases h9e : e = 9
      · have : l[e] < 2 := by omega
        omega
      · omega
    have hget : getU l = some (val (l.take (e + 1)) % 18446744073709551616, e + 1) := by
      simp only [getU, he]
      rw [if_pos ⟨h10, hiff.2 ⟨hz, h2'⟩⟩]
    have hg1 : (getU l).getD (0, 0) = (val (l.take (e + 1)) % 18446744073709551616, e + 1) := by rw [hget]; rfl
    have hg2 : (getU l).isSome = true := by rw [hget]; rfl
    by_cases h0 : 0 < e
    case' pos =>
      have hz2 : ¬ l[e] = 0 := fun hz2 => hz ⟨h0, hz2⟩
      simp [h9, h0, p1, p2, hz2, hm7]
      refine (fn49_ok l[e] (by omega) h).to ?_
      simp [hs7, hng, p1, p2, he1, hu, hBu.lenV, hul, hg1, hg2]
    case' neg =>
      simp [h9, h0, p1, p2, hm7]
      refine (fn49_ok l[e] (by omega) h).to ?_
      simp [hs7, hng, p1, p2, he1, hu, hBu.lenV, hul, hg1, hg2]
    all_goals
      refine Ev.countV (fun i => upd (upd (upd (upd (upd noEnv 2 (.int .u64 ((val (l.take i) : Int) % 18446744073709551616))) 5 (.int .i64 e)) 39 u) 40 (.int .i64 ((e : Int) + 1))) 41 (.int .i64 i)) (e + 1) (fun _ => True) (fun _ => ⟨trivial, ?_⟩) ?_
      · repeat' (first | exact TidyV_none _ _ _ _ | (refine TidyV_upd (by simp [AVal.ok, AVal.oks, huge, big, huk, val] <;> omega) ?_))
      intro i hi _ _
      by_cases hlt : i < e + 1
      · obtain ⟨q, q1, q2⟩ := hBu.at (i := i) (by omega)
        have hgi : (l.take (e + 1))[i]'(by omega) = l[i]'(by omega) := by simp
        rw [hgi] at q2
        have hlti : (i : Int) < (e : Int) + 1 := by omega
        have hw : IntKind.i64.wrap (↑i + 1) = ↑i + 1 := wrap_i64 (by omega) (by omega)
        have hb := hl (l[i]'(by omega)) (List.getElem_mem _)
        have hor := or_step' l i (by omega) (by omega)
        have hmod : ((l[i]'(by omega) : Nat) : Int) % 128 % 18446744073709551616 = ((l[i]'(by omega) : Nat) : Int) % 128 := by omega
        have hw7 : IntKind.i64.wrap (7 * (i : Int)) = 7 * i := wrap_i64 (by omega) (by omega)
        simp [hlti, hlt, q1, q2, hw, andNot_128 _ hb, hmod, hw7, shl_7 i (by omega), hor]
        intro _
        repeat' (first | exact TidyV_none _ _ _ _ | (refine TidyV_upd (by simp [AVal.ok, AVal.oks, huge, big, huk] <;> omega) ?_))
      · have hei : i = e + 1 := by omega
        have hnlt : ¬ (i : Int) < (e : Int) + 1 := by omega
        subst hei
        simp [he1]
theorem fn45_ok (l : List Nat) (v : AVal) (h : AHeap) (hl : ∀ b ∈ l, b < 256) (hB : IsB h v l) : Returns Try.prog 45 [v] h (getV (getU l)) h := by
  refine Returns.val fn45 (by simp) fun h1 h2 => ⟨by simp [AVal.ok, AVal.oks], ?_⟩
  simp [AVal.oks, AVal.ok] at h2
  have hlen := hB.len_le h2
  simp only [huge] at hlen
  simp [code45]
  refine Ev.countV (fun i => upd (upd (upd noEnv 0 v) 5 (.int .u64 ((val (l.take i) : Int) % 18446744073709551616))) 6 (.int .i64 i)) (min l.length 10) (fun i => ∀ j (hj : j < l.length), j < i → 128 ≤ l[j]) (fun _ => ⟨by simp, ?_⟩) ?_
  · repeat' (first | exact TidyV_none _ _ _ _ | (refine TidyV_upd (by simp [AVal.ok, AVal.oks, huge, big, h2, val] <;> omega) ?_))
  intro i hi I _
  by_cases hlt : i < l.length ∧ i < 10
  case neg =>
    have hno : getU l = none := by
      unfold getU
      cases he : endU l with
      | none => rfl
      | some e =>
        obtain ⟨hel, h128, _⟩ := endU_some he hl
        simp only
        rw [if_neg]
        rintro ⟨h10, _⟩
        have := I e hel (by omega)
        omega
    by_cases hlt2 : i < l.length
    · have : ¬ i < 10 := fun h => hlt ⟨hlt2, h⟩
      simp [hB.lenV, hlt2, this, hno]
    · simp [hB.lenV, hlt2, hno]
  obtain ⟨hl1, h10⟩ := hlt
  obtain ⟨q, q1, q2⟩ := hB.at hl1
  have hb := hl l[i] (List.getElem_mem hl1)
  have hw : IntKind.i64.wrap (↑i + 1) = ((i + 1 : Nat) : Int) := by rw [wrap_i64 (by omega) (by omega)]; simp
  have hw7 : IntKind.i64.wrap (7 * (i : Int)) = 7 * i := wrap_i64 (by omega) (by omega)
  have hm7 : (7 * (i : Int)) % 18446744073709551616 = 7 * i := by omega
  have hmod : (l[i] : Int) % 128 % 18446744073709551616 = (l[i] : Int) % 128 := by omega
  have hor := or_step' l i hl1 h10
  by_cases hb128 : l[i] < 128
  · have he : endU l = some i := by
      unfold endU
      rw [List.findIdx?_eq_some_iff_getElem]
      exact ⟨hl1, by simpa using hb128, fun j hj => by have := I j (by omega) hj; simpa using this⟩
    obtain ⟨u, hu, hBu, huok⟩ := hB.slice none (some ((i + 1 : Nat) : Int)) 0 (i + 1) rfl rfl (by omega) (by omega)
    simp at hu hBu
    have ht : ∀ b ∈ l.take (i + 1), b < 256 := fun b hb => hl b (List.mem_of_mem_take hb)
    have hp := fn25_ok (val (l.take (i + 1)) % 18446744073709551616) (Nat.mod_lt _ (by decide)) h
    have hpe : ((val (l.take (i + 1)) % 18446744073709551616 : Nat) : Int) = (val (l.take (i + 1)) : Int) % 18446744073709551616 := by simp
    rw [hpe] at hp
    have hs := (IsB.vec (h := h) false (putU (val (l.take (i + 1)) % 18446744073709551616))).b2s (putU_lt _)
    have hs2 := (IsB.vec (h := h) false (l.take (i + 1))).b2s ht
    simp [hB.lenV, hl1, h10, q1, q2, hw7, hmod, hm7, shl_7 i h10, hor, hb128, hw, hu, hBu.b2s ht]
    refine hp.to ?_
    by_cases hc : putU (val (l.take (i + 1)) % 18446744073709551616) = l.take (i + 1)
    · have hg : getU l = some (val (l.take (i + 1)) % 18446744073709551616, i + 1) := by
        simp only [getU, he]
        rw [if_pos ⟨h10, hc⟩]
      have hg1 : (getU l).getD (0, 0) = (val (l.take (i + 1)) % 18446744073709551616, i + 1) := by rw [hg]; rfl
      have hg2 : (getU l).isSome = true := by rw [hg]; rfl
      simp [hs, hs2, hc, hg1, hg2, hw]
    · have hg : getU l = none := by
        simp only [getU, he]
        rw [if_neg (fun hc2 => hc hc2.2)]
      simp [hs, bytes_inj (putU_lt _) ht, hc, hg]
  · simp [hB.lenV, hl1, h10, q1, q2, hw7, hmod, hm7, shl_7 i h10, hor, hb128, hw]
    intro _
    refine ⟨fun j hj hji => ?_, by omega, ?_⟩
    · by_cases he : j = i
      · subst he; omega
      · exact I j hj (by omega)
    · repeat' (first | exact TidyV_none _ _ _ _ | (refine TidyV_upd (by simp [AVal.ok, AVal.oks, huge, big, h2] <;> omega) ?_))
end Go.Proofs.Ytbjifmoiblicgaa.Ab
