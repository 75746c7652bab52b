/- Sizes of types. -/
import Derived.Test.YtcjlgmknclifmaaDoorTyA
set_option linter.unusedVariables false
set_option linter.unusedSimpArgs false
namespace Go.Proofs.YtcjlgmknclifmaaDoor.Ab
open Go

mutual
def sz : Ty → Nat
  | .mk _ _ ks => 1 + szs ks
def szs : List Ty → Nat
  | [] => 0
  | k :: ks => sz k + szs ks
end
theorem szs_append : ∀ (l l' : List Ty), szs (l ++ l') = szs l + szs l'
  | [], l' => by simp [szs]
  | k :: l, l' => by simp [szs, szs_append l l', Nat.add_assoc]
theorem szs_take (ks : List Ty) (i : Nat) (hi : i < ks.length) : szs (ks.take (i + 1)) = szs (ks.take i) + sz ks[i] := by
  rw [List.take_succ_eq_append_getElem hi, szs_append]; simp [szs]
theorem szs_take_le (ks : List Ty) (i : Nat) : szs (ks.take i) ≤ szs ks := by
  have := szs_append (ks.take i) (ks.drop i)
  rw [List.take_append_drop] at this
  omega
theorem szs_len : ∀ (ks : List Ty), ks.length ≤ szs ks
  | [] => by simp
  | k :: ks => by
    have := szs_len ks
    have : 1 ≤ sz k := by cases k; simp [sz]
    simp [szs]; omega
theorem sz_pos (t : Ty) : 1 ≤ sz t := by cases t; simp [sz]
theorem fn27_ok (t : Ty) : ∀ (m : Nat) (h : AHeap), 1 ≤ m → m < 2^60 → Returns Tryd.prog 27 [tyV t, .int .i64 m] h (.int .i64 (min (sz t) m : Nat)) h := by
  refine Ty.ind (motive := fun t => ∀ (m : Nat) (h : AHeap), 1 ≤ m → m < 2^60 → Returns Tryd.prog 27 [tyV t, .int .i64 m] h (.int .i64 (min (sz t) m : Nat)) h) (fun op n ks ih => ?_) t
  intro m h hm hm2
  refine Returns.val fn27 (by simp) fun h1 h2 => ⟨by simp [AVal.ok], ?_⟩
  simp only [AVal.oks, tyV_ok, TyOk_mk, huge] at h2
  obtain ⟨⟨hop, hlen, hko⟩, -⟩ := h2
  simp [code27, tyV_mk]
  refine Ev.countV (fun i => upd (upd (upd (upd (upd noEnv 1 (.int .i64 m)) 5 (.int .i64 (min (1 + szs (ks.take i)) m : Nat))) 9 (.vec 3 false (ks.map tyV))) 10 (.int .i64 ks.length)) 11 (.int .i64 i)) ks.length (fun _ => True) (fun _ => ⟨trivial, ?_⟩) ?_
  · have hm1 : min 1 m = 1 := by omega
    repeat' (first | exact TidyV_none _ _ _ _ | (refine TidyV_upd (by simp [AVal.ok, AVal.oks, huge, big, hlen, hko, szs, hm1] <;> omega) ?_))
  intro i hi _ hok
  by_cases hlt : i < ks.length
  · by_cases hge : m ≤ 1 + szs (ks.take i)
    · have hmn : min (szs (ks.take i) + 1) m = m := by omega
      have hmm : min (szs ks + 1) m = m := by have := szs_take_le ks i; omega
      simp [hlt, hmn, sz, hmm, Nat.add_comm 1]
      repeat' (first | exact Sub.refl _ | refine Sub.put_both ?_ | refine Sub.alloc h1 ?_ | refine Sub.put h1 ?_ (by simp) | refine Sub.drop h1 ?_ (by simp))
    · have hmn : min (szs (ks.take i) + 1) m = szs (ks.take i) + 1 := by omega
      have hs := szs_take ks i hlt
      have e0 : ¬ (m : Int) ≤ szs (ks.take i) + 1 := by omega
      have e1 : IntKind.i64.wrap ((m : Int) - (szs (ks.take i) + 1)) = (m - (szs (ks.take i) + 1) : Nat) := by rw [wrap_i64 (by omega) (by omega)]; omega
      have e2 : (szs (ks.take i) + 1 : Int) + (min (sz ks[i]) (m - (szs (ks.take i) + 1)) : Nat) = (min (szs (ks.take (i + 1)) + 1) m : Nat) := by omega
      have e3 : IntKind.i64.wrap (min (szs (ks.take (i + 1)) + 1) m : Nat) = (min (szs (ks.take (i + 1)) + 1) m : Nat) := wrap_i64 (by omega) (by omega)
      have e4 : IntKind.i64.wrap (↑i + 1) = ↑i + 1 := wrap_i64 (by omega) (by omega)
      have hc := ih ks[i] (List.getElem_mem hlt) (m - (szs (ks.take i) + 1))
      rw [tyV_eq] at hc
      simp [hlt, hmn, e0, e1, Nat.add_comm 1]
      refine (hc _ (by omega) (by omega)).to ?_
      simp [e2, e3, e4]
      intro _
      refine ⟨?_, ?_⟩
      · repeat' (first | exact Sub.refl _ | refine Sub.put_both ?_ | refine Sub.alloc hok.1 ?_ | refine Sub.put hok.1 ?_ (by simp) | refine Sub.drop hok.1 ?_ (by simp))
      · repeat' (first | exact TidyV_none _ _ _ _ | (refine TidyV_upd (by simp [AVal.ok, AVal.oks, huge, big, hlen, hko] <;> omega) ?_))
  · have hsz : ks.take i = ks := List.take_of_length_le (by omega)
    simp [hlt, hsz, sz, Nat.add_comm 1]
    repeat' (first | exact Sub.refl _ | refine Sub.put_both ?_ | refine Sub.alloc h1 ?_ | refine Sub.put h1 ?_ (by simp) | refine Sub.drop h1 ?_ (by simp))
theorem fn25_ok (t : Ty) : ∀ (m : Nat) (h : AHeap), 1 ≤ m → m < 2^60 → Returns Tryd.prog 25 [tyV t, .int .i64 m] h (.int .i64 (min (sz t) m : Nat)) h := by
  refine Ty.ind (motive := fun t => ∀ (m : Nat) (h : AHeap), 1 ≤ m → m < 2^60 → Returns Tryd.prog 25 [tyV t, .int .i64 m] h (.int .i64 (min (sz t) m : Nat)) h) (fun op n ks ih => ?_) t
  intro m h hm hm2
  refine Returns.val fn25 (by simp) fun h1 h2 => ⟨by simp [AVal.ok], ?_⟩
  simp only [AVal.oks, tyV_ok, TyOk_mk, huge] at h2
  obtain ⟨⟨hop, hlen, hko⟩, -⟩ := h2
  simp [code25, tyV_mk]
  refine Ev.countV (fun i => upd (upd (upd (upd noEnv 1 (.int .i64 m)) 5 (.int .i64 (min (1 + szs (ks.take i)) m : Nat))) 2 (.ptr h.next 0)) 6 (.int .i64 i)) ks.length (fun _ => True) (fun _ => ⟨trivial, ?_⟩) ?_
  · have hm1 : min 1 m = 1 := by omega
    repeat' (first | exact TidyV_none _ _ _ _ | (refine TidyV_upd (by simp [AVal.ok, AVal.oks, huge, big, hlen, hko, szs, hm1] <;> omega) ?_))
  intro i hi _ hok
  by_cases hlt : i < ks.length
  · by_cases hge : m ≤ 1 + szs (ks.take i)
    · have hmn : min (szs (ks.take i) + 1) m = m := by omega
      have hmm : min (szs ks + 1) m = m := by have := szs_take_le ks i; omega
      simp [hlt, hmn, sz, hmm, Nat.add_comm 1]
      repeat' (first | exact Sub.refl _ | refine Sub.put_both ?_ | refine Sub.alloc h1 ?_ | refine Sub.put h1 ?_ (by simp) | refine Sub.drop h1 ?_ (by simp))
    · have hmn : min (szs (ks.take i) + 1) m = szs (ks.take i) + 1 := by omega
      have hs := szs_take ks i hlt
      have e0 : (szs (ks.take i) + 1 : Int) < m := by omega
      have e1 : IntKind.i64.wrap ((m : Int) - (szs (ks.take i) + 1)) = (m - (szs (ks.take i) + 1) : Nat) := by rw [wrap_i64 (by omega) (by omega)]; omega
      have e2 : (szs (ks.take i) + 1 : Int) + (min (sz ks[i]) (m - (szs (ks.take i) + 1)) : Nat) = (min (szs (ks.take (i + 1)) + 1) m : Nat) := by omega
      have e3 : IntKind.i64.wrap (min (szs (ks.take (i + 1)) + 1) m : Nat) = (min (szs (ks.take (i + 1)) + 1) m : Nat) := wrap_i64 (by omega) (by omega)
      have e4 : IntKind.i64.wrap (↑i + 1) = ↑i + 1 := wrap_i64 (by omega) (by omega)
      have hc := ih ks[i] (List.getElem_mem hlt) (m - (szs (ks.take i) + 1))
      rw [tyV_eq] at hc
      simp [hlt, hmn, e0, e1, Nat.add_comm 1]
      refine (hc _ (by omega) (by omega)).to ?_
      simp [e2, e3, e4]
      intro _
      repeat' (first | exact TidyV_none _ _ _ _ | (refine TidyV_upd (by simp [AVal.ok, AVal.oks, huge, big, hlen, hko] <;> omega) ?_))
  · have hsz : ks.take i = ks := List.take_of_length_le (by omega)
    simp [hlt, hsz, sz, Nat.add_comm 1]
    repeat' (first | exact Sub.refl _ | refine Sub.put_both ?_ | refine Sub.alloc h1 ?_ | refine Sub.put h1 ?_ (by simp) | refine Sub.drop h1 ?_ (by simp))
end Go.Proofs.YtcjlgmknclifmaaDoor.Ab
