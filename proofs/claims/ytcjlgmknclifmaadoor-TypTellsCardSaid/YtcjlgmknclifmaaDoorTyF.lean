/- A type normed. -/
import Derived.Test.YtcjlgmknclifmaaDoorTyE
set_option linter.unusedVariables false
set_option linter.unusedSimpArgs false
namespace Go.Proofs.YtcjlgmknclifmaaDoor.Ab
open Go

def vars (t : Ty) : List Int := adds [] t
theorem fn13_ok (t : Ty) (h : AHeap) (hs : sz t ≤ 100000) : Returns Tryd.prog 13 [tyV t] h (.vec 1 false (iVs (vars t))) h := by
  have hl := adds_len t []
  simp at hl
  refine Returns.val fn13 (by simp) fun h1 h2 => ⟨by simp [AVal.ok, vars, huge]; omega, ?_⟩
  have hc := fn29_ok t [] .nils
  rw [tyV_eq] at hc ⊢
  simp [code13]
  refine (hc _ h (by simpa using hs) ?_ (.inl ⟨rfl, rfl⟩)).mono fun v h' hn ⟨q1, q2⟩ => ?_
  · repeat' (first | exact Sub.refl _ | refine Sub.put_both ?_ | refine Sub.alloc h1 ?_ | refine Sub.put h1 ?_ (by simp) | refine Sub.drop h1 ?_ (by simp))
  simp
  exact ⟨q2.le, q1⟩
mutual
def nrm (l : List Int) : Ty → Ty
  | .mk op n ks => if op = sVar then .mk sVar (idxOf l n) [] else .mk op n (nrms l ks)
def nrms (l : List Int) : List Ty → List Ty
  | [] => []
  | k :: ks => nrm l k :: nrms l ks
end
theorem nrms_map (l : List Int) : ∀ ks : List Ty, nrms l ks = ks.map (nrm l)
  | [] => by simp [nrms]
  | k :: ks => by simp [nrms, nrms_map l ks]
theorem nrm_mk (l : List Int) (op : ByteArray) (n : Int) (ks : List Ty) : nrm l (.mk op n ks) = if op = sVar then .mk sVar (idxOf l n) [] else .mk op n (ks.map (nrm l)) := by simp [nrm, nrms_map]
/-- Types as cells of a row. -/
def tyC (t : Ty) : List AVal := [.str t.op, .int .i64 t.n, .vec 3 false (t.kids.map tyV)]
def tyCs (ts : List Ty) : List AVal := (ts.map tyC).flatten
@[simp] theorem tyCs_nil : tyCs [] = [] := rfl
@[simp] theorem tyCs_append (ts ts' : List Ty) : tyCs (ts ++ ts') = tyCs ts ++ tyCs ts' := by simp [tyCs]
theorem tyCs_one (t : Ty) : tyCs [t] = [.str t.op, .int .i64 t.n, .vec 3 false (t.kids.map tyV)] := by simp [tyCs, tyC]
@[simp] theorem tyCs_length : ∀ (ts : List Ty), (tyCs ts).length = ts.length * 3
  | [] => by simp
  | t :: ts => by
    have := tyCs_length ts
    simp [tyCs, tyC] at this ⊢
    rw [this]; omega
@[simp] theorem ones_tyCs : ∀ (ts : List Ty), ones (tyCs ts) = true
  | [] => by simp
  | t :: ts => by
    simp [tyCs, tyC, ones]
@[simp] theorem tyCs_take (ts : List Ty) : (tyCs ts).take (ts.length * 3) = tyCs ts := List.take_of_length_le (by simp)
theorem tyVs_agg (ts : List Ty) : (ts.map tyC).map AVal.agg = ts.map tyV := by
  rw [List.map_map]
  exact List.map_congr_left fun t _ => by simp [tyV_eq, tyC]
/-- A row of types in a block of the call's own, not among the first n0. -/
def OwnT (n0 : Nat) (h : AHeap) (v : AVal) (ts : List Ty) : Prop :=
  (v = .nils ∧ ts = []) ∨ ∃ id, v = .sl 3 id 0 ts.length none ∧ n0 ≤ id ∧ h.f id = some (.cells 24 (tyCs ts))
theorem OwnT.le {n0 k : Nat} {h : AHeap} {v : AVal} {ts : List Ty} (o : OwnT n0 h v ts) (hk : k ≤ n0) : Le (newZ k) h v (.vec 3 false (ts.map tyV)) := by
  rcases o with ⟨rfl, rfl⟩ | ⟨id, rfl, h1, ho⟩
  · exact .nils _ _
  · rw [← tyVs_agg]
    exact .frzs (ts.map tyC) (by simp; omega) ho (by decide) (fun y hy => by simp at hy; obtain ⟨t, _, rfl⟩ := hy; rfl) (by simp) (by simp) (by rw [List.drop_zero]; exact tyCs_take ts)
theorem nrm_ok (l : List Int) (t : Ty) : TyOk t → TyOk (nrm l t) := by
  refine Ty.ind (motive := fun t => TyOk t → TyOk (nrm l t)) (fun op n ks ih => ?_) t
  intro ht
  rw [nrm_mk]
  rw [TyOk_mk] at ht
  split
  · rw [TyOk_mk]; exact ⟨by decide, by simp, by simp⟩
  · rw [TyOk_mk]
    refine ⟨ht.1, by simpa using ht.2.1, fun t hm => ?_⟩
    obtain ⟨k, hk, rfl⟩ := List.mem_map.1 hm
    exact ih k hk (ht.2.2 k hk)
theorem fn31_ok (l : List Int) (t : Ty) : ∀ (h : AHeap), sz t ≤ 100000 → Returns Tryd.prog 31 [tyV t, .vec 1 false (iVs l)] h (tyV (nrm l t)) h := by
  refine Ty.ind (motive := fun t => ∀ (h : AHeap), sz t ≤ 100000 → Returns Tryd.prog 31 [tyV t, .vec 1 false (iVs l)] h (tyV (nrm l t)) h) (fun op n ks ih => ?_) t
  intro h hsz
  refine Returns.val fn31 (by simp) fun h1 h2 => ?_
  simp only [AVal.oks, tyV_ok] at h2
  obtain ⟨ht, hv, -⟩ := h2
  refine ⟨by rw [tyV_ok]; exact nrm_ok l _ ht, ?_⟩
  simp only [TyOk_mk, huge] at ht
  obtain ⟨hop, hlen, hko⟩ := ht
  have hvl : l.length ≤ 9223372036854775807 := by simpa [AVal.ok, huge] using hv
  by_cases c1 : op = sVar
  · subst c1
    simp [code31, tyV_mk]
    refine (fn43_ok l _ n _ (.vec _ l)).to ?_
    simp [nrm_mk, tyV_mk]
    repeat' (first | exact Sub.refl _ | refine Sub.put_both ?_ | refine Sub.alloc h1 ?_ | refine Sub.put h1 ?_ (by simp) | refine Sub.drop h1 ?_ (by simp))
  simp [code31, tyV_mk, c1]
  refine Ev.over (fun p : Nat × AVal × AHeap => p.1 ≤ ks.length ∧ Sub h p.2.2 ∧ h.next + 3 ≤ p.2.2.next ∧ p.2.2.f (h.next + 2) = some (.cells 24 [.str op, .int .i64 n, p.2.1]) ∧ p.2.2.f (h.next + 1) = some (.cells 24 [.str ⟨#[]⟩, .int .i64 0, .nils]) ∧ OwnT (h.next + 3) p.2.2 p.2.1 ((ks.take p.1).map (nrm l)))
    (fun p => ⟨upd (upd (upd (upd (upd (upd noEnv 1 (.vec 1 false (iVs l))) 4 (.ptr (h.next + 1) 0)) 5 (.ptr (h.next + 2) 0)) 22 (.vec 3 false (ks.map tyV))) 23 (.int .i64 ks.length)) 24 (.int .i64 p.1), p.2.2⟩) (fun p => ks.length - p.1) ?_ ?_
  · intro hok hN
    refine ⟨(0, .nils, _), ⟨by simp, ?_, by simp, by simp, by simp, .inl ⟨rfl, by simp⟩⟩, .val hN (Sub.refl _) hok.1 ?_⟩
    · repeat' (first | exact Sub.refl _ | refine Sub.put_both ?_ | refine Sub.alloc h1 ?_ | refine Sub.put h1 ?_ (by simp) | refine Sub.drop h1 ?_ (by simp))
    simp [AVal.ok, huge] at hv
    repeat' (first | exact TidyV_none _ _ _ _ | (refine TidyV_upd (by simp [AVal.ok, AVal.oks, huge, big, hv, hlen, hko] <;> omega) ?_))
  rintro ⟨i, kv, hh⟩ ⟨hi, hs1, hN1, hb2, hb1, how⟩ hok
  simp only at hi hs1 hN1 hb2 hb1 how hok ⊢
  by_cases hlt : i < ks.length
  · have hw : IntKind.i64.wrap (↑i + 1) = ↑i + 1 := wrap_i64 (by omega) (by omega)
    have hc := ih ks[i] (List.getElem_mem hlt)
    rw [tyV_eq] at hc
    have hr := tyV_eq (nrm l ks[i])
    have hz2 := szs_append (ks.take (i + 1)) (ks.drop (i + 1))
    have hz3 := szs_take ks i hlt
    rw [List.take_append_drop] at hz2
    simp only [sz] at hsz
    have n1 : ¬ h.next + 2 = hh.next := by omega
    have n2 : ¬ h.next + 1 = hh.next := by omega
    have n3 : ¬ h.next + 2 = hh.next + 1 := by omega
    have n4 : ¬ h.next + 1 = hh.next + 1 := by omega
    have n5 : ¬ h.next + 2 = hh.next + 2 := by omega
    have n6 : ¬ h.next + 1 = hh.next + 2 := by omega
    have hbig : ∀ n, n ≤ 100001 → n * 48 ≤ big ∧ n ≤ big := fun n hn => by simp only [big]; omega
    have n7 : ¬ h.next = hh.next := by omega
    have n8 : ¬ h.next + 1 = h.next + 2 := by omega
    have n9 : ¬ h.next = hh.next + 1 := by omega
    have hkl := szs_len ks
    have htk : (ks.take (i + 1)).map (nrm l) = (ks.take i).map (nrm l) ++ [nrm l ks[i]] := by rw [List.take_succ_eq_append_getElem hlt, List.map_append]; rfl
    have htl : ((ks.take i).map (nrm l)).length = i := by simp; omega
    obtain ⟨ts, hts⟩ : ∃ ts, ts = (ks.take i).map (nrm l) := ⟨_, rfl⟩
    rw [← hts] at how htk htl
    have htk' : (ks.map (nrm l)).take (i + 1) = ts ++ [nrm l ks[i]] := by rw [← List.map_take]; exact htk
    have hb48 := hbig (ts.length + 1) (by omega)
    rcases how with ⟨rfl, h0⟩ | ⟨id, rfl, o1, o2⟩
    · have hb48' := hbig 1 (by omega)
      simp at hb48'
      simp [hlt, hb2, n1]
      refine (hc _ (by omega)).to ?_
      rw [hr]
      simp [hb2, n1, n3, n5, n7, hb48', hw]
      intro hs'
      refine ⟨i + 1, .sl 3 (hh.next + 2) 0 1 none, _, ⟨by omega, ?_, by simp; omega, by simp [n1, n3, n5, n7, n9, n2], by simp [n1, n2, n3, n4, n5, n6, n7, n8, n9, hb1], .inr ⟨hh.next + 2, by rw [htk', h0]; rfl, by omega, by rw [htk', h0]; simp [tyCs_one]⟩⟩, by omega, .val (by simp; omega) (Sub.refl _) hs'.1 ?_⟩
      · repeat' (first | exact hs1 | refine Sub.alloc h1 ?_ | refine Sub.put h1 ?_ (by omega) | refine Sub.drop h1 ?_ (by omega))
      · repeat' (first | exact TidyV_none _ _ _ _ | (refine TidyV_upd (by simp [AVal.ok, AVal.oks, huge, big, hlen, hko, hvl] <;> omega) ?_))
    · simp [hlt, hb2, n1]
      refine (hc _ (by omega)).to ?_
      rw [hr]
      have hid := (hok.1 id _ o2).1
      have m1 : ¬ id = hh.next := by simp at hid; omega
      have m2 : ¬ id = hh.next + 1 := by simp at hid; omega
      have m3 : ¬ h.next + 2 = id := by omega
      have m4 : ¬ h.next + 1 = id := by omega
      simp [hb2, n1, n3, n5, n7, o2, m1, m2, m3, hb48, hw]
      intro hs'
      refine ⟨i + 1, .sl 3 (hh.next + 2) 0 (ts.length + 1) none, _, ⟨by omega, ?_, by simp; omega, by simp [n1, n3, n5, n7, n9, n2], by simp [n1, n2, n3, n4, n5, n6, n7, n8, n9, m4, hb1], .inr ⟨hh.next + 2, by rw [htk']; simp, by omega, by rw [htk']; simp [tyCs_one]⟩⟩, by omega, .val (by simp; omega) (Sub.refl _) hs'.1 ?_⟩
      · repeat' (first | exact hs1 | refine Sub.alloc h1 ?_ | refine Sub.put h1 ?_ (by omega) | refine Sub.drop h1 ?_ (by omega))
      · repeat' (first | exact TidyV_none _ _ _ _ | (refine TidyV_upd (by simp [AVal.ok, AVal.oks, huge, big, hlen, hko, hvl] <;> omega) ?_))
  · have hi' : ks.take i = ks := List.take_of_length_le (by omega)
    rw [hi'] at how
    simp [hlt, hb2, hb1, nrm_mk, c1, tyV_mk]
    have how' : OwnT (h.next + 3) (hh.put (h.next + 1) (.cells 24 [.str op, .int .i64 n, kv])) kv (ks.map (nrm l)) := by
      rcases how with ⟨rfl, h0⟩ | ⟨id, rfl, o1, o2⟩
      · exact .inl ⟨rfl, h0⟩
      · exact .inr ⟨id, rfl, o1, by simp only [put_at]; rw [if_neg (by omega)]; exact o2⟩
    have hle := how'.le (k := h.next) (by omega)
    refine ⟨by rcases how with ⟨rfl, h0⟩ | ⟨id, rfl, o1, o2⟩ <;> rfl, ?_, Sub.put h1 hs1 (by omega)⟩
    rw [List.map_map] at hle
    exact Le_agg _ _ (.cons (.refl _) (.cons (.refl _) (.cons hle .nil)))
end Go.Proofs.YtcjlgmknclifmaaDoor.Ab
