/- The reference's norm, its texts. -/
import Derived.Test.YtcjlgmknclifmaaDoorTyQ
set_option linter.unusedVariables false
set_option linter.unusedSimpArgs false
namespace Go.Proofs.YtcjlgmknclifmaaDoor.Ab
open Go

theorem fn19_ok (f : Int → ByteArray) (t : Ty) : ∀ (h : AHeap), sz t ≤ 100000 → good t = true → allN (fun n => (f n).size ≤ 20 ∧ ∀ h, Returns Tryd.prog 34 [.int .i64 n] h (.str (f n)) h) t → Returns Tryd.prog 19 [tyV t] h (.str (showT f t)) h := by
  refine Ty.ind (motive := fun t => ∀ (h : AHeap), sz t ≤ 100000 → good t = true → allN (fun n => (f n).size ≤ 20 ∧ ∀ h, Returns Tryd.prog 34 [.int .i64 n] h (.str (f n)) h) t → Returns Tryd.prog 19 [tyV t] h (.str (showT f t)) h) (fun op n ks ih => ?_) t
  intro h hs hg ha
  have hsize : ∀ t, sz t ≤ 100000 → good t = true → allN (fun n => (f n).size ≤ 20 ∧ ∀ h, Returns Tryd.prog 34 [.int .i64 n] h (.str (f n)) h) t → (showT f t).size ≤ 3000000 := fun t h1 h2 h3 => by
    have := showT_size f t h2 (allN.mono (fun n hn => hn.1) t h3)
    omega
  have hr := hsize _ hs hg ha
  refine Returns.val fn19 (by simp) fun h1 h2 => ⟨by simp [AVal.ok, huge]; omega, ?_⟩
  obtain ⟨g1, g2, g3, g4⟩ := good_ops hg
  simp only [allN, allNs_mem] at ha
  simp only [sz] at hs
  have big0 : ∀ n : Nat, n ≤ 10000000 → n ≤ big := fun n hn => by simp only [big]; omega
  rcases g4 with ⟨rfl, g4⟩ | ⟨a, rfl, g4⟩ | ⟨a, b, rfl, g4⟩
  · rcases g4 with rfl | rfl | rfl | rfl | rfl | rfl
    rotate_right
    · have hn := ha.1 rfl
      have z : (⟨#[39]⟩ : ByteArray).size = 1 := rfl
      simp [code19, tyV_mk]
      refine (hn.2 _).to ?_
      simp [strop, z, showT, showN]
      refine ⟨big0 _ (by omega), ?_⟩
      repeat' (first | exact Sub.refl _ | refine Sub.put_both ?_ | refine Sub.alloc h1 ?_ | refine Sub.put h1 ?_ (by simp) | refine Sub.drop h1 ?_ (by simp))
    all_goals
      simp [code19, tyV_mk, showT, showN]
      repeat' (first | exact Sub.refl _ | refine Sub.put_both ?_ | refine Sub.alloc h1 ?_ | refine Sub.put h1 ?_ (by simp) | refine Sub.drop h1 ?_ (by simp))
  · have hc := ih a (by simp)
    have hz := hsize a (by simp [szs] at hs; omega) (g1 a (by simp)) (ha.2 a (by simp))
    rw [tyV_eq] at hc
    have z : (⟨#[32]⟩ : ByteArray).size = 1 := rfl
    have z1 : (⟨#[108, 105, 115, 116]⟩ : ByteArray).size = 4 := rfl
    have z2 : (⟨#[114, 101, 102]⟩ : ByteArray).size = 3 := rfl
    rcases g4 with rfl | rfl
    all_goals
      simp [code19, tyV_mk]
      refine (hc _ (by simp [szs] at hs; omega) (g1 a (by simp)) (ha.2 a (by simp))).to ?_
      simp [strop, z, z1, z2, ByteArray.size_append, showT, shows, showN]
      refine ⟨big0 _ (by omega), big0 _ (by omega), ?_⟩
      repeat' (first | exact Sub.refl _ | refine Sub.put_both ?_ | refine Sub.alloc h1 ?_ | refine Sub.put h1 ?_ (by simp) | refine Sub.drop h1 ?_ (by simp))
  · have hc := ih a (by simp)
    have hz := hsize a (by simp [szs] at hs; omega) (g1 a (by simp)) (ha.2 a (by simp))
    rw [tyV_eq] at hc
    have hd := ih b (by simp)
    have hz' := hsize b (by simp [szs] at hs; omega) (g1 b (by simp)) (ha.2 b (by simp))
    rw [tyV_eq] at hd
    have z1 : (⟨#[40]⟩ : ByteArray).size = 1 := rfl
    have z2 : (⟨#[32, 42, 32]⟩ : ByteArray).size = 3 := rfl
    have z3 : (⟨#[32, 45, 62, 32]⟩ : ByteArray).size = 4 := rfl
    have z4 : (⟨#[41]⟩ : ByteArray).size = 1 := rfl
    rcases g4 with rfl | rfl
    all_goals
      simp [code19, tyV_mk]
      refine (hc _ (by simp [szs] at hs; omega) (g1 a (by simp)) (ha.2 a (by simp))).to ?_
      simp [strop, z1, z2, z3, z4, ByteArray.size_append]
      refine ⟨big0 _ (by omega), big0 _ (by omega), ?_⟩
      refine (hd _ (by simp [szs] at hs; omega) (g1 b (by simp)) (ha.2 b (by simp))).to ?_
      simp [strop, z1, z2, z3, z4, ByteArray.size_append, showT, shows, showN]
      refine ⟨big0 _ (by omega), big0 _ (by omega), ?_⟩
      repeat' (first | exact Sub.refl _ | refine Sub.put_both ?_ | refine Sub.alloc h1 ?_ | refine Sub.put h1 ?_ (by simp) | refine Sub.drop h1 ?_ (by simp))
theorem fn21_ok (t : Ty) : ∀ (h : AHeap), Returns Tryd.prog 21 [tyV t] h (.bool (sent t)) h := by
  refine Ty.ind (motive := fun t => ∀ (h : AHeap), Returns Tryd.prog 21 [tyV t] h (.bool (sent t)) h) (fun op n ks ih => ?_) t
  intro h
  refine Returns.val fn21 (by simp) fun h1 h2 => ⟨by simp [AVal.ok], ?_⟩
  simp only [AVal.oks, tyV_ok, TyOk_mk, huge] at h2
  obtain ⟨⟨hop, hlen, hko⟩, -⟩ := h2
  have hs := sent_mk op n ks
  rw [tyV_mk]
  by_cases c1 : op = sVar
  · subst c1
    simp at hs
    simp [code21, hs]
    repeat' (first | exact Sub.refl _ | refine Sub.put_both ?_ | refine Sub.alloc h1 ?_ | refine Sub.put h1 ?_ (by simp) | refine Sub.drop h1 ?_ (by simp))
  by_cases c2 : op = sFun
  · subst c2
    simp at hs
    simp [code21, hs]
    repeat' (first | exact Sub.refl _ | refine Sub.put_both ?_ | refine Sub.alloc h1 ?_ | refine Sub.put h1 ?_ (by simp) | refine Sub.drop h1 ?_ (by simp))
  simp [c1, c2] at hs
  simp [code21, c1, c2]
  refine Ev.countV (fun i => upd (upd noEnv 1 (.ptr h.next 0)) 3 (.int .i64 i)) ks.length (fun i => ∀ j (hj : j < ks.length), j < i → sent ks[j] = true) (fun _ => ⟨by simp, ?_⟩) ?_
  · repeat' (first | exact TidyV_none _ _ _ _ | (refine TidyV_upd (by simp [AVal.ok, AVal.oks, huge, big] <;> omega) ?_))
  intro i hi I hok
  by_cases hlt : i < ks.length
  · have hw : IntKind.i64.wrap (↑i + 1) = ↑i + 1 := wrap_i64 (by omega) (by omega)
    have hc := ih ks[i] (List.getElem_mem hlt)
    rw [tyV_eq] at hc
    simp [hlt]
    refine (hc _).to ?_
    cases hb : sent ks[i] with
    | true =>
      simp [hw]
      intro _
      refine ⟨fun j hj hji => ?_, ?_⟩
      · by_cases he : j = i
        · subst he; exact hb
        · exact I j hj (by omega)
      · repeat' (first | exact TidyV_none _ _ _ _ | (refine TidyV_upd (by simp [AVal.ok, AVal.oks, huge, big, hlen, hko] <;> omega) ?_))
    | false =>
      have : ks.all sent = false := by rw [List.all_eq_false]; exact ⟨ks[i], List.getElem_mem hlt, by simp [hb]⟩
      simp [hs, this]
      repeat' (first | exact Sub.refl _ | refine Sub.put_both ?_ | refine Sub.alloc h1 ?_ | refine Sub.put h1 ?_ (by simp) | refine Sub.drop h1 ?_ (by simp))
  · have : ks.all sent = true := by
      rw [List.all_eq_true]; intro k hk
      obtain ⟨j, hj, rfl⟩ := List.getElem_of_mem hk
      exact I j hj (by omega)
    simp [hlt, hs, this]
    repeat' (first | exact Sub.refl _ | refine Sub.put_both ?_ | refine Sub.alloc h1 ?_ | refine Sub.put h1 ?_ (by simp) | refine Sub.drop h1 ?_ (by simp))
/-- So many vars. -/
def bysT (k : Nat) : List Ty := (rng k).map varT
@[simp] theorem bysT_length (k : Nat) : (bysT k).length = k := by simp [bysT]
theorem bysT_ok (k : Nat) : ∀ t ∈ bysT k, TyOk t := fun t ht => by
  obtain ⟨x, _, rfl⟩ := List.mem_map.1 ht
  rw [varT, TyOk_mk]; exact ⟨by decide, by simp, by simp⟩
theorem bysT_get {k i : Nat} (h : i < (bysT k).length) : (bysT k)[i] = varT i := by simp [bysT, rng]
theorem fn32_ok (l : List Int) (t : Ty) : ∀ (h : AHeap), sz t ≤ 100000 → allN (fun n => n ∈ l) t → Returns Tryd.prog 32 [tyV t, .vec 1 false (iVs l), .vec 3 false ((bysT l.length).map tyV)] h (tyV (nrm l t)) h := by
  refine Ty.ind (motive := fun t => ∀ (h : AHeap), sz t ≤ 100000 → allN (fun n => n ∈ l) t → Returns Tryd.prog 32 [tyV t, .vec 1 false (iVs l), .vec 3 false ((bysT l.length).map tyV)] h (tyV (nrm l t)) h) (fun op n ks ih => ?_) t
  intro h hsz hal
  refine Returns.val fn32 (by simp) fun h1 h2 => ?_
  simp only [AVal.oks, tyV_ok] at h2
  obtain ⟨ht, hv, hby, -⟩ := h2
  simp only [allN, allNs_mem] at hal
  refine ⟨by rw [tyV_ok]; exact nrm_ok l _ ht, ?_⟩
  simp only [TyOk_mk, huge] at ht
  obtain ⟨hop, hlen, hko⟩ := ht
  have hvl : l.length ≤ 9223372036854775807 := by simpa [AVal.ok, huge] using hv
  by_cases c1 : op = sVar
  · subst c1
    have hn := hal.1 rfl
    simp [code32, tyV_mk]
    refine Ev.countV (fun i => upd (upd (upd (upd (upd noEnv 1 (.vec 1 false (iVs l))) 2 (.vec 3 false ((bysT l.length).map tyV))) 3 (.ptr h.next 0)) 6 (.ptr (h.next + 1) 0)) 7 (.int .i64 i)) l.length (fun i => ∀ j (hj : j < l.length), j < i → l[j] ≠ n) (fun _ => ⟨by simp, ?_⟩) ?_
    · have hvk := bysT_ok l.length
      repeat' (first | exact TidyV_none _ _ _ _ | (refine TidyV_upd (by simp [AVal.ok, AVal.oks, huge, big, hvl, hvk] <;> omega) ?_))
    intro i hi I hok
    by_cases hlt : i < l.length
    · have hw : IntKind.i64.wrap (↑i + 1) = ↑i + 1 := wrap_i64 (by omega) (by omega)
      have hp : ∀ hh, (iVs l)[i]'hh = .int .i64 l[i] := by intro hh; simp [iVs]
      have hq : ∀ hh, (bysT l.length)[i]'hh = varT i := fun hh => bysT_get hh
      by_cases hb : l[i] = n
      · have hx : idxOf l n = i := idxOf_some hlt hb.symm fun j hj hji => Ne.symm (I j hj hji)
        simp [hlt, hp, hb, hq, nrm_mk, tyV_mk, hx, varT]
        repeat' (first | exact Sub.refl _ | refine Sub.put_both ?_ | refine Sub.alloc h1 ?_ | refine Sub.put h1 ?_ (by simp) | refine Sub.drop h1 ?_ (by simp))
      · simp [hlt, hp, hb, hw]
        intro _
        refine ⟨fun j hj hji => ?_, ?_⟩
        · by_cases he : j = i
          · subst he; exact hb
          · exact I j hj (by omega)
        · have hvk := bysT_ok l.length
          repeat' (first | exact TidyV_none _ _ _ _ | (refine TidyV_upd (by simp [AVal.ok, AVal.oks, huge, big, hvl, hvk] <;> omega) ?_))
    · obtain ⟨j, hj, e⟩ := List.getElem_of_mem hn
      exact absurd e (I j hj (by omega))
  have hvk := bysT_ok l.length
  simp [code32, tyV_mk, c1]
  refine Ev.over (fun p : Nat × AVal × AHeap => p.1 ≤ ks.length ∧ Sub h p.2.2 ∧ h.next + 3 ≤ p.2.2.next ∧ p.2.2.f (h.next + 2) = some (.cells 24 [.str op, .int .i64 n, p.2.1]) ∧ p.2.2.f (h.next + 1) = some (.cells 24 [.str ⟨#[]⟩, .int .i64 0, .nils]) ∧ p.2.2.f h.next = some (.cells 24 [.str op, .int .i64 n, .vec 3 false (ks.map tyV)]) ∧ OwnT (h.next + 3) p.2.2 p.2.1 ((ks.take p.1).map (nrm l)))
    (fun p => ⟨upd (upd (upd (upd (upd (upd noEnv 1 (.vec 1 false (iVs l))) 2 (.vec 3 false ((bysT l.length).map tyV))) 3 (.ptr h.next 0)) 6 (.ptr (h.next + 1) 0)) 8 (.ptr (h.next + 2) 0)) 9 (.int .i64 p.1), p.2.2⟩) (fun p => ks.length - p.1) ?_ ?_
  · intro hok hN
    refine ⟨(0, .nils, _), ⟨by simp, ?_, by simp, by simp, by simp, by simp, .inl ⟨rfl, by simp⟩⟩, .val hN (Sub.refl _) hok.1 ?_⟩
    · repeat' (first | exact Sub.refl _ | refine Sub.put_both ?_ | refine Sub.alloc h1 ?_ | refine Sub.put h1 ?_ (by simp) | refine Sub.drop h1 ?_ (by simp))
    repeat' (first | exact TidyV_none _ _ _ _ | (refine TidyV_upd (by simp [AVal.ok, AVal.oks, huge, big, hvl, hlen, hko, hvk] <;> omega) ?_))
  rintro ⟨i, kv, hh⟩ ⟨hi, hs1, hN1, hb2, hb1, hb0, how⟩ hok
  simp only at hi hs1 hN1 hb2 hb1 hb0 how hok ⊢
  by_cases hlt : i < ks.length
  · have hw : IntKind.i64.wrap (↑i + 1) = ↑i + 1 := wrap_i64 (by omega) (by omega)
    have hc := ih ks[i] (List.getElem_mem hlt)
    rw [tyV_eq] at hc
    have hr := tyV_eq (nrm l ks[i])
    have hz2 := szs_append (ks.take (i + 1)) (ks.drop (i + 1))
    have hz3 := szs_take ks i hlt
    rw [List.take_append_drop] at hz2
    simp only [sz] at hsz
    have n1 : ¬ h.next + 2 = hh.next := by omega
    have n2 : ¬ h.next + 1 = hh.next := by omega
    have n3 : ¬ h.next + 2 = hh.next + 1 := by omega
    have n4 : ¬ h.next + 1 = hh.next + 1 := by omega
    have n7 : ¬ h.next = hh.next := by omega
    have n8 : ¬ h.next + 1 = h.next + 2 := by omega
    have n9 : ¬ h.next = hh.next + 1 := by omega
    have n10 : ¬ h.next = h.next + 2 := by omega
    have hkl := szs_len ks
    have hbig : ∀ n, n ≤ 100001 → n * 48 ≤ big ∧ n ≤ big := fun n hn => by simp only [big]; omega
    have htk : (ks.take (i + 1)).map (nrm l) = (ks.take i).map (nrm l) ++ [nrm l ks[i]] := by rw [List.take_succ_eq_append_getElem hlt, List.map_append]; rfl
    have htl : ((ks.take i).map (nrm l)).length = i := by simp; omega
    obtain ⟨ts, hts⟩ : ∃ ts, ts = (ks.take i).map (nrm l) := ⟨_, rfl⟩
    rw [← hts] at how htk htl
    have htk' : (ks.map (nrm l)).take (i + 1) = ts ++ [nrm l ks[i]] := by rw [← List.map_take]; exact htk
    have hb48 := hbig (ts.length + 1) (by omega)
    rcases how with ⟨rfl, h0⟩ | ⟨id, rfl, o1, o2⟩
    · have hb48' := hbig 1 (by omega)
      simp at hb48'
      simp [hlt, hb2, hb0, n1]
      refine (hc _ (by omega) (hal.2 _ (List.getElem_mem hlt))).to ?_
      rw [hr]
      simp [hb2, hb0, n1, n3, n7, n9, hb48', hw]
      intro hs'
      refine ⟨i + 1, .sl 3 (hh.next + 1) 0 1 none, _, ⟨by omega, ?_, by simp; omega, by simp [n1, n3, n7, n9, n2], by simp [n1, n2, n3, n4, n7, n8, n9, hb1], by simp [n7, n9, n10, hb0], .inr ⟨hh.next + 1, by rw [htk', h0]; rfl, by omega, by rw [htk', h0]; simp [tyCs_one]⟩⟩, by omega, .val (by simp; omega) (Sub.refl _) hs'.1 ?_⟩
      · repeat' (first | exact hs1 | refine Sub.alloc h1 ?_ | refine Sub.put h1 ?_ (by omega) | refine Sub.drop h1 ?_ (by omega))
      · repeat' (first | exact TidyV_none _ _ _ _ | (refine TidyV_upd (by simp [AVal.ok, AVal.oks, huge, big, hlen, hko, hvl, hvk] <;> omega) ?_))
    · simp [hlt, hb2, hb0, n1]
      refine (hc _ (by omega) (hal.2 _ (List.getElem_mem hlt))).to ?_
      rw [hr]
      have hid := (hok.1 id _ o2).1
      have m1 : ¬ id = hh.next := by simp at hid; omega
      have m2 : ¬ id = hh.next + 1 := by simp at hid; omega
      have m3 : ¬ h.next + 2 = id := by omega
      have m4 : ¬ h.next + 1 = id := by omega
      have m5 : ¬ h.next = id := by omega
      simp [hb2, hb0, n1, n3, n7, n9, o2, m1, m2, m3, m5, hb48, hw]
      intro hs'
      refine ⟨i + 1, .sl 3 (hh.next + 1) 0 (ts.length + 1) none, _, ⟨by omega, ?_, by simp; omega, by simp [n1, n3, n7, n9, n2], by simp [n1, n2, n3, n4, n7, n8, n9, m4, hb1], by simp [n7, n9, n10, m5, hb0], .inr ⟨hh.next + 1, by rw [htk']; simp, by omega, by rw [htk']; simp [tyCs_one]⟩⟩, by omega, .val (by simp; omega) (Sub.refl _) hs'.1 ?_⟩
      · repeat' (first | exact hs1 | refine Sub.alloc h1 ?_ | refine Sub.put h1 ?_ (by omega) | refine Sub.drop h1 ?_ (by omega))
      · repeat' (first | exact TidyV_none _ _ _ _ | (refine TidyV_upd (by simp [AVal.ok, AVal.oks, huge, big, hlen, hko, hvl, hvk] <;> omega) ?_))
  · have hi' : ks.take i = ks := List.take_of_length_le (by omega)
    rw [hi'] at how
    simp [hlt, hb2, hb1, hb0, nrm_mk, c1, tyV_mk]
    have how' : OwnT (h.next + 3) (hh.put (h.next + 1) (.cells 24 [.str op, .int .i64 n, kv])) kv (ks.map (nrm l)) := by
      rcases how with ⟨rfl, h0⟩ | ⟨id, rfl, o1, o2⟩
      · exact .inl ⟨rfl, h0⟩
      · exact .inr ⟨id, rfl, o1, by simp only [put_at]; rw [if_neg (by omega)]; exact o2⟩
    have hle := how'.le (k := h.next) (by omega)
    refine ⟨by rcases how with ⟨rfl, h0⟩ | ⟨id, rfl, o1, o2⟩ <;> rfl, ?_, Sub.put h1 hs1 (by omega)⟩
    rw [List.map_map] at hle
    exact Le_agg _ _ (.cons (.refl _) (.cons (.refl _) (.cons hle .nil)))
theorem fn17_ok (t : Ty) (h : AHeap) (hs : sz t ≤ 100000) : Returns Tryd.prog 17 [tyV t] h (tyV (norm t)) h := by
  refine Returns.val fn17 (by simp) fun h1 h2 => ?_
  simp only [AVal.oks, tyV_ok] at h2
  refine ⟨by rw [tyV_ok]; exact nrm_ok _ _ h2.1, ?_⟩
  have hl := adds_len t []
  simp at hl
  have hc := fn14_ok t
  have hr := fun h => fn32_ok (vars t) t h hs (allN_adds _ t [] ⟨[], by simp [vars]⟩)
  have he := tyV_eq (norm t)
  rw [tyV_eq t] at hc hr ⊢
  obtain ⟨box, hbox⟩ : ∃ box : AObj, box = .cells 24 [.str t.op, .int .i64 t.n, .vec 3 false (t.kids.map tyV)] := ⟨_, rfl⟩
  have hkl : (vars t).length ≤ 100000 := by simp only [vars]; omega
  simp [code17]
  refine (hc _ hs).to ?_
  simp
  refine Ev.over (fun p : Nat × AVal × AHeap => p.1 ≤ (vars t).length ∧ Sub h p.2.2 ∧ h.next + 2 ≤ p.2.2.next ∧ p.2.2.f h.next = some box ∧ p.2.2.f (h.next + 1) = some (.cells 24 [.str ⟨#[]⟩, .int .i64 0, .nils]) ∧ OwnT (h.next + 2) p.2.2 p.2.1 (bysT p.1))
    (fun p => ⟨upd (upd (upd (upd (upd noEnv 1 (.ptr h.next 0)) 2 (.ptr (h.next + 1) 0)) 3 (.vec 1 false (iVs (vars t)))) 4 p.2.1) 5 (.int .i64 p.1), p.2.2⟩) (fun p => (vars t).length - p.1) ?_ ?_
  · intro hok hN
    refine ⟨(0, .nils, _), ⟨by simp, ?_, by simp, by simp [hbox], by simp, .inl ⟨rfl, by simp [bysT, rng]⟩⟩, .val hN (Sub.refl _) hok.1 ?_⟩
    · repeat' (first | exact Sub.refl _ | refine Sub.put_both ?_ | refine Sub.alloc h1 ?_ | refine Sub.put h1 ?_ (by simp) | refine Sub.drop h1 ?_ (by simp))
    repeat' (first | exact TidyV_none _ _ _ _ | (refine TidyV_upd (by simp [AVal.ok, AVal.oks, huge, big] <;> omega) ?_))
  rintro ⟨i, kv, hh⟩ ⟨hi, hs1, hN1, hb0, hb1, how⟩ hok
  simp only at hi hs1 hN1 hb0 hb1 how hok ⊢
  by_cases hlt : i < (vars t).length
  · have hw : IntKind.i64.wrap (↑i + 1) = ↑i + 1 := wrap_i64 (by omega) (by omega)
    have hv := fun h => fn22_ok i h
    have hve := tyV_eq (varT i)
    have n1 : ¬ h.next = hh.next := by omega
    have n2 : ¬ h.next = hh.next + 1 := by omega
    have n3 : ¬ h.next + 1 = hh.next := by omega
    have n4 : ¬ h.next + 1 = hh.next + 1 := by omega
    have hbig : ∀ n, n ≤ 100001 → n * 48 ≤ big ∧ n ≤ big := fun n hn => by simp only [big]; omega
    have htk : bysT (i + 1) = bysT i ++ [varT i] := by unfold bysT; rw [rng_succ, List.map_append]; rfl
    have htl : (bysT i).length = i := by simp
    obtain ⟨ts, hts⟩ : ∃ ts, ts = bysT i := ⟨_, rfl⟩
    rw [← hts] at how htk htl
    have hb48 := hbig (ts.length + 1) (by omega)
    simp [hlt]
    refine (hv _).to ?_
    rw [hve]
    rcases how with ⟨rfl, h0⟩ | ⟨id, rfl, o1, o2⟩
    · have hb48' := hbig 1 (by omega)
      simp at hb48'
      simp [hb48', hw]
      intro hs'
      refine ⟨i + 1, .sl 3 (hh.next + 1) 0 1 none, _, ⟨by omega, ?_, by simp; omega, by simp [n1, n2, hb0], by simp [n3, n4, n1, hb1], .inr ⟨hh.next + 1, by rw [htk, h0]; rfl, by omega, by rw [htk, h0]; simp [tyCs_one]⟩⟩, by omega, .val (by simp; omega) (Sub.refl _) hs'.1 ?_⟩
      · repeat' (first | exact hs1 | refine Sub.alloc h1 ?_ | refine Sub.put h1 ?_ (by omega) | refine Sub.drop h1 ?_ (by omega))
      · repeat' (first | exact TidyV_none _ _ _ _ | (refine TidyV_upd (by simp [AVal.ok, AVal.oks, huge, big, hkl] <;> omega) ?_))
    · have hid := (hok.1 id _ o2).1
      have m1 : ¬ id = hh.next := by simp at hid; omega
      have m2 : ¬ id = hh.next + 1 := by simp at hid; omega
      have m4 : ¬ h.next + 1 = id := by omega
      have m5 : ¬ h.next = id := by omega
      simp [o2, m1, m2, hb48, hw]
      intro hs'
      refine ⟨i + 1, .sl 3 (hh.next + 1) 0 (ts.length + 1) none, _, ⟨by omega, ?_, by simp; omega, by simp [n1, n2, m5, hb0], by simp [n3, n4, n1, m4, hb1], .inr ⟨hh.next + 1, by rw [htk]; simp, by omega, by rw [htk]; simp [tyCs_one]⟩⟩, by omega, .val (by simp; omega) (Sub.refl _) hs'.1 ?_⟩
      · repeat' (first | exact hs1 | refine Sub.alloc h1 ?_ | refine Sub.put h1 ?_ (by omega) | refine Sub.drop h1 ?_ (by omega))
      · repeat' (first | exact TidyV_none _ _ _ _ | (refine TidyV_upd (by simp [AVal.ok, AVal.oks, huge, big, hkl] <;> omega) ?_))
  · have hi' : i = (vars t).length := by omega
    subst hi'
    have hle := how.le (k := h.next + 2) (by omega)
    rw [hbox] at hb0
    simp [hb0]
    refine ACalls.frz (h.next + 2) (.cons (.refl _) (.cons (.refl _) (.cons hle .nil))) ((hr _).to ?_)
    rw [show nrm (vars t) t = norm t from rfl, he]
    simp [hb1]
    exact Sub.put h1 (Sub.below h1 hs1 (by omega)) (by omega)
end Go.Proofs.YtcjlgmknclifmaaDoor.Ab
