/- The reference's vars, its sent; rows of numbers that are one. -/
import Derived.Test.YtcjlgmknclifmaaDoorTyO
set_option linter.unusedVariables false
set_option linter.unusedSimpArgs false
namespace Go.Proofs.YtcjlgmknclifmaaDoor.Ab
open Go

theorem fn12_ok (l : List Int) (h : AHeap) : Returns Tryd.prog 12 [.vec 1 false (iVs l), .vec 1 false (iVs l)] h (.bool true) h := by
  refine Returns.val fn12 (by simp) fun h1 h2 => ⟨by simp [AVal.ok], ?_⟩
  simp [AVal.oks, AVal.ok, huge] at h2
  simp [code12]
  refine Ev.countV (fun i => upd (upd (upd noEnv 0 (.vec 1 false (iVs l))) 1 (.vec 1 false (iVs l))) 5 (.int .i64 i)) l.length (fun _ => True) (fun _ => ⟨trivial, ?_⟩) ?_
  · repeat' (first | exact TidyV_none _ _ _ _ | (refine TidyV_upd (by simp [AVal.ok, AVal.oks, huge, big, h2] <;> omega) ?_))
  intro i hi _ hok
  by_cases hlt : i < l.length
  · have hw : IntKind.i64.wrap (↑i + 1) = ↑i + 1 := wrap_i64 (by omega) (by omega)
    have hp : ∀ hh, (iVs l)[i]'hh = .int .i64 l[i] := by intro hh; simp [iVs]
    simp [hlt, hw, hp]
    intro _
    repeat' (first | exact TidyV_none _ _ _ _ | (refine TidyV_upd (by simp [AVal.ok, AVal.oks, huge, big, h2] <;> omega) ?_))
  · simp [hlt]
theorem fn42_ok (l : List Int) (v : AVal) (n : Int) (h : AHeap) (hB : IsI h v l) : Returns Tryd.prog 42 [v, .int .i64 n] h (.bool (decide (n ∈ l))) h := by
  refine Returns.val fn42 (by simp) fun h1 h2 => ⟨by simp [AVal.ok], ?_⟩
  simp only [AVal.oks, AVal.ok] at h2
  obtain ⟨h2, -⟩ := h2
  have hlen := hB.len_le h2
  simp only [huge] at hlen
  simp [code42, hB.lenV]
  refine Ev.countV (fun i => upd (upd (upd noEnv 0 v) 1 (.int .i64 n)) 5 (.int .i64 i)) l.length (fun i => ∀ j (hj : j < l.length), j < i → l[j] ≠ n) (fun _ => ⟨by simp, ?_⟩) ?_
  · repeat' (first | exact TidyV_none _ _ _ _ | (refine TidyV_upd (by simp [AVal.ok, AVal.oks, huge, big, h2] <;> omega) ?_))
  intro i hi I hok
  by_cases hlt : i < l.length
  · obtain ⟨p, p1, p2⟩ := hB.at hlt
    have hw : IntKind.i64.wrap (↑i + 1) = ↑i + 1 := wrap_i64 (by omega) (by omega)
    by_cases hb : l[i] = n
    · have hm : n ∈ l := by rw [← hb]; exact List.getElem_mem hlt
      simp [hB.lenV, hlt, p1, p2, hb, hm]
    · simp [hB.lenV, hlt, p1, p2, hb, hw]
      intro _
      refine ⟨fun j hj hji => ?_, ?_⟩
      · by_cases he : j = i
        · subst he; exact hb
        · exact I j hj (by omega)
      · repeat' (first | exact TidyV_none _ _ _ _ | (refine TidyV_upd (by simp [AVal.ok, AVal.oks, huge, big, h2] <;> omega) ?_))
  · have hm : n ∉ l := fun hm => by
      obtain ⟨j, hj, e⟩ := List.getElem_of_mem hm
      exact I j hj (by omega) e
    simp [hB.lenV, hlt, hm]
theorem Sub.put_of {hb h : AHeap} {i : Nat} {o : AObj} (hs : Sub hb h) (ho : h.f i = some o) : Sub (hb.put i o) h := ⟨hs.1, fun id x hx => by
  simp only [put_at] at hx
  split at hx
  · rename_i he; subst he; cases hx; exact ho
  · exact hs.2 id x hx⟩
theorem Sub.of_put {hb h : AHeap} {i : Nat} {o : AObj} (hs : Sub (hb.put i o) h) (hn : hb.f i = none) : Sub hb h := ⟨hs.1, fun id x hx => hs.2 id x (by
  simp only [put_at]
  rw [if_neg (fun e => by rw [e, hn] at hx; cases hx)]
  exact hx)⟩
theorem Sub.at_put {hb h : AHeap} {i : Nat} {o : AObj} (hs : Sub (hb.put i o) h) : h.f i = some o := hs.2 i o (by simp)
theorem OwnI.put_alloc {ty : TypeId} {hb h : AHeap} {v : AVal} {l : List Int} {o : AObj} (hk : HOk h) (w : OwnI ty hb h v l) : OwnI ty (hb.put h.next o) (h.alloc o) v l := by
  rcases w with ⟨rfl, rfl⟩ | ⟨id, rfl, h1, h2, ho⟩
  · exact .inl ⟨rfl, rfl⟩
  · have := (hk id _ ho).1
    exact .inr ⟨id, rfl, h1, by simp only [put_at]; rw [if_neg (by omega)]; exact h2, by simp only [alloc_at]; rw [if_neg (by omega)]; exact ho⟩
theorem OwnI.of_put {ty : TypeId} {hb h : AHeap} {v : AVal} {l : List Int} {i : Nat} {o : AObj} (w : OwnI ty (hb.put i o) h v l) : OwnI ty hb h v l := by
  rcases w with ⟨rfl, rfl⟩ | ⟨id, rfl, h1, h2, ho⟩
  · exact .inl ⟨rfl, rfl⟩
  · refine .inr ⟨id, rfl, h1, ?_, ho⟩
    simp only [put_at] at h2
    split at h2
    · cases h2
    · exact h2
def lp30 : ACode := (.loop (.seq (.seq (.ops [⟨(some 21), (.move (.tmp 5)), none⟩,
  ⟨(some 22), (.faddr 2 none (.tmp 2)), none⟩,
  ⟨(some 23), (.load none (.tmp 22)), none⟩,
  ⟨(some 24), (.len .slice (.tmp 23)), none⟩,
  ⟨(some 25), (.bin .lss (.tmp 21) (.tmp 24)), none⟩])
 (.cond (.tmp 25)
 .skip
 (.exit 0)))
 (.seq (.block 1 (.ops [⟨(some 28), (.faddr 2 none (.tmp 2)), none⟩,
  ⟨(some 29), (.load none (.tmp 28)), none⟩,
  ⟨(some 30), (.move (.tmp 5)), none⟩,
  ⟨(some 31), (.iaddr 3 (.tmp 29) (.tmp 30)), none⟩,
  ⟨(some 32), (.load (some 3) (.tmp 31)), none⟩,
  ⟨(some 33), (.move (.tmp 1)), none⟩,
  ⟨(some 34), (.call 30 [(.tmp 32), (.tmp 33)]), none⟩,
  ⟨(some 1), (.move (.tmp 34)), none⟩]))
 (.ops [⟨(some 26), (.move (.tmp 5)), none⟩,
  ⟨(some 27), (.bin .add (.tmp 26) (.con (.int .i64 1))), none⟩,
  ⟨(some 5), (.move (.tmp 27)), none⟩]))))
theorem fn30_ok (t : Ty) : ∀ (l : List Int) (v : AVal) (h hb : AHeap), l.length + sz t ≤ 100000 → Sub hb h → OwnI 3 hb h v l → ACalls Tryd.prog 30 [tyV t, v] h fun v' h' => Sub hb h' ∧ OwnI 3 hb h' v' (adds l t) := by
  refine Ty.ind (motive := fun t => ∀ (l : List Int) (v : AVal) (h hb : AHeap), l.length + sz t ≤ 100000 → Sub hb h → OwnI 3 hb h v l → ACalls Tryd.prog 30 [tyV t, v] h fun v' h' => Sub hb h' ∧ OwnI 3 hb h' v' (adds l t)) (fun op n ks ih => ?_) t
  intro l v h hb hsz hsub hown
  refine ACalls.facts (isBody_of fn30) fun h1 h2 => acalls_of fn30 (by simp) ?_
  simp only [AVal.oks, tyV_ok, TyOk_mk, huge] at h2
  obtain ⟨⟨hop, hlen, hko⟩, hv, -⟩ := h2
  have hbn : hb.f h.next = none := hsub.none_at h1 (Nat.le_refl _)
  obtain ⟨box, hbox⟩ : ∃ box : AObj, box = .cells 24 [.str op, .int .i64 n, .vec 3 false (ks.map tyV)] := ⟨_, rfl⟩
  have loop : ∀ (ρ : Nat → AVal) (l0 : List Int) (v0 : AVal) (h0 : AHeap), l0.length + szs ks ≤ 100000 → Sub (hb.put h.next box) h0 → OwnI 3 (hb.put h.next box) h0 v0 l0 → ρ 1 = v0 → ρ 2 = .ptr h.next 0 → ρ 5 = .int .i64 0 →
      Ev Tryd.prog h.next lp30 (blockK 0 (thenK (Ev Tryd.prog h.next ((ACode.ops [⟨some 35, .move (.tmp 1), Option.none⟩, ⟨some 4, .move (.tmp 35), Option.none⟩]).seq .ret) (retK [.tmp 4] fun v' h' => Sub hb h' ∧ OwnI 3 hb h' v' (addsL l0 ks)))
        (retK [.tmp 4] fun v' h' => Sub hb h' ∧ OwnI 3 hb h' v' (addsL l0 ks)))) ⟨ρ, h0⟩ := by
    intro ρ l0 v0 h0 hs0 hsub0 hown0 r1 r2 r5
    refine Ev.over (fun p : Nat × AVal × AHeap => p.1 ≤ ks.length ∧ Sub (hb.put h.next box) p.2.2 ∧ h.next ≤ p.2.2.next ∧ OwnI 3 (hb.put h.next box) p.2.2 p.2.1 (addsL l0 (ks.take p.1))) (fun p => ⟨upd (upd (upd noEnv 1 p.2.1) 2 (.ptr h.next 0)) 5 (.int .i64 p.1), p.2.2⟩) (fun p => ks.length - p.1) ?_ ?_
    · intro hok hN
      have hlt0 := (hok.1 _ _ hsub0.at_put).1
      simp only at hlt0
      refine ⟨(0, v0, h0), ⟨by simp, hsub0, hN, by simpa [addsL] using hown0⟩, .val hN (Sub.refl _) hok.1 ?_⟩
      have hv0 : v0.ok h0.next := by rw [← r1]; exact hok.2 1
      repeat' (first | exact TidyV_none _ _ _ _ | (refine TidyV_upd (by simp [AVal.ok, AVal.oks, huge, big, r1, r2, r5, hv0, hlt0] <;> omega) ?_))
    rintro ⟨i, lv, hh⟩ ⟨hi, hs1, hN1, how⟩ hok
    simp only at hi hs1 hN1 how hok ⊢
    have hbx := hs1.at_put
    rw [hbox] at hbx
    have hltb := (hok.1 _ _ hs1.at_put).1
    by_cases hlt : i < ks.length
    · have hw : IntKind.i64.wrap (↑i + 1) = ↑i + 1 := wrap_i64 (by omega) (by omega)
      have hc := ih ks[i] (List.getElem_mem hlt)
      rw [tyV_eq] at hc
      have hz1 := addsL_len (ks.take i) l0
      have hz2 := szs_append (ks.take (i + 1)) (ks.drop (i + 1))
      have hz3 := szs_take ks i hlt
      rw [List.take_append_drop] at hz2
      simp [lp30, hlt, hbx]
      refine (hc _ lv _ (hb.put h.next box) (by omega) hs1 how).mono fun v' h' hn ⟨q1, q2⟩ => ?_
      simp [hw]
      intro hs'
      have hv' : v'.ok h'.next := by simpa using hs'.2 1
      have hltb' := (hs'.1 _ _ q1.at_put).1
      simp only at hltb'
      refine ⟨i + 1, v', h', ⟨by omega, q1, by omega, by rw [addsL_take l0 ks i hlt]; exact q2⟩, by omega, .val (by omega) (Sub.refl _) hs'.1 ?_⟩
      repeat' (first | exact TidyV_none _ _ _ _ | (refine TidyV_upd (by simp [AVal.ok, AVal.oks, huge, big, hv', hltb'] <;> omega) ?_))
    · have hi' : ks.take i = ks := List.take_of_length_le (by omega)
      rw [hi'] at how
      simp [lp30, hlt, hbx]
      exact ⟨hs1.of_put hbn, how.of_put⟩
  simp only [sz] at hsz
  have hsubA : Sub (hb.put h.next box) (h.alloc box) := Sub.put_of (Sub.alloc' h1 hsub) (by simp)
  by_cases c1 : op = sVar
  · subst c1
    simp [code30, tyV_mk]
    refine (fn42_ok l v n _ (hown.isI.sub (Sub.alloc h1 (Sub.refl _)))).to ?_
    by_cases c2 : n ∈ l
    · have : adds l (.mk sVar n ks) = addsL l ks := by simp [adds, c2]
      simp [c2, this]
      rw [← hbox]
      exact loop _ l v _ (by omega) hsubA (hown.put_alloc h1) (by simp) (by simp) (by simp)
    · have : adds l (.mk sVar n ks) = addsL (l ++ [n]) ks := by simp [adds, c2]
      have hb1 : (l.length + 1) * 8 ≤ big ∧ l.length + 1 ≤ big := by simp only [big]; omega
      have hbe : ∀ id o, (hb.put h.next box).f id = some o → id < h.next + 1 := fun id o ho => by
        simp only [put_at] at ho
        split at ho
        · omega
        · have := hsub.below_all h1 id o ho; omega
      rcases hown with ⟨rfl, rfl⟩ | ⟨id, rfl, o1, o2, o3⟩
      · have b8 : 8 ≤ big ∧ 1 ≤ big := by decide
        simp at hsz
        simp [this, b8]
        rw [← hbox]
        refine loop _ [n] _ _ (by simp; omega) ?_ (.inr ⟨h.next + 2, rfl, by have := hsub.1; simp; omega, by simp [hsub.none_at h1 (show h.next ≤ h.next + 2 by omega)], by simp⟩) (by simp) (by simp) (by simp)
        repeat' (first | exact hsubA | refine Sub.allocN (h.next + 1) hbe (by simp) ?_)
      · have hid := (h1 id _ o3).1
        have i1 : id ≠ h.next + 1 := by omega
        have i2 : id ≠ h.next := by omega
        simp [c2, this, o3, hb1, i1, i2]
        rw [← hbox]
        refine loop _ (l ++ [n]) _ _ (by simp; omega) ?_ (.inr ⟨h.next + 2, by simp; rfl, by have := hsub.1; simp; omega, by simp [hsub.none_at h1 (show h.next ≤ h.next + 2 by omega)], by simp⟩) (by simp) (by simp) (by simp)
        have hsubD : Sub (hb.put h.next box) ((h.drop id).alloc box) := Sub.put_of (Sub.allocN h.next (hsub.below_all h1) (by simp) (Sub.drop' hsub o2)) (by simp)
        repeat' (first | exact hsubD | refine Sub.allocN (h.next + 1) hbe (by simp) ?_)
  · have : adds l (.mk op n ks) = addsL l ks := by simp [adds, c1]
    simp [code30, tyV_mk, c1, this]
    rw [← hbox]
    exact loop _ l v _ (by omega) hsubA (hown.put_alloc h1) (by simp) (by simp) (by simp)
theorem fn14_ok (t : Ty) (h : AHeap) (hs : sz t ≤ 100000) : Returns Tryd.prog 14 [tyV t] h (.vec 1 false (iVs (vars t))) h := by
  have hl := adds_len t []
  simp at hl
  refine Returns.val fn14 (by simp) fun h1 h2 => ⟨by simp [AVal.ok, vars, huge]; omega, ?_⟩
  have hc := fn30_ok t [] .nils
  rw [tyV_eq] at hc ⊢
  simp [code14]
  refine (hc _ h (by simpa using hs) ?_ (.inl ⟨rfl, rfl⟩)).mono fun v h' hn ⟨q1, q2⟩ => ?_
  · repeat' (first | exact Sub.refl _ | refine Sub.put_both ?_ | refine Sub.alloc h1 ?_ | refine Sub.put h1 ?_ (by simp) | refine Sub.drop h1 ?_ (by simp))
  simp
  exact ⟨q2.le, q1⟩
end Go.Proofs.YtcjlgmknclifmaaDoor.Ab
