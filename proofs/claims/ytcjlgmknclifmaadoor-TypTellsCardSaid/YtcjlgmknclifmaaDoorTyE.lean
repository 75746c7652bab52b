/- A type's vars. -/
import Derived.Test.YtcjlgmknclifmaaDoorTyD
import Derived.Test.YtcjlgmknclifmaaDoorAb25
set_option linter.unusedVariables false
set_option linter.unusedSimpArgs false
namespace Go.Proofs.YtcjlgmknclifmaaDoor.Ab
open Go

/-- Where a number stands in a row. -/
def idxOf (l : List Int) (n : Int) : Int := match l.findIdx? (fun x => decide (n = x)) with | some i => i | none => -1
theorem idxOf_none {l : List Int} {n : Int} (h : ∀ k ∈ l, n ≠ k) : idxOf l n = -1 := by
  have : l.findIdx? (fun x => decide (n = x)) = none := by rw [List.findIdx?_eq_none_iff]; intro x hx; simpa using h x hx
  simp [idxOf, this]
theorem idxOf_some {l : List Int} {n : Int} {i : Nat} (hi : i < l.length) (h : n = l[i]) (hb : ∀ j (hj : j < l.length), j < i → n ≠ l[j]) : idxOf l n = i := by
  have : l.findIdx? (fun x => decide (n = x)) = some i := by rw [List.findIdx?_eq_some_iff_getElem]; exact ⟨hi, by simpa using h, fun j hj => by simpa using hb j (by omega) hj⟩
  simp [idxOf, this]
theorem idxOf_ge (l : List Int) (n : Int) : decide (0 ≤ idxOf l n) = decide (n ∈ l) := by
  unfold idxOf
  cases h : l.findIdx? (fun x => decide (n = x)) with
  | none =>
    rw [List.findIdx?_eq_none_iff] at h
    have : n ∉ l := fun hm => by simpa using h n hm
    simp [this]
  | some i =>
    rw [List.findIdx?_eq_some_iff_getElem] at h
    obtain ⟨hi, hp, _⟩ := h
    have : n ∈ l := by simp at hp; rw [hp]; exact List.getElem_mem hi
    simp [this]
theorem fn43_ok (l : List Int) (v : AVal) (n : Int) (h : AHeap) (hB : IsI h v l) : Returns Tryd.prog 43 [v, .int .i64 n] h (.int .i64 (idxOf l n)) h := by
  refine Returns.val fn43 (by simp) fun h1 h2 => ⟨by simp [AVal.ok], ?_⟩
  simp only [AVal.oks, AVal.ok] at h2
  obtain ⟨h2, -⟩ := h2
  have hlen := hB.len_le h2
  simp only [huge] at hlen
  simp [code43, hB.lenV]
  refine Ev.countV (fun i => upd (upd (upd (upd noEnv 0 v) 1 (.int .i64 n)) 7 (.int .i64 l.length)) 8 (.int .i64 i)) l.length (fun i => ∀ j (hj : j < l.length), j < i → n ≠ l[j]) (fun _ => ⟨by simp, ?_⟩) ?_
  · repeat' (first | exact TidyV_none _ _ _ _ | (refine TidyV_upd (by simp [AVal.ok, AVal.oks, huge, big, h2] <;> omega) ?_))
  intro i hi I hok
  by_cases hlt : i < l.length
  · obtain ⟨p, p1, p2⟩ := hB.at hlt
    have hw : IntKind.i64.wrap (↑i + 1) = ↑i + 1 := wrap_i64 (by omega) (by omega)
    by_cases hb : n = l[i]
    · simp [hlt, p1, p2, ← hb, idxOf_some hlt hb I]
    · simp [hlt, p1, p2, hb, hw]
      intro _
      refine ⟨fun j hj hji => ?_, ?_⟩
      · by_cases he : j = i
        · subst he; exact hb
        · exact I j hj (by omega)
      · repeat' (first | exact TidyV_none _ _ _ _ | (refine TidyV_upd (by simp [AVal.ok, AVal.oks, huge, big, h2] <;> omega) ?_))
  · have hn : idxOf l n = -1 := idxOf_none fun k hk => by
      obtain ⟨j, hj, rfl⟩ := List.getElem_of_mem hk
      exact I j hj (by omega)
    simp [hlt, hn]
theorem fn41_ok (l : List Int) (v : AVal) (n : Int) (h : AHeap) (hB : IsI h v l) : Returns Tryd.prog 41 [v, .int .i64 n] h (.bool (decide (n ∈ l))) h := by
  refine Returns.val fn41 (by simp) fun h1 h2 => ⟨by simp [AVal.ok], ?_⟩
  simp [code41]
  refine (fn43_ok l v n h hB).to ?_
  simp [idxOf_ge]
mutual
def adds : List Int → Ty → List Int
  | l, .mk op n ks => addsL (if op = sVar ∧ n ∉ l then l ++ [n] else l) ks
def addsL : List Int → List Ty → List Int
  | l, [] => l
  | l, k :: ks => addsL (adds l k) ks
end
theorem addsL_append : ∀ (ks ks' : List Ty) (l : List Int), addsL l (ks ++ ks') = addsL (addsL l ks) ks'
  | [], ks', l => by simp [addsL]
  | k :: ks, ks', l => by simp [addsL, addsL_append ks ks']
theorem addsL_take (l : List Int) (ks : List Ty) (i : Nat) (hi : i < ks.length) : addsL l (ks.take (i + 1)) = adds (addsL l (ks.take i)) ks[i] := by
  rw [List.take_succ_eq_append_getElem hi, addsL_append]; simp [addsL]
theorem adds_len (t : Ty) : ∀ l, (adds l t).length ≤ l.length + sz t := by
  refine Ty.ind (motive := fun t => ∀ l, (adds l t).length ≤ l.length + sz t) (fun op n ks ih => ?_) t
  have go : ∀ (ks : List Ty), (∀ k ∈ ks, ∀ l, (adds l k).length ≤ l.length + sz k) → ∀ l, (addsL l ks).length ≤ l.length + szs ks := by
    intro ks
    induction ks with
    | nil => intro _ l; simp [addsL, szs]
    | cons k ks ih2 =>
      intro ih l
      have h1 := ih2 (fun k hk => ih k (by simp [hk])) (adds l k)
      have h2 := ih k (by simp) l
      simp only [addsL, szs]; omega
  intro l
  simp only [adds, sz]
  by_cases c : op = sVar ∧ n ∉ l
  · rw [if_pos c]
    have := go ks ih (l ++ [n])
    simp at this
    omega
  · rw [if_neg c]
    have := go ks ih l
    omega
theorem addsL_len (ks : List Ty) : ∀ l, (addsL l ks).length ≤ l.length + szs ks := by
  induction ks with
  | nil => intro l; simp [addsL, szs]
  | cons k ks ih2 =>
    intro l
    have h1 := ih2 (adds l k)
    have h2 := adds_len k l
    simp only [addsL, szs]; omega
def lp29 : ACode := (.loop (.seq (.ops [⟨(some 26), (.bin .lss (.tmp 25) (.tmp 24)), none⟩])
 (.seq (.cond (.tmp 26)
 .skip
 (.exit 0))
 (.seq (.block 1 (.seq (.ops [⟨(some 27), (.iaddr 3 (.tmp 23) (.tmp 25)), none⟩,
  ⟨(some 28), (.load (some 3) (.tmp 27)), none⟩,
  ⟨(some 6), (.alloc 24 [(.str ⟨#[]⟩), (.int .i64 0), .nils]), none⟩,
  ⟨none, (.store 3 (.tmp 6) (.tmp 28)), none⟩])
 (.ops [⟨(some 29), (.move (.tmp 0)), none⟩,
  ⟨(some 30), (.load (some 3) (.tmp 6)), none⟩,
  ⟨(some 31), (.call 29 [(.tmp 29), (.tmp 30)]), none⟩,
  ⟨(some 0), (.move (.tmp 31)), none⟩])))
 (.ops [⟨(some 32), (.bin .add (.tmp 25) (.con (.int .i64 1))), none⟩,
  ⟨(some 25), (.move (.tmp 32)), none⟩])))))
theorem fn29_ok (t : Ty) : ∀ (l : List Int) (v : AVal) (h hb : AHeap), l.length + sz t ≤ 100000 → Sub hb h → OwnI 3 hb h v l → ACalls Tryd.prog 29 [v, tyV t] h fun v' h' => Sub hb h' ∧ OwnI 3 hb h' v' (adds l t) := by
  refine Ty.ind (motive := fun t => ∀ (l : List Int) (v : AVal) (h hb : AHeap), l.length + sz t ≤ 100000 → Sub hb h → OwnI 3 hb h v l → ACalls Tryd.prog 29 [v, tyV t] h fun v' h' => Sub hb h' ∧ OwnI 3 hb h' v' (adds l t)) (fun op n ks ih => ?_) t
  intro l v h hb hsz hsub hown
  refine ACalls.facts (isBody_of fn29) fun h1 h2 => acalls_of fn29 (by simp) ?_
  simp only [AVal.oks, tyV_ok, TyOk_mk, huge] at h2
  obtain ⟨hv, ⟨hop, hlen, hko⟩, -⟩ := h2
  have loop : ∀ (ρ : Nat → AVal) (l0 : List Int) (v0 : AVal) (h0 : AHeap), l0.length + szs ks ≤ 100000 → Sub hb h0 → OwnI 3 hb h0 v0 l0 → ρ 0 = v0 → ρ 23 = .vec 3 false (ks.map tyV) → ρ 24 = .int .i64 ks.length → ρ 25 = .int .i64 0 →
      Ev Tryd.prog h.next lp29 (blockK 0 (thenK (Ev Tryd.prog h.next ((ACode.ops [⟨some 33, .move (.tmp 0), Option.none⟩, ⟨some 4, .move (.tmp 33), Option.none⟩]).seq .ret) (retK [.tmp 4] fun v' h' => Sub hb h' ∧ OwnI 3 hb h' v' (addsL l0 ks)))
        (retK [.tmp 4] fun v' h' => Sub hb h' ∧ OwnI 3 hb h' v' (addsL l0 ks)))) ⟨ρ, h0⟩ := by
    intro ρ l0 v0 h0 hs0 hsub0 hown0 r0 r23 r24 r25
    refine Ev.over (fun p : Nat × AVal × AHeap => p.1 ≤ ks.length ∧ Sub hb p.2.2 ∧ h.next ≤ p.2.2.next ∧ OwnI 3 hb p.2.2 p.2.1 (addsL l0 (ks.take p.1))) (fun p => ⟨upd (upd (upd (upd noEnv 0 p.2.1) 23 (.vec 3 false (ks.map tyV))) 24 (.int .i64 ks.length)) 25 (.int .i64 p.1), p.2.2⟩) (fun p => ks.length - p.1) ?_ ?_
    · intro hok hN
      refine ⟨(0, v0, h0), ⟨by simp, hsub0, hN, by simpa [addsL] using hown0⟩, .val hN (Sub.refl _) hok.1 ?_⟩
      have hv0 : v0.ok h0.next := by rw [← r0]; exact hok.2 0
      repeat' (first | exact TidyV_none _ _ _ _ | (refine TidyV_upd (by simp [AVal.ok, AVal.oks, huge, big, r0, r23, r24, r25, hv0, hlen, hko] <;> omega) ?_))
    rintro ⟨i, lv, hh⟩ ⟨hi, hs1, hN1, how⟩ hok
    simp only at hi hs1 hN1 how hok ⊢
    by_cases hlt : i < ks.length
    · have hw : IntKind.i64.wrap (↑i + 1) = ↑i + 1 := wrap_i64 (by omega) (by omega)
      have hc := ih ks[i] (List.getElem_mem hlt)
      rw [tyV_eq] at hc
      have hz1 := addsL_len (ks.take i) l0
      have hz2 := szs_append (ks.take (i + 1)) (ks.drop (i + 1))
      have hz3 := szs_take ks i hlt
      rw [List.take_append_drop] at hz2
      simp [lp29, hlt]
      refine (hc _ lv _ hb (by omega) (Sub.alloc' hok.1 hs1) (how.alloc hok.1)).mono fun v' h' hn ⟨q1, q2⟩ => ?_
      simp at hn
      simp [hw]
      intro hs'
      have hv' : v'.ok h'.next := by simpa using hs'.2 0
      refine ⟨i + 1, v', h', ⟨by omega, q1, by omega, by rw [addsL_take l0 ks i hlt]; exact q2⟩, by omega, .val (by omega) (Sub.refl _) hs'.1 ?_⟩
      repeat' (first | exact TidyV_none _ _ _ _ | (refine TidyV_upd (by simp [AVal.ok, AVal.oks, huge, big, hv', hlen, hko] <;> omega) ?_))
    · have hi' : ks.take i = ks := List.take_of_length_le (by omega)
      rw [hi'] at how
      simp [lp29, hlt]
      exact ⟨hs1, how⟩
  simp only [sz] at hsz
  by_cases c1 : op = sVar
  · subst c1
    simp [code29, tyV_mk]
    refine (fn41_ok l v n _ (hown.isI.sub (Sub.alloc h1 (Sub.refl _)))).to ?_
    by_cases c2 : n ∈ l
    · have : adds l (.mk sVar n ks) = addsL l ks := by simp [adds, c2]
      simp [c2, this]
      exact loop _ l v _ (by omega) (Sub.alloc' h1 hsub) (hown.alloc h1) (by simp) (by simp) (by simp) (by simp)
    · have : adds l (.mk sVar n ks) = addsL (l ++ [n]) ks := by simp [adds, c2]
      have hb1 : (l.length + 1) * 8 ≤ big ∧ l.length + 1 ≤ big := by simp only [big]; omega
      rcases hown with ⟨rfl, rfl⟩ | ⟨id, rfl, o1, o2, o3⟩
      · have b8 : 8 ≤ big ∧ 1 ≤ big := by decide
        simp at hsz
        simp [this, b8]
        refine loop _ [n] _ _ (by simp; omega) ?_ (.inr ⟨h.next + 2, rfl, by have := hsub.1; omega, hsub.none_at h1 (by omega), by simp⟩) (by simp) (by simp) (by simp) (by simp)
        repeat' (first | exact hsub | refine Sub.allocN h.next (hsub.below_all h1) (by simp) ?_ | refine Sub.drop' ?_ o2)
      · have hid := (h1 id _ o3).1
        have i1 : id ≠ h.next + 1 := by omega
        have i2 : id ≠ h.next := by omega
        simp [c2, this, o3, hb1, i1, i2]
        refine loop _ (l ++ [n]) _ _ (by simp; omega) ?_ (.inr ⟨h.next + 2, by simp; rfl, by have := hsub.1; omega, hsub.none_at h1 (by omega), by simp⟩) (by simp) (by simp) (by simp) (by simp)
        repeat' (first | exact hsub | refine Sub.allocN h.next (hsub.below_all h1) (by simp) ?_ | refine Sub.drop' ?_ o2)
  · have : adds l (.mk op n ks) = addsL l ks := by simp [adds, c1]
    simp [code29, tyV_mk, c1, this]
    exact loop _ l v _ (by omega) (Sub.alloc' h1 hsub) (hown.alloc h1) (by simp) (by simp) (by simp) (by simp)
end Go.Proofs.YtcjlgmknclifmaaDoor.Ab
