/- Is it a type? -/
import Derived.Test.YtcjlgmknclifmaaDoorTyB
set_option linter.unusedVariables false
set_option linter.unusedSimpArgs false
namespace Go.Proofs.YtcjlgmknclifmaaDoor.Ab
open Go

def nodeOk (op : ByteArray) (n : Int) (len : Nat) : Bool := decide ((len : Int) = kidsN op) && decide (0 ≤ n) && (decide (op = sVar) || decide (n = 0))
mutual
def good : Ty → Bool
  | .mk op n ks => nodeOk op n ks.length && goods ks
def goods : List Ty → Bool
  | [] => true
  | k :: ks => good k && goods ks
end
theorem goods_all : ∀ (ks : List Ty), goods ks = ks.all good
  | [] => by simp [goods]
  | k :: ks => by simp [goods, goods_all ks]
theorem good_mk (op : ByteArray) (n : Int) (ks : List Ty) : good (.mk op n ks) = (nodeOk op n ks.length && ks.all good) := by simp [good, goods_all]
/-- The first of a row that is such. -/
def firstOf (p : Ty → Bool) (ks : List Ty) : Int := match ks.findIdx? p with | some i => i | none => -1
theorem firstOf_none {p : Ty → Bool} {ks : List Ty} (h : ∀ k ∈ ks, p k = false) : firstOf p ks = -1 := by
  have : ks.findIdx? p = none := by rw [List.findIdx?_eq_none_iff]; exact h
  simp [firstOf, this]
theorem firstOf_some {p : Ty → Bool} {ks : List Ty} {i : Nat} (hi : i < ks.length) (h : p ks[i] = true) (hb : ∀ j (hj : j < ks.length), j < i → p ks[j] = false) : firstOf p ks = i := by
  have : ks.findIdx? p = some i := by rw [List.findIdx?_eq_some_iff_getElem]; exact ⟨hi, h, fun j hj => by rw [hb j (by omega) hj]; simp⟩
  simp [firstOf, this]
theorem firstOf_ge (p : Ty → Bool) (ks : List Ty) : decide (0 ≤ firstOf p ks) = ks.any p := by
  unfold firstOf
  cases h : ks.findIdx? p with
  | none =>
    rw [List.findIdx?_eq_none_iff] at h
    have : ks.any p = false := by rw [List.any_eq_false]; intro k hk; rw [h k hk]; simp
    rw [this]; decide
  | some i =>
    rw [List.findIdx?_eq_some_iff_getElem] at h
    obtain ⟨hi, hp, _⟩ := h
    have : ks.any p = true := by rw [List.any_eq_true]; exact ⟨ks[i], List.getElem_mem hi, hp⟩
    rw [this]; simp
/-- The function c, told by p, over a row. -/
theorem fn45_ok (ks : List Ty) (c : FuncId) (p : Ty → Bool) (h : AHeap) (hp : ∀ k ∈ ks, ∀ h', Returns Tryd.prog c [tyV k] h' (.bool (p k)) h') : Returns Tryd.prog 45 [.vec 3 false (ks.map tyV), .clo c []] h (.int .i64 (firstOf p ks)) h := by
  refine Returns.val fn45 (by simp) fun h1 h2 => ⟨by simp [AVal.ok], ?_⟩
  simp only [AVal.oks, AVal.ok, tys_ok, huge, List.length_map] at h2
  obtain ⟨⟨hlen, hko⟩, -⟩ := h2
  simp [code45]
  refine Ev.countV (fun i => upd (upd (upd (upd noEnv 0 (.vec 3 false (ks.map tyV))) 1 (.clo c [])) 7 (.int .i64 ks.length)) 8 (.int .i64 i)) ks.length (fun i => ∀ j (hj : j < ks.length), j < i → p ks[j] = false) (fun _ => ⟨by simp, ?_⟩) ?_
  · repeat' (first | exact TidyV_none _ _ _ _ | (refine TidyV_upd (by simp [AVal.ok, AVal.oks, huge, big, hlen, hko] <;> omega) ?_))
  intro i hi I hok
  by_cases hlt : i < ks.length
  · have hw : IntKind.i64.wrap (↑i + 1) = ↑i + 1 := wrap_i64 (by omega) (by omega)
    have hc := hp ks[i] (List.getElem_mem hlt)
    rw [tyV_eq] at hc
    simp [hlt]
    refine (hc h).to ?_
    cases hb : p ks[i] with
    | true => simp [firstOf_some hlt hb I]
    | false =>
      simp [hw]
      intro _
      refine ⟨fun j hj hji => ?_, ?_⟩
      · by_cases he : j = i
        · subst he; exact hb
        · exact I j hj (by omega)
      · repeat' (first | exact TidyV_none _ _ _ _ | (refine TidyV_upd (by simp [AVal.ok, AVal.oks, huge, big, hlen, hko] <;> omega) ?_))
  · have hn : firstOf p ks = -1 := firstOf_none fun k hk => by
      obtain ⟨j, hj, rfl⟩ := List.getElem_of_mem hk
      exact I j hj (by omega)
    simp [hlt, hn]
theorem fn35_ok (ks : List Ty) (c : FuncId) (p : Ty → Bool) (h : AHeap) (hp : ∀ k ∈ ks, ∀ h', Returns Tryd.prog c [tyV k] h' (.bool (p k)) h') : Returns Tryd.prog 35 [.vec 3 false (ks.map tyV), .clo c []] h (.bool (ks.any p)) h := by
  refine Returns.val fn35 (by simp) fun h1 h2 => ⟨by simp [AVal.ok], ?_⟩
  simp [code35]
  refine (fn45_ok ks c p h hp).to ?_
  simp [firstOf_ge]
theorem fn40_of (t : Ty) (b : Bool) (h : AHeap) (hc : ∀ h', Returns Tryd.prog 28 [tyV t] h' (.bool b) h') : Returns Tryd.prog 40 [tyV t] h (.bool (!b)) h := by
  refine Returns.val fn40 (by simp) fun h1 h2 => ⟨by simp [AVal.ok], ?_⟩
  rw [tyV_eq] at hc ⊢
  simp [code40]
  refine (hc _).to ?_
  simp
  repeat' (first | exact Sub.refl _ | refine Sub.put_both ?_ | refine Sub.alloc h1 ?_ | refine Sub.put h1 ?_ (by simp) | refine Sub.drop h1 ?_ (by simp))
theorem fn28_ok (t : Ty) : ∀ (h : AHeap), Returns Tryd.prog 28 [tyV t] h (.bool (good t)) h := by
  refine Ty.ind (motive := fun t => ∀ (h : AHeap), Returns Tryd.prog 28 [tyV t] h (.bool (good t)) h) (fun op n ks ih => ?_) t
  intro h
  refine Returns.val fn28 (by simp) fun h1 h2 => ⟨by simp [AVal.ok], ?_⟩
  simp only [AVal.oks, tyV_ok, TyOk_mk, huge] at h2
  obtain ⟨⟨hop, hlen, hko⟩, -⟩ := h2
  have hne : ∀ {b : Bool}, nodeOk op n ks.length = b → good (.mk op n ks) = (b && ks.all good) := fun hb => by rw [good_mk, hb]
  have tail : ∀ h', Returns Tryd.prog 35 [.vec 3 false (ks.map tyV), .clo 40 []] h' (.bool (ks.any fun k => !good k)) h' := fun h' =>
    fn35_ok ks 40 (fun k => !good k) h' fun k hk h'' => fn40_of k (good k) h'' (ih k hk)
  have hall : (!ks.any fun k => !good k) = ks.all good := by rw [List.not_any_eq_all_not]; simp
  simp [code28, tyV_mk]
  refine (fn39_ok op _).to ?_
  by_cases c1 : (ks.length : Int) = kidsN op
  · by_cases c2 : n < 0
    · have hg := hne (b := false) (by simp [nodeOk]; intro _ h0; omega)
      simp [c1, c2, hg]
      repeat' (first | exact Sub.refl _ | refine Sub.put_both ?_ | refine Sub.alloc h1 ?_ | refine Sub.put h1 ?_ (by simp) | refine Sub.drop h1 ?_ (by simp))
    · by_cases c3 : op = sVar
      · have hg := hne (b := true) (by simp [nodeOk, c1, c3]; omega)
        simp [c1, c2, c3]
        refine (tail _).to ?_
        simp [hall, ← c3, hg]
        repeat' (first | exact Sub.refl _ | refine Sub.put_both ?_ | refine Sub.alloc h1 ?_ | refine Sub.put h1 ?_ (by simp) | refine Sub.drop h1 ?_ (by simp))
      · by_cases c4 : n = 0
        · have hg := hne (b := true) (by simp [nodeOk, c1, c4])
          simp [c1, c3, c4]
          refine (tail _).to ?_
          simp [hall, ← c4, hg]
          repeat' (first | exact Sub.refl _ | refine Sub.put_both ?_ | refine Sub.alloc h1 ?_ | refine Sub.put h1 ?_ (by simp) | refine Sub.drop h1 ?_ (by simp))
        · have hg := hne (b := false) (by simp [nodeOk, c3, c4])
          simp [c1, c2, c3, c4, hg]
          repeat' (first | exact Sub.refl _ | refine Sub.put_both ?_ | refine Sub.alloc h1 ?_ | refine Sub.put h1 ?_ (by simp) | refine Sub.drop h1 ?_ (by simp))
  · have hg := hne (b := false) (by simp [nodeOk, c1])
    simp [c1, hg]
    repeat' (first | exact Sub.refl _ | refine Sub.put_both ?_ | refine Sub.alloc h1 ?_ | refine Sub.put h1 ?_ (by simp) | refine Sub.drop h1 ?_ (by simp))
def lp26 : ACode := (.loop (.seq (.seq (.ops [⟨(some 26), (.move (.tmp 3)), none⟩,
  ⟨(some 27), (.faddr 2 none (.tmp 1)), none⟩,
  ⟨(some 28), (.load none (.tmp 27)), none⟩,
  ⟨(some 29), (.len .slice (.tmp 28)), none⟩,
  ⟨(some 30), (.bin .lss (.tmp 26) (.tmp 29)), none⟩])
 (.cond (.tmp 30)
 .skip
 (.exit 0)))
 (.seq (.block 1 (.seq (.ops [⟨(some 33), (.faddr 2 none (.tmp 1)), none⟩,
  ⟨(some 34), (.load none (.tmp 33)), none⟩,
  ⟨(some 35), (.move (.tmp 3)), none⟩,
  ⟨(some 36), (.iaddr 3 (.tmp 34) (.tmp 35)), none⟩,
  ⟨(some 37), (.load (some 3) (.tmp 36)), none⟩,
  ⟨(some 38), (.call 26 [(.tmp 37)]), none⟩,
  ⟨(some 39), (.un .not (.tmp 38)), none⟩])
 (.cond (.tmp 39)
 (.seq (.ops [⟨(some 2), (.move (.con (.bool false))), none⟩])
 .ret)
 .skip)))
 (.ops [⟨(some 31), (.move (.tmp 3)), none⟩,
  ⟨(some 32), (.bin .add (.tmp 31) (.con (.int .i64 1))), none⟩,
  ⟨(some 3), (.move (.tmp 32)), none⟩]))))
theorem fn26_ok (t : Ty) : ∀ (h : AHeap), Returns Tryd.prog 26 [tyV t] h (.bool (good t)) h := by
  refine Ty.ind (motive := fun t => ∀ (h : AHeap), Returns Tryd.prog 26 [tyV t] h (.bool (good t)) h) (fun op n ks ih => ?_) t
  intro h
  refine Returns.val fn26 (by simp) fun h1 h2 => ⟨by simp [AVal.ok], ?_⟩
  simp only [AVal.oks, tyV_ok, TyOk_mk, huge] at h2
  obtain ⟨⟨hop, hlen, hko⟩, -⟩ := h2
  have hne : ∀ {b : Bool}, nodeOk op n ks.length = b → good (.mk op n ks) = (b && ks.all good) := fun hb => by rw [good_mk, hb]
  have loop26 : ∀ (ρ : Nat → AVal) (c : List AVal), ρ 1 = .ptr h.next 0 → ρ 3 = .int .i64 0 → (∃ a b, c = [a, b, .vec 3 false (ks.map tyV)]) → good (.mk op n ks) = ks.all good → Ev Tryd.prog h.next lp26
      (blockK 0 (thenK (Ev Tryd.prog h.next ((ACode.ops [⟨some 2, .move (.con (.bool true)), Option.none⟩]).seq .ret) (retK [.tmp 2] fun v h' => Le (newZ h.next) h' v (.bool (good (.mk op n ks))) ∧ Sub h h'))
        (retK [.tmp 2] fun v h' => Le (newZ h.next) h' v (.bool (good (.mk op n ks))) ∧ Sub h h'))) ⟨ρ, h.alloc (.cells 24 c)⟩ := by
    intro ρ c r1 r3 ⟨a, b, hc⟩ hg
    subst hc
    refine Ev.countV (fun i => upd (upd noEnv 1 (.ptr h.next 0)) 3 (.int .i64 i)) ks.length (fun i => ∀ j (hj : j < ks.length), j < i → good ks[j] = true) (fun _ => ⟨by simp, ?_⟩) ?_
    · repeat' (first | exact TidyV_none _ _ _ _ | (refine TidyV_upd (by simp [AVal.ok, AVal.oks, huge, big, r1, r3] <;> omega) ?_))
    intro i hi I hok
    by_cases hlt : i < ks.length
    · have hw : IntKind.i64.wrap (↑i + 1) = ↑i + 1 := wrap_i64 (by omega) (by omega)
      have hc := ih ks[i] (List.getElem_mem hlt)
      rw [tyV_eq] at hc
      simp [hlt]
      refine (hc _).to ?_
      cases hb : good ks[i] with
      | true =>
        simp [hw]
        intro _
        refine ⟨fun j hj hji => ?_, ?_⟩
        · by_cases he : j = i
          · subst he; exact hb
          · exact I j hj (by omega)
        · repeat' (first | exact TidyV_none _ _ _ _ | (refine TidyV_upd (by simp [AVal.ok, AVal.oks, huge, big, hlen, hko] <;> omega) ?_))
      | false =>
        have : ks.all good = false := by rw [List.all_eq_false]; exact ⟨ks[i], List.getElem_mem hlt, by simp [hb]⟩
        simp [hg, this]
        repeat' (first | exact Sub.refl _ | refine Sub.put_both ?_ | refine Sub.alloc h1 ?_ | refine Sub.put h1 ?_ (by simp) | refine Sub.drop h1 ?_ (by simp))
    · have : ks.all good = true := by
        rw [List.all_eq_true]; intro k hk
        obtain ⟨j, hj, rfl⟩ := List.getElem_of_mem hk
        exact I j hj (by omega)
      simp [hlt, hg, this]
      repeat' (first | exact Sub.refl _ | refine Sub.put_both ?_ | refine Sub.alloc h1 ?_ | refine Sub.put h1 ?_ (by simp) | refine Sub.drop h1 ?_ (by simp))
  simp [code26, tyV_mk]
  refine (fn38_ok op _).to ?_
  by_cases c1 : kidsN op = (ks.length : Int)
  rotate_left
  · have hg := hne (b := false) (by simp [nodeOk, Ne.symm c1])
    simp [c1, hg]
    repeat' (first | exact Sub.refl _ | refine Sub.put_both ?_ | refine Sub.alloc h1 ?_ | refine Sub.put h1 ?_ (by simp) | refine Sub.drop h1 ?_ (by simp))
  by_cases c2 : n < 0
  · have hg := hne (b := false) (by simp [nodeOk]; intro _ h0; omega)
    simp [c1, c2, hg]
    repeat' (first | exact Sub.refl _ | refine Sub.put_both ?_ | refine Sub.alloc h1 ?_ | refine Sub.put h1 ?_ (by simp) | refine Sub.drop h1 ?_ (by simp))
  have key : op = sVar ∨ (op ≠ sVar ∧ n = 0) ∨ (op ≠ sVar ∧ n ≠ 0) := by
    by_cases a : op = sVar <;> by_cases b : n = 0 <;> simp [a, b]
  rcases key with c3 | ⟨c3, c4⟩ | ⟨c3, c4⟩
  rotate_left 2
  · have hg := hne (b := false) (by simp [nodeOk, c3, c4])
    simp [c1, c2, c3, c4, hg]
    repeat' (first | exact Sub.refl _ | refine Sub.put_both ?_ | refine Sub.alloc h1 ?_ | refine Sub.put h1 ?_ (by simp) | refine Sub.drop h1 ?_ (by simp))
  have hg := hne (b := true) (by simp [nodeOk, c1.symm, c3]; omega)
  rotate_left
  have hg := hne (b := true) (by simp [nodeOk, c1.symm, c4])
  simp only [Bool.true_and] at hg
  · subst c4
    simp [c1, c3]
    exact loop26 _ _ (by simp) (by simp) ⟨_, _, rfl⟩ hg
  · subst c3
    simp [c1, c2]
    exact loop26 _ _ (by simp) (by simp) ⟨_, _, rfl⟩ hg
end Go.Proofs.YtcjlgmknclifmaaDoor.Ab
