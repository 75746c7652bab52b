/- Calls, loops, what is forgotten behind them. -/
import Derived.Test.YtbdnopflbnbhnaaAb16
set_option linter.unusedVariables false
set_option linter.unusedSimpArgs false
namespace Go.Proofs.Ytbdnopflbnbhnaa.Ab
open Go

mutual
theorem AVal.ok.mono {n n' : Nat} (hn : n ≤ n') : ∀ {x : AVal}, x.ok n → x.ok n'
  | .junk, h | .int .., h | .bool _, h | .nilp, h | .nils, h | .nilm, h | .nilf, h | .nili, h => by simp only [AVal.ok]
  | .str _, h => by simp only [AVal.ok] at h ⊢; exact h
  | .ptr .., h => by simp only [AVal.ok] at h ⊢; omega
  | .ref v, h => by simp only [AVal.ok] at h ⊢; exact AVal.ok.mono hn h
  | .vec _ _ xs, h => by simp only [AVal.ok] at h ⊢; exact ⟨h.1, AVal.oks.mono hn h.2⟩
  | .sl .., h => by simp only [AVal.ok] at h ⊢; omega
  | .map _, h => by simp only [AVal.ok] at h ⊢; omega
  | .clo _ xs, h => by simp only [AVal.ok] at h ⊢; exact AVal.oks.mono hn h
  | .iface _ v, h => by simp only [AVal.ok] at h ⊢; exact AVal.ok.mono hn h
  | .agg xs, h => by simp only [AVal.ok] at h ⊢; exact AVal.oks.mono hn h
  | .tup xs, h => by simp only [AVal.ok] at h ⊢; exact AVal.oks.mono hn h
theorem AVal.oks.mono {n n' : Nat} (hn : n ≤ n') : ∀ {xs : List AVal}, AVal.oks n xs → AVal.oks n' xs
  | [], h => by simp only [AVal.oks]
  | x :: xs, h => by simp only [AVal.oks] at h ⊢; exact ⟨AVal.ok.mono hn h.1, AVal.oks.mono hn h.2⟩
end
theorem AObj.ok.mono {n n' : Nat} (hn : n ≤ n') {o : AObj} (h : o.ok n) : o.ok n' := by
  cases o with
  | cells ty cs => exact AVal.oks.mono hn h
  | map es => exact fun p hp => ⟨(h p hp).1.mono hn, (h p hp).2.mono hn⟩
theorem HOk.alloc {h : AHeap} {o : AObj} (hk : HOk h) (ho : o.ok (h.next + 1)) : HOk (h.alloc o) := by
  intro id x hx
  simp only [alloc_at] at hx
  split at hx
  · cases hx; rename_i he; subst he; exact ⟨by simp, ho⟩
  · exact ⟨by have := (hk id x hx).1; simp; omega, (hk id x hx).2.mono (by simp)⟩
theorem HOk.put {h : AHeap} {i : Nat} {o : AObj} (hk : HOk h) (hi : i < h.next) (ho : o.ok h.next) : HOk (h.put i o) := by
  intro id x hx
  simp only [put_at] at hx
  split at hx
  · cases hx; rename_i he; subst he; exact ⟨hi, ho⟩
  · exact hk id x hx
@[simp] theorem Sub.refl (h : AHeap) : Sub h h := ⟨Nat.le_refl _, fun _ _ h => h⟩
theorem Sub.alloc {h h' : AHeap} {o : AObj} (hk : HOk h) (hs : Sub h h') : Sub h (h'.alloc o) :=
  ⟨by have := hs.1; simp; omega, fun id x hx => by
    have h1 := (hk id x hx).1
    have h2 := hs.1
    simp only [alloc_at]; rw [if_neg (by omega)]; exact hs.2 id x hx⟩
theorem Sub.put {h h' : AHeap} {i : Nat} {o : AObj} (hk : HOk h) (hs : Sub h h') (hi : h.next ≤ i) : Sub h (h'.put i o) :=
  ⟨hs.1, fun id x hx => by
    have h1 := (hk id x hx).1
    simp only [put_at]; rw [if_neg (by omega)]; exact hs.2 id x hx⟩
theorem Sub.drop {h h' : AHeap} {i : Nat} (hk : HOk h) (hs : Sub h h') (hi : h.next ≤ i) : Sub h (h'.drop i) :=
  ⟨hs.1, fun id x hx => by
    have h1 := (hk id x hx).1
    simp only [drop_at]; rw [if_neg (by omega)]; exact hs.2 id x hx⟩
theorem Sub.trans {h h' h'' : AHeap} (a : Sub h h') (b : Sub h' h'') : Sub h h'' := ⟨Nat.le_trans a.1 b.1, fun id o ho => b.2 id o (a.2 id o ho)⟩

@[simp] theorem Weak_refl (v : AVal) : Weak v v := .inl rfl
@[simp] theorem Weak_nils (e : Nat) (b : Bool) : Weak .nils (.vec e b []) := .inr (.inr ⟨rfl, e, b, rfl⟩)
@[simp] theorem Weak_junk (v : AVal) : Weak v .junk := .inr (.inl rfl)
/-- The second's temporaries tell less than the first's. -/
def TidyR (ρ : Nat → AVal) (n : Nat) (σ : Nat → AVal) : Prop := ∀ t, Weak (ρ t) (σ t) ∧ (σ t).ok n
@[simp] theorem TidyR_none (ρ : Nat → AVal) (n : Nat) : TidyR ρ n noEnv := fun t => ⟨by simp, by simp [AVal.ok]⟩
theorem TidyR_upd {ρ : Nat → AVal} {n t : Nat} {v : AVal} {σ : Nat → AVal} (h : Weak (ρ t) v ∧ v.ok n) (k : TidyR ρ n σ) : TidyR ρ n (upd σ t v) := by
  intro u
  by_cases hu : u = t
  · subst hu; simpa using h
  · simpa [hu] using k u
theorem Tidy.mk {s : St} {σ : Nat → AVal} {h : AHeap} (h1 : Sub h s.h) (h2 : HOk h) (h3 : TidyR s.ρ h.next σ) : Tidy s ⟨σ, h⟩ := ⟨h1, h2, h3⟩

/-! ### more may be asked -/
theorem aops_mono {P : Program} {K1 K2 : St → Prop} (h12 : ∀ s, K1 s → K2 s) : ∀ (l : List AOper) {s : St}, aops P l K1 s → aops P l K2 s
  | [], s, h => h12 s h
  | o :: l, s, h => aop1_mono (fun s' => aops_mono h12 l) h
theorem adraw_mono {P : Program} {K1 K2 : St → Prop} (h12 : ∀ s, K1 s → K2 s) : ∀ (l : List Stp) {R : List (Nat × AObj)} {s : St}, adraw P l R K1 s → adraw P l R K2 s
  | [], R, s, h => h12 s h
  | .take o :: l, R, s, h => by
    simp only [adraw] at h ⊢
    split at h
    · split at h
      · exact adraw_mono h12 l h
      · exact h.elim
    · split at h
      · refine ⟨fun hb => ?_, fun hb => adraw_mono h12 l (h.2 hb)⟩
        have h1 := h.1 hb
        split at h1
        · exact adraw_mono h12 l h1
        · exact h1.elim
      · exact h.elim
  | .only o ns :: l, R, s, h => aop1_mono (fun s' h' => ⟨h'.1, adraw_mono h12 l h'.2⟩) h
  | .both o p ns :: l, R, s, h => ⟨aop1_mono (fun s' h' => ⟨h'.1, aop1_mono (fun s'' h'' => ⟨h''.1, adraw_mono h12 l h''.2⟩) h'.2⟩) h.1,
      aop1_mono (fun s' h' => ⟨h'.1, aop1_mono (fun s'' h'' => ⟨h''.1, adraw_mono h12 l h''.2⟩) h'.2⟩) h.2⟩
theorem Ev.mono {P : Program} : ∀ {c : ACode} {Q Q' : AExit → St → Prop} {s : St}, (∀ e s', Q e s' → Q' e s') → Ev P c Q s → Ev P c Q' s := by
  intro c
  induction c with
  | skip => intro Q Q' s hq h; exact hq _ _ h
  | ops l => intro Q Q' s hq h; exact aops_mono (fun s' => hq _ s') l h
  | draw l => intro Q Q' s hq h; exact adraw_mono (fun s' => hq _ s') l h
  | seq a b iha ihb =>
    intro Q Q' s hq h
    refine iha (fun e s' k => ?_) h
    cases e with
    | normal => exact ihb hq k
    | exit i => exact hq _ _ k
    | ret => exact hq _ _ k
  | cond c a b iha ihb =>
    intro Q Q' s hq h
    simp only [Ev] at h ⊢
    split at h
    · exact ⟨fun hb => iha hq (h.1 hb), fun hb => ihb hq (h.2 hb)⟩
    · exact h.elim
  | block id c ih =>
    intro Q Q' s hq h
    refine ih (fun e s' k => ?_) h
    cases e with
    | normal => exact hq _ _ k
    | exit i =>
      simp only [blockK] at k ⊢
      by_cases he : i = id
      · rw [if_pos he] at k ⊢; exact hq _ _ k
      · rw [if_neg he] at k ⊢; exact hq _ _ k
    | ret => exact hq _ _ k
  | loop c ih =>
    intro Q Q' s hq h hok
    obtain ⟨ι, I, S, μ, h0, hs⟩ := h hok
    refine ⟨ι, I, S, μ, h0, fun i hi hsi => ih (fun e s' k => ?_) (hs i hi hsi)⟩
    cases e with
    | normal => exact k
    | exit i => exact hq _ _ k
    | ret => exact hq _ _ k
  | exit id => intro Q Q' s hq h; exact hq _ _ h
  | ret => intro Q Q' s hq h; exact hq _ _ h

/-! ### loops -/
theorem Ev_loop {P : Program} {c : ACode} {Q : AExit → St → Prop} {s : St} : Ev P (.loop c) Q s = (SOk s → ∃ (ι : Type) (I : ι → Prop) (S : ι → St) (μ : ι → Nat), (∃ i, I i ∧ s.h.next ≤ (S i).h.next ∧ Tidy s (S i)) ∧
    ∀ i, I i → SOk (S i) → Ev P c (thenK (fun s' => SOk s' → ∃ j, I j ∧ μ j < μ i ∧ s.h.next ≤ (S j).h.next ∧ Tidy s' (S j)) Q) (S i)) := rfl
/-- A loop that counts from 0, over a heap that stays. -/
theorem Ev.count {P : Program} {c : ACode} {Q : AExit → St → Prop} {ρ : Nat → AVal} {h : AHeap} (σ : Nat → Nat → AVal) (n : Nat) (I : Nat → Prop)
    (h0 : SOk ⟨ρ, h⟩ → I 0 ∧ TidyR ρ h.next (σ 0))
    (hs : ∀ i, i ≤ n → I i → SOk ⟨σ i, h⟩ → Ev P c (thenK (fun s' => SOk s' → I (i + 1) ∧ i < n ∧ Sub h s'.h ∧ TidyR s'.ρ h.next (σ (i + 1))) Q) ⟨σ i, h⟩) : Ev P (.loop c) Q ⟨ρ, h⟩ := by
  rw [Ev_loop]
  intro hok
  refine ⟨Nat, fun i => i ≤ n ∧ I i, fun i => ⟨σ i, h⟩, fun i => n - i, ⟨0, ⟨Nat.zero_le _, (h0 hok).1⟩, Nat.le_refl _, .mk (Sub.refl _) hok.1 (h0 hok).2⟩, fun i hi hsi => ?_⟩
  refine Ev.mono ?_ (hs i hi.1 hi.2 hsi)
  intro e s' hq
  cases e with
  | normal =>
    intro hs'
    obtain ⟨k1, k2, k3, k4⟩ := hq hs'
    exact ⟨i + 1, ⟨by omega, k1⟩, by show n - (i + 1) < n - i; omega, Nat.le_refl _, .mk k3 hok.1 k4⟩
  | exit i => exact hq
  | ret => exact hq

/-! ### calls -/
def Returns (P : Program) (f : FuncId) (args : List AVal) (h : AHeap) (v : AVal) (h' : AHeap) : Prop := ACalls P f args h fun x hx => x = v ∧ hx = h'
theorem Returns.to {P : Program} {f : FuncId} {args : List AVal} {h h' : AHeap} {v : AVal} {Q : AVal → AHeap → Prop} (hc : Returns P f args h v h') (hq : Q v h') : ACalls P f args h Q :=
  hc.mono fun x hx _ hr => by rw [hr.1, hr.2]; exact hq
/-- A function that leaves memory as it was. -/
theorem Returns.pure {P : Program} {f : FuncId} {n : Nat} {ac : ACode} {rs : List RVar} (hf : fnCode P f = some (n, ac, rs)) {args : List AVal} {h : AHeap} {r : AVal} (hl : args.length ≤ n)
    (hk : HOk h → AVal.oks h.next args → r.ok h.next ∧ Ev P ac (retK rs fun v h' => v = r ∧ Sub h h') ⟨argsFrom 0 args, h⟩) : Returns P f args h r h :=
  ACalls.facts (isBody_of hf) fun h1 h2 =>
    (acalls_of hf hl (hk h1 h2).2).shed fun v h' hn _ hk' _ hr => ⟨r, h, ⟨hr.2, h1, .inl hr.1.symm, (hk h1 h2).1⟩, Nat.le_refl _, rfl, rfl⟩
end Go.Proofs.Ytbdnopflbnbhnaa.Ab
