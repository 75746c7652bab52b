/- Calls, loops, what is forgotten behind them. -/
import Derived.Test.YtcjlgmknclifmaaDoorAb16
set_option linter.unusedVariables false
set_option linter.unusedSimpArgs false
namespace Go.Proofs.YtcjlgmknclifmaaDoor.Ab
open Go

mutual
theorem AVal.ok.mono {n n' : Nat} (hn : n ≤ n') : ∀ {x : AVal}, x.ok n → x.ok n'
  | .junk, h | .int .., h | .bool _, h | .anyb, h | .nilp, h | .nils, h | .nilm, h | .nilf, h | .nili, h => by simp only [AVal.ok]
  | .str _, h => by simp only [AVal.ok] at h ⊢; exact h
  | .ptr .., h => by simp only [AVal.ok] at h ⊢; omega
  | .ref v, h => by simp only [AVal.ok] at h ⊢; exact AVal.ok.mono hn h
  | .vec _ _ xs, h => by simp only [AVal.ok] at h ⊢; exact ⟨h.1, AVal.oks.mono hn h.2⟩
  | .sl .., h => by simp only [AVal.ok] at h ⊢; omega
  | .map _, h => by simp only [AVal.ok] at h ⊢; omega
  | .clo _ xs, h => by simp only [AVal.ok] at h ⊢; exact AVal.oks.mono hn h
  | .iface _ v, h => by simp only [AVal.ok] at h ⊢; exact AVal.ok.mono hn h
  | .agg xs, h => by simp only [AVal.ok] at h ⊢; exact AVal.oks.mono hn h
  | .tup xs, h => by simp only [AVal.ok] at h ⊢; exact AVal.oks.mono hn h
theorem AVal.oks.mono {n n' : Nat} (hn : n ≤ n') : ∀ {xs : List AVal}, AVal.oks n xs → AVal.oks n' xs
  | [], h => by simp only [AVal.oks]
  | x :: xs, h => by simp only [AVal.oks] at h ⊢; exact ⟨AVal.ok.mono hn h.1, AVal.oks.mono hn h.2⟩
end
theorem AObj.ok.mono {n n' : Nat} (hn : n ≤ n') {o : AObj} (h : o.ok n) : o.ok n' := by
  cases o with
  | cells ty cs => exact AVal.oks.mono hn h
  | map es => exact fun p hp => ⟨(h p hp).1.mono hn, (h p hp).2.mono hn⟩
theorem HOk.alloc {h : AHeap} {o : AObj} (hk : HOk h) (ho : o.ok (h.next + 1)) : HOk (h.alloc o) := by
  intro id x hx
  simp only [alloc_at] at hx
  split at hx
  · cases hx; rename_i he; subst he; exact ⟨by simp, ho⟩
  · exact ⟨by have := (hk id x hx).1; simp; omega, (hk id x hx).2.mono (by simp)⟩
theorem HOk.put {h : AHeap} {i : Nat} {o : AObj} (hk : HOk h) (hi : i < h.next) (ho : o.ok h.next) : HOk (h.put i o) := by
  intro id x hx
  simp only [put_at] at hx
  split at hx
  · cases hx; rename_i he; subst he; exact ⟨hi, ho⟩
  · exact hk id x hx
@[simp] theorem Sub.refl (h : AHeap) : Sub h h := ⟨Nat.le_refl _, fun _ _ h => h⟩
theorem Sub.alloc {h h' : AHeap} {o : AObj} (hk : HOk h) (hs : Sub h h') : Sub h (h'.alloc o) :=
  ⟨by have := hs.1; simp; omega, fun id x hx => by
    have h1 := (hk id x hx).1
    have h2 := hs.1
    simp only [alloc_at]; rw [if_neg (by omega)]; exact hs.2 id x hx⟩
theorem Sub.put {h h' : AHeap} {i : Nat} {o : AObj} (hk : HOk h) (hs : Sub h h') (hi : h.next ≤ i) : Sub h (h'.put i o) :=
  ⟨hs.1, fun id x hx => by
    have h1 := (hk id x hx).1
    simp only [put_at]; rw [if_neg (by omega)]; exact hs.2 id x hx⟩
theorem Sub.drop {h h' : AHeap} {i : Nat} (hk : HOk h) (hs : Sub h h') (hi : h.next ≤ i) : Sub h (h'.drop i) :=
  ⟨hs.1, fun id x hx => by
    have h1 := (hk id x hx).1
    simp only [drop_at]; rw [if_neg (by omega)]; exact hs.2 id x hx⟩
theorem Sub.trans {h h' h'' : AHeap} (a : Sub h h') (b : Sub h' h'') : Sub h h'' := ⟨Nat.le_trans a.1 b.1, fun id o ho => b.2 id o (a.2 id o ho)⟩

@[simp] theorem Weak_refl (v : AVal) : Weak v v := .inl rfl
@[simp] theorem Weak_nils (e : Nat) (b : Bool) : Weak .nils (.vec e b []) := .inr (.inr (.inl ⟨rfl, e, b, rfl⟩))
@[simp] theorem Weak_empty (e id off : Nat) (c : Option Nat) : Weak (.sl e id off 0 c) (.vec e false []) := .inr (.inr (.inr ⟨e, id, off, c, rfl, rfl⟩))
@[simp] theorem Weak_junk (v : AVal) : Weak v .junk := .inr (.inl rfl)
/-- The second's temporaries tell less than the first's. -/
def TidyR (ρ : Nat → AVal) (n : Nat) (σ : Nat → AVal) : Prop := ∀ t, Weak (ρ t) (σ t) ∧ (σ t).ok n
@[simp] theorem TidyR_none (ρ : Nat → AVal) (n : Nat) : TidyR ρ n noEnv := fun t => ⟨by simp, by simp [AVal.ok]⟩
theorem TidyR_upd {ρ : Nat → AVal} {n t : Nat} {v : AVal} {σ : Nat → AVal} (h : Weak (ρ t) v ∧ v.ok n) (k : TidyR ρ n σ) : TidyR ρ n (upd σ t v) := by
  intro u
  by_cases hu : u = t
  · subst hu; simpa using h
  · simpa [hu] using k u
mutual
theorem ren_ok {n : Nat} {π : Nat → Nat} (hp : ∀ id, id < n → π id = id) : ∀ (x : AVal), x.ok n → x.ren π = x
  | .junk, _ | .int .., _ | .bool _, _ | .anyb, _ | .str _, _ | .nilp, _ | .nils, _ | .nilm, _ | .nilf, _ | .nili, _ => by simp only [AVal.ren]
  | .ptr id _, h => by simp only [AVal.ok] at h; simp only [AVal.ren, hp id h]
  | .ref v, h => by simp only [AVal.ok] at h; simp only [AVal.ren, ren_ok hp v h]
  | .vec _ _ xs, h => by simp only [AVal.ok] at h; simp only [AVal.ren, rens_ok hp xs h.2]
  | .sl _ id _ _ _, h => by simp only [AVal.ok] at h; simp only [AVal.ren, hp id h.1]
  | .map id, h => by simp only [AVal.ok] at h; simp only [AVal.ren, hp id h]
  | .clo _ xs, h => by simp only [AVal.ok] at h; simp only [AVal.ren, rens_ok hp xs h]
  | .iface _ v, h => by simp only [AVal.ok] at h; simp only [AVal.ren, ren_ok hp v h]
  | .agg xs, h => by simp only [AVal.ok] at h; simp only [AVal.ren, rens_ok hp xs h]
  | .tup xs, h => by simp only [AVal.ok] at h; simp only [AVal.ren, rens_ok hp xs h]
theorem rens_ok {n : Nat} {π : Nat → Nat} (hp : ∀ id, id < n → π id = id) : ∀ (xs : List AVal), AVal.oks n xs → AVal.rens π xs = xs
  | [], _ => by simp only [AVal.rens]
  | x :: xs, h => by simp only [AVal.oks] at h; simp only [AVal.rens, ren_ok hp x h.1, rens_ok hp xs h.2]
end
theorem AObj.ren_ok {n : Nat} {π : Nat → Nat} (hp : ∀ id, id < n → π id = id) {o : AObj} (h : o.ok n) : o.ren π = o := by
  cases o with
  | cells ty cs => simp only [AObj.ren, AObj.ok] at h ⊢; rw [rens_ok hp cs h]
  | map es =>
    simp only [AObj.ren, AObj.ok] at h ⊢
    congr 1
    exact (List.map_congr_left (g := id) fun p hq => by rw [Ab.ren_ok hp _ (h p hq).1, Ab.ren_ok hp _ (h p hq).2]; rfl).trans (List.map_id _)
/-- All by the numbers they have. -/
theorem Renamed.of_sub {n : Nat} {h h' : AHeap} (hs : Sub h' h) (hk : HOk h') (hn : n ≤ h'.next) : Renamed n (fun i => i) h h' :=
  ⟨fun _ _ => rfl, fun _ _ _ _ h => h, hn, hk, fun id o ho => by rw [AObj.ren_ok (n := h'.next) (fun _ _ => rfl) (hk id o ho).2]; exact hs.2 id o ho⟩
theorem Tidy.mk {n : Nat} {s : St} {σ : Nat → AVal} {h : AHeap} (hn : n ≤ h.next) (h1 : Sub h s.h) (h2 : HOk h) (h3 : TidyR s.ρ h.next σ) : Tidy n s ⟨σ, h⟩ :=
  ⟨_, _, RenZ.of (Renamed.of_sub h1 h2 hn), fun t => ⟨by rw [ren_ok (n := h.next) (fun _ _ => rfl) _ (h3 t).2]; exact .of_weak (h3 t).1, (h3 t).2⟩⟩
/-- One block more, k in the second. -/
def at1 (k id0 : Nat) : Nat → Nat := fun i => if i = k then id0 else i
@[simp] theorem at1_self (k id0 : Nat) : at1 k id0 k = id0 := by simp [at1]
theorem at1_ne {k id0 i : Nat} (h : i ≠ k) : at1 k id0 i = i := by simp [at1, h]
theorem Renamed.new {n : Nat} {h base : AHeap} {o : AObj} {id0 : Nat} (hb : HOk base) (hs : Sub base h) (hn : n ≤ base.next) (hid : base.next ≤ id0) (ho : h.f id0 = some o) (hk : o.ok base.next) : Renamed n (at1 base.next id0) h (base.alloc o) := by
  refine ⟨fun id hlt => at1_ne (by omega), fun i j hi hj e => ?_, by simp; omega, hb.alloc (hk.mono (by simp)), fun id x hx => ?_⟩
  · simp only [at1, alloc_next] at e hi hj
    split at e <;> split at e <;> omega
  · simp only [alloc_at] at hx
    by_cases he : id = base.next
    · subst he
      simp only [if_true, Option.some.injEq] at hx
      subst hx
      rw [at1_self, AObj.ren_ok (fun i hi => at1_ne (by omega)) hk]
      exact ho
    · rw [if_neg he] at hx
      rw [at1_ne he, AObj.ren_ok (fun i hi => at1_ne (by omega)) (hb id x hx).2]
      exact hs.2 id x hx
/-- The second's temporaries tell less than the first's, one block being k there. -/
def TidyN (ρ : Nat → AVal) (k id0 : Nat) (σ : Nat → AVal) : Prop := ∀ t, Weak (ρ t) ((σ t).ren (at1 k id0)) ∧ (σ t).ok (k + 1)
@[simp] theorem TidyN_none (ρ : Nat → AVal) (k id0 : Nat) : TidyN ρ k id0 noEnv := fun t => ⟨by simp [AVal.ren], by simp [AVal.ok]⟩
theorem TidyN_upd {ρ : Nat → AVal} {k id0 t : Nat} {v : AVal} {σ : Nat → AVal} (h : Weak (ρ t) (v.ren (at1 k id0)) ∧ v.ok (k + 1)) (l : TidyN ρ k id0 σ) : TidyN ρ k id0 (upd σ t v) := by
  intro u
  by_cases hu : u = t
  · subst hu; simpa using h
  · simpa [hu] using l u
theorem Tidy.new {n : Nat} {s : St} {σ : Nat → AVal} {base : AHeap} {o : AObj} {id0 : Nat} (hb : HOk base) (hs : Sub base s.h) (hn : n ≤ base.next) (hid : base.next ≤ id0) (ho : s.h.f id0 = some o) (hk : o.ok base.next) (h3 : TidyN s.ρ base.next id0 σ) : Tidy n s ⟨σ, base.alloc o⟩ :=
  ⟨_, _, RenZ.of (Renamed.new hb hs hn hid ho hk), fun t => ⟨.of_weak (h3 t).1, (h3 t).2⟩⟩

/-! ### more may be asked -/
theorem aops_mono {P : Program} {K1 K2 : St → Prop} (h12 : ∀ s, K1 s → K2 s) : ∀ (l : List AOper) {s : St}, aops P l K1 s → aops P l K2 s
  | [], s, h => h12 s h
  | o :: l, s, h => aop1_mono (fun s' => aops_mono h12 l) h
theorem adraw_mono {P : Program} {K1 K2 : St → Prop} (h12 : ∀ s, K1 s → K2 s) : ∀ (l : Pl) {R : List (Nat × AObj)} {s : St}, adraw P l R K1 s → adraw P l R K2 s
  | .nil, R, s, h => h12 s h
  | .take o l, R, s, h => by
    simp only [adraw] at h ⊢
    split at h
    · split at h
      · exact adraw_mono h12 l h
      · exact h.elim
    · split at h
      · refine ⟨fun hb => ?_, fun hb => adraw_mono h12 l (h.2 hb)⟩
        have h1 := h.1 hb
        split at h1
        · exact adraw_mono h12 l h1
        · exact h1.elim
      · exact h.elim
  | .only o ns l, R, s, h => aop1_mono (fun s' h' => ⟨h'.1, adraw_mono h12 l h'.2⟩) h
  | .both o p ns l, R, s, h => ⟨aop1_mono (fun s' h' => ⟨h'.1, aop1_mono (fun s'' h'' => ⟨h''.1, adraw_mono h12 l h''.2⟩) h'.2⟩) h.1,
      aop1_mono (fun s' h' => ⟨h'.1, aop1_mono (fun s'' h'' => ⟨h''.1, adraw_mono h12 l h''.2⟩) h'.2⟩) h.2⟩
  | .alt o ns l l', R, s, h => ⟨aop1_mono (fun s' h' => ⟨h'.1, adraw_mono h12 l h'.2⟩) h.1, adraw_mono h12 l' h.2⟩
theorem Ev.mono {P : Program} {N : Nat} : ∀ {c : ACode} {Q Q' : AExit → St → Prop} {s : St}, (∀ e s', Q e s' → Q' e s') → Ev P N c Q s → Ev P N c Q' s := by
  intro c
  induction c with
  | skip => intro Q Q' s hq h; exact hq _ _ h
  | ops l => intro Q Q' s hq h; exact aops_mono (fun s' => hq _ s') l h
  | draw l => intro Q Q' s hq h; exact adraw_mono (fun s' => hq _ s') l h
  | seq a b iha ihb =>
    intro Q Q' s hq h
    refine iha (fun e s' k => ?_) h
    cases e with
    | normal => exact ihb hq k
    | exit i => exact hq _ _ k
    | ret => exact hq _ _ k
  | cond c a b iha ihb =>
    intro Q Q' s hq h
    simp only [Ev] at h ⊢
    split at h
    · exact ⟨fun hb => iha hq (h.1 hb), fun hb => ihb hq (h.2 hb)⟩
    · exact ⟨iha hq h.1, ihb hq h.2⟩
    · exact h.elim
  | block id c ih =>
    intro Q Q' s hq h
    refine ih (fun e s' k => ?_) h
    cases e with
    | normal => exact hq _ _ k
    | exit i =>
      simp only [blockK] at k ⊢
      by_cases he : i = id
      · rw [if_pos he] at k ⊢; exact hq _ _ k
      · rw [if_neg he] at k ⊢; exact hq _ _ k
    | ret => exact hq _ _ k
  | loop c ih =>
    intro Q Q' s hq h hok hN
    obtain ⟨ι, I, S, μ, h0, hs⟩ := h hok hN
    refine ⟨ι, I, S, μ, h0, fun i hi hsi => ih (fun e s' k => ?_) (hs i hi hsi)⟩
    cases e with
    | normal => exact k
    | exit i => exact hq _ _ k
    | ret => exact hq _ _ k
  | exit id => intro Q Q' s hq h; exact hq _ _ h
  | ret => intro Q Q' s hq h; exact hq _ _ h
  | bad => intro Q Q' s hq h; exact h.elim

/-! ### loops -/
theorem Ev_loop {P : Program} {N : Nat} {c : ACode} {Q : AExit → St → Prop} {s : St} : Ev P N (.loop c) Q s = (SOk s → N ≤ s.h.next → ∃ (ι : Type) (I : ι → Prop) (S : ι → St) (μ : ι → Nat), (∃ i, I i ∧ Tidy N s (S i)) ∧
    ∀ i, I i → SOk (S i) → Ev P N c (thenK (fun s' => SOk s' → ∃ j, I j ∧ μ j < μ i ∧ Tidy N s' (S j)) Q) (S i)) := rfl
/-- A loop that counts from 0, over a heap that stays. -/
theorem Ev.count {P : Program} {N : Nat} {c : ACode} {Q : AExit → St → Prop} {ρ : Nat → AVal} {h : AHeap} (σ : Nat → Nat → AVal) (n : Nat) (I : Nat → Prop)
    (h0 : SOk ⟨ρ, h⟩ → I 0 ∧ TidyR ρ h.next (σ 0))
    (hs : ∀ i, i ≤ n → I i → SOk ⟨σ i, h⟩ → Ev P N c (thenK (fun s' => SOk s' → I (i + 1) ∧ i < n ∧ Sub h s'.h ∧ TidyR s'.ρ h.next (σ (i + 1))) Q) ⟨σ i, h⟩) : Ev P N (.loop c) Q ⟨ρ, h⟩ := by
  rw [Ev_loop]
  intro hok hN
  refine ⟨Nat, fun i => i ≤ n ∧ I i, fun i => ⟨σ i, h⟩, fun i => n - i, ⟨0, ⟨Nat.zero_le _, (h0 hok).1⟩, .mk hN (Sub.refl _) hok.1 (h0 hok).2⟩, fun i hi hsi => ?_⟩
  refine Ev.mono ?_ (hs i hi.1 hi.2 hsi)
  intro e s' hq
  cases e with
  | normal =>
    intro hs'
    obtain ⟨k1, k2, k3, k4⟩ := hq hs'
    exact ⟨i + 1, ⟨by omega, k1⟩, by show n - (i + 1) < n - i; omega, .mk hN k3 hok.1 k4⟩
  | exit i => exact hq
  | ret => exact hq

/-! ### calls -/
def Returns (P : Program) (f : FuncId) (args : List AVal) (h : AHeap) (v : AVal) (h' : AHeap) : Prop := ACalls P f args h fun x hx => x = v ∧ hx = h'
theorem Returns.to {P : Program} {f : FuncId} {args : List AVal} {h h' : AHeap} {v : AVal} {Q : AVal → AHeap → Prop} (hc : Returns P f args h v h') (hq : Q v h') : ACalls P f args h Q :=
  hc.mono fun x hx _ hr => by rw [hr.1, hr.2]; exact hq
/-- A function that leaves memory as it was. -/
theorem Returns.pure {P : Program} {f : FuncId} {n : Nat} {ac : ACode} {rs : List RVar} (hf : fnCode P f = some (n, ac, rs)) {args : List AVal} {h : AHeap} {r : AVal} (hl : args.length ≤ n)
    (hk : HOk h → AVal.oks h.next args → r.ok h.next ∧ Ev P h.next ac (retK rs fun v h' => v = r ∧ Sub h h') ⟨argsFrom 0 args, h⟩) : Returns P f args h r h :=
  ACalls.facts (isBody_of hf) fun h1 h2 =>
    (acalls_of hf hl (hk h1 h2).2).shed fun v h' hn _ hk' _ hr => ⟨r, h, ⟨_, _, RenZ.of (Renamed.of_sub hr.2 h1 (Nat.le_refl _)), by rw [ren_ok (n := h.next) (fun _ _ => rfl) _ (hk h1 h2).1, hr.1]; exact .refl _, (hk h1 h2).1⟩, rfl, rfl⟩
/-- A function that makes one block, and leaves all else as it was. -/
theorem Returns.new {P : Program} {f : FuncId} {n : Nat} {ac : ACode} {rs : List RVar} (hf : fnCode P f = some (n, ac, rs)) {args : List AVal} {h : AHeap} {r : AVal} {o : AObj} (hl : args.length ≤ n)
    (hk : HOk h → AVal.oks h.next args → r.ok (h.next + 1) ∧ o.ok h.next ∧ Ev P h.next ac (retK rs fun v h' => ∃ id, v = r.ren (at1 h.next id) ∧ h.next ≤ id ∧ h'.f id = some o ∧ Sub h h') ⟨argsFrom 0 args, h⟩) : Returns P f args h r (h.alloc o) :=
  ACalls.facts (isBody_of hf) fun h1 h2 =>
    (acalls_of hf hl (hk h1 h2).2.2).shed fun v h' hn _ hk' _ ⟨id, hv, hid, ho, hs⟩ => ⟨r, h.alloc o, ⟨_, _, RenZ.of (Renamed.new h1 hs (Nat.le_refl _) hid ho (hk h1 h2).2.1), by rw [hv]; exact .refl _, (hk h1 h2).1⟩, rfl, rfl⟩
end Go.Proofs.YtcjlgmknclifmaaDoor.Ab
