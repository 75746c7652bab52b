/- What is never written again, by value: rules. -/
import Derived.Test.YtcjlgmknclifmaaDoorAb19
set_option linter.unusedVariables false
set_option linter.unusedSimpArgs false
namespace Go.Proofs.YtcjlgmknclifmaaDoor.Ab
open Go

/-- All blocks from k on. -/
def newZ (k : Nat) : Nat → Prop := fun id => k ≤ id
@[simp] theorem newZ_at (k id : Nat) : newZ k id = (k ≤ id) := rfl
/-- All blocks from k on but one. -/
def newZ1 (k id0 : Nat) : Nat → Prop := fun id => k ≤ id ∧ id ≠ id0
@[simp] theorem newZ1_at (k id0 id : Nat) : newZ1 k id0 id = (k ≤ id ∧ id ≠ id0) := rfl
section
variable {Z : Nat → Prop} {h : AHeap}
@[simp] theorem Le_refl (v : AVal) : Le Z h v v := .refl v
@[simp] theorem Le_junk (v : AVal) : Le Z h v .junk := .junk v
@[simp] theorem Le_nils (e : Nat) (b : Bool) : Le Z h .nils (.vec e b []) := .nils e b
@[simp] theorem Le_empty (e id off : Nat) (c : Option Nat) : Le Z h (.sl e id off 0 c) (.vec e false []) := .empty e id off c
@[simp] theorem Les_refl (xs : List AVal) : Les Z h xs xs := les_refl xs
@[simp] theorem Les_nil : Les Z h [] [] := .nil
@[simp] theorem Les_cons (x y : AVal) (xs ys : List AVal) : Les Z h (x :: xs) (y :: ys) ↔ Le Z h x y ∧ Les Z h xs ys := ⟨fun h => by cases h; exact ⟨‹_›, ‹_›⟩, fun h => .cons h.1 h.2⟩
@[simp] theorem Le_agg (xs ys : List AVal) (hl : Les Z h xs ys) : Le Z h (.agg xs) (.agg ys) := .agg hl
@[simp] theorem Le_tup (xs ys : List AVal) (hl : Les Z h xs ys) : Le Z h (.tup xs) (.tup ys) := .tup hl
@[simp] theorem Le_vecf (e : Nat) (b : Bool) (xs : List AVal) : Le Z h (.vec e b xs) (.vec e false xs) := .vec (by simp) (les_refl _)
theorem Le.frz {id off len : Nat} {c : Option Nat} {xs : List AVal} (hz : Z id) (hs : slO (h.f id) 1 off len = some xs) : Le Z h (.sl 1 id off len c) (.vec 1 false xs) := by
  unfold slO at hs
  split at hs
  · rename_i ty cs ho
    split at hs
    · rename_i hl
      rw [Nat.mul_one] at hl hs
      cases hs
      exact .frz1 hz ho hl (les_refl _)
    · cases hs
  · cases hs
/-- A whole block. -/
theorem Le.frzw {id n : Nat} {c : Option Nat} (ty : TypeId) {xs : List AVal} (hz : Z id) (ho : h.f id = some (.cells ty xs)) (hn : xs.length = n) : Le Z h (.sl 1 id 0 n c) (.vec 1 false xs) :=
  .frz hz (by rw [ho, slO_cells, if_pos (by omega), ← hn]; simp)
/-- A slice of structures. -/
theorem Le.frzs {e id off len : Nat} {c : Option Nat} {ty : TypeId} {cs : List AVal} (ys : List (List AVal)) (hz : Z id) (ho : h.f id = some (.cells ty cs)) (he : 0 < e) (hye : ∀ y ∈ ys, y.length = e) (hyl : ys.length = len) (hl : off + len * e ≤ cs.length) (hs : (cs.drop off).take (len * e) = ys.flatten) :
    Le Z h (.sl e id off len c) (.vec e false (ys.map .agg)) := .frzN hz ho he hl hyl hye (by rw [hs]; exact les_refl _)
end

@[simp] theorem Held_logR (R : List (Nat × AObj)) (h : AHeap) (o : Option Nat) : Held (logR R h o) h = Held R h := by
  cases o with
  | none => rfl
  | some id =>
    simp only [logR_some]
    cases ho : h.f id with
    | none => rfl
    | some x => simp [logO, ho]

@[simp] theorem retV_tmp4 {s : St} {t u v x : Nat} : retV [.tmp t, .tmp u, .tmp v, .tmp x] s = some (.tup [s.ρ t, s.ρ u, s.ρ v, s.ρ x]) := (rfl)
@[simp] theorem retV_tmp5 {s : St} {t u v x y : Nat} : retV [.tmp t, .tmp u, .tmp v, .tmp x, .tmp y] s = some (.tup [s.ρ t, s.ρ u, s.ρ v, s.ρ x, s.ρ y]) := (rfl)
@[simp] theorem retV_cell_tmp2 {s : St} {a t u : Nat} {n : Option Nat} : retV [.cell a n, .tmp t, .tmp u] s = (loadV s.h n (s.ρ a)).map fun v => .tup [v, s.ρ t, s.ρ u] := by simp only [retV, retVs]; cases loadV s.h n (s.ρ a) <;> rfl
@[simp] theorem retV_tmp_cell {s : St} {a t : Nat} {n : Option Nat} : retV [.tmp t, .cell a n] s = (loadV s.h n (s.ρ a)).map fun v => .tup [s.ρ t, v] := by simp only [retV, retVs]; cases loadV s.h n (s.ρ a) <;> rfl

@[simp] theorem alloc_put' (h : AHeap) (i : Nat) (o o' : AObj) (hi : i = h.next) : (h.alloc o).put i o' = h.alloc o' := by subst hi; exact alloc_put h o o'
theorem Sub.put_both {h h' : AHeap} {i : Nat} {o : AObj} (hs : Sub h h') : Sub (h.put i o) (h'.put i o) := ⟨hs.1, fun id x hx => by
  simp only [put_at] at hx ⊢
  split
  · rename_i he; rw [if_pos he] at hx; exact hx
  · rename_i he; rw [if_neg he] at hx; exact hs.2 id x hx⟩

/-! ### states by value -/
def TidyV (Z : Nat → Prop) (h : AHeap) (ρ : Nat → AVal) (n : Nat) (σ : Nat → AVal) : Prop := ∀ t, Le Z h (ρ t) (σ t) ∧ (σ t).ok n
@[simp] theorem TidyV_none (Z : Nat → Prop) (h : AHeap) (ρ : Nat → AVal) (n : Nat) : TidyV Z h ρ n noEnv := fun t => ⟨by simp, by simp [AVal.ok]⟩
theorem TidyV_upd {Z : Nat → Prop} {h : AHeap} {ρ : Nat → AVal} {n t : Nat} {v : AVal} {σ : Nat → AVal} (h1 : Le Z h (ρ t) v ∧ v.ok n) (k : TidyV Z h ρ n σ) : TidyV Z h ρ n (upd σ t v) := by
  intro u
  by_cases hu : u = t
  · subst hu; simpa using h1
  · simpa [hu] using k u
/-- The old blocks, maybe turned; what came behind by value. -/
def Chg (k : Nat) (h hr : AHeap) : Prop := ∀ id o, hr.f id = some o → ∃ o0, h.f id = some o0 ∧ OLe (newZ k) h o0 o
theorem Chg.of_sub {h hr : AHeap} (hs : Sub hr h) : Chg hr.next h hr := fun id o ho => ⟨o, hs.2 id o ho, ole_refl o⟩
theorem RenZ.chg {n : Nat} {h hr : AHeap} (hn : n ≤ hr.next) (hk : HOk hr) (hc : Chg hr.next h hr) : RenZ n (fun i => i) (newZ hr.next) h hr :=
  ⟨fun _ _ => rfl, fun _ _ _ _ h => h, hn, hk, fun id o ho => ⟨by have := (hk id o ho).1; simp only [newZ_at]; omega, by
    obtain ⟨o0, h1, h2⟩ := hc id o ho
    exact ⟨o0, h1, by rw [AObj.ren_ok (n := hr.next) (fun _ _ => rfl) (hk id o ho).2]; exact h2⟩⟩⟩
theorem Tidy.chg {n : Nat} {s : St} {σ : Nat → AVal} {hr : AHeap} (hn : n ≤ hr.next) (hk : HOk hr) (hc : Chg hr.next s.h hr) (h3 : TidyV (newZ hr.next) s.h s.ρ hr.next σ) : Tidy n s ⟨σ, hr⟩ :=
  ⟨_, _, RenZ.chg hn hk hc, fun t => ⟨by rw [ren_ok (n := hr.next) (fun _ _ => rfl) _ (h3 t).2]; exact (h3 t).1, (h3 t).2⟩⟩
theorem Tidy.val {n : Nat} {s : St} {σ : Nat → AVal} {h : AHeap} (hn : n ≤ h.next) (hs : Sub h s.h) (hk : HOk h) (h3 : TidyV (newZ h.next) s.h s.ρ h.next σ) : Tidy n s ⟨σ, h⟩ :=
  .chg hn hk (.of_sub hs) h3
/-! #### one block more -/
def TidyW (Z : Nat → Prop) (h : AHeap) (ρ : Nat → AVal) (k id0 : Nat) (σ : Nat → AVal) : Prop := ∀ t, Le Z h (ρ t) ((σ t).ren (at1 k id0)) ∧ (σ t).ok (k + 1)
@[simp] theorem TidyW_none (Z : Nat → Prop) (h : AHeap) (ρ : Nat → AVal) (k id0 : Nat) : TidyW Z h ρ k id0 noEnv := fun t => ⟨by simp [AVal.ren], by simp [AVal.ok]⟩
theorem TidyW_upd {Z : Nat → Prop} {h : AHeap} {ρ : Nat → AVal} {k id0 t : Nat} {v : AVal} {σ : Nat → AVal} (h1 : Le Z h (ρ t) (v.ren (at1 k id0)) ∧ v.ok (k + 1)) (l : TidyW Z h ρ k id0 σ) : TidyW Z h ρ k id0 (upd σ t v) := by
  intro u
  by_cases hu : u = t
  · subst hu; simpa using h1
  · simpa [hu] using l u
/-- The old blocks, maybe turned, and one more; all else by value. -/
def Chg1 (id0 : Nat) (h base : AHeap) : Prop := ∀ id o, base.f id = some o → ∃ o0, h.f id = some o0 ∧ OLe (newZ1 base.next id0) h o0 (o.ren (at1 base.next id0))
theorem Chg1.of_sub {id0 : Nat} {h base : AHeap} (hb : HOk base) (hs : Sub base h) : Chg1 id0 h base := fun id o ho => ⟨o, hs.2 id o ho, by
  rw [AObj.ren_ok (n := base.next) (fun i hi => at1_ne (by omega)) (hb id o ho).2]; exact ole_refl o⟩
theorem RenZ.one {n : Nat} {h base : AHeap} {o o0 : AObj} {id0 : Nat} (hn : n ≤ base.next) (hk : HOk (base.alloc o)) (hc : Chg1 id0 h base) (hid : base.next ≤ id0) (ho : h.f id0 = some o0) (hol : OLe (newZ1 base.next id0) h o0 (o.ren (at1 base.next id0))) (hlt : ∀ id x, base.f id = some x → id < base.next) : RenZ n (at1 base.next id0) (newZ1 base.next id0) h (base.alloc o) := by
  refine ⟨fun id hlt => at1_ne (by omega), fun i j hi hj e => ?_, by simp; omega, hk, fun id x hx => ?_⟩
  · simp only [at1, alloc_next] at e hi hj
    split at e <;> split at e <;> omega
  · simp only [alloc_at] at hx
    by_cases he : id = base.next
    · subst he
      simp only [if_true, Option.some.injEq] at hx
      subst hx
      rw [at1_self]
      exact ⟨by simp, o0, ho, hol⟩
    · rw [if_neg he] at hx
      have := hlt id x hx
      rw [at1_ne he]
      exact ⟨by simp only [newZ1_at]; omega, hc id x hx⟩
theorem Tidy.one {n : Nat} {s : St} {σ : Nat → AVal} {base : AHeap} {o o0 : AObj} {id0 : Nat} (hn : n ≤ base.next) (hb : HOk base) (hs : Sub base s.h) (hid : base.next ≤ id0) (ho : s.h.f id0 = some o0) (hk : o.ok (base.next + 1)) (hol : OLe (newZ1 base.next id0) s.h o0 (o.ren (at1 base.next id0)))
    (h3 : TidyW (newZ1 base.next id0) s.h s.ρ base.next id0 σ) : Tidy n s ⟨σ, base.alloc o⟩ :=
  ⟨_, _, RenZ.one hn (hb.alloc hk) (.of_sub hb hs) hid ho hol (fun id x hx => (hb id x hx).1), h3⟩

theorem Tidy.own {n : Nat} {s : St} {σ : Nat → AVal} {base : AHeap} {o : AObj} (id0 : Nat) (hn : n ≤ base.next) (hb : HOk base) (hs : Sub base s.h) (hid : base.next ≤ id0) (ho : s.h.f id0 = some o) (hk : o.ok base.next)
    (h3 : TidyW (newZ1 base.next id0) s.h s.ρ base.next id0 σ) : Tidy n s ⟨σ, base.alloc o⟩ :=
  .one hn hb hs hid ho (hk.mono (by simp)) (by rw [AObj.ren_ok (fun i hi => at1_ne (by omega)) hk]; exact ole_refl _) h3
@[simp] theorem oks_append (n : Nat) (xs ys : List AVal) : AVal.oks n (xs ++ ys) ↔ AVal.oks n xs ∧ AVal.oks n ys := by
  simp only [oks_iff, List.mem_append]
  exact ⟨fun h => ⟨fun x hx => h x (.inl hx), fun x hx => h x (.inr hx)⟩, fun h x hx => hx.elim (h.1 x) (h.2 x)⟩

/-! ### loops by value -/
/-- A loop over a heap that stays; all else by value. -/
theorem Ev.vals {P : Program} {N : Nat} {c : ACode} {Q : AExit → St → Prop} {ρ : Nat → AVal} {h : AHeap} {ι : Type} (I : ι → Prop) (σ : ι → Nat → AVal) (μ : ι → Nat)
    (h0 : SOk ⟨ρ, h⟩ → ∃ i, I i ∧ TidyV (newZ h.next) h ρ h.next (σ i))
    (hs : ∀ i, I i → SOk ⟨σ i, h⟩ → Ev P N c (thenK (fun s' => SOk s' → ∃ j, I j ∧ μ j < μ i ∧ Sub h s'.h ∧ TidyV (newZ h.next) s'.h s'.ρ h.next (σ j)) Q) ⟨σ i, h⟩) : Ev P N (.loop c) Q ⟨ρ, h⟩ := by
  rw [Ev_loop]
  intro hok hN
  obtain ⟨i, k1, k2⟩ := h0 hok
  refine ⟨ι, I, fun i => ⟨σ i, h⟩, μ, ⟨i, k1, .val hN (Sub.refl _) hok.1 k2⟩, fun i hi hsi => ?_⟩
  refine Ev.mono ?_ (hs i hi hsi)
  intro e s' hq
  cases e with
  | normal =>
    intro hs'
    obtain ⟨j, k1, k2, k3, k4⟩ := hq hs'
    exact ⟨j, k1, k2, .val hN k3 hok.1 k4⟩
  | exit i => exact hq
  | ret => exact hq
/-- A loop that counts from 0, over a heap that stays; all else by value. -/
theorem Ev.countV {P : Program} {N : Nat} {c : ACode} {Q : AExit → St → Prop} {ρ : Nat → AVal} {h : AHeap} (σ : Nat → Nat → AVal) (n : Nat) (I : Nat → Prop)
    (h0 : SOk ⟨ρ, h⟩ → I 0 ∧ TidyV (newZ h.next) h ρ h.next (σ 0))
    (hs : ∀ i, i ≤ n → I i → SOk ⟨σ i, h⟩ → Ev P N c (thenK (fun s' => SOk s' → I (i + 1) ∧ i < n ∧ Sub h s'.h ∧ TidyV (newZ h.next) s'.h s'.ρ h.next (σ (i + 1))) Q) ⟨σ i, h⟩) : Ev P N (.loop c) Q ⟨ρ, h⟩ := by
  refine Ev.vals (fun i => i ≤ n ∧ I i) σ (fun i => n - i) (fun hok => ⟨0, ⟨Nat.zero_le _, (h0 hok).1⟩, (h0 hok).2⟩) fun i hi hsi => ?_
  refine Ev.mono ?_ (hs i hi.1 hi.2 hsi)
  intro e s' hq
  cases e with
  | normal =>
    intro hs'
    obtain ⟨k1, k2, k3, k4⟩ := hq hs'
    exact ⟨i + 1, ⟨by omega, k1⟩, by omega, k3, k4⟩
  | exit i => exact hq
  | ret => exact hq
/-- The same over a heap hb that stands in the one at hand: what else is there is told by value, or forgotten. -/
theorem Ev.valsB {P : Program} {N : Nat} {c : ACode} {Q : AExit → St → Prop} {ρ : Nat → AVal} {h : AHeap} (hb : AHeap) (hk : HOk hb) (hN : N ≤ hb.next) (hsub : Sub hb h) {ι : Type} (I : ι → Prop) (σ : ι → Nat → AVal) (μ : ι → Nat)
    (h0 : ∃ i, I i ∧ TidyV (newZ hb.next) h ρ hb.next (σ i))
    (hs : ∀ i, I i → SOk ⟨σ i, hb⟩ → Ev P N c (thenK (fun s' => SOk s' → ∃ j, I j ∧ μ j < μ i ∧ Sub hb s'.h ∧ TidyV (newZ hb.next) s'.h s'.ρ hb.next (σ j)) Q) ⟨σ i, hb⟩) : Ev P N (.loop c) Q ⟨ρ, h⟩ := by
  rw [Ev_loop]
  intro hok _
  obtain ⟨i, k1, k2⟩ := h0
  refine ⟨ι, I, fun i => ⟨σ i, hb⟩, μ, ⟨i, k1, .val hN hsub hk k2⟩, fun i hi hsi => ?_⟩
  refine Ev.mono ?_ (hs i hi hsi)
  intro e s' hq
  cases e with
  | normal =>
    intro hs'
    obtain ⟨j, k1, k2, k3, k4⟩ := hq hs'
    exact ⟨j, k1, k2, .val hN k3 hk k4⟩
  | exit i => exact hq
  | ret => exact hq
theorem Ev.countB {P : Program} {N : Nat} {c : ACode} {Q : AExit → St → Prop} {ρ : Nat → AVal} {h : AHeap} (hb : AHeap) (hk : HOk hb) (hN : N ≤ hb.next) (hsub : Sub hb h) (σ : Nat → Nat → AVal) (n : Nat) (I : Nat → Prop)
    (h0 : I 0 ∧ TidyV (newZ hb.next) h ρ hb.next (σ 0))
    (hs : ∀ i, i ≤ n → I i → SOk ⟨σ i, hb⟩ → Ev P N c (thenK (fun s' => SOk s' → I (i + 1) ∧ i < n ∧ Sub hb s'.h ∧ TidyV (newZ hb.next) s'.h s'.ρ hb.next (σ (i + 1))) Q) ⟨σ i, hb⟩) : Ev P N (.loop c) Q ⟨ρ, h⟩ := by
  refine Ev.valsB hb hk hN hsub (fun i => i ≤ n ∧ I i) σ (fun i => n - i) ⟨0, ⟨Nat.zero_le _, h0.1⟩, h0.2⟩ fun i hi hsi => ?_
  refine Ev.mono ?_ (hs i hi.1 hi.2 hsi)
  intro e s' hq
  cases e with
  | normal =>
    intro hs'
    obtain ⟨k1, k2, k3, k4⟩ := hq hs'
    exact ⟨i + 1, ⟨by omega, k1⟩, by omega, k3, k4⟩
  | exit i => exact hq
  | ret => exact hq

/-! ### loops of a few turns -/
/-- So many turns at most. -/
def Un (P : Program) (N : Nat) (c : ACode) (Q : AExit → St → Prop) : Nat → St → Prop
  | 0, _ => False
  | n + 1, s => Ev P N c (thenK (fun s' => N ≤ s'.h.next ∧ (SOk s' → Un P N c Q n s')) Q) s
theorem Tidy.refl {N : Nat} {s : St} (hs : SOk s) (hN : N ≤ s.h.next) : Tidy N s s :=
  ⟨fun i => i, fun _ => False, ⟨fun _ _ => rfl, fun _ _ _ _ h => h, hN, hs.1, fun id o ho => ⟨fun h => h, o, ho, by rw [AObj.ren_ok (n := s.h.next) (fun _ _ => rfl) (hs.1 id o ho).2]; exact ole_refl o⟩⟩,
    fun t => ⟨by rw [ren_ok (n := s.h.next) (fun _ _ => rfl) _ (hs.2 t)]; exact .refl _, hs.2 t⟩⟩
theorem Ev.unroll {P : Program} {N : Nat} {c : ACode} {Q : AExit → St → Prop} {s : St} (n : Nat) (h : SOk s → Un P N c Q n s) : Ev P N (.loop c) Q s := by
  rw [Ev_loop]
  intro hok hN
  refine ⟨Nat × St, fun p => Un P N c Q p.1 p.2, fun p => p.2, fun p => p.1, ⟨(n, s), h hok, .refl hok hN⟩, fun i hi hsi => ?_⟩
  obtain ⟨k, s0⟩ := i
  cases k with
  | zero => exact hi.elim
  | succ k =>
    refine Ev.mono ?_ hi
    intro e s' hq
    cases e with
    | normal => exact fun hs' => ⟨(k, s'), hq.2 hs', by simp, .refl hs' hq.1⟩
    | exit i => exact hq
    | ret => exact hq
theorem Un_succ {P : Program} {N : Nat} {c : ACode} {Q : AExit → St → Prop} {n : Nat} {s : St} : Un P N c Q (n + 1) s = Ev P N c (thenK (fun s' => N ≤ s'.h.next ∧ (SOk s' → Un P N c Q n s')) Q) s := rfl

/-! ### calls by value -/
/-- A function whose result is told by value, and that leaves memory as it was. -/
theorem Returns.val {P : Program} {f : FuncId} {n : Nat} {ac : ACode} {rs : List RVar} (hf : fnCode P f = some (n, ac, rs)) {args : List AVal} {h : AHeap} {r : AVal} (hl : args.length ≤ n)
    (hk : HOk h → AVal.oks h.next args → r.ok h.next ∧ Ev P h.next ac (retK rs fun v h' => Le (newZ h.next) h' v r ∧ Sub h h') ⟨argsFrom 0 args, h⟩) : Returns P f args h r h :=
  ACalls.facts (isBody_of hf) fun h1 h2 =>
    (acalls_of hf hl (hk h1 h2).2).shed fun v h' hn _ hk' _ hr => ⟨r, h, ⟨_, _, RenZ.chg (Nat.le_refl _) h1 (.of_sub hr.2), by rw [ren_ok (n := h.next) (fun _ _ => rfl) _ (hk h1 h2).1]; exact hr.1, (hk h1 h2).1⟩, rfl, rfl⟩
/-- A function whose result is told by value, and that turns old blocks. -/
theorem Returns.chg {P : Program} {f : FuncId} {n : Nat} {ac : ACode} {rs : List RVar} (hf : fnCode P f = some (n, ac, rs)) {args : List AVal} {h hr : AHeap} {r : AVal} (hl : args.length ≤ n)
    (hk : HOk h → AVal.oks h.next args → h.next = hr.next ∧ HOk hr ∧ r.ok h.next ∧ Ev P h.next ac (retK rs fun v h' => Le (newZ hr.next) h' v r ∧ Chg hr.next h' hr) ⟨argsFrom 0 args, h⟩) : Returns P f args h r hr :=
  ACalls.facts (isBody_of hf) fun h1 h2 => by
    obtain ⟨e, q1, q2, q3⟩ := hk h1 h2
    exact (acalls_of hf hl q3).shed fun v h' hn _ hk' _ hq => ⟨r, hr, ⟨_, _, RenZ.chg (by omega) q1 hq.2, by rw [ren_ok (n := h.next) (fun _ _ => rfl) _ q2]; exact hq.1, by rw [← e]; exact q2⟩, rfl, rfl⟩
/-- A function that makes one block, and leaves all else as it was. -/
theorem Returns.one {P : Program} {f : FuncId} {n : Nat} {ac : ACode} {rs : List RVar} (hf : fnCode P f = some (n, ac, rs)) {args : List AVal} {h : AHeap} {r : AVal} {o : AObj} (hl : args.length ≤ n)
    (hk : HOk h → AVal.oks h.next args → r.ok (h.next + 1) ∧ o.ok (h.next + 1) ∧ Ev P h.next ac (retK rs fun v h' => ∃ id o0, h.next ≤ id ∧ h'.f id = some o0 ∧ Sub h h' ∧ OLe (newZ1 h.next id) h' o0 (o.ren (at1 h.next id)) ∧ Le (newZ1 h.next id) h' v (r.ren (at1 h.next id))) ⟨argsFrom 0 args, h⟩) : Returns P f args h r (h.alloc o) :=
  ACalls.facts (isBody_of hf) fun h1 h2 =>
    (acalls_of hf hl (hk h1 h2).2.2).shed fun v h' hn _ hk' _ ⟨id, o0, hid, ho, hs, hol, hv⟩ => ⟨r, h.alloc o, ⟨_, _, RenZ.one (Nat.le_refl _) (h1.alloc (hk h1 h2).2.1) (.of_sub h1 hs) hid ho hol (fun id x hx => (h1 id x hx).1), hv, (hk h1 h2).1⟩, rfl, rfl⟩
/-- A result in a block of its own, told by value. -/
theorem Returns.frz {P : Program} {f : FuncId} {args : List AVal} {h : AHeap} {r r' : AVal} {o : AObj} (hc : Returns P f args h r (h.alloc o)) (hle : Le (newZ h.next) (h.alloc o) r r') (hok : HOk h → AVal.oks h.next args → r'.ok h.next) : Returns P f args h r' h :=
  ACalls.facts hc.1 fun h1 h2 => hc.shed fun v h' hn _ hk' _ hq => by
    obtain ⟨rfl, rfl⟩ := hq
    exact ⟨r', h, ⟨_, _, RenZ.chg (Nat.le_refl _) h1 (.of_sub (Sub.alloc h1 (Sub.refl _))), by rw [ren_ok (n := h.next) (fun _ _ => rfl) _ (hok h1 h2)]; exact hle, hok h1 h2⟩, rfl, rfl⟩
/-- An exact result. -/
theorem Returns.exact {P : Program} {f : FuncId} {n : Nat} {ac : ACode} {rs : List RVar} (hf : fnCode P f = some (n, ac, rs)) {args : List AVal} {h h' : AHeap} {r : AVal} (hl : args.length ≤ n)
    (hk : HOk h → AVal.oks h.next args → Ev P h.next ac (retK rs fun v hx => v = r ∧ hx = h') ⟨argsFrom 0 args, h⟩) : Returns P f args h r h' :=
  ACalls.facts (isBody_of hf) fun h1 h2 => acalls_of hf hl (hk h1 h2)
end Go.Proofs.YtcjlgmknclifmaaDoor.Ab
