/- From the abstract code to the model's (2): statements, functions. -/
import Derived.Test.YtbdnopflbnbhnaaAb14
import Derived.Deep.LoopGhost
set_option linter.unusedVariables false
set_option linter.unusedSimpArgs false
namespace Go.Proofs.Ytbdnopflbnbhnaa.Ab
open Go

section
variable {P : Program} {n : Nat}

def Map.cut (m : Map) (n : Nat) : Map := fun id => if id < n then m id else none
mutual
theorem VRel.cut {m : Map} {F : Nat → Prop} {w : World} {n : Nat} : ∀ (x : AVal) (v : Value), x.ok n → VRel m F w x v → VRel (m.cut n) F w x v
  | .junk, v, _, hv => by simp only [VRel]
  | .int k n, v, _, hv => by simp only [VRel] at hv ⊢; exact hv
  | .bool b, v, _, hv => by simp only [VRel] at hv ⊢; exact hv
  | .str s, v, _, hv => by simp only [VRel] at hv ⊢; exact hv
  | .nilp, v, _, hv => by simp only [VRel] at hv ⊢; exact hv
  | .ptr id off, v, ho, hv => by
    simp only [VRel] at hv ⊢; simp only [AVal.ok] at ho
    obtain ⟨b, o, h1, h2⟩ := hv
    exact ⟨b, o, by simp only [Map.cut, ho, if_true]; exact h1, h2⟩
  | .ref x, v, ho, hv => by
    simp only [VRel] at hv ⊢; simp only [AVal.ok] at ho
    obtain ⟨b, o, u, h1, h2, h3, h4⟩ := hv
    exact ⟨b, o, u, VRel.cut x u ho h1, h2, h3, h4⟩
  | .nils, v, _, hv => by simp only [VRel] at hv ⊢; exact hv
  | .vec e full xs, v, ho, hv => by
    simp only [VRel] at hv ⊢; simp only [AVal.ok] at ho
    obtain ⟨A, c, vs, h1, h2⟩ := hv
    exact ⟨A, c, vs, VRels.cut xs vs ho.2 h1, h2⟩
  | .sl e id off len cap, v, ho, hv => by
    simp only [VRel] at hv ⊢; simp only [AVal.ok] at ho
    obtain ⟨b, o, A, c, h1, h2⟩ := hv
    exact ⟨b, o, A, c, by simp only [Map.cut, ho.1, if_true]; exact h1, h2⟩
  | .nilm, v, _, hv => by simp only [VRel] at hv ⊢; exact hv
  | .map id, v, ho, hv => by
    simp only [VRel] at hv ⊢; simp only [AVal.ok] at ho
    obtain ⟨b, h1, h2⟩ := hv
    exact ⟨b, by simp only [Map.cut, ho, if_true]; exact h1, h2⟩
  | .clo f cs, v, ho, hv => by
    simp only [VRel] at hv ⊢; simp only [AVal.ok] at ho
    obtain ⟨us, h1, h2⟩ := hv
    exact ⟨us, VRels.cut cs us ho h1, h2⟩
  | .nilf, v, _, hv => by simp only [VRel] at hv ⊢; exact hv
  | .iface t x, v, ho, hv => by
    simp only [VRel] at hv ⊢; simp only [AVal.ok] at ho
    obtain ⟨u, h1, h2⟩ := hv
    exact ⟨u, VRel.cut x u ho h1, h2⟩
  | .nili, v, _, hv => by simp only [VRel] at hv ⊢; exact hv
  | .agg cs, v, ho, hv => by
    simp only [VRel] at hv ⊢; simp only [AVal.ok] at ho
    obtain ⟨us, h1, h2⟩ := hv
    exact ⟨us, VRels.cut cs us ho h1, h2⟩
  | .tup cs, v, ho, hv => by
    simp only [VRel] at hv ⊢; simp only [AVal.ok] at ho
    obtain ⟨us, h1, h2⟩ := hv
    exact ⟨us, VRels.cut cs us ho h1, h2⟩
theorem VRels.cut {m : Map} {F : Nat → Prop} {w : World} {n : Nat} : ∀ (xs : List AVal) (vs : List Value), AVal.oks n xs → VRels m F w xs vs → VRels (m.cut n) F w xs vs
  | [], vs, _, hv => by simp only [VRels] at hv ⊢; exact hv
  | x :: xs, vs, ho, hv => by
    simp only [VRels] at hv ⊢; simp only [AVal.oks] at ho
    obtain ⟨u, us, h1, h2, h3⟩ := hv
    exact ⟨u, us, VRel.cut x u ho.1 h1, VRels.cut xs us ho.2 h2, h3⟩
end
mutual
theorem VRel.ok {m : Map} {F : Nat → Prop} {w : World} {n : Nat} (hn : ∀ id, n ≤ id → m id = none) : ∀ (x : AVal) (v : Value), VRel m F w x v → x.ok n
  | .junk, v, hv => by simp only [AVal.ok]
  | .int k n, v, hv => by simp only [AVal.ok]
  | .bool b, v, hv => by simp only [AVal.ok]
  | .str s, v, hv => by simp only [VRel] at hv; simp only [AVal.ok]; exact hv.2
  | .nilp, v, hv => by simp only [AVal.ok]
  | .ptr id off, v, hv => by
    simp only [VRel] at hv; simp only [AVal.ok]
    obtain ⟨b, o, h1, h2⟩ := hv
    rcases Nat.lt_or_ge id n with h | h
    · exact h
    · rw [hn id h] at h1; cases h1
  | .ref x, v, hv => by
    simp only [VRel] at hv; simp only [AVal.ok]
    obtain ⟨b, o, u, h1, h2, h3, h4⟩ := hv
    exact VRel.ok hn x u h1
  | .nils, v, hv => by simp only [AVal.ok]
  | .vec e full xs, v, hv => by
    simp only [VRel] at hv; simp only [AVal.ok]
    obtain ⟨A, c, vs, h1, h2, h3, h4, h5⟩ := hv
    exact ⟨by rw [← h1.length]; exact h4, VRels.ok hn xs vs h1⟩
  | .sl e id off len cap, v, hv => by
    simp only [VRel] at hv; simp only [AVal.ok]
    obtain ⟨b, o, A, c, h1, h2, h3, h4, h5, h6, h7⟩ := hv
    refine ⟨?_, h7⟩
    rcases Nat.lt_or_ge id n with h | h
    · exact h
    · rw [hn id h] at h1; cases h1
  | .nilm, v, hv => by simp only [AVal.ok]
  | .map id, v, hv => by
    simp only [VRel] at hv; simp only [AVal.ok]
    obtain ⟨b, h1, h2⟩ := hv
    rcases Nat.lt_or_ge id n with h | h
    · exact h
    · rw [hn id h] at h1; cases h1
  | .clo f cs, v, hv => by
    simp only [VRel] at hv; simp only [AVal.ok]
    obtain ⟨us, h1, h2⟩ := hv
    exact VRels.ok hn cs us h1
  | .nilf, v, hv => by simp only [AVal.ok]
  | .iface t x, v, hv => by
    simp only [VRel] at hv; simp only [AVal.ok]
    obtain ⟨u, h1, h2⟩ := hv
    exact VRel.ok hn x u h1
  | .nili, v, hv => by simp only [AVal.ok]
  | .agg cs, v, hv => by
    simp only [VRel] at hv; simp only [AVal.ok]
    obtain ⟨us, h1, h2⟩ := hv
    exact VRels.ok hn cs us h1
  | .tup cs, v, hv => by
    simp only [VRel] at hv; simp only [AVal.ok]
    obtain ⟨us, h1, h2⟩ := hv
    exact VRels.ok hn cs us h1
theorem VRels.ok {m : Map} {F : Nat → Prop} {w : World} {n : Nat} (hn : ∀ id, n ≤ id → m id = none) : ∀ (xs : List AVal) (vs : List Value), VRels m F w xs vs → AVal.oks n xs
  | [], vs, hv => by simp only [AVal.oks]
  | x :: xs, vs, hv => by
    simp only [VRels] at hv; simp only [AVal.oks]
    obtain ⟨u, us, h1, h2, h3⟩ := hv
    exact ⟨VRel.ok hn x u h1, VRels.ok hn xs us h2⟩
end
theorem oks_iff {n : Nat} : ∀ {xs : List AVal}, AVal.oks n xs ↔ ∀ x ∈ xs, x.ok n
  | [] => by simp [AVal.oks]
  | x :: xs => by simp [AVal.oks, oks_iff (xs := xs)]
theorem ORel.ok {m : Map} {F : Nat → Prop} {w : World} {n : Nat} (hn : ∀ id, n ≤ id → m id = none) {o : AObj} {b off : Nat} (k : ORel m F w o b off) : o.ok n := by
  cases k with
  | cells hb hl hfr hc =>
    simp only [AObj.ok, oks_iff]
    intro x hx
    obtain ⟨i, hi⟩ := List.getElem?_of_mem hx
    obtain ⟨v, _, _, hv⟩ := hc i x hi
    exact hv.ok hn
  | map hb hl hc =>
    simp only [AObj.ok]
    intro x hx
    obtain ⟨i, hi⟩ := List.getElem?_of_mem hx
    have hlt := (List.getElem?_eq_some_iff.1 hi).1
    have := hc i x _ hi (Array.getElem?_eq_getElem (by omega))
    exact ⟨this.1.ok hn, this.2.ok hn⟩
theorem ORel.cut {m : Map} {F : Nat → Prop} {w : World} {n : Nat} {o : AObj} {b off : Nat} (ho : o.ok n) (k : ORel m F w o b off) : ORel (m.cut n) F w o b off := by
  cases k with
  | cells hb hl hfr hc =>
    simp only [AObj.ok, oks_iff] at ho
    exact .cells hb hl hfr fun i x hx => let ⟨v, h1, h2, h3⟩ := hc i x hx; ⟨v, h1, h2, h3.cut _ _ (ho x (List.mem_of_getElem? hx))⟩
  | map hb hl hc =>
    simp only [AObj.ok] at ho
    exact .map hb hl fun i x e hx he => ⟨(hc i x e hx he).1.cut _ _ (ho x (List.mem_of_getElem? hx)).1, (hc i x e hx he).2.cut _ _ (ho x (List.mem_of_getElem? hx)).2⟩
theorem Rel.hok {h : AHeap} {m : Map} {F : Nat → Prop} {w : World} (R : Rel h m F w) : HOk h := by
  intro id o ho
  obtain ⟨b, off, h1, h2, h3⟩ := R.live id o ho
  exact ⟨R.lt_next ho, h3.ok R.old⟩
theorem Rel.cut {h h' : AHeap} {m : Map} {F : Nat → Prop} {w : World} (R : Rel h m F w) (hs : Sub h' h) (ho : HOk h') : Rel h' (m.cut h'.next) F w := by
  have hm : ∀ id x, h'.f id = some x → m.cut h'.next id = m id := fun id x hx => by simp only [Map.cut, (ho id x hx).1, if_true]
  refine ⟨fun id o hi => ?_, fun id id' b o o' x x' h1 h2 h3 h4 => ?_, fun id hid => by simp only [Map.cut]; rw [if_neg (by omega)], R.flt⟩
  · obtain ⟨b, off, g1, g2, g3⟩ := R.live id o (hs.2 id o hi)
    exact ⟨b, off, by rw [hm id o hi]; exact g1, g2, g3.cut (ho id o hi).2⟩
  · rw [hm id x h1] at h3; rw [hm id' x' h2] at h4
    exact R.inj id id' b o o' x x' (hs.2 _ _ h1) (hs.2 _ _ h2) h3 h4
theorem VRel.weak {m : Map} {F : Nat → Prop} {w : World} {x y : AVal} {v : Value} (hw : Weak x y) (h : VRel m F w x v) : VRel m F w y v := by
  rcases hw with rfl | rfl | ⟨rfl, e, b, rfl⟩
  · exact h
  · simp only [VRel]
  · simp only [VRel] at h ⊢
    subst h
    exact ⟨none, 0, [], by simp only [VRels], rfl, Nat.le_refl _, by simp [huge], fun _ => rfl, fun x hx => by simp at hx, fun hx => absurd rfl hx⟩
theorem SOk.of {s : St} {m : Map} {F : Nat → Prop} {w : World} {a : Act} (R : Rel s.h m F w) (A : ARel n m F w s.ρ a) : SOk s :=
  ⟨R.hok, fun t => (A.rel t).ok R.old⟩
theorem ARel.cut {s s' : St} {m : Map} {F : Nat → Prop} {w : World} {a : Act} (A : ARel n m F w s.ρ a) (ht : Tidy s s') : ARel n (m.cut s'.h.next) F w s'.ρ a :=
  ⟨A.dfr, A.sz, fun t => ((A.rel t).weak (ht.2.2 t).1).cut _ _ (ht.2.2 t).2⟩
theorem Ext.cut {h : AHeap} {m m' : Map} {F F' : Nat → Prop} {w w' : World} {k : Nat} (R : Rel h m F w) (hk : h.next ≤ k) (e : Ext m F w m' F' w') : Ext m F w (m'.cut k) F' w' :=
  ⟨fun id x hx => by
    have : id < k := by
      rcases Nat.lt_or_ge id h.next with h1 | h1
      · omega
      · rw [R.old id h1] at hx; cases hx
    simp only [Map.cut, this, if_true]; exact e.mm id x hx, e.ff, e.keep, e.shp, e.size, e.os, e.tape, e.output⟩

theorem Lift.base {m m1 : Map} {F F1 : Nat → Prop} {w w1 : World} {N N1 : Nat} {K : St → Prop} {a' : Act} {w' : World} (e : Ext m F w m1 F1 w1) (hN : N ≤ N1) (h : Lift n m1 F1 w1 N1 K a' w') : Lift n m F w N K a' w' := by
  obtain ⟨s', m', F', h1, h2, h3, h4, h5⟩ := h
  exact ⟨s', m', F', h1, by omega, h3, h4, e.trans h5⟩

theorem ops_ok {ops : Array Oper} : ∀ (lo : List Oper) (l : List AOper), rOpers P n ops lo = some l → ∀ {K : St → Prop} {s : St} {m : Map} {F : Nat → Prop} {w : World} {a : Act} {Q : Exit → Act → World → Prop}, aops P l K s → Rel s.h m F w → ARel n m F w s.ρ a →
    (∀ a' w', Lift n m F w s.h.next K a' w' → Q .normal a' w') → wpList P ops Q lo a w
  | [], l, h, K, s, m, F, w, a, Q, hk, R, A, hq => by
    simp only [rOpers] at h; cases h
    exact hq a w ⟨s, m, F, hk, Nat.le_refl _, R, A, Ext.refl _ _ _⟩
  | o :: lo, l, h, K, s, m, F, w, a, Q, hk, R, A, hq => by
    simp only [rOpers] at h
    split at h <;> cases h
    rename_i ao l' h1 h2
    have := op_ok h1 (next := wpList P ops Q lo) (Q := Q) hk R A (fun a' w' hl => by
      obtain ⟨s', m', F', k1, k2, k3, k4, k5⟩ := hl
      exact ops_ok lo l' h2 k1 k3 k4 (fun a2 w2 hl2 => hq a2 w2 (hl2.base k5 k2)))
    unfold wpList
    split
    · rename_i hw; rw [if_pos hw] at this; exact .inl this
    · rename_i hw; rw [if_neg hw] at this; exact this

theorem any_ok {ops : Array Oper} {l : List AOper} (hl : rOpers P n ops ops.toList = some l) : ∀ (fuel : Nat) (listed : Array Bool) (R0 : List (Nat × AObj)) {K : St → Prop} {s : St} {m : Map} {F : Nat → Prop} {w : World} {a : Act} {Q : Exit → Act → World → Prop},
    TAny P l ops fuel listed R0 K s → Rel s.h m F w → ARel n m F w s.ρ a → (∀ a' w', Lift n m F w s.h.next K a' w' → Q .normal a' w') → wpAny P .any ops Q fuel listed a w
  | 0, listed, R0, K, s, m, F, w, a, Q, hk, R, A, hq => by
    simp only [TAny] at hk
    exact ⟨hk.1, hq a w ⟨s, m, F, hk.2, Nat.le_refl _, R, A, Ext.refl _ _ _⟩⟩
  | fuel + 1, listed, R0, K, s, m, F, w, a, Q, hk, R, A, hq => by
    have hk' := hk R.wf
    refine ⟨fun he => hq a w ⟨s, m, F, hk'.1 he, Nat.le_refl _, R, A, Ext.refl _ _ _⟩, fun i hi => ?_⟩
    have h1 := hk'.2 i hi
    have get : ∀ (lo : List Oper) (l : List AOper) (i : Nat) (o : Oper), rOpers P n ops lo = some l → lo[i]? = some o → ∃ ao, l[i]? = some ao ∧ rOper P n ops o = some ao := by
      intro lo
      induction lo with
      | nil => intro l i o _ h; simp at h
      | cons o lo ih =>
        intro l i o' h1 h2
        simp only [rOpers] at h1
        split at h1 <;> cases h1
        rename_i ao l' g1 g2
        cases i with
        | zero => simp at h2; subst h2; exact ⟨ao, rfl, g1⟩
        | succ i => exact ih l' i o' g2 (by simpa using h2)
    obtain ⟨hun, o, ho, _⟩ := mem_ready.1 hi
    obtain ⟨ao, ha1, ha2⟩ := get ops.toList l i o hl (by simpa using ho)
    unfold aopI at h1
    rw [ha1] at h1
    have := op_ok ha2 (next := wpAny P .any ops Q fuel (listed.setIfInBounds i true)) (Q := Q) h1 R A (fun a' w' hlift => by
      obtain ⟨s', m', F', k1, k2, k3, k4, k5⟩ := hlift
      exact any_ok hl fuel _ R0 k1.2 k3 k4 (fun a2 w2 hl2 => hq a2 w2 (hl2.base k5 k2)))
    unfold wpOp
    simp only [ho]
    split
    · rename_i hw; rw [if_pos hw] at this; exact .inl this
    · rename_i hw; rw [if_neg hw] at this; exact this

def LiftQ (n : Nat) (m : Map) (F : Nat → Prop) (w : World) (N : Nat) (Q : AExit → St → Prop) : Exit → Act → World → Prop
  | .normal, a', w' => Lift n m F w N (Q .normal) a' w'
  | .exit i, a', w' => Lift n m F w N (Q (.exit i)) a' w'
  | .ret, a', w' => Lift n m F w N (Q .ret) a' w'
  | _, _, _ => False

theorem LiftQ.base {m m1 : Map} {F F1 : Nat → Prop} {w w1 : World} {N N1 : Nat} {Q : AExit → St → Prop} {e : Exit} {a' : Act} {w' : World} (x : Ext m F w m1 F1 w1) (hN : N ≤ N1) (h : LiftQ n m1 F1 w1 N1 Q e a' w') : LiftQ n m F w N Q e a' w' := by
  cases e <;> simp only [LiftQ] at h ⊢ <;> exact h.base x hN

theorem ev_ok : ∀ (c : Code) (ac : ACode), resolveCode P n c = some ac → ∀ {Q : AExit → St → Prop} {s : St} {m : Map} {F : Nat → Prop} {w : World} {a : Act}, Ev P ac Q s → Rel s.h m F w → ARel n m F w s.ρ a →
    c.wp P (LiftQ n m F w s.h.next Q) a w := by
  intro c
  induction c with
  | skip =>
    intro ac h Q s m F w a hk R A
    simp only [resolveCode] at h; cases h
    exact wp_skip ⟨s, m, F, hk, Nat.le_refl _, R, A, Ext.refl _ _ _⟩
  | region id ops d =>
    intro ac h Q s m F w a hk R A
    cases d with
    | false =>
      simp only [resolveCode, Option.map_eq_some_iff] at h
      obtain ⟨l, hl, rfl⟩ := h
      exact wp_region_list (ops_ok ops.toList l hl hk R A (fun a' w' hlift => hlift))
    | true =>
      simp only [resolveCode] at h
      split at h
      · rename_i hc
        split at h
        · rename_i l hl
          simp only [Option.map_eq_some_iff] at h
          obtain ⟨p, hp, rfl⟩ := h
          have hlen : ∀ (lo : List Oper) (l : List AOper), rOpers P n ops lo = some l → l.length = lo.length := by
            intro lo
            induction lo with
            | nil => intro l h; simp only [rOpers] at h; cases h; rfl
            | cons o lo ih => intro l h; simp only [rOpers] at h; split at h <;> cases h; rename_i g2; simp [ih _ g2]
          have hlo : l.length = ops.size := by rw [hlen _ _ hl, Array.length_toList]
          obtain ⟨R', E'⟩ := R.drew (w' := { w with drawn := w.drawn + 1 }) rfl rfl rfl rfl
          exact wp_region_any hc.1 (any_ok hl _ _ _ (adraw_sound hlo _ _ _ _ _ _ hp hk) R' (A.ext E') (fun a' w' hlift => hlift.base E' (Nat.le_refl _)))
        · cases h
      · cases h
  | seq x y ihx ihy =>
    intro ac h Q s m F w a hk R A
    simp only [resolveCode] at h
    split at h <;> cases h
    rename_i ax ay hx hy
    refine wp_seq (wp_mono (ihx ax hx hk R A) fun e a' w' hq => ?_)
    cases e with
    | normal =>
      obtain ⟨s', m', F', k1, k2, k3, k4, k5⟩ := hq
      exact wp_mono (ihy ay hy k1 k3 k4) fun e a2 w2 hq2 => hq2.base k5 k2
    | exit i => exact hq
    | ret => exact hq
    | goto l => exact hq.elim
    | panic ch => exact hq.elim
    | outgrown => exact hq.elim
  | cond c x y ihx ihy =>
    intro ac h Q s m F w a hk R A
    simp only [resolveCode] at h
    split at h <;> cases h
    rename_i c' ax ay hc hx hy
    have hcr := rOpd_sound A hc
    simp only [Ev] at hk
    split at hk
    · rename_i t ht
      rw [ht] at hcr
      simp only [VRel] at hcr
      refine wp_cond hcr ?_
      cases t with
      | true => exact ihx ax hx (hk.1 rfl) R A
      | false => exact ihy ay hy (hk.2 rfl) R A
    · exact hk.elim
  | block id c ih =>
    intro ac h Q s m F w a hk R A
    simp only [resolveCode, Option.map_eq_some_iff] at h
    obtain ⟨ax, hx, rfl⟩ := h
    refine wp_block (wp_mono (ih ax hx hk R A) fun e a' w' hq => ?_)
    cases e with
    | normal => exact hq
    | exit i =>
      by_cases he : i = id
      · subst he
        have e1 : blockK i Q (AExit.exit i) = Q .normal := by funext s; simp [blockK]
        simp only [LiftQ, e1] at hq
        simp only [Exit.inBlock, if_true]
        exact hq
      · have e1 : blockK id Q (AExit.exit i) = Q (.exit i) := by funext s; simp [blockK, he]
        simp only [LiftQ, e1] at hq
        simp only [Exit.inBlock, he, if_false]
        exact hq
    | ret => exact hq
    | goto l => exact hq.elim
    | panic ch => exact hq.elim
    | outgrown => exact hq.elim
  | loop c ih =>
    intro ac h Q s m F w a hk R A
    simp only [resolveCode, Option.map_eq_some_iff] at h
    obtain ⟨ax, hx, rfl⟩ := h
    obtain ⟨ι, I, S, μ, ⟨i0, hI, hn0, ht0⟩, hstep⟩ := hk (SOk.of R A)
    refine wp_loop_ghost (fun k a' w' => ∃ i m' F', I i ∧ μ i = k ∧ s.h.next ≤ (S i).h.next ∧ Rel (S i).h m' F' w' ∧ ARel n m' F' w' (S i).ρ a' ∧ Ext m F w m' F' w') (μ i0) ⟨i0, _, F, hI, rfl, hn0, R.cut ht0.1 ht0.2.1, A.cut ht0, (Ext.refl _ _ _).cut R hn0⟩ ?_
    rintro k a1 w1 ⟨i1, m1, F1, k1, k2, k3, k4, k5, k6⟩
    refine wp_mono (ih ax hx (hstep i1 k1 (SOk.of k4 k5)) k4 k5) fun e a' w' hq => ?_
    have hq := hq.base k6 k3
    cases e with
    | normal =>
      obtain ⟨s', m', F', q1, q2, q3, q4, q5⟩ := hq
      obtain ⟨j, p1, p2, p3, p4⟩ := q1 (SOk.of q3 q4)
      exact ⟨μ j, by rw [← k2]; exact p2, j, _, F', p1, rfl, p3, q3.cut p4.1 p4.2.1, q4.cut p4, q5.cut R p3⟩
    | exit i => exact hq
    | ret => exact hq
    | goto l => exact hq.elim
    | panic ch => exact hq.elim
    | outgrown => exact hq.elim
  | exit id =>
    intro ac h Q s m F w a hk R A
    simp only [resolveCode] at h; cases h
    exact wp_exit ⟨s, m, F, hk, Nat.le_refl _, R, A, Ext.refl _ _ _⟩
  | ret =>
    intro ac h Q s m F w a hk R A
    simp only [resolveCode] at h; cases h
    exact wp_ret ⟨s, m, F, hk, Nat.le_refl _, R, A, Ext.refl _ _ _⟩
  | rangeFunc => intro ac h; simp [resolveCode] at h
  | scope => intro ac h; simp [resolveCode] at h
  | label => intro ac h; simp [resolveCode] at h
  | goto => intro ac h; simp [resolveCode] at h
  | refuse => intro ac h; simp [resolveCode] at h
end

/-! ### functions -/
inductive RVar where
  | tmp (t : Nat)
  | cell (a : Nat) (n : Option Nat)
  deriving Inhabited
def rRes (P : Program) : List ResultVar → Option (List RVar)
  | [] => some []
  | .tmp t :: r => (rRes P r).map (.tmp t :: ·)
  | .cell a t :: r => match aggN P t, rRes P r with | some n, some l => some (.cell a n :: l) | _, _ => none
def retVs (s : St) : List RVar → Option (List AVal)
  | [] => some []
  | .tmp t :: r => (retVs s r).map (s.ρ t :: ·)
  | .cell a n :: r => match loadV s.h n (s.ρ a), retVs s r with | some v, some l => some (v :: l) | _, _ => none
def retV (rs : List RVar) (s : St) : Option AVal :=
  match retVs s rs with
  | some [v] => some v
  | some vs => some (.tup vs)
  | none => none
def fnCode (P : Program) (f : FuncId) : Option (Nat × ACode × List RVar) :=
  match P.funcs[f]? with
  | none => none
  | some fn =>
    match fn.body with
    | none => none
    | some c =>
      if fn.name != "runtime.NumGoroutine" then
        match resolveCode P fn.ntmps c, rRes P fn.results.toList with
        | some ac, some rs => some (fn.ntmps, ac, rs)
        | _, _ => none
      else none
def argsFrom : Nat → List AVal → Nat → AVal
  | _, [] => fun _ => .junk
  | k, a :: r => upd (argsFrom (k + 1) r) k a
def retK (rs : List RVar) (Q : AVal → AHeap → Prop) : AExit → St → Prop
  | .exit _, _ => False
  | _, s => match retV rs s with | some v => Q v s.h | none => False

theorem argsFrom_get : ∀ (l : List AVal) (k t : Nat), argsFrom k l t = if k ≤ t then ((l[t - k]?).getD .junk) else .junk
  | [], k, t => by simp [argsFrom]
  | a :: r, k, t => by
    simp only [argsFrom, upd]
    by_cases h : t = k
    · subst h; simp
    · rw [if_neg h, argsFrom_get r (k + 1) t]
      by_cases h2 : k ≤ t
      · rw [if_pos h2, if_pos (by omega), show t - k = (t - (k + 1)) + 1 from by omega]
        simp
      · rw [if_neg h2, if_neg (by omega)]

def resOne (tmps : Array Value) (r : ResultVar) : Sem Value :=
  match r with
  | .tmp t => pure (tmps.getD t undef)
  | .cell a t => do loadVar t (← asAddr (tmps.getD a undef))
theorem results_eq (fn : Func) (tmps : Array Value) : results fn tmps = (fn.results.mapM (resOne tmps) >>= fun vs => pure (if h : vs.size = 1 then vs[0] else .tuple vs)) := by
  unfold results
  congr 1
theorem asAddr_some_run (P : Program) (A : Addr) (w : World) : (asAddr (.pointer (some A))).run P w = .ok A w := by
  simp only [asAddr, Sem.run_pure]

theorem acalls_of {P : Program} {f : FuncId} {n : Nat} {ac : ACode} {rs : List RVar} (hf : fnCode P f = some (n, ac, rs)) {args : List AVal} {h : AHeap} {Q : AVal → AHeap → Prop} (hl : args.length ≤ n) (hk : Ev P ac (retK rs Q) ⟨argsFrom 0 args, h⟩) : ACalls P f args h Q := by
  unfold fnCode at hf
  split at hf
  · cases hf
  · rename_i fn hfn
    split at hf
    · cases hf
    · rename_i c hb
      split at hf
      · rename_i hname
        split at hf
        · rename_i ac' rs' hc hrs
          cases hf
          refine ⟨by simp [isBody, hfn, hname, hb] at *, fun m F w us R hu => ?_⟩
          refine calls_of_wp hfn hb ?_
          have A : ARel fn.ntmps m F w (argsFrom 0 args) { tmps := us.toArray ++ Array.replicate (fn.ntmps - us.toArray.size) undef, defers := [] } := by
            have hlu := hu.length
            refine ⟨rfl, by simp; omega, fun t => ?_⟩
            rw [argsFrom_get, if_pos (Nat.zero_le _), Nat.sub_zero]
            cases ht : args[t]? with
            | none => simp only [Option.getD_none, VRel]
            | some x =>
              obtain ⟨v, hv, hr⟩ := hu.get ht
              have hlt := (List.getElem?_eq_some_iff.1 hv).1
              simp only [Option.getD_some]
              have : (us.toArray ++ Array.replicate (fn.ntmps - us.toArray.size) undef).getD t undef = v := by
                rw [Array.getD_eq_getD_getElem?, Array.getElem?_append_left (by simpa using hlt)]
                simp [hv]
              rw [this]; exact hr
          refine wp_mono (ev_ok c ac hc hk R A) fun e a' w' hq => ?_
          have fin : ∀ (s' : St) (m' : Map) (F' : Nat → Prop), (match retV rs s' with | some v => Q v s'.h | none => False) → h.next ≤ s'.h.next → Rel s'.h m' F' w' → ARel fn.ntmps m' F' w' s'.ρ a' → Ext m F w m' F' w' →
              a'.defers = [] ∧ ∃ v, (results fn a'.tmps).run P w' = .ok v w' ∧ Post h m F w Q (.returned v) w' := by
            intro s' m' F' h1 h2 h3 h4 h5
            have vals : ∀ (l : List ResultVar) (rl : List RVar) (vs : List AVal), rRes P l = some rl → retVs s' rl = some vs → ∃ us, (l.mapM (resOne a'.tmps)).run P w' = .ok us w' ∧ VRels m' F' w' vs us := by
              intro l
              induction l with
              | nil => intro rl vs g1 g2; simp only [rRes] at g1; cases g1; simp only [retVs] at g2; cases g2; exact ⟨[], by simp, by simp only [VRels]⟩
              | cons r l ih =>
                intro rl vs g1 g2
                cases r with
                | tmp t =>
                  simp only [rRes, Option.map_eq_some_iff] at g1
                  obtain ⟨rl', g1, rfl⟩ := g1
                  simp only [retVs, Option.map_eq_some_iff] at g2
                  obtain ⟨vs', g2, rfl⟩ := g2
                  obtain ⟨us, k1, k2⟩ := ih rl' vs' g1 g2
                  refine ⟨a'.tmps.getD t undef :: us, ?_, by simp only [VRels]; exact ⟨_, _, h4.rel t, k2, rfl⟩⟩
                  simp only [List.mapM_cons, resOne, Sem.run_bind, Sem.run_pure, Result.andThen_ok, k1]
                | cell ad t =>
                  simp only [rRes] at g1
                  split at g1 <;> cases g1
                  rename_i nn rl' g0 g1
                  simp only [retVs] at g2
                  split at g2 <;> cases g2
                  rename_i v vs' gv g2
                  obtain ⟨us, k1, k2⟩ := ih rl' vs' g1 g2
                  have hrel := h4.rel ad
                  obtain ⟨u, q1, q2⟩ := loadV_sound (P := P) h3 g0 hrel gv
                  have hadr : ∃ A, a'.tmps.getD ad undef = .pointer (some A) := by
                    unfold loadV at gv
                    split at gv
                    · rename_i he; rw [he] at hrel; simp only [VRel] at hrel; obtain ⟨b, o, _, hb⟩ := hrel; exact ⟨_, hb⟩
                    · rename_i he; rw [he] at hrel; simp only [VRel] at hrel; obtain ⟨b, o, _, _, _, hb, _⟩ := hrel; exact ⟨_, hb⟩
                    · cases gv
                  obtain ⟨A, hA⟩ := hadr
                  rw [hA] at q1
                  refine ⟨u :: us, ?_, by simp only [VRels]; exact ⟨_, _, q2, k2, rfl⟩⟩
                  simp only [Instr.loadAt, Instr.sureAddr, Sem.run_bind, Sem.run_pure, Result.andThen_ok] at q1
                  rw [List.mapM_cons]
                  simp only [resOne, Sem.run_bind, hA, asAddr_some_run, Result.andThen_ok, q1, k1, Sem.run_pure]
            unfold retV at h1
            cases hvs : retVs s' rs with
            | none => rw [hvs] at h1; exact h1.elim
            | some vs =>
              obtain ⟨us', k1, k2⟩ := vals _ _ _ hrs hvs
              refine ⟨h4.dfr, ?_⟩
              have hrun : (results fn a'.tmps).run P w' = .ok (if us'.length = 1 then us'.headD undef else .tuple us'.toArray) w' := by
                rw [results_eq, Array.mapM_eq_mapM_toList]
                simp only [Sem.run_bind, Sem.run_map, k1, Result.andThen_ok, Sem.run_pure]
                congr 1
                cases us' with
                | nil => simp
                | cons u r =>
                  cases r with
                  | nil => simp
                  | cons u2 r => simp
              refine ⟨_, hrun, ?_⟩
              rw [hvs] at h1
              cases vs with
              | nil =>
                simp only [VRels] at k2; subst k2
                exact ⟨.tup [], s'.h, m', F', h2, h1, h3, by simp only [VRel, VRels]; exact ⟨[], rfl, by simp⟩, h5⟩
              | cons v vr =>
                cases vr with
                | nil =>
                  simp only [VRels] at k2
                  obtain ⟨u, _, k2, rfl, rfl⟩ := k2
                  exact ⟨v, s'.h, m', F', h2, h1, h3, by simpa using k2, h5⟩
                | cons v2 vr =>
                  have hl2 := k2.length
                  exact ⟨.tup (v :: v2 :: vr), s'.h, m', F', h2, h1, h3, by
                    rw [if_neg (by simp at hl2; omega)]
                    simp only [VRel]
                    exact ⟨us', k2, rfl⟩, h5⟩
          cases e with
          | normal => obtain ⟨s', m', F', q1, q2, q3, q4, q5⟩ := hq; exact fin s' m' F' q1 q2 q3 q4 q5
          | ret => obtain ⟨s', m', F', q1, q2, q3, q4, q5⟩ := hq; exact fin s' m' F' q1 q2 q3 q4 q5
          | exit i => obtain ⟨s', m', F', q1, _⟩ := hq; exact q1.elim
          | goto l => exact hq.elim
          | panic ch => exact hq.elim
          | outgrown => exact hq.elim
        · cases hf
      · cases hf

/-- Less is asked. -/
theorem ACalls.mono {P : Program} {f : FuncId} {args : List AVal} {h : AHeap} {Q Q' : AVal → AHeap → Prop} (hc : ACalls P f args h Q) (hq : ∀ v h', h.next ≤ h'.next → Q v h' → Q' v h') : ACalls P f args h Q' :=
  ⟨hc.1, fun m F w us r1 r2 => (hc.2 m F w us r1 r2).mono fun e w' hp => by
    cases e <;> first | exact hp.elim | skip
    obtain ⟨v, h', m', F', q1, q2, q3⟩ := hp
    exact ⟨v, h', m', F', q1, hq _ _ q1 q2, q3⟩⟩
/-- What is known of the arguments and the heap anyway. -/
theorem ACalls.facts {P : Program} {f : FuncId} {args : List AVal} {h : AHeap} {Q : AVal → AHeap → Prop} (hb : isBody P f = true) (hc : HOk h → AVal.oks h.next args → ACalls P f args h Q) : ACalls P f args h Q :=
  ⟨hb, fun m F w us R hu => (hc R.hok (hu.ok R.old)).2 m F w us R hu⟩
theorem isBody_of {P : Program} {f : FuncId} {x : Nat × ACode × List RVar} (hf : fnCode P f = some x) : isBody P f = true := by
  unfold fnCode at hf
  split at hf
  · cases hf
  · rename_i fn hfn
    split at hf
    · cases hf
    · rename_i c hb
      split at hf
      · rename_i hname
        simp only [isBody, hfn, hb, Option.isSome_some, Bool.and_true]
        exact hname
      · cases hf

/-- Behind a call: what is no more of use is forgotten. -/
def Shed (v : AVal) (h : AHeap) (v' : AVal) (h' : AHeap) : Prop := Sub h' h ∧ HOk h' ∧ Weak v v' ∧ v'.ok h'.next
theorem ACalls.shed {P : Program} {f : FuncId} {args : List AVal} {h : AHeap} {Q Q' : AVal → AHeap → Prop} (hc : ACalls P f args h Q)
    (hq : ∀ v h', h.next ≤ h'.next → HOk h → HOk h' → AVal.oks h.next args → Q v h' → ∃ v' h2, Shed v h' v' h2 ∧ h.next ≤ h2.next ∧ Q' v' h2) : ACalls P f args h Q' :=
  ⟨hc.1, fun m F w us R hu => (hc.2 m F w us R hu).mono fun e w' hp => by
    cases e <;> first | exact hp.elim | skip
    obtain ⟨v, h', m', F', q1, q2, q3, q4, q5⟩ := hp
    obtain ⟨v', h2, hs, hn, hq'⟩ := hq v h' q1 R.hok q3.hok (hu.ok R.old) q2
    exact ⟨v', h2, _, F', hn, hq', q3.cut hs.1 hs.2.1, (q4.weak hs.2.2.1).cut _ _ hs.2.2.2, q5.cut R hn⟩⟩
end Go.Proofs.Ytbdnopflbnbhnaa.Ab
