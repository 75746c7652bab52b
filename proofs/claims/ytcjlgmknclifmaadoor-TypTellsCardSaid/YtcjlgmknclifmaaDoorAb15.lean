/- From the abstract code to the model's (2): statements, functions. -/
import Derived.Test.YtcjlgmknclifmaaDoorAb14
import Derived.Deep.LoopGhost
set_option linter.unusedVariables false
set_option linter.unusedSimpArgs false
namespace Go.Proofs.YtcjlgmknclifmaaDoor.Ab
open Go

section
variable {P : Program} {n : Nat}

def Map.via (m : Map) (n : Nat) (π : Nat → Nat) : Map := fun id => if id < n then m (π id) else none
mutual
theorem VRel.via {m : Map} {F : Nat → Prop} {w : World} {n : Nat} {π : Nat → Nat} : ∀ (x : AVal) (v : Value), x.ok n → VRel m F w (x.ren π) v → VRel (m.via n π) F w x v
  | .junk, v, _, hv => by simp only [VRel]
  | .int k n, v, _, hv => by simp only [AVal.ren, VRel] at hv ⊢; exact hv
  | .bool b, v, _, hv => by simp only [AVal.ren, VRel] at hv ⊢; exact hv
  | .anyb, v, _, hv => by simp only [AVal.ren, VRel] at hv ⊢; exact hv
  | .str s, v, _, hv => by simp only [AVal.ren, VRel] at hv ⊢; exact hv
  | .nilp, v, _, hv => by simp only [AVal.ren, VRel] at hv ⊢; exact hv
  | .ptr id off, v, ho, hv => by
    simp only [AVal.ren, VRel] at hv ⊢; simp only [AVal.ok] at ho
    obtain ⟨b, o, h1, h2⟩ := hv
    exact ⟨b, o, by simp only [Map.via, ho, if_true]; exact h1, h2⟩
  | .ref x, v, ho, hv => by
    simp only [AVal.ren, VRel] at hv ⊢; simp only [AVal.ok] at ho
    obtain ⟨b, o, u, h1, h2, h3, h4⟩ := hv
    exact ⟨b, o, u, VRel.via x u ho h1, h2, h3, h4⟩
  | .nils, v, _, hv => by simp only [AVal.ren, VRel] at hv ⊢; exact hv
  | .vec e full xs, v, ho, hv => by
    simp only [AVal.ren, VRel] at hv ⊢; simp only [AVal.ok] at ho
    obtain ⟨A, c, vs, h1, h2⟩ := hv
    exact ⟨A, c, vs, VRels.via xs vs ho.2 h1, h2⟩
  | .sl e id off len cap, v, ho, hv => by
    simp only [AVal.ren, VRel] at hv ⊢; simp only [AVal.ok] at ho
    obtain ⟨b, o, A, c, h1, h2⟩ := hv
    exact ⟨b, o, A, c, by simp only [Map.via, ho.1, if_true]; exact h1, h2⟩
  | .nilm, v, _, hv => by simp only [AVal.ren, VRel] at hv ⊢; exact hv
  | .map id, v, ho, hv => by
    simp only [AVal.ren, VRel] at hv ⊢; simp only [AVal.ok] at ho
    obtain ⟨b, h1, h2⟩ := hv
    exact ⟨b, by simp only [Map.via, ho, if_true]; exact h1, h2⟩
  | .clo f cs, v, ho, hv => by
    simp only [AVal.ren, VRel] at hv ⊢; simp only [AVal.ok] at ho
    obtain ⟨us, h1, h2⟩ := hv
    exact ⟨us, VRels.via cs us ho h1, h2⟩
  | .nilf, v, _, hv => by simp only [AVal.ren, VRel] at hv ⊢; exact hv
  | .iface t x, v, ho, hv => by
    simp only [AVal.ren, VRel] at hv ⊢; simp only [AVal.ok] at ho
    obtain ⟨u, h1, h2⟩ := hv
    exact ⟨u, VRel.via x u ho h1, h2⟩
  | .nili, v, _, hv => by simp only [AVal.ren, VRel] at hv ⊢; exact hv
  | .agg cs, v, ho, hv => by
    simp only [AVal.ren, VRel] at hv ⊢; simp only [AVal.ok] at ho
    obtain ⟨us, h1, h2⟩ := hv
    exact ⟨us, VRels.via cs us ho h1, h2⟩
  | .tup cs, v, ho, hv => by
    simp only [AVal.ren, VRel] at hv ⊢; simp only [AVal.ok] at ho
    obtain ⟨us, h1, h2⟩ := hv
    exact ⟨us, VRels.via cs us ho h1, h2⟩
theorem VRels.via {m : Map} {F : Nat → Prop} {w : World} {n : Nat} {π : Nat → Nat} : ∀ (xs : List AVal) (vs : List Value), AVal.oks n xs → VRels m F w (AVal.rens π xs) vs → VRels (m.via n π) F w xs vs
  | [], vs, _, hv => by simp only [AVal.rens, VRels] at hv ⊢; exact hv
  | x :: xs, vs, ho, hv => by
    simp only [AVal.rens, VRels] at hv ⊢; simp only [AVal.oks] at ho
    obtain ⟨u, us, h1, h2, h3⟩ := hv
    exact ⟨u, us, VRel.via x u ho.1 h1, VRels.via xs us ho.2 h2, h3⟩
end
theorem rens_map {π : Nat → Nat} : ∀ (xs : List AVal), AVal.rens π xs = xs.map (AVal.ren π)
  | [] => by simp only [AVal.rens, List.map_nil]
  | x :: xs => by simp only [AVal.rens, List.map_cons, rens_map xs]
theorem one_ren {π : Nat → Nat} {x : AVal} : (x.ren π).one = x.one := by cases x <;> simp only [AVal.ren, AVal.one]
mutual
theorem VRel.ok {m : Map} {F : Nat → Prop} {w : World} {n : Nat} (hn : ∀ id, n ≤ id → m id = none) : ∀ (x : AVal) (v : Value), VRel m F w x v → x.ok n
  | .junk, v, hv => by simp only [AVal.ok]
  | .int k n, v, hv => by simp only [AVal.ok]
  | .bool b, v, hv => by simp only [AVal.ok]
  | .anyb, v, hv => by simp only [AVal.ok]
  | .str s, v, hv => by simp only [VRel] at hv; simp only [AVal.ok]; exact hv.2
  | .nilp, v, hv => by simp only [AVal.ok]
  | .ptr id off, v, hv => by
    simp only [VRel] at hv; simp only [AVal.ok]
    obtain ⟨b, o, h1, h2⟩ := hv
    rcases Nat.lt_or_ge id n with h | h
    · exact h
    · rw [hn id h] at h1; cases h1
  | .ref x, v, hv => by
    simp only [VRel] at hv; simp only [AVal.ok]
    obtain ⟨b, o, u, h1, h2, h3, h4⟩ := hv
    exact VRel.ok hn x u h1
  | .nils, v, hv => by simp only [AVal.ok]
  | .vec e full xs, v, hv => by
    simp only [VRel] at hv; simp only [AVal.ok]
    obtain ⟨A, c, vs, h1, h2, h3, h4, h5⟩ := hv
    exact ⟨by rw [← h1.length]; exact h4, VRels.ok hn xs vs h1⟩
  | .sl e id off len cap, v, hv => by
    simp only [VRel] at hv; simp only [AVal.ok]
    obtain ⟨b, o, A, c, h1, h2, h3, h4, h5, h6, h7⟩ := hv
    refine ⟨?_, h7⟩
    rcases Nat.lt_or_ge id n with h | h
    · exact h
    · rw [hn id h] at h1; cases h1
  | .nilm, v, hv => by simp only [AVal.ok]
  | .map id, v, hv => by
    simp only [VRel] at hv; simp only [AVal.ok]
    obtain ⟨b, h1, h2⟩ := hv
    rcases Nat.lt_or_ge id n with h | h
    · exact h
    · rw [hn id h] at h1; cases h1
  | .clo f cs, v, hv => by
    simp only [VRel] at hv; simp only [AVal.ok]
    obtain ⟨us, h1, h2⟩ := hv
    exact VRels.ok hn cs us h1
  | .nilf, v, hv => by simp only [AVal.ok]
  | .iface t x, v, hv => by
    simp only [VRel] at hv; simp only [AVal.ok]
    obtain ⟨u, h1, h2⟩ := hv
    exact VRel.ok hn x u h1
  | .nili, v, hv => by simp only [AVal.ok]
  | .agg cs, v, hv => by
    simp only [VRel] at hv; simp only [AVal.ok]
    obtain ⟨us, h1, h2⟩ := hv
    exact VRels.ok hn cs us h1
  | .tup cs, v, hv => by
    simp only [VRel] at hv; simp only [AVal.ok]
    obtain ⟨us, h1, h2⟩ := hv
    exact VRels.ok hn cs us h1
theorem VRels.ok {m : Map} {F : Nat → Prop} {w : World} {n : Nat} (hn : ∀ id, n ≤ id → m id = none) : ∀ (xs : List AVal) (vs : List Value), VRels m F w xs vs → AVal.oks n xs
  | [], vs, hv => by simp only [AVal.oks]
  | x :: xs, vs, hv => by
    simp only [VRels] at hv; simp only [AVal.oks]
    obtain ⟨u, us, h1, h2, h3⟩ := hv
    exact ⟨VRel.ok hn x u h1, VRels.ok hn xs us h2⟩
end
theorem oks_iff {n : Nat} : ∀ {xs : List AVal}, AVal.oks n xs ↔ ∀ x ∈ xs, x.ok n
  | [] => by simp [AVal.oks]
  | x :: xs => by simp [AVal.oks, oks_iff (xs := xs)]
theorem ORel.ok {m : Map} {F : Nat → Prop} {w : World} {n : Nat} (hn : ∀ id, n ≤ id → m id = none) {o : AObj} {b off : Nat} (k : ORel m F w o b off) : o.ok n := by
  cases k with
  | cells hb hl hfr hc =>
    simp only [AObj.ok, oks_iff]
    intro x hx
    obtain ⟨i, hi⟩ := List.getElem?_of_mem hx
    obtain ⟨v, _, _, hv⟩ := hc i x hi
    exact hv.ok hn
  | map hb hl hc =>
    simp only [AObj.ok]
    intro x hx
    obtain ⟨i, hi⟩ := List.getElem?_of_mem hx
    have hlt := (List.getElem?_eq_some_iff.1 hi).1
    have := hc i x _ hi (Array.getElem?_eq_getElem (by omega))
    exact ⟨this.1.ok hn, this.2.ok hn⟩
theorem ORel.via {m : Map} {F : Nat → Prop} {w : World} {n : Nat} {π : Nat → Nat} {o : AObj} {b off : Nat} (ho : o.ok n) (k : ORel m F w (o.ren π) b off) : ORel (m.via n π) F w o b off := by
  cases o with
  | cells ty cs =>
    simp only [AObj.ren] at k
    simp only [AObj.ok, oks_iff] at ho
    cases k with
    | cells hb hl hfr hc =>
      rw [rens_map] at hl hc
      refine .cells hb (by simpa using hl) hfr fun i x hx => ?_
      obtain ⟨v, h1, h2, h3⟩ := hc i (x.ren π) (by simp [hx])
      exact ⟨v, h1, h2, h3.via _ _ (ho x (List.mem_of_getElem? hx))⟩
  | map es =>
    simp only [AObj.ren] at k
    simp only [AObj.ok] at ho
    cases k with
    | map hb hl hc =>
      refine .map hb (by simpa using hl) fun i x e hx he => ?_
      have := hc i (x.1.ren π, x.2.ren π) e (by simp [hx]) he
      exact ⟨this.1.via _ _ (ho x (List.mem_of_getElem? hx)).1, this.2.via _ _ (ho x (List.mem_of_getElem? hx)).2⟩
theorem Rel.hok {h : AHeap} {m : Map} {F : Nat → Prop} {w : World} (R : Rel h m F w) : HOk h := by
  intro id o ho
  obtain ⟨b, off, h1, h2, h3⟩ := R.live id o ho
  exact ⟨R.lt_next ho, h3.ok R.old⟩
theorem Rel.via {h h' : AHeap} {m : Map} {F : Nat → Prop} {w : World} {n : Nat} {π : Nat → Nat} (R : Rel h m F w) (hr : Renamed n π h h') : Rel h' (m.via h'.next π) F w := by
  obtain ⟨h1, h2, h3, ho, h4⟩ := hr
  have hm : ∀ id x, h'.f id = some x → m.via h'.next π id = m (π id) := fun id x hx => by simp only [Map.via, (ho id x hx).1, if_true]
  refine ⟨fun id o hi => ?_, fun id id' b o o' x x' g1 g2 g3 g4 => ?_, fun id hid => by simp only [Map.via]; rw [if_neg (by omega)], R.flt, R.tab⟩
  · obtain ⟨b, off, g1, g2, g3⟩ := R.live (π id) _ (h4 id o hi)
    exact ⟨b, off, by rw [hm id o hi]; exact g1, g2, g3.via (ho id o hi).2⟩
  · rw [hm id x g1] at g3; rw [hm id' x' g2] at g4
    exact h2 id id' (ho id x g1).1 (ho id' x' g2).1 (R.inj (π id) (π id') b o o' _ _ (h4 _ _ g1) (h4 _ _ g2) g3 g4)
theorem VRel.weak {m : Map} {F : Nat → Prop} {w : World} {x y : AVal} {v : Value} (hw : Weak x y) (h : VRel m F w x v) : VRel m F w y v := by
  rcases hw with rfl | rfl | ⟨rfl, e, b, rfl⟩ | ⟨e, id, off, c, rfl, rfl⟩
  · exact h
  · simp only [VRel]
  · simp only [VRel] at h ⊢
    subst h
    exact ⟨none, 0, [], by simp only [VRels], rfl, Nat.le_refl _, by simp [huge], fun _ => rfl, fun x hx => by simp at hx, fun hx => absurd rfl hx⟩
  · simp only [VRel] at h ⊢
    obtain ⟨b, o, A, c', _, rfl, _⟩ := h
    exact ⟨some A, c', [], by simp only [VRels], rfl, Nat.zero_le _, by simp [huge], by simp, fun x hx => by simp at hx, fun hx => absurd rfl hx⟩
/-! ### what is never written again -/
/-- The blocks told by value stay from now on. -/
def frozen (Z : Nat → Prop) (h : AHeap) (m : Map) (F : Nat → Prop) : Nat → Prop := fun b => F b ∨ ∃ id o off, Z id ∧ h.f id = some o ∧ m id = some (b, off)
theorem frozen_ff {Z : Nat → Prop} {h : AHeap} {m : Map} {F : Nat → Prop} : ∀ b, F b → frozen Z h m F b := fun b hb => .inl hb
theorem frozen_at {Z : Nat → Prop} {h : AHeap} {m : Map} {F : Nat → Prop} {w : World} (R : Rel h m F w) {id : Nat} {ty : TypeId} {cs : List AVal} {b o : Nat} (hz : Z id) (ho : h.f id = some (.cells ty cs)) (hm : m id = some (b, o)) :
    frozen Z h m F b ∧ ∀ i x, cs[i]? = some x → ∃ v, CellAt w b (o + i) v ∧ v.oneCell' = true ∧ VRel m F w x v := by
  obtain ⟨b', o', h1, h2, h3⟩ := R.live id _ ho
  rw [hm] at h1; cases h1
  cases h3 with
  | cells hb hl hfr hc =>
    exact ⟨.inr ⟨id, _, o, hz, ho, hm⟩, fun i x hx => let ⟨v, k1, k2, k3⟩ := hc i x hx; ⟨v, ⟨_, _, _, hb, k1⟩, k2, k3⟩⟩
theorem Ext.frozen {Z : Nat → Prop} {h : AHeap} {m : Map} {F : Nat → Prop} {w : World} : Ext m F w m (Ab.frozen Z h m F) w :=
  ⟨fun _ _ h => h, frozen_ff, fun _ _ => rfl, fun _ _ h => h, Nat.le_refl _, rfl, rfl, rfl⟩
theorem drop_take_at {α : Type} {l : List α} {off n i : Nat} {x : α} (h : ((l.drop off).take n)[i]? = some x) : i < n ∧ l[off + i]? = some x := by
  rw [List.getElem?_take] at h
  split at h
  · rename_i hlt
    rw [List.getElem?_drop] at h
    exact ⟨hlt, h⟩
  · cases h
/-- Cells of a block told by value, and what they are in the model. -/
theorem frz_vals {Z : Nat → Prop} {h : AHeap} {m : Map} {F : Nat → Prop} {w : World} (R : Rel h m F w) {id : Nat} {ty : TypeId} {cs : List AVal} {b o : Nat} (hz : Z id) (ho : h.f id = some (.cells ty cs)) (hm : m id = some (b, o)) (off n : Nat) (hn : off + n ≤ cs.length) :
    ∃ us : List Value, us.length = n ∧ VRels m F w ((cs.drop off).take n) us ∧ ∀ (i : Nat) (u : Value), us[i]? = some u → u.oneCell' = true ∧ CellAt w b (o + off + i) u := by
  obtain ⟨_, hc⟩ := frozen_at R hz ho hm
  have h1 : ∀ i ∈ List.range n, ∃ v : Value, (∀ x, cs[off + i]? = some x → VRel m F w x v) ∧ v.oneCell' = true ∧ CellAt w b (o + off + i) v := by
    intro i hi
    have hi := List.mem_range.1 hi
    obtain ⟨v, k1, k2, k3⟩ := hc (off + i) _ (List.getElem?_eq_getElem (by omega))
    refine ⟨v, fun x hx => ?_, k2, by rw [Nat.add_assoc]; exact k1⟩
    rw [List.getElem?_eq_getElem (by omega)] at hx
    cases hx; exact k3
  have go : ∀ (l : List Nat), (∀ i ∈ l, ∃ v : Value, (∀ x, cs[off + i]? = some x → VRel m F w x v) ∧ v.oneCell' = true ∧ CellAt w b (o + off + i) v) →
      ∃ us : List Value, us.length = l.length ∧ ∀ (j i : Nat) (u : Value), l[j]? = some i → us[j]? = some u → (∀ x, cs[off + i]? = some x → VRel m F w x u) ∧ u.oneCell' = true ∧ CellAt w b (o + off + i) u := by
    intro l
    induction l with
    | nil => intro _; exact ⟨[], rfl, fun j i u hj => by simp at hj⟩
    | cons a l ih =>
      intro hl
      obtain ⟨v, hv⟩ := hl a (by simp)
      obtain ⟨us, k1, k2⟩ := ih (fun i hi => hl i (by simp [hi]))
      refine ⟨v :: us, by simp [k1], fun j i u hj hu => ?_⟩
      cases j with
      | zero => simp at hj hu; subst hj; subst hu; exact hv
      | succ j => exact k2 j i u (by simpa using hj) (by simpa using hu)
  obtain ⟨us, k1, k2⟩ := go _ h1
  simp only [List.length_range] at k1
  refine ⟨us, k1, VRels.mk (by simp; omega) fun i x v hx hv => ?_, fun i u hu => ?_⟩
  · have := drop_take_at hx
    exact (k2 i i v (List.getElem?_range this.1) hv).1 x this.2
  · have hlt := (List.getElem?_eq_some_iff.1 hu).1
    exact (k2 i i u (List.getElem?_range (by omega)) hu).2
theorem flat_group : ∀ (ys : List (List AVal)) (e : Nat) {m : Map} {F : Nat → Prop} {w : World} {us : List Value}, (∀ y ∈ ys, y.length = e) → VRels m F w ys.flatten us → ∃ gs : List (List Value), gs.length = ys.length ∧ us = gs.flatten ∧ (∀ g ∈ gs, g.length = e) ∧
    VRels m F w (ys.map .agg) (gs.map fun g => .agg g.toArray)
  | [], e, m, F, w, us, _, h => by simp only [List.flatten_nil, VRels] at h; subst h; exact ⟨[], rfl, rfl, by simp, by simp only [List.map_nil, VRels]⟩
  | y :: ys, e, m, F, w, us, hl, h => by
    have hlen := h.length
    have h1 := h.take y.length
    have h2 := h.drop y.length
    simp only [List.flatten_cons, List.take_left, List.drop_left] at h1 h2
    obtain ⟨gs, k1, k2, k3, k4⟩ := flat_group ys e (fun z hz => hl z (by simp [hz])) h2
    refine ⟨us.take y.length :: gs, by simp [k1], by rw [List.flatten_cons, ← k2, List.take_append_drop], fun g hg => ?_, ?_⟩
    · rcases List.mem_cons.1 hg with rfl | hg
      · have := h1.length; rw [this]; exact hl y (by simp)
      · exact k3 g hg
    · simp only [List.map_cons, VRels, VRel]
      exact ⟨_, _, ⟨_, h1, rfl⟩, k4, rfl⟩
theorem flatten_at {α : Type} {e : Nat} : ∀ (gs : List (List α)) (i j : Nat) (g : List α) (x : α), (∀ g ∈ gs, g.length = e) → gs[i]? = some g → g[j]? = some x → gs.flatten[i * e + j]? = some x
  | [], i, j, g, x, _, h, _ => by simp at h
  | a :: gs, 0, j, g, x, hl, h, hx => by
    simp at h; subst h
    have := (List.getElem?_eq_some_iff.1 hx).1
    rw [List.flatten_cons, List.getElem?_append_left (by omega)]; simpa using hx
  | a :: gs, i + 1, j, g, x, hl, h, hx => by
    have ha := hl a (by simp)
    have := flatten_at gs i j g x (fun z hz => hl z (by simp [hz])) (by simpa using h) hx
    rw [List.flatten_cons, List.getElem?_append_right (by rw [ha, Nat.succ_mul]; omega), ha, Nat.succ_mul]
    rw [show i * e + e + j - e = i * e + j from by omega]
    exact this
section
variable {Z : Nat → Prop} {h : AHeap} {m : Map} {F : Nat → Prop} {w : World}
def LeM (Z : Nat → Prop) (h : AHeap) (m : Map) (F : Nat → Prop) (w : World) (x y : AVal) : Prop := ∀ v, VRel m F w x v → VRel m (frozen Z h m F) w y v
def LesM (Z : Nat → Prop) (h : AHeap) (m : Map) (F : Nat → Prop) (w : World) (xs ys : List AVal) : Prop := ∀ vs, VRels m F w xs vs → VRels m (frozen Z h m F) w ys vs
theorem LeM.refl (v : AVal) : LeM Z h m F w v v := fun u hv => hv.ext Ext.frozen
theorem LeM.junk (v : AVal) : LeM Z h m F w v .junk := fun u hv => by simp only [VRel]
theorem LeM.anyb (b : Bool) : LeM Z h m F w (.bool b) .anyb := fun u hv => by simp only [VRel] at hv ⊢; exact ⟨b, hv⟩
theorem LeM.nils (e : Nat) (b : Bool) : LeM Z h m F w .nils (.vec e b []) := fun v hv => by
  simp only [VRel] at hv ⊢
  subst hv
  exact ⟨none, 0, [], by simp only [VRels], rfl, Nat.le_refl _, by simp [huge], fun _ => rfl, fun x hx => by simp at hx, fun hx => absurd rfl hx⟩
theorem LeM.empty (e id off : Nat) (c : Option Nat) : LeM Z h m F w (.sl e id off 0 c) (.vec e false []) := fun v hv => by
  simp only [VRel] at hv ⊢
  obtain ⟨b, o, A, c', _, rfl, _⟩ := hv
  exact ⟨some A, c', [], by simp only [VRels], rfl, Nat.zero_le _, by simp [huge], by simp, fun x hx => by simp at hx, fun hx => absurd rfl hx⟩
theorem LeM.frz1 (R : Rel h m F w) {id off len : Nat} {c : Option Nat} {ty : TypeId} {cs xs : List AVal} (hz : Z id) (ho : h.f id = some (.cells ty cs)) (hl : off + len ≤ cs.length) (hcs : LesM Z h m F w ((cs.drop off).take len) xs) : LeM Z h m F w (.sl 1 id off len c) (.vec 1 false xs) := fun v hv => by
  simp only [VRel] at hv ⊢
  obtain ⟨b, o, A, c', h1, rfl, h3, h4, h5, h6, h7⟩ := hv
  obtain ⟨us, k1, k2, k3⟩ := frz_vals R hz ho h1 off len hl
  have k4 := hcs _ k2
  have k6 := big_huge h7
  refine ⟨some A, c', us, k4, by rw [k1], by omega, by omega, by simp, fun x hx => ?_, fun hne => ?_⟩
  · obtain ⟨i, hi⟩ := List.getElem?_of_mem hx
    rw [cells_of_one (k3 i x hi).1]; rfl
  · have hpos : 0 < c' := by
      have : 0 < us.length := List.length_pos_iff.2 hne
      omega
    refine ⟨b, o + off, by rw [h4 hpos], (frozen_at R hz ho h1).1, fun i x hi j cc hj => ?_⟩
    rw [cells_of_one (k3 i x hi).1] at hj
    cases j with
    | zero => simp at hj; subst hj; simpa using (k3 i x hi).2
    | succ j => simp at hj
theorem LeM.frzN (R : Rel h m F w) {e id off len : Nat} {c : Option Nat} {ty : TypeId} {cs : List AVal} {ys : List (List AVal)} (hz : Z id) (ho : h.f id = some (.cells ty cs)) (he : 0 < e) (hl : off + len * e ≤ cs.length) (hyl : ys.length = len) (hye : ∀ y ∈ ys, y.length = e)
    (hcs : LesM Z h m F w ((cs.drop off).take (len * e)) ys.flatten) : LeM Z h m F w (.sl e id off len c) (.vec e false (ys.map .agg)) := fun v hv => by
  simp only [VRel] at hv ⊢
  obtain ⟨b, o, A, c', h1, rfl, h3, h4, h5, h6, h7⟩ := hv
  obtain ⟨us, k1, k2, k3⟩ := frz_vals R hz ho h1 off (len * e) hl
  have k4 := hcs _ k2
  have k6 := big_huge h7
  obtain ⟨gs, g1, g2, g3, g4⟩ := flat_group ys e hye k4
  have hlen : (gs.map fun g => Value.agg g.toArray).length = len := by simp [g1, hyl]
  refine ⟨some A, c', gs.map fun g => .agg g.toArray, g4, by rw [hlen], by omega, by omega, by simp, fun x hx => ?_, fun hne => ?_⟩
  · obtain ⟨g, hg, rfl⟩ := List.mem_map.1 hx
    simpa [Value.cells] using g3 g hg
  · have hpos : 0 < c' := by
      have : 0 < (gs.map fun g => Value.agg g.toArray).length := List.length_pos_iff.2 hne
      omega
    refine ⟨b, o + off, by rw [h4 hpos], (frozen_at R hz ho h1).1, fun i x hi j cc hj => ?_⟩
    simp only [List.getElem?_map, Option.map_eq_some_iff] at hi
    obtain ⟨g, hg, rfl⟩ := hi
    have hj' : g[j]? = some cc := by simpa [Value.cells] using hj
    have := flatten_at gs i j g cc g3 hg hj'
    rw [← g2] at this
    have := (k3 _ _ this).2
    rwa [← Nat.add_assoc] at this
theorem LeM.ref1 (R : Rel h m F w) {id off : Nat} {ty : TypeId} {cs : List AVal} {x y : AVal} (hz : Z id) (ho : h.f id = some (.cells ty cs)) (hx : cs[off]? = some x) (hle : LeM Z h m F w x y) : LeM Z h m F w (.ptr id off) (.ref y) := fun v hv => by
  simp only [VRel] at hv ⊢
  obtain ⟨b, o, h1, rfl⟩ := hv
  obtain ⟨f1, f2⟩ := frozen_at R hz ho h1
  obtain ⟨u, k1, k2, k3⟩ := f2 off x hx
  refine ⟨b, o + off, u, hle _ k3, f1, rfl, fun i cc hi => ?_⟩
  rw [cells_of_one k2] at hi
  cases i with
  | zero => simp at hi; subst hi; simpa using k1
  | succ i => simp at hi
theorem LeM.refN (R : Rel h m F w) {id off : Nat} {ty : TypeId} {cs ys : List AVal} (hz : Z id) (ho : h.f id = some (.cells ty cs)) (hl : off + ys.length ≤ cs.length) (hcs : LesM Z h m F w ((cs.drop off).take ys.length) ys) : LeM Z h m F w (.ptr id off) (.ref (.agg ys)) := fun v hv => by
  simp only [VRel] at hv ⊢
  obtain ⟨b, o, h1, rfl⟩ := hv
  obtain ⟨us, k1, k2, k3⟩ := frz_vals R hz ho h1 off ys.length hl
  refine ⟨b, o + off, .agg us.toArray, ⟨us, hcs _ k2, rfl⟩, (frozen_at R hz ho h1).1, rfl, fun i cc hi => ?_⟩
  simp only [Value.cells, List.getElem?_toArray] at hi
  exact (k3 i cc hi).2
theorem LeM.ref {x y : AVal} (hle : LeM Z h m F w x y) : LeM Z h m F w (.ref x) (.ref y) := fun v hv => by
  simp only [VRel] at hv ⊢
  obtain ⟨b, o, u, h1, h2, h3, h4⟩ := hv
  exact ⟨b, o, u, hle _ h1, frozen_ff b h2, h3, h4⟩
theorem LeM.vec {e : Nat} {b b' : Bool} {xs ys : List AVal} (hb : b' = true → b = true) (hcs : LesM Z h m F w xs ys) : LeM Z h m F w (.vec e b xs) (.vec e b' ys) := fun v hv => by
  simp only [VRel] at hv ⊢
  obtain ⟨A, c, vs, h1, h2, h3, h4, h6, h5⟩ := hv
  exact ⟨A, c, vs, hcs _ h1, h2, h3, h4, fun hx => h6 (hb hx), h5.ext Ext.frozen⟩
theorem LeM.clo {f : FuncId} {xs ys : List AVal} (hcs : LesM Z h m F w xs ys) : LeM Z h m F w (.clo f xs) (.clo f ys) := fun v hv => by
  simp only [VRel] at hv ⊢
  obtain ⟨us, h1, h2⟩ := hv
  exact ⟨us, hcs _ h1, h2⟩
theorem LeM.iface {t : TypeId} {x y : AVal} (hle : LeM Z h m F w x y) : LeM Z h m F w (.iface t x) (.iface t y) := fun v hv => by
  simp only [VRel] at hv ⊢
  obtain ⟨u, h1, h2⟩ := hv
  exact ⟨u, hle _ h1, h2⟩
theorem LeM.agg {xs ys : List AVal} (hcs : LesM Z h m F w xs ys) : LeM Z h m F w (.agg xs) (.agg ys) := fun v hv => by
  simp only [VRel] at hv ⊢
  obtain ⟨us, h1, h2⟩ := hv
  exact ⟨us, hcs _ h1, h2⟩
theorem LeM.tup {xs ys : List AVal} (hcs : LesM Z h m F w xs ys) : LeM Z h m F w (.tup xs) (.tup ys) := fun v hv => by
  simp only [VRel] at hv ⊢
  obtain ⟨us, h1, h2⟩ := hv
  exact ⟨us, hcs _ h1, h2⟩
theorem LesM.nil : LesM Z h m F w [] [] := fun v hv => by simp only [VRels] at hv ⊢; exact hv
theorem LesM.cons {x y : AVal} {xs ys : List AVal} (h1 : LeM Z h m F w x y) (h2 : LesM Z h m F w xs ys) : LesM Z h m F w (x :: xs) (y :: ys) := fun v hv => by
  simp only [VRels] at hv ⊢
  obtain ⟨u, us, k1, k2, k3⟩ := hv
  exact ⟨u, us, h1 _ k1, h2 _ k2, k3⟩
theorem le_sound (R : Rel h m F w) {x y : AVal} (hle : Le Z h x y) {v : Value} (hv : VRel m F w x v) : VRel m (frozen Z h m F) w y v :=
  Le.rec (motive_1 := fun x y _ => LeM Z h m F w x y) (motive_2 := fun xs ys _ => LesM Z h m F w xs ys) LeM.refl LeM.junk LeM.anyb LeM.nils LeM.empty (fun a b c _ d => .frz1 R a b c d) (fun a b c d e f _ g => .frzN R a b c d e f g)
    (fun a b c _ d => .ref1 R a b c d) (fun a b c _ d => .refN R a b c d) (fun _ a => .ref a) (fun a _ b => .vec a b) (fun _ a => .clo a) (fun _ a => .iface a) (fun _ a => .agg a) (fun _ a => .tup a) .nil (fun _ _ a b => .cons a b) hle _ hv
theorem les_sound (R : Rel h m F w) {xs ys : List AVal} (hle : Les Z h xs ys) {vs : List Value} (hv : VRels m F w xs vs) : VRels m (frozen Z h m F) w ys vs :=
  Les.rec (motive_1 := fun x y _ => LeM Z h m F w x y) (motive_2 := fun xs ys _ => LesM Z h m F w xs ys) LeM.refl LeM.junk LeM.anyb LeM.nils LeM.empty (fun a b c _ d => .frz1 R a b c d) (fun a b c d e f _ g => .frzN R a b c d e f g)
    (fun a b c _ d => .ref1 R a b c d) (fun a b c _ d => .refN R a b c d) (fun _ a => .ref a) (fun a _ b => .vec a b) (fun _ a => .clo a) (fun _ a => .iface a) (fun _ a => .agg a) (fun _ a => .tup a) .nil (fun _ _ a b => .cons a b) hle _ hv
end
theorem Les.length {Z : Nat → Prop} {h : AHeap} : ∀ {xs ys : List AVal}, Les Z h xs ys → ys.length = xs.length
  | _, _, .nil => rfl
  | _, _, .cons _ h2 => by simp [Les.length h2]
theorem Les.get {Z : Nat → Prop} {h : AHeap} : ∀ {xs ys : List AVal}, Les Z h xs ys → ∀ {i : Nat} {y : AVal}, ys[i]? = some y → ∃ x, xs[i]? = some x ∧ Le Z h x y
  | _, _, .nil, i, y, hi => by simp at hi
  | _, _, .cons h1 h2, i, y, hi => by
    cases i with
    | zero => simp at hi; subst hi; exact ⟨_, by simp, h1⟩
    | succ i => simp at hi; obtain ⟨x, k1, k2⟩ := Les.get h2 hi; exact ⟨x, by simpa using k1, k2⟩
theorem ole_sound {Z : Nat → Prop} {h : AHeap} {m : Map} {F : Nat → Prop} {w : World} (R : Rel h m F w) {o o' : AObj} (hle : OLe Z h o o') {b off : Nat} (k : ORel m F w o b off) : ORel m (frozen Z h m F) w o' b off := by
  cases o with
  | cells ty cs =>
    cases o' with
    | map es => exact hle.elim
    | cells ty' cs' =>
      obtain ⟨rfl, hcs⟩ := hle
      cases k with
      | cells hb hl hfr hc =>
        refine .cells hb (by rw [hcs.length]; exact hl) hfr fun i y hy => ?_
        obtain ⟨x, g1, g2⟩ := hcs.get hy
        obtain ⟨v, k1, k2, k3⟩ := hc i x g1
        exact ⟨v, k1, k2, le_sound R g2 k3⟩
  | map es =>
    cases o' with
    | cells ty' cs' => exact hle.elim
    | map es' =>
      obtain ⟨h1, h2⟩ := hle
      have hl' : es'.length = es.length := by simpa using h1.length
      cases k with
      | map hb hl hc =>
        refine .map hb (by omega) fun i y e hy he => ?_
        obtain ⟨x1, g1, g2⟩ := h1.get (i := i) (y := y.1) (by simp [hy])
        obtain ⟨x2, g3, g4⟩ := h2.get (i := i) (y := y.2) (by simp [hy])
        simp only [List.getElem?_map, Option.map_eq_some_iff] at g1 g3
        obtain ⟨p, p1, rfl⟩ := g1
        obtain ⟨q, q1, rfl⟩ := g3
        rw [p1] at q1; cases q1
        have := hc i p e p1 he
        exact ⟨le_sound R g2 this.1, le_sound R g4 this.2⟩
theorem Rel.renz {h h' : AHeap} {m : Map} {F : Nat → Prop} {w : World} {n : Nat} {π : Nat → Nat} {Z : Nat → Prop} (R : Rel h m F w) (hr : RenZ n π Z h h') : Rel h' (m.via h'.next π) (frozen Z h m F) w := by
  obtain ⟨h1, h2, h3, ho, h4⟩ := hr
  have hm : ∀ id x, h'.f id = some x → m.via h'.next π id = m (π id) := fun id x hx => by simp only [Map.via, (ho id x hx).1, if_true]
  refine ⟨fun id o hi => ?_, fun id id' b o o' x x' g1 g2 g3 g4 => ?_, fun id hid => by simp only [Map.via]; rw [if_neg (by omega)], fun b hb => ?_, R.tab.ext (Ext.frozen (m := m))⟩
  · obtain ⟨hz, o0, k1, k2⟩ := h4 id o hi
    obtain ⟨b, off, g1, g2, g3⟩ := R.live (π id) _ k1
    refine ⟨b, off, by rw [hm id o hi]; exact g1, fun hb => ?_, ORel.via (ho id o hi).2 (ole_sound R k2 g3)⟩
    rcases hb with hb | ⟨id2, o2, off2, q1, q2, q3⟩
    · exact g2 hb
    · exact hz (R.inj id2 (π id) b _ _ _ _ q2 k1 q3 g1 ▸ q1)
  · rw [hm id x g1] at g3; rw [hm id' x' g2] at g4
    obtain ⟨_, o1, k1, _⟩ := h4 _ _ g1
    obtain ⟨_, o2, k2, _⟩ := h4 _ _ g2
    exact h2 id id' (ho id x g1).1 (ho id' x' g2).1 (R.inj (π id) (π id') b o o' _ _ k1 k2 g3 g4)
  · rcases hb with hb | ⟨id2, o2, off2, q1, q2, q3⟩
    · exact R.flt b hb
    · obtain ⟨b', off', g1, g2, g3⟩ := R.live id2 _ q2
      rw [q3] at g1; cases g1
      exact g3.lt
theorem Le.of_weak {Z : Nat → Prop} {h : AHeap} {x y : AVal} (hw : Weak x y) : Le Z h x y := by
  rcases hw with rfl | rfl | ⟨rfl, e, b, rfl⟩ | ⟨e, id, off, c, rfl, rfl⟩
  · exact .refl _
  · exact .junk _
  · exact .nils _ _
  · exact .empty _ _ _ _
theorem les_refl {Z : Nat → Prop} {h : AHeap} : ∀ (xs : List AVal), Les Z h xs xs
  | [] => .nil
  | x :: xs => .cons (.refl x) (les_refl xs)
theorem ole_refl {Z : Nat → Prop} {h : AHeap} (o : AObj) : OLe Z h o o := by
  cases o with
  | cells ty cs => exact ⟨rfl, les_refl _⟩
  | map es => exact ⟨les_refl _, les_refl _⟩
theorem RenZ.of {n : Nat} {π : Nat → Nat} {h h' : AHeap} (hr : Renamed n π h h') : RenZ n π (fun _ => False) h h' :=
  ⟨hr.1, hr.2.1, hr.2.2.1, hr.2.2.2.1, fun id o ho => ⟨fun h => h, _, hr.2.2.2.2 id o ho, ole_refl _⟩⟩
theorem SOk.of {s : St} {m : Map} {F : Nat → Prop} {w : World} {a : Act} (R : Rel s.h m F w) (A : ARel n m F w s.ρ a) : SOk s :=
  ⟨R.hok, fun t => (A.rel t).ok R.old⟩
theorem Ext.via {N : Nat} {m m' : Map} {F F' : Nat → Prop} {w w' : World} {k : Nat} {π : Nat → Nat} (R : ∀ id, N ≤ id → m id = none) (hk : N ≤ k) (hp : ∀ id, id < N → π id = id) (e : Ext m F w m' F' w') : Ext m F w (m'.via k π) F' w' :=
  ⟨fun id x hx => by
    have hid : id < N := by
      rcases Nat.lt_or_ge id N with h1 | h1
      · exact h1
      · rw [R id h1] at hx; cases hx
    have : id < k := by omega
    simp only [Map.via, this, if_true, hp id hid]; exact e.mm id x hx, e.ff, e.keep, e.shp, e.size, e.os, e.tape, e.output⟩
/-- What a tidying leaves, in the model. -/
theorem tidy_ok {N : Nat} {s s' : St} {m m' : Map} {F F' : Nat → Prop} {w w' : World} {a : Act} (R0 : ∀ id, N ≤ id → m id = none) (R : Rel s.h m' F' w') (A : ARel n m' F' w' s.ρ a) (e : Ext m F w m' F' w') (ht : Tidy N s s') :
    ∃ m'' F'', Rel s'.h m'' F'' w' ∧ ARel n m'' F'' w' s'.ρ a ∧ Ext m F w m'' F'' w' ∧ N ≤ s'.h.next := by
  obtain ⟨π, Z, hr, hv⟩ := ht
  exact ⟨_, _, R.renz hr, ⟨A.dfr, A.sz, fun t => (le_sound R (hv t).1 (A.rel t)).via _ _ (hv t).2⟩, (e.trans Ext.frozen).via R0 hr.2.2.1 hr.1, hr.2.2.1⟩

theorem Lift.base {m m1 : Map} {F F1 : Nat → Prop} {w w1 : World} {N N1 : Nat} {K : St → Prop} {a' : Act} {w' : World} (e : Ext m F w m1 F1 w1) (hN : N ≤ N1) (h : Lift n m1 F1 w1 N1 K a' w') : Lift n m F w N K a' w' := by
  obtain ⟨s', m', F', h1, h2, h3, h4, h5⟩ := h
  exact ⟨s', m', F', h1, by omega, h3, h4, e.trans h5⟩

theorem ops_ok {ops : Array Oper} : ∀ (lo : List Oper) (l : List AOper), rOpers P n ops lo = some l → ∀ {K : St → Prop} {s : St} {m : Map} {F : Nat → Prop} {w : World} {a : Act} {Q : Exit → Act → World → Prop}, aops P l K s → Rel s.h m F w → ARel n m F w s.ρ a →
    (∀ a' w', Lift n m F w s.h.next K a' w' → Q .normal a' w') → wpList P ops Q lo a w
  | [], l, h, K, s, m, F, w, a, Q, hk, R, A, hq => by
    simp only [rOpers] at h; cases h
    exact hq a w ⟨s, m, F, hk, Nat.le_refl _, R, A, Ext.refl _ _ _⟩
  | o :: lo, l, h, K, s, m, F, w, a, Q, hk, R, A, hq => by
    simp only [rOpers] at h
    split at h <;> cases h
    rename_i ao l' h1 h2
    have := op_ok h1 (next := wpList P ops Q lo) (Q := Q) hk R A (fun a' w' hl => by
      obtain ⟨s', m', F', k1, k2, k3, k4, k5⟩ := hl
      exact ops_ok lo l' h2 k1 k3 k4 (fun a2 w2 hl2 => hq a2 w2 (hl2.base k5 k2)))
    unfold wpList
    split
    · rename_i hw; rw [if_pos hw] at this; exact .inl this
    · rename_i hw; rw [if_neg hw] at this; exact this

theorem any_ok {ops : Array Oper} {l : List AOper} (hl : rOpers P n ops ops.toList = some l) : ∀ (fuel : Nat) (listed : Array Bool) (R0 : List (Nat × AObj)) {K : St → Prop} {s : St} {m : Map} {F : Nat → Prop} {w : World} {a : Act} {Q : Exit → Act → World → Prop},
    TAny P l ops fuel listed R0 K s → Rel s.h m F w → ARel n m F w s.ρ a → (∀ a' w', Lift n m F w s.h.next K a' w' → Q .normal a' w') → wpAny P .any ops Q fuel listed a w
  | 0, listed, R0, K, s, m, F, w, a, Q, hk, R, A, hq => by
    simp only [TAny] at hk
    exact ⟨hk.1, hq a w ⟨s, m, F, hk.2, Nat.le_refl _, R, A, Ext.refl _ _ _⟩⟩
  | fuel + 1, listed, R0, K, s, m, F, w, a, Q, hk, R, A, hq => by
    have hk' := hk R.wf
    refine ⟨fun he => hq a w ⟨s, m, F, hk'.1 he, Nat.le_refl _, R, A, Ext.refl _ _ _⟩, fun i hi => ?_⟩
    have h1 := hk'.2 i hi
    have get : ∀ (lo : List Oper) (l : List AOper) (i : Nat) (o : Oper), rOpers P n ops lo = some l → lo[i]? = some o → ∃ ao, l[i]? = some ao ∧ rOper P n ops o = some ao := by
      intro lo
      induction lo with
      | nil => intro l i o _ h; simp at h
      | cons o lo ih =>
        intro l i o' h1 h2
        simp only [rOpers] at h1
        split at h1 <;> cases h1
        rename_i ao l' g1 g2
        cases i with
        | zero => simp at h2; subst h2; exact ⟨ao, rfl, g1⟩
        | succ i => exact ih l' i o' g2 (by simpa using h2)
    obtain ⟨hun, o, ho, _⟩ := mem_ready.1 hi
    obtain ⟨ao, ha1, ha2⟩ := get ops.toList l i o hl (by simpa using ho)
    unfold aopI at h1
    rw [ha1] at h1
    have := op_ok ha2 (next := wpAny P .any ops Q fuel (listed.setIfInBounds i true)) (Q := Q) h1 R A (fun a' w' hlift => by
      obtain ⟨s', m', F', k1, k2, k3, k4, k5⟩ := hlift
      exact any_ok hl fuel _ R0 k1.2 k3 k4 (fun a2 w2 hl2 => hq a2 w2 (hl2.base k5 k2)))
    unfold wpOp
    simp only [ho]
    split
    · rename_i hw; rw [if_pos hw] at this; exact .inl this
    · rename_i hw; rw [if_neg hw] at this; exact this

def LiftQ (n : Nat) (m : Map) (F : Nat → Prop) (w : World) (N : Nat) (Q : AExit → St → Prop) : Exit → Act → World → Prop
  | .normal, a', w' => Lift n m F w N (Q .normal) a' w'
  | .exit i, a', w' => Lift n m F w N (Q (.exit i)) a' w'
  | .ret, a', w' => Lift n m F w N (Q .ret) a' w'
  | _, _, _ => False

theorem LiftQ.base {m m1 : Map} {F F1 : Nat → Prop} {w w1 : World} {N N1 : Nat} {Q : AExit → St → Prop} {e : Exit} {a' : Act} {w' : World} (x : Ext m F w m1 F1 w1) (hN : N ≤ N1) (h : LiftQ n m1 F1 w1 N1 Q e a' w') : LiftQ n m F w N Q e a' w' := by
  cases e <;> simp only [LiftQ] at h ⊢ <;> exact h.base x hN

theorem ev_ok {m0 : Map} {F0 : Nat → Prop} {w0 : World} {N : Nat} (R0 : ∀ id, N ≤ id → m0 id = none) : ∀ (c : Code) (ac : ACode), resolveCode P n c = some ac → ∀ {Q : AExit → St → Prop} {s : St} {m : Map} {F : Nat → Prop} {w : World} {a : Act}, Ev P N ac Q s → Rel s.h m F w → ARel n m F w s.ρ a →
    Ext m0 F0 w0 m F w → N ≤ s.h.next → c.wp P (LiftQ n m0 F0 w0 N Q) a w := by
  intro c
  induction c with
  | skip =>
    intro ac h Q s m F w a hk R A E hN
    simp only [resolveCode] at h; cases h
    exact wp_skip ⟨s, m, F, hk, hN, R, A, E⟩
  | region id ops d =>
    intro ac h Q s m F w a hk R A E hN
    cases d with
    | false =>
      simp only [resolveCode, Option.map_eq_some_iff] at h
      obtain ⟨l, hl, rfl⟩ := h
      exact wp_region_list (ops_ok ops.toList l hl hk R A (fun a' w' hlift => hlift.base E hN))
    | true =>
      simp only [resolveCode] at h
      split at h
      · rename_i hc
        split at h
        · rename_i l hl
          cases hp : plan l ops ops.size (Array.replicate ops.size false) with
          | none => rw [hp] at h; cases h; exact hk.elim
          | some p =>
          rw [hp] at h
          cases h
          have hlen : ∀ (lo : List Oper) (l : List AOper), rOpers P n ops lo = some l → l.length = lo.length := by
            intro lo
            induction lo with
            | nil => intro l h; simp only [rOpers] at h; cases h; rfl
            | cons o lo ih => intro l h; simp only [rOpers] at h; split at h <;> cases h; rename_i g2; simp [ih _ g2]
          have hlo : l.length = ops.size := by rw [hlen _ _ hl, Array.length_toList]
          obtain ⟨R', E'⟩ := R.drew (w' := { w with drawn := w.drawn + 1 }) rfl rfl rfl rfl
          exact wp_region_any hc.1 (any_ok hl _ _ _ (adraw_sound hlo _ _ _ _ _ _ hp hk) R' (A.ext E') (fun a' w' hlift => (hlift.base E' (Nat.le_refl _)).base E hN))
        · cases h
      · cases h
  | seq x y ihx ihy =>
    intro ac h Q s m F w a hk R A E hN
    simp only [resolveCode] at h
    split at h <;> cases h
    rename_i ax ay hx hy
    refine wp_seq (wp_mono (ihx ax hx hk R A E hN) fun e a' w' hq => ?_)
    cases e with
    | normal =>
      obtain ⟨s', m', F', k1, k2, k3, k4, k5⟩ := hq
      exact ihy ay hy k1 k3 k4 k5 k2
    | exit i => exact hq
    | ret => exact hq
    | goto l => exact hq.elim
    | panic ch => exact hq.elim
    | outgrown => exact hq.elim
  | cond c x y ihx ihy =>
    intro ac h Q s m F w a hk R A E hN
    simp only [resolveCode] at h
    split at h <;> cases h
    rename_i c' ax ay hc hx hy
    have hcr := rOpd_sound A hc
    simp only [Ev] at hk
    split at hk
    · rename_i t ht
      rw [ht] at hcr
      simp only [VRel] at hcr
      refine wp_cond hcr ?_
      cases t with
      | true => exact ihx ax hx (hk.1 rfl) R A E hN
      | false => exact ihy ay hy (hk.2 rfl) R A E hN
    · rename_i ht
      rw [ht] at hcr
      simp only [VRel] at hcr
      obtain ⟨t, hcr⟩ := hcr
      refine wp_cond hcr ?_
      cases t with
      | true => exact ihx ax hx hk.1 R A E hN
      | false => exact ihy ay hy hk.2 R A E hN
    · exact hk.elim
  | block id c ih =>
    intro ac h Q s m F w a hk R A E hN
    simp only [resolveCode, Option.map_eq_some_iff] at h
    obtain ⟨ax, hx, rfl⟩ := h
    refine wp_block (wp_mono (ih ax hx hk R A E hN) fun e a' w' hq => ?_)
    cases e with
    | normal => exact hq
    | exit i =>
      by_cases he : i = id
      · subst he
        have e1 : blockK i Q (AExit.exit i) = Q .normal := by funext s; simp [blockK]
        simp only [LiftQ, e1] at hq
        simp only [Exit.inBlock, if_true]
        exact hq
      · have e1 : blockK id Q (AExit.exit i) = Q (.exit i) := by funext s; simp [blockK, he]
        simp only [LiftQ, e1] at hq
        simp only [Exit.inBlock, he, if_false]
        exact hq
    | ret => exact hq
    | goto l => exact hq.elim
    | panic ch => exact hq.elim
    | outgrown => exact hq.elim
  | loop c ih =>
    intro ac h Q s m F w a hk R A E hN
    simp only [resolveCode, Option.map_eq_some_iff] at h
    obtain ⟨ax, hx, rfl⟩ := h
    obtain ⟨ι, I, S, μ, ⟨i0, hI, ht0⟩, hstep⟩ := hk (SOk.of R A) hN
    obtain ⟨m1, F1, r1, a1, e1, n1⟩ := tidy_ok R0 R A E ht0
    refine wp_loop_ghost (fun k a' w' => ∃ i m' F', I i ∧ μ i = k ∧ N ≤ (S i).h.next ∧ Rel (S i).h m' F' w' ∧ ARel n m' F' w' (S i).ρ a' ∧ Ext m0 F0 w0 m' F' w') (μ i0) ⟨i0, m1, F1, hI, rfl, n1, r1, a1, e1⟩ ?_
    rintro k a1 w1 ⟨i1, m1, F1, k1, k2, k3, k4, k5, k6⟩
    refine wp_mono (ih ax hx (hstep i1 k1 (SOk.of k4 k5)) k4 k5 k6 k3) fun e a' w' hq => ?_
    cases e with
    | normal =>
      obtain ⟨s', m', F', q1, q2, q3, q4, q5⟩ := hq
      obtain ⟨j, p1, p2, p4⟩ := q1 (SOk.of q3 q4)
      obtain ⟨m2, F2, r2, a2, e2, n2⟩ := tidy_ok R0 q3 q4 q5 p4
      exact ⟨μ j, by rw [← k2]; exact p2, j, m2, F2, p1, rfl, n2, r2, a2, e2⟩
    | exit i => exact hq
    | ret => exact hq
    | goto l => exact hq.elim
    | panic ch => exact hq.elim
    | outgrown => exact hq.elim
  | exit id =>
    intro ac h Q s m F w a hk R A E hN
    simp only [resolveCode] at h; cases h
    exact wp_exit ⟨s, m, F, hk, hN, R, A, E⟩
  | ret =>
    intro ac h Q s m F w a hk R A E hN
    simp only [resolveCode] at h; cases h
    exact wp_ret ⟨s, m, F, hk, hN, R, A, E⟩
  | rangeFunc => intro ac h Q s m F w a hk; simp only [resolveCode] at h; cases h; exact hk.elim
  | scope => intro ac h Q s m F w a hk; simp only [resolveCode] at h; cases h; exact hk.elim
  | label => intro ac h Q s m F w a hk; simp only [resolveCode] at h; cases h; exact hk.elim
  | goto => intro ac h Q s m F w a hk; simp only [resolveCode] at h; cases h; exact hk.elim
  | refuse => intro ac h Q s m F w a hk; simp only [resolveCode] at h; cases h; exact hk.elim
end

/-! ### functions -/
inductive RVar where
  | tmp (t : Nat)
  | cell (a : Nat) (n : Option Nat)
  deriving Inhabited
def rRes (P : Program) : List ResultVar → Option (List RVar)
  | [] => some []
  | .tmp t :: r => (rRes P r).map (.tmp t :: ·)
  | .cell a t :: r => match aggN P t, rRes P r with | some n, some l => some (.cell a n :: l) | _, _ => none
def retVs (s : St) : List RVar → Option (List AVal)
  | [] => some []
  | .tmp t :: r => (retVs s r).map (s.ρ t :: ·)
  | .cell a n :: r => match loadV s.h n (s.ρ a), retVs s r with | some v, some l => some (v :: l) | _, _ => none
def retV (rs : List RVar) (s : St) : Option AVal :=
  match retVs s rs with
  | some [v] => some v
  | some vs => some (.tup vs)
  | none => none
def fnCode (P : Program) (f : FuncId) : Option (Nat × ACode × List RVar) :=
  match P.funcs[f]? with
  | none => none
  | some fn =>
    match fn.body with
    | none => none
    | some c =>
      if fn.name != "runtime.NumGoroutine" then
        match resolveCode P fn.ntmps c, rRes P fn.results.toList with
        | some ac, some rs => some (fn.ntmps, ac, rs)
        | _, _ => none
      else none
def argsFrom : Nat → List AVal → Nat → AVal
  | _, [] => fun _ => .junk
  | k, a :: r => upd (argsFrom (k + 1) r) k a
def retK (rs : List RVar) (Q : AVal → AHeap → Prop) : AExit → St → Prop
  | .exit _, _ => False
  | _, s => match retV rs s with | some v => Q v s.h | none => False

theorem argsFrom_get : ∀ (l : List AVal) (k t : Nat), argsFrom k l t = if k ≤ t then ((l[t - k]?).getD .junk) else .junk
  | [], k, t => by simp [argsFrom]
  | a :: r, k, t => by
    simp only [argsFrom, upd]
    by_cases h : t = k
    · subst h; simp
    · rw [if_neg h, argsFrom_get r (k + 1) t]
      by_cases h2 : k ≤ t
      · rw [if_pos h2, if_pos (by omega), show t - k = (t - (k + 1)) + 1 from by omega]
        simp
      · rw [if_neg h2, if_neg (by omega)]

def resOne (tmps : Array Value) (r : ResultVar) : Sem Value :=
  match r with
  | .tmp t => pure (tmps.getD t undef)
  | .cell a t => do loadVar t (← asAddr (tmps.getD a undef))
theorem results_eq (fn : Func) (tmps : Array Value) : results fn tmps = (fn.results.mapM (resOne tmps) >>= fun vs => pure (if h : vs.size = 1 then vs[0] else .tuple vs)) := by
  unfold results
  congr 1
theorem asAddr_some_run (P : Program) (A : Addr) (w : World) : (asAddr (.pointer (some A))).run P w = .ok A w := by
  simp only [asAddr, Sem.run_pure]

theorem acalls_of {P : Program} {f : FuncId} {n : Nat} {ac : ACode} {rs : List RVar} (hf : fnCode P f = some (n, ac, rs)) {args : List AVal} {h : AHeap} {Q : AVal → AHeap → Prop} (hl : args.length ≤ n) (hk : Ev P h.next ac (retK rs Q) ⟨argsFrom 0 args, h⟩) : ACalls P f args h Q := by
  unfold fnCode at hf
  split at hf
  · cases hf
  · rename_i fn hfn
    split at hf
    · cases hf
    · rename_i c hb
      split at hf
      · rename_i hname
        split at hf
        · rename_i ac' rs' hc hrs
          cases hf
          refine ⟨by simp [isBody, hfn, hname, hb] at *, fun m F w us R hu => ?_⟩
          refine calls_of_wp hfn hb ?_
          have A : ARel fn.ntmps m F w (argsFrom 0 args) { tmps := us.toArray ++ Array.replicate (fn.ntmps - us.toArray.size) undef, defers := [] } := by
            have hlu := hu.length
            refine ⟨rfl, by simp; omega, fun t => ?_⟩
            rw [argsFrom_get, if_pos (Nat.zero_le _), Nat.sub_zero]
            cases ht : args[t]? with
            | none => simp only [Option.getD_none, VRel]
            | some x =>
              obtain ⟨v, hv, hr⟩ := hu.get ht
              have hlt := (List.getElem?_eq_some_iff.1 hv).1
              simp only [Option.getD_some]
              have : (us.toArray ++ Array.replicate (fn.ntmps - us.toArray.size) undef).getD t undef = v := by
                rw [Array.getD_eq_getD_getElem?, Array.getElem?_append_left (by simpa using hlt)]
                simp [hv]
              rw [this]; exact hr
          refine wp_mono (ev_ok R.old c ac hc hk R A (Ext.refl _ _ _) (Nat.le_refl _)) fun e a' w' hq => ?_
          have fin : ∀ (s' : St) (m' : Map) (F' : Nat → Prop), (match retV rs s' with | some v => Q v s'.h | none => False) → h.next ≤ s'.h.next → Rel s'.h m' F' w' → ARel fn.ntmps m' F' w' s'.ρ a' → Ext m F w m' F' w' →
              a'.defers = [] ∧ ∃ v, (results fn a'.tmps).run P w' = .ok v w' ∧ Post h m F w Q (.returned v) w' := by
            intro s' m' F' h1 h2 h3 h4 h5
            have vals : ∀ (l : List ResultVar) (rl : List RVar) (vs : List AVal), rRes P l = some rl → retVs s' rl = some vs → ∃ us, (l.mapM (resOne a'.tmps)).run P w' = .ok us w' ∧ VRels m' F' w' vs us := by
              intro l
              induction l with
              | nil => intro rl vs g1 g2; simp only [rRes] at g1; cases g1; simp only [retVs] at g2; cases g2; exact ⟨[], by simp, by simp only [VRels]⟩
              | cons r l ih =>
                intro rl vs g1 g2
                cases r with
                | tmp t =>
                  simp only [rRes, Option.map_eq_some_iff] at g1
                  obtain ⟨rl', g1, rfl⟩ := g1
                  simp only [retVs, Option.map_eq_some_iff] at g2
                  obtain ⟨vs', g2, rfl⟩ := g2
                  obtain ⟨us, k1, k2⟩ := ih rl' vs' g1 g2
                  refine ⟨a'.tmps.getD t undef :: us, ?_, by simp only [VRels]; exact ⟨_, _, h4.rel t, k2, rfl⟩⟩
                  simp only [List.mapM_cons, resOne, Sem.run_bind, Sem.run_pure, Result.andThen_ok, k1]
                | cell ad t =>
                  simp only [rRes] at g1
                  split at g1 <;> cases g1
                  rename_i nn rl' g0 g1
                  simp only [retVs] at g2
                  split at g2 <;> cases g2
                  rename_i v vs' gv g2
                  obtain ⟨us, k1, k2⟩ := ih rl' vs' g1 g2
                  have hrel := h4.rel ad
                  obtain ⟨u, q1, q2⟩ := loadV_sound (P := P) h3 g0 hrel gv
                  have hadr : ∃ A, a'.tmps.getD ad undef = .pointer (some A) := by
                    unfold loadV at gv
                    split at gv
                    · rename_i he; rw [he] at hrel; simp only [VRel] at hrel; obtain ⟨b, o, _, hb⟩ := hrel; exact ⟨_, hb⟩
                    · rename_i he; rw [he] at hrel; simp only [VRel] at hrel; obtain ⟨b, o, _, _, _, hb, _⟩ := hrel; exact ⟨_, hb⟩
                    · cases gv
                  obtain ⟨A, hA⟩ := hadr
                  rw [hA] at q1
                  refine ⟨u :: us, ?_, by simp only [VRels]; exact ⟨_, _, q2, k2, rfl⟩⟩
                  simp only [Instr.loadAt, Instr.sureAddr, Sem.run_bind, Sem.run_pure, Result.andThen_ok] at q1
                  rw [List.mapM_cons]
                  simp only [resOne, Sem.run_bind, hA, asAddr_some_run, Result.andThen_ok, q1, k1, Sem.run_pure]
            unfold retV at h1
            cases hvs : retVs s' rs with
            | none => rw [hvs] at h1; exact h1.elim
            | some vs =>
              obtain ⟨us', k1, k2⟩ := vals _ _ _ hrs hvs
              refine ⟨h4.dfr, ?_⟩
              have hrun : (results fn a'.tmps).run P w' = .ok (if us'.length = 1 then us'.headD undef else .tuple us'.toArray) w' := by
                rw [results_eq, Array.mapM_eq_mapM_toList]
                simp only [Sem.run_bind, Sem.run_map, k1, Result.andThen_ok, Sem.run_pure]
                congr 1
                cases us' with
                | nil => simp
                | cons u r =>
                  cases r with
                  | nil => simp
                  | cons u2 r => simp
              refine ⟨_, hrun, ?_⟩
              rw [hvs] at h1
              cases vs with
              | nil =>
                simp only [VRels] at k2; subst k2
                exact ⟨.tup [], s'.h, m', F', h2, h1, h3, by simp only [VRel, VRels]; exact ⟨[], rfl, by simp⟩, h5⟩
              | cons v vr =>
                cases vr with
                | nil =>
                  simp only [VRels] at k2
                  obtain ⟨u, _, k2, rfl, rfl⟩ := k2
                  exact ⟨v, s'.h, m', F', h2, h1, h3, by simpa using k2, h5⟩
                | cons v2 vr =>
                  have hl2 := k2.length
                  exact ⟨.tup (v :: v2 :: vr), s'.h, m', F', h2, h1, h3, by
                    rw [if_neg (by simp at hl2; omega)]
                    simp only [VRel]
                    exact ⟨us', k2, rfl⟩, h5⟩
          cases e with
          | normal => obtain ⟨s', m', F', q1, q2, q3, q4, q5⟩ := hq; exact fin s' m' F' q1 q2 q3 q4 q5
          | ret => obtain ⟨s', m', F', q1, q2, q3, q4, q5⟩ := hq; exact fin s' m' F' q1 q2 q3 q4 q5
          | exit i => obtain ⟨s', m', F', q1, _⟩ := hq; exact q1.elim
          | goto l => exact hq.elim
          | panic ch => exact hq.elim
          | outgrown => exact hq.elim
        · cases hf
      · cases hf

/-- Less is asked. -/
theorem ACalls.mono {P : Program} {f : FuncId} {args : List AVal} {h : AHeap} {Q Q' : AVal → AHeap → Prop} (hc : ACalls P f args h Q) (hq : ∀ v h', h.next ≤ h'.next → Q v h' → Q' v h') : ACalls P f args h Q' :=
  ⟨hc.1, fun m F w us r1 r2 => (hc.2 m F w us r1 r2).mono fun e w' hp => by
    cases e <;> first | exact hp.elim | skip
    obtain ⟨v, h', m', F', q1, q2, q3⟩ := hp
    exact ⟨v, h', m', F', q1, hq _ _ q1 q2, q3⟩⟩
/-- What is known of the arguments and the heap anyway. -/
theorem ACalls.facts {P : Program} {f : FuncId} {args : List AVal} {h : AHeap} {Q : AVal → AHeap → Prop} (hb : isBody P f = true) (hc : HOk h → AVal.oks h.next args → ACalls P f args h Q) : ACalls P f args h Q :=
  ⟨hb, fun m F w us R hu => (hc R.hok (hu.ok R.old)).2 m F w us R hu⟩
theorem isBody_of {P : Program} {f : FuncId} {x : Nat × ACode × List RVar} (hf : fnCode P f = some x) : isBody P f = true := by
  unfold fnCode at hf
  split at hf
  · cases hf
  · rename_i fn hfn
    split at hf
    · cases hf
    · rename_i c hb
      split at hf
      · rename_i hname
        simp only [isBody, hfn, hb, Option.isSome_some, Bool.and_true]
        exact hname
      · cases hf

/-- Behind a call: what is no more of use is forgotten, and the rest renumbered. -/
def Shed (n : Nat) (v : AVal) (h : AHeap) (v' : AVal) (h' : AHeap) : Prop := ∃ π Z, RenZ n π Z h h' ∧ Le Z h v (v'.ren π) ∧ v'.ok h'.next
theorem ACalls.shed {P : Program} {f : FuncId} {args : List AVal} {h : AHeap} {Q Q' : AVal → AHeap → Prop} (hc : ACalls P f args h Q)
    (hq : ∀ v h', h.next ≤ h'.next → HOk h → HOk h' → AVal.oks h.next args → Q v h' → ∃ v' h2, Shed h.next v h' v' h2 ∧ Q' v' h2) : ACalls P f args h Q' :=
  ⟨hc.1, fun m F w us R hu => (hc.2 m F w us R hu).mono fun e w' hp => by
    cases e <;> first | exact hp.elim | skip
    obtain ⟨v, h', m', F', q1, q2, q3, q4, q5⟩ := hp
    obtain ⟨v', h2, ⟨π, Z, hr, hw, hv⟩, hq'⟩ := hq v h' q1 R.hok q3.hok (hu.ok R.old) q2
    exact ⟨v', h2, _, _, hr.2.2.1, hq', q3.renz hr, (le_sound q3 hw q4).via _ _ hv, (q5.trans Ext.frozen).via R.old hr.2.2.1 hr.1⟩⟩
end Go.Proofs.YtcjlgmknclifmaaDoor.Ab
