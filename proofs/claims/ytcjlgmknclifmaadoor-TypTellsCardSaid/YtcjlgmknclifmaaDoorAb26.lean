/- What comes in, of types that hold themselves: reading by fuel. -/
import Derived.Test.YtcjlgmknclifmaaDoorAb23
set_option linter.unusedVariables false
set_option linter.unusedSimpArgs false
namespace Go.Proofs.YtcjlgmknclifmaaDoor.Ab
open Go Go.ChangeShapes Go.WideShapes Go.ChangeAt Go.RowKit

/-- Whatever is read of a type, with less fuel than N, is of a certain form. -/
def OpensN (P : Program) (N : Nat) (t : TypeId) (α : Type) (V : α → List AVal) (I : α → Prop) : Prop :=
  ∀ (H : Type) (enc : TypeId × Value → H) (W : World) (n : Nat) (cs : List Value) (x : DataW H × List MemPlace), n < N → DataW.trod enc P W 0 (fun _ => true) true n t cs = some x → ∃ a, I a ∧ VRels noMap (oldB W) W (V a) cs
def OpensRN (P : Program) (N : Nat) (ts : List TypeId) (α : Type) (V : α → List AVal) (I : α → Prop) : Prop :=
  ∀ (H : Type) (enc : TypeId × Value → H) (W : World) (n : Nat) (cs : List Value), n < N → RowTrod enc P W n ts cs → ∃ a, I a ∧ VRels noMap (oldB W) W (V a) cs
section
variable {P : Program}
theorem Opens.ofN {t : TypeId} {α : Type} {V : α → List AVal} {I : α → Prop} (h : ∀ N, OpensN P N t α V I) : Opens P t α V I := fun H enc W n cs x hx => h (n + 1) H enc W n cs x (Nat.lt_succ_self n) hx
theorem Opens.toN {t : TypeId} {α : Type} {V : α → List AVal} {I : α → Prop} (h : Opens P t α V I) (N : Nat) : OpensN P N t α V I := fun H enc W n cs x _ hx => h H enc W n cs x hx
theorem OpensN.zero {t : TypeId} {α : Type} {V : α → List AVal} {I : α → Prop} : OpensN P 0 t α V I := fun H enc W n cs x hn hx => absurd hn (Nat.not_lt_zero n)
theorem OpensRN.nil {N : Nat} : OpensRN P N [] Unit (fun _ => []) (fun _ => True) := fun H enc W n cs _ h => ⟨(), trivial, by simp only [RowTrod] at h; simp only [VRels]; exact h⟩
theorem OpensRN.cons {N : Nat} {t : TypeId} {ts : List TypeId} {α β : Type} {V : α → List AVal} {V' : β → List AVal} {I : α → Prop} {I' : β → Prop} (h1 : OpensN P N t α V I) (h2 : OpensRN P N ts β V' I') :
    OpensRN P N (t :: ts) (α × β) (fun p => V p.1 ++ V' p.2) (fun p => I p.1 ∧ I' p.2) := by
  intro H enc W n cs hn h
  obtain ⟨⟨y, hy⟩, hr⟩ := h
  obtain ⟨a, ia, va⟩ := h1 H enc W n _ _ hn hy
  obtain ⟨b, ib, vb⟩ := h2 H enc W n _ hn hr
  exact ⟨(a, b), ⟨ia, ib⟩, by have := va.append vb; rwa [List.take_append_drop] at this⟩
theorem OpensN.struct {N : Nat} {t : TypeId} {fs : Array Field} {α : Type} {V : α → List AVal} {I : α → Prop} (ht : P.underlying t = some (.struct fs))
    (hl : (laidFrom P 0 fs.toList && P.cellsOf t == (fs.toList.map fun f => P.cellsOf f.type).sum) = true) (h : OpensRN P N (fs.toList.map (·.type)) α V I) : OpensN P (N + 1) t α V I := by
  intro H enc W n cs x hn hx
  obtain ⟨xs, m, hm, _, hlen, hxl, hf⟩ := DataW.trod_struct ht hx
  simp only [Bool.and_eq_true, beq_iff_eq] at hl
  refine h H enc W m cs (by omega) ?_
  have := rowTrod_of (enc := enc) (W := W) (n := m) fs.toList 0 cs hl.1 (by omega) (fun f hfm => by
    obtain ⟨i, hi⟩ := List.getElem?_of_mem hfm
    have hlt := (List.getElem?_eq_some_iff.1 hi).1
    have h1 := hf i f (by simpa using hi)
    rw [List.getElem?_eq_getElem (by simp at hlt; omega)] at h1
    exact ⟨_, h1⟩)
  simpa using this
theorem OpensN.as {N : Nat} {t : TypeId} {α β : Type} {V : α → List AVal} {I : α → Prop} {V' : β → List AVal} {I' : β → Prop} (h : OpensN P N t α V I) (f : α → β) (hv : ∀ a, I a → V' (f a) = V a) (hi : ∀ a, I a → I' (f a)) : OpensN P N t β V' I' := by
  intro H enc W n cs x hn hx
  obtain ⟨a, ia, va⟩ := h H enc W n cs x hn hx
  exact ⟨f a, hi a ia, by rw [hv a ia]; exact va⟩
theorem sliceN_parts {N : Nat} {t e : TypeId} {α : Type} {V : α → List AVal} {I : α → Prop} (ht : P.underlying t = some (.slice e)) (hE : OpensN P N e α V I) {H : Type} {enc : TypeId × Value → H} {W : World} {n : Nat} {cs : List Value} {x : DataW H × List MemPlace}
    (hn : n < N + 1) (hx : DataW.trod enc P W 0 (fun _ => true) true n t cs = some x) :
    cs = [.slice none 0 0] ∨ ∃ (a : Addr) (len cap : Nat) (css : List (List Value)) (avs : List α), cs = [.slice (some a) len cap] ∧ len ≤ cap ∧ cap ≤ maxLen ∧ css.length = len ∧ avs.length = len ∧
      (∀ (i : Nat) (cs : List Value), css[i]? = some cs → W.cells? 0 (a.add (i * P.cellsOf e)) (P.cellsOf e) = some cs) ∧ ∀ (i : Nat) (cs : List Value) (a : α), css[i]? = some cs → avs[i]? = some a → I a ∧ VRels noMap (oldB W) W (V a) cs := by
  rcases DataW.trod_slice ht hx with ⟨rfl, _⟩ | ⟨a, len, cap, elems, rest, m, hm, rfl, _, _, hlc, hcm, hlen, hel, _⟩
  · exact .inl rfl
  · right
    have h1 : ∀ i ∈ List.range len, ∃ p : List Value × α, W.cells? 0 (a.add (i * P.cellsOf e)) (P.cellsOf e) = some p.1 ∧ I p.2 ∧ VRels noMap (oldB W) W (V p.2) p.1 := by
      intro i hi
      have hlt : i < len := List.mem_range.1 hi
      have := hel i hlt
      rw [List.getElem?_eq_getElem (by omega)] at this
      simp only [Option.bind_eq_some_iff] at this
      obtain ⟨c, hc, ht⟩ := this
      obtain ⟨b, ib, vb⟩ := hE H enc W m c _ (by omega) ht
      exact ⟨(c, b), hc, ib, vb⟩
    obtain ⟨ps, hps, hp⟩ := choose_list (List.range len) h1
    simp only [List.length_range] at hps
    have hr : ∀ i p, ps[i]? = some p → (List.range len)[i]? = some i := fun i p hi => by rw [List.getElem?_range (by have := (List.getElem?_eq_some_iff.1 hi).1; omega)]
    refine ⟨a, len, cap, ps.map (·.1), ps.map (·.2), rfl, hlc, hcm, by simp [hps], by simp [hps], fun i cs hi => ?_, fun i cs b hi hj => ?_⟩
    · simp only [List.getElem?_map, Option.map_eq_some_iff] at hi
      obtain ⟨p, hp1, rfl⟩ := hi
      exact (hp i i p (hr i p hp1) hp1).1
    · simp only [List.getElem?_map, Option.map_eq_some_iff] at hi hj
      obtain ⟨p, hp1, rfl⟩ := hi
      obtain ⟨p', hp2, rfl⟩ := hj
      rw [hp1] at hp2; cases hp2
      exact (hp i i p (hr i p hp1) hp1).2
/-- A slice of structures. -/
theorem OpensN.sliceS {N : Nat} {t e : TypeId} {k : Nat} {α : Type} {V : α → List AVal} {I : α → Prop} (ht : P.underlying t = some (.slice e)) (hk : P.cellsOf e = k) (h0 : 0 < k) (hE : OpensN P N e α V I) :
    OpensN P (N + 1) t (List α) (fun l => [.vec k false (l.map fun a => .agg (V a))]) (fun l => ∀ a ∈ l, I a) := by
  intro H enc W n cs x hn hx
  rcases sliceN_parts ht hE hn hx with rfl | ⟨a, len, cap, css, avs, rfl, hlc, hcm, hl, hla, hc, hv⟩
  · exact ⟨[], by simp, by simp only [VRels, List.map_nil]; exact ⟨_, _, VRel_nilvec, rfl, rfl⟩⟩
  · refine ⟨avs, fun b hb => ?_, ?_⟩
    · obtain ⟨i, hi⟩ := List.getElem?_of_mem hb
      have hlt := (List.getElem?_eq_some_iff.1 hi).1
      exact (hv i _ b (List.getElem?_eq_getElem (by omega)) hi).1
    · simp only [VRels]
      refine ⟨_, _, vec_of (vs := css.map fun c => .agg c.toArray) h0 hlc hcm hl (by rw [← hk]; exact hc) (by simp) (fun i v c hi hj => ?_) (VRels.mk (by simp [hl, hla]) fun i x v hi hj => ?_), rfl, rfl⟩
      · simp only [List.getElem?_map, hj, Option.map_some, Option.some.injEq] at hi
        subst hi; rfl
      · simp only [List.getElem?_map, Option.map_eq_some_iff] at hi hj
        obtain ⟨b, hb, rfl⟩ := hi
        obtain ⟨c, hc2, rfl⟩ := hj
        simp only [VRel]
        exact ⟨c, (hv i c b hc2 hb).2, rfl⟩
end
end Go.Proofs.YtcjlgmknclifmaaDoor.Ab
