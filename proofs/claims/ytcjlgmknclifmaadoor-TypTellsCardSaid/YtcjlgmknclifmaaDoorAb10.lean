/- What makes and writes memory. -/
import Derived.Test.YtcjlgmknclifmaaDoorAb9
set_option linter.unusedVariables false
set_option linter.unusedSimpArgs false
namespace Go.Proofs.YtcjlgmknclifmaaDoor.Ab
open Go
section
variable {P : Program} {w : World} {m : Map} {F : Nat → Prop} {h : AHeap}

/-- A new block of known cells. -/
theorem Rel.block (R : Rel h m F w) (ty : TypeId) (cs : List AVal) (C : Array Value) (fr : Nat × Nat) (hfr : fr.1 = fr.2 ∨ C.size ≤ fr.1) (vs : List Value) (hv : VRels m F w cs vs) (h1 : ∀ v ∈ vs, v.oneCell' = true)
    (hC : ∀ (i : Nat) (v : Value), vs[i]? = some v → C[i]? = some v) (hl : cs.length ≤ C.size) (w0 : World) (hw0 : w0 = w ∨ w0 = w.drew) :
    Rel (h.alloc (.cells ty cs)) (Map.put m h.next (w.heap.size, 0)) F (w0.alloc (.cells C ty fr)) ∧ Ext m F w (Map.put m h.next (w.heap.size, 0)) F (w0.alloc (.cells C ty fr)) := by
  have hd : Rel h m F w0 ∧ Ext m F w m F w0 := by
    rcases hw0 with rfl | rfl
    · exact ⟨R, Ext.refl _ _ _⟩
    · exact R.drew rfl rfl rfl rfl
  have hsz : w0.heap.size = w.heap.size := by rcases hw0 with rfl | rfl <;> rfl
  obtain ⟨g1, g2⟩ := hd.1.alloc (.cells ty cs) (.cells C ty fr) (fun m' w' e hb => by
    refine .cells hb (by simpa using hl) hfr fun i x hx => ?_
    obtain ⟨v, q1, q2⟩ := hv.get hx
    exact ⟨v, by rw [Nat.zero_add]; exact hC i v q1, h1 v (List.mem_of_getElem? q1), (q2.ext hd.2).ext e⟩)
  rw [hsz] at g1 g2
  exact ⟨g1, hd.2.trans g2⟩

/-- Cells written. -/
theorem run_stores {b : Nat} {ty : TypeId} {fr : Nat × Nat} : ∀ (vs : List Value) (o i : Nat) (w : World) (C : Array Value), w.heap[b]? = some (.cells C ty fr) → (fr.1 = fr.2 ∨ C.size ≤ fr.1) → o + i + vs.length ≤ C.size → (∀ v ∈ vs, v.oneCell' = true) →
    ∃ w' C', (storeCells ⟨b, o, none⟩ vs i).run P w = .ok () w' ∧ w'.heap[b]? = some (.cells C' ty fr) ∧ C'.size = C.size ∧ (∀ k, C'[k]? = if o + i ≤ k ∧ k < o + i + vs.length then vs[k - (o + i)]? else C[k]?) ∧
      (∀ k, k ≠ b → w'.heap[k]? = w.heap[k]?) ∧ w'.heap.size = w.heap.size ∧ w'.os = w.os ∧ w'.tape = w.tape ∧ w'.output = w.output
  | [], o, i, w, C, hb, _, _, _ => ⟨w, C, rfl, hb, rfl, fun k => by rw [if_neg (by simp only [List.length_nil]; omega)], fun _ _ => rfl, rfl, rfl, rfl, rfl⟩
  | v :: vs, o, i, w, C, hb, hfr, hl, h1 => by
    simp only [List.length_cons] at hl
    have hlt : o + i < C.size := by omega
    have hcell : w.cell? ⟨b, o + i, none⟩ = some C[o + i] := by simp [World.cell?, hb, hlt]
    have hfro : w.frozen? ⟨b, o + i, none⟩ = false := by
      have := hfr
      simp only [World.frozen?, hb]
      simp only [Bool.and_eq_false_imp, decide_eq_true_eq, decide_eq_false_iff_not]
      omega
    have hst : (store ((⟨b, o, none⟩ : Addr).add i) v).run P w = .ok () (w.setCell ⟨b, o + i, none⟩ v) := by
      rw [add_plain, run_store P w _ v _ (h1 v (by simp)), hcell]
      simp [hfro]
    have hb1 : (w.setCell ⟨b, o + i, none⟩ v).heap[b]? = some (.cells (C.setIfInBounds (o + i) v) ty fr) := by
      simp [World.setCell, Array.getElem?_modify, hb]
    obtain ⟨w', C', g1, g2, g3, g4, g5, g6, g7, g8, g9⟩ := run_stores vs o (i + 1) (w.setCell ⟨b, o + i, none⟩ v) (C.setIfInBounds (o + i) v) hb1 (by simpa using hfr) (by simp; omega) (fun x hx => h1 x (by simp [hx]))
    refine ⟨w', C', ?_, g2, by simpa using g3, fun k => ?_, fun k hk => ?_, ?_, g7, g8, g9⟩
    · simp only [storeCells, Sem.run_bind, hst, Result.andThen_ok, g1]
    · rw [g4 k, Array.getElem?_setIfInBounds]
      rcases Nat.lt_trichotomy k (o + i) with hk | hk | hk
      · rw [if_neg (by omega), if_neg (by omega), if_neg (by omega)]
      · subst hk
        rw [if_neg (by omega), if_pos rfl, if_pos hlt, if_pos (by simp)]
        simp
      · by_cases h2 : k < o + i + (vs.length + 1)
        · rw [if_pos (by omega), if_pos (by simp; omega), show k - (o + i) = (k - (o + (i + 1))) + 1 from by omega]
          simp
        · rw [if_neg (by omega), if_neg (by omega), if_neg (by simp; omega)]
    · rw [g5 k hk]
      simp only [World.setCell, Array.getElem?_modify]
      rw [if_neg (by omega)]
    · rw [g6]; simp [World.setCell]

theorem sizeAt_keep {w w' : World} {b : Nat} {C C' : Array Value} {ty : TypeId} {fr : Nat × Nat} (hb : w.heap[b]? = some (.cells C ty fr)) (hb' : w'.heap[b]? = some (.cells C' ty fr)) (hs : C'.size = C.size) (n : Nat) (h : SizeAt w b n) : SizeAt w' b n := by
  obtain ⟨C0, t0, fr0, h1, h2⟩ := h
  rw [hb] at h1; cases h1
  exact ⟨C', ty, fr, hb', by omega⟩

/-- A store into a block of the call's own. -/
theorem store_ok (R : Rel h m F w) {t : TypeId} {i : TypeInfo} (hi : P.info? t = some i) {id off : Nat} {ty : TypeId} {cs : List AVal} {y : AVal} {u v : Value} (hx : VRel m F w (.ptr id off) u) (hy : VRel m F w y v) (hid : h.f id = some (.cells ty cs))
    (hl : y.cells.length = i.size) (hfit : off + i.size ≤ cs.length) (h1 : ones y.cells = true) :
    ∃ w', (Instr.storeAt t u v).run P w = .ok () w' ∧ Rel (h.put id (.cells ty (cs.take off ++ y.cells ++ cs.drop (off + i.size)))) m F w' ∧ Ext m F w m F w' := by
  simp only [VRel] at hx
  obtain ⟨b, o, hm, rfl⟩ := hx
  obtain ⟨b', o', hm', hF, hO⟩ := R.live id _ hid
  rw [hm] at hm'; cases hm'
  have hv := hy.cells h1
  have hvl : v.cells.toList.length = i.size := by rw [hv.length]; exact hl
  have hO' := hO
  cases hO with
  | cells hb hlen hfr hc =>
    rename_i C fr
    obtain ⟨w', C', g1, g2, g3, g4, g5, g6, g7, g8, g9⟩ := run_stores (P := P) v.cells.toList (o + off) 0 w C hb hfr (by omega) (hv.ones h1)
    have hrun : (Instr.storeAt t (.pointer (some ⟨b, o + off, none⟩)) v).run P w = .ok () w' := by
      have hs : v.cells.size = i.size := by rw [← Array.length_toList]; exact hvl
      simp only [Instr.storeAt, Instr.sureAddr, storeVar, Sem.run_bind, Sem.run_pure, Result.andThen_ok, run_sz hi, hs, ne_eq, not_true_eq_false, if_false, g1]
    refine ⟨w', hrun, R.write hid hm g5 g6 (sizeAt_keep hb g2 g3) (fun e => ?_) g7 g8 g9⟩
    refine .cells g2 (by rw [g3]; simp; omega) (by rw [g3]; exact hfr) fun k x hx => ?_
    rw [g4 (o + k)]
    simp only [Nat.add_zero]
    rw [List.append_assoc, List.getElem?_append] at hx
    have ht : (cs.take off).length = off := by simp; omega
    rw [ht] at hx
    split at hx
    · rename_i hk
      rw [List.getElem?_take, if_pos hk] at hx
      rw [if_neg (by omega)]
      obtain ⟨u, q1, q2, q3⟩ := hc k x hx
      exact ⟨u, q1, q2, q3.ext e⟩
    · rename_i hk
      rw [List.getElem?_append] at hx
      split at hx
      · rename_i hk2
        rw [if_pos (by omega), show o + k - (o + off) = k - off from by omega]
        obtain ⟨u, q1, q2⟩ := hv.get hx
        exact ⟨u, q1, hv.ones h1 u (List.mem_of_getElem? q1), q2.ext e⟩
      · rename_i hk2
        rw [if_neg (by omega)]
        rw [List.getElem?_drop] at hx
        have := hc _ x hx
        rw [show off + i.size + (k - off - y.cells.length) = k from by omega] at this
        obtain ⟨u, q1, q2, q3⟩ := this
        exact ⟨u, q1, q2, q3.ext e⟩

/-- What a row of n zeros is. -/
theorem zeros_list {z : List AVal} {zs : List Value} (hz : VRels m F w z zs) : ∀ n, VRels m F w (List.replicate n z).flatten (List.replicate n zs).flatten
  | 0 => by simp only [List.replicate_zero, List.flatten_nil, VRels]
  | n + 1 => by simp only [List.replicate_succ, List.flatten_cons]; exact hz.append (zeros_list hz n)
theorem flat_len {α : Type} (zs : List α) (n : Nat) : (List.replicate n zs).flatten.length = n * zs.length := by simp
theorem flat_get {zs : List Value} : ∀ (n i : Nat), i < n * zs.length → (List.replicate n zs).flatten[i]? = zs[i % zs.length]?
  | 0, i, h => by simp at h
  | n + 1, i, h => by
    simp only [List.replicate_succ, List.flatten_cons]
    rcases Nat.lt_or_ge i zs.length with hi | hi
    · rw [List.getElem?_append_left hi, Nat.mod_eq_of_lt hi]
    · rw [List.getElem?_append_right hi, flat_get n (i - zs.length) (by rw [Nat.succ_mul] at h; omega)]
      rw [Nat.mod_eq_sub_mod hi]
theorem made_zeros {z : Array Value} (n : Nat) (hz : z.size ≠ 0 ∨ n = 0) : ((Array.range (n * z.size)).map (fun i => z[i % z.size]!)).toList = (List.replicate n z.toList).flatten := by
  apply List.ext_getElem?
  intro i
  rw [Array.toList_map, List.getElem?_map]
  by_cases hi : i < n * z.size
  · rw [flat_get n i (by simpa using hi)]
    have hp : 0 < z.size := by
      rcases Nat.eq_zero_or_pos z.size with h0 | h0
      · rw [h0] at hi; simp at hi
      · exact h0
    have hm : i % z.size < z.size := Nat.mod_lt _ hp
    simp [hi, hm]
  · have : (List.replicate n z.toList).flatten[i]? = none := by
      apply List.getElem?_eq_none
      rw [flat_len]; simpa using hi
    rw [this]
    simp [hi]
end
end Go.Proofs.YtcjlgmknclifmaaDoor.Ab
