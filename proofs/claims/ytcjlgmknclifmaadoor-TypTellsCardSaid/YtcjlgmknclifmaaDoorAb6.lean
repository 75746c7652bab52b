/- Each operation that leaves memory alone does in the model what it does here (2). -/
import Derived.Test.YtcjlgmknclifmaaDoorAb5
set_option linter.unusedVariables false
set_option linter.unusedSimpArgs false
namespace Go.Proofs.YtcjlgmknclifmaaDoor.Ab
open Go
section
variable {P : Program} {w : World} {m : Map} {F : Nat → Prop} {h : AHeap}

theorem VRels.slice_agg {cs : List AVal} {us : List Value} (k : VRels m F w cs us) (off n : Nat) (hn : off + n ≤ cs.length) : VRel m F w (.agg ((cs.drop off).take n)) (.agg (us.toArray.extract off (off + n))) := by
  simp only [VRel]
  refine ⟨(us.drop off).take n, (k.drop off).take n, ?_⟩
  congr 1
  apply Array.ext'
  simp [Array.toList_extract, List.extract_eq_take_drop]

theorem loadV_sound {t : TypeId} {n : Option Nat} {x r : AVal} {u : Value} (R : Rel h m F w) (ha : aggN P t = some n) (hx : VRel m F w x u) (hr : loadV h n x = some r) :
    ∃ v, (Instr.loadAt t u).run P w = .ok v w ∧ VRel m F w r v := by
  unfold loadV at hr
  split at hr
  · rename_i id off
    split at hr
    · rename_i ty cs hid
      simp only [VRel] at hx
      obtain ⟨b, o, hm, rfl⟩ := hx
      obtain ⟨b', o', hm', hF, hO⟩ := R.live id _ hid
      rw [hm] at hm'; cases hm'
      cases n with
      | none =>
        obtain ⟨hag, i, hi, hs⟩ := aggN_none (w := w) ha
        simp only at hr
        obtain ⟨v, hc, _, hv⟩ := hO.cellAt hr
        refine ⟨v, ?_, hv⟩
        simp only [Instr.loadAt, Instr.sureAddr, loadVar, Sem.run_bind, Sem.run_pure, Result.andThen_ok, hag, Bool.false_eq_true, if_false, run_load_at hc]
      | some n =>
        obtain ⟨hag, i, hi, hs⟩ := aggN_some (w := w) ha
        simp only at hr
        split at hr <;> cases hr
        rename_i hle
        obtain ⟨vs, h1, h2, h3, h4⟩ := hO.vals off n hle
        refine ⟨.agg vs.toArray, ?_, by simp only [VRel]; exact ⟨vs, h1, rfl⟩⟩
        simp only [Instr.loadAt, Instr.sureAddr, loadVar, Sem.run_bind, Sem.run_pure, Result.andThen_ok, hag, if_true, run_sz hi, hs, run_loadCells vs h3 n h2.symm]
    · cases hr
  · rename_i v
    simp only [VRel] at hx
    obtain ⟨b, o, u', hu, hF, rfl, hc⟩ := hx
    split at hr
    · rename_i n cs
      split at hr <;> cases hr
      rename_i hle
      obtain ⟨hag, i, hi, hs⟩ := aggN_some (w := w) ha
      refine ⟨u', ?_, hu⟩
      simp only [VRel] at hu
      obtain ⟨us, h1, rfl⟩ := hu
      have hl := h1.length
      simp only [Instr.loadAt, Instr.sureAddr, loadVar, Sem.run_bind, Sem.run_pure, Result.andThen_ok, hag, if_true, run_sz hi, hs,
        run_loadCells us (fun j v hj => by have := hc j v (by simpa [Value.cells] using hj); exact this) n (by omega)]
    · split at hr <;> cases hr
      rename_i h1
      obtain ⟨hag, i, hi, hs⟩ := aggN_none (w := w) ha
      have hcell : CellAt w b o u' := hc 0 u' (by rw [cells_of_one (oneCell_of hu h1)]; rfl)
      refine ⟨u', ?_, hu⟩
      simp only [Instr.loadAt, Instr.sureAddr, loadVar, Sem.run_bind, Sem.run_pure, Result.andThen_ok, hag, Bool.false_eq_true, if_false, run_load_at hcell]
    · cases hr
  · cases hr

theorem fieldV_sound {t : TypeId} {fs : Array Field} {f : Nat} {fl : Field} {n : Option Nat} {x r : AVal} {u : Value} (ht : P.underlying t = some (.struct fs)) (hf : fs[f]? = some fl) (ha : aggN P fl.type = some n)
    (hx : VRel m F w x u) (hr : fieldV fl.offset n x = some r) : ∃ v, (Instr.field t u f).run P w = .ok v w ∧ VRel m F w r v := by
  unfold fieldV at hr
  split at hr
  · rename_i cs
    simp only [VRel] at hx
    obtain ⟨us, h1, rfl⟩ := hx
    cases n with
    | none =>
      obtain ⟨hag, i, hi, hs⟩ := aggN_none (w := w) ha
      simp only at hr
      obtain ⟨v, h2, h3⟩ := h1.get hr
      refine ⟨v, ?_, h3⟩
      have hlt := (List.getElem?_eq_some_iff.1 h2).1
      simp only [Instr.field, Sem.run_bind, run_und ht, Result.andThen_ok, hf, asAgg, Sem.run_pure, part, hag, Bool.false_eq_true, if_false]
      simp [h2]
    | some n =>
      obtain ⟨hag, i, hi, hs⟩ := aggN_some (w := w) ha
      simp only at hr
      split at hr <;> cases hr
      rename_i hle
      refine ⟨_, ?_, h1.slice_agg _ _ hle⟩
      simp only [Instr.field, Sem.run_bind, run_und ht, Result.andThen_ok, hf, asAgg, Sem.run_pure, part, hag, if_true, run_sz hi, hs]
  · cases hr

theorem faddrV_sound {t : TypeId} {fs : Array Field} {f : Nat} {fl : Field} {n : Option Nat} {i : TypeInfo} {x r : AVal} {u : Value} (ht : P.underlying t = some (.struct fs)) (hf : fs[f]? = some fl)
    (hi : P.info? fl.type = some i) (hne : i.size ≠ 0) (ha : aggN P fl.type = some n) (hx : VRel m F w x u) (hr : faddrV fl.offset n x = some r) :
    ∃ v, (Instr.fieldAt t u f).run P w = .ok v w ∧ VRel m F w r v := by
  have key : ∀ (b o : Nat), (Instr.fieldAt t (.pointer (some ⟨b, o, none⟩)) f).run P w = .ok (.pointer (some ⟨b, o + fl.offset, none⟩)) w := by
    intro b o
    simp only [Instr.fieldAt, Sem.run_bind, run_und ht, Result.andThen_ok, hf, Instr.sureAddr, Sem.run_pure, fieldPlace, run_sz hi, hne, if_false, add_plain]
  unfold faddrV at hr
  split at hr
  · rename_i id o
    cases hr
    simp only [VRel] at hx
    obtain ⟨b, o', hm, rfl⟩ := hx
    exact ⟨_, key _ _, by simp only [VRel]; exact ⟨b, o', hm, by rw [Nat.add_assoc]⟩⟩
  · rename_i cs
    simp only [VRel] at hx
    obtain ⟨b, o, u', hu, hF, rfl, hc⟩ := hx
    obtain ⟨us, h1, rfl⟩ := hu
    split at hr
    · rename_i hones
      refine ⟨_, key _ _, ?_⟩
      cases n with
      | none =>
        simp only [Option.map_eq_some_iff] at hr
        obtain ⟨y, hy, rfl⟩ := hr
        obtain ⟨v, h2, h3⟩ := h1.get hy
        simp only [VRel]
        refine ⟨b, o + fl.offset, v, h3, hF, rfl, fun j c hj => ?_⟩
        rw [cells_of_one (oneCell_of h3 (by simp [ones] at hones; exact hones y (List.mem_of_getElem? hy)))] at hj
        cases j with
        | zero => simp at hj; subst hj; exact hc fl.offset v (by simpa [Value.cells] using h2)
        | succ j => simp at hj
      | some n =>
        simp only at hr
        split at hr <;> cases hr
        rename_i hle
        have hs := h1.slice_agg fl.offset n hle
        simp only [VRel] at hs ⊢
        refine ⟨b, o + fl.offset, _, hs, hF, rfl, fun j c hj => ?_⟩
        have hl := h1.length
        simp only [Value.cells, Array.getElem?_extract] at hj
        split at hj
        · have := hc (fl.offset + j) c (by simpa [Value.cells] using hj)
          rwa [show o + (fl.offset + j) = o + fl.offset + j from by omega] at this
        · cases hj
    · cases hr
  · cases hr

theorem iaddrV_sound {t e : TypeId} {i : TypeInfo} {x y r : AVal} {u v : Value} (ht : P.underlying t = some (.slice e)) (hi : P.info? e = some i) (hne : i.size ≠ 0)
    (hx : VRel m F w x u) (hy : VRel m F w y v) (hr : iaddrV i.size x y = some r) : ∃ z, (Instr.indexAt t u v).run P w = .ok z w ∧ VRel m F w r z := by
  unfold iaddrV at hr
  split at hr
  · rename_i e' full xs k n
    simp only [VRel] at hx hy
    subst hy
    obtain ⟨A, c, vs, h1, rfl, hc1, hc2, _, hvec⟩ := hx
    split at hr
    · rename_i he; subst he
      split at hr
      · rename_i h0
        simp only [Option.map_eq_some_iff] at hr
        obtain ⟨y, hy, rfl⟩ := hr
        obtain ⟨q, h2, h3⟩ := h1.get hy
        have hlt := (List.getElem?_eq_some_iff.1 h2).1
        obtain ⟨b, o, rfl, hF, hcell⟩ := hvec.2 (by intro e; subst e; simp at hlt)
        refine ⟨.pointer (some ⟨b, o + n.toNat * i.size, none⟩), ?_, ?_⟩
        · have hb : 0 ≤ n ∧ n < (vs.length : Int) := ⟨h0, by omega⟩
          simp only [Instr.indexAt, asIntOf, Sem.run_bind, Sem.run_pure, run_und ht, Result.andThen_ok, if_pos hb, run_sz hi, add_plain]
        · simp only [VRel]
          exact ⟨b, o + n.toNat * i.size, q, h3, hF, rfl, fun j c hj => hcell n.toNat q h2 j c hj⟩
      · cases hr
    · cases hr
  · rename_i e' id off len cap k n
    simp only [VRel] at hx hy
    subst hy
    obtain ⟨b, o, A, c, hm, rfl, hlc, hA, _, _⟩ := hx
    split at hr
    · rename_i he; subst he
      split at hr
      · rename_i hb
        cases hr
        have hc0 : 0 < c := by omega
        rw [hA hc0]
        refine ⟨.pointer (some ⟨b, o + off + n.toNat * i.size, none⟩), ?_, ?_⟩
        · simp only [Instr.indexAt, asIntOf, Sem.run_bind, Sem.run_pure, run_und ht, Result.andThen_ok, if_pos hb, run_sz hi, add_plain]
        · simp only [VRel]
          exact ⟨b, o, hm, by rw [Nat.add_assoc]⟩
      · cases hr
    · cases hr
  · cases hr

theorem indexV_sound {t : TypeId} {x y r : AVal} {u v : Value} (ht : P.underlying t = some .string) (hx : VRel m F w x u) (hy : VRel m F w y v) (hr : indexV x y = some r) :
    ∃ z, (Instr.index t u v).run P w = .ok z w ∧ VRel m F w r z := by
  unfold indexV at hr
  split at hr
  · rename_i s k n
    simp only [VRel] at hx hy
    subst hy
    obtain ⟨rfl, _⟩ := hx
    split at hr
    · rename_i h0
      simp only [Option.map_eq_some_iff] at hr
      obtain ⟨b, hb, rfl⟩ := hr
      refine ⟨.int .u8 b.toNat, ?_, by simp only [VRel]⟩
      simp only [Instr.index, asIntOf, Sem.run_bind, Sem.run_pure, run_und ht, Result.andThen_ok, if_pos h0, hb]
    · cases hr
  · cases hr

theorem bytesOf_sound : ∀ {xs : List AVal} {vs : List Value} {l : List UInt8}, VRels m F w xs vs → bytesOf xs = some l → ∃ ns : List Int, vs = ns.map (Value.int .u8) ∧ l = ns.map fun n => UInt8.ofNat n.toNat
  | [], vs, l, h, hb => by
    simp only [VRels] at h; simp only [bytesOf] at hb
    cases hb; subst h
    exact ⟨[], rfl, rfl⟩
  | x :: xs, vs, l, h, hb => by
    simp only [VRels] at h
    obtain ⟨u, us, h1, h2, rfl⟩ := h
    unfold bytesOf at hb
    split at hb
    · rename_i heq; cases heq
    · rename_i n r heq
      cases heq
      simp only [Option.map_eq_some_iff] at hb
      obtain ⟨l', h3, rfl⟩ := hb
      simp only [VRel] at h1
      subst h1
      obtain ⟨ns, rfl, rfl⟩ := bytesOf_sound h2 h3
      exact ⟨n :: ns, by simp, by simp⟩
    · cases hb

/-- The cells of a slice, as they lie. -/
theorem slCells_sound (R : Rel h m F w) {x : AVal} {cs : List AVal} {n : Nat} {u : Value} (hx : VRel m F w x u) (hc : slCells h x = some cs) (hn : slLen x = some n) :
    ∃ A c, u = .slice A n c ∧ n ≤ c ∧ n ≤ huge ∧ ∀ e, cs.length = n * e → ones cs = true → ∃ vs, VRels m F w cs vs ∧ (∀ v ∈ vs, v.oneCell' = true) ∧ (vs = [] ∨ ∃ b o, A = some ⟨b, o, none⟩ ∧ b < w.heap.size ∧ ∀ j v, vs[j]? = some v → CellAt w b (o + j) v) := by
  unfold slCells at hc
  split at hc
  · simp only [slLen] at hn; cases hn; cases hc
    simp only [VRel] at hx; subst hx
    exact ⟨none, 0, rfl, Nat.le_refl _, Nat.zero_le _, fun e _ _ => ⟨[], by simp only [VRels], by simp, .inl rfl⟩⟩
  · rename_i e' full xs
    simp only [slLen] at hn; cases hn; cases hc
    simp only [VRel] at hx
    obtain ⟨A, c, vs, h1, rfl, h3, h4, _, hvec⟩ := hx
    have hl := h1.length
    refine ⟨A, c, by rw [hl], by omega, by omega, fun e he hones => ?_⟩
    have key : ∀ (xs : List AVal) (vs : List Value) (i0 : Nat) (B : Nat → Nat → Prop), VRels m F w xs vs → ones (xs.flatMap AVal.cells) = true → (∀ x ∈ vs, x.cells.size = e') →
        ∃ us, VRels m F w (xs.flatMap AVal.cells) us ∧ us = vs.flatMap (fun v => v.cells.toList) := by
      intro xs
      induction xs with
      | nil => intro vs i0 B h1 _ _; simp only [VRels] at h1; subst h1; exact ⟨[], by simp only [List.flatMap_nil, VRels], rfl⟩
      | cons x xs ih =>
        intro vs i0 B h1 h2 h3
        simp only [VRels] at h1
        obtain ⟨v, vs', k1, k2, rfl⟩ := h1
        simp only [List.flatMap_cons, ones, List.all_append, Bool.and_eq_true] at h2
        obtain ⟨us, g1, g2⟩ := ih vs' 0 B k2 h2.2 (fun x hx => h3 x (List.mem_cons_of_mem _ hx))
        exact ⟨v.cells.toList ++ us, by simp only [List.flatMap_cons]; exact (k1.cells h2.1).append g1, by simp [g2]⟩
    obtain ⟨us, g1, g2⟩ := key xs vs 0 (fun _ _ => True) h1 hones hvec.1
    refine ⟨us, g1, g1.ones hones, ?_⟩
    by_cases hne : vs = []
    · subst hne; left; simpa using g2
    · right
      obtain ⟨b, o, rfl, hF, hcell⟩ := hvec.2 hne
      refine ⟨b, o, rfl, R.flt b hF, fun j v hj => ?_⟩
      subst g2
      -- the j-th of the cells laid in a row
      have loc : ∀ (vs : List Value) (j : Nat) (v : Value), (∀ x ∈ vs, x.cells.size = e') → (vs.flatMap (fun v => v.cells.toList))[j]? = some v → ∃ i k x, vs[i]? = some x ∧ x.cells[k]? = some v ∧ j = i * e' + k := by
        intro vs
        induction vs with
        | nil => intro j v _ h; simp at h
        | cons y ys ih =>
          intro j v hsz h
          simp only [List.flatMap_cons] at h
          have hy : y.cells.toList.length = e' := by rw [Array.length_toList]; exact hsz y (by simp)
          rcases Nat.lt_or_ge j e' with hlt | hge
          · rw [List.getElem?_append_left (by omega)] at h
            exact ⟨0, j, y, by simp, by simpa using h, by simp⟩
          · rw [List.getElem?_append_right (by omega), hy] at h
            obtain ⟨i, k, x, h1, h2, h3⟩ := ih (j - e') v (fun x hx => hsz x (by simp [hx])) h
            exact ⟨i + 1, k, x, by simpa using h1, h2, by rw [Nat.succ_mul]; omega⟩
      obtain ⟨i, k, x, h1, h2, rfl⟩ := loc vs j v hvec.1 hj
      have := hcell i x h1 k v h2
      rwa [← Nat.add_assoc]
  · rename_i e' id off ln cap
    split at hc
    · rename_i ty cs' hid
      split at hc <;> cases hc
      rename_i hle
      simp only [slLen] at hn; cases hn
      simp only [VRel] at hx
      obtain ⟨b, o, A, c, hm, rfl, h3, hA, _, _, h7⟩ := hx
      obtain ⟨b', o', hm', hF, hO⟩ := R.live id _ hid
      rw [hm] at hm'; cases hm'
      refine ⟨some A, c, rfl, h3, big_huge h7, fun e he hones => ?_⟩
      obtain ⟨vs, g1, g2, g3, g4⟩ := hO.vals off (n * e') hle
      refine ⟨vs, g1, g4, ?_⟩
      by_cases hne : vs = []
      · exact .inl hne
      · right
        have hpos : 0 < vs.length := List.length_pos_iff.2 hne
        have hc0 : 0 < c := by
          rcases Nat.eq_zero_or_pos n with h0 | h0
          · rw [g2, h0] at hpos; simp at hpos
          · omega
        exact ⟨b, o + off, by rw [hA hc0], hO.lt, g3⟩
    · cases hc
  · cases hc

theorem bytes_ones : ∀ {cs : List AVal} {l : List UInt8}, bytesOf cs = some l → ones cs = true
  | [], _, _ => rfl
  | c :: cs, l, hl => by
    unfold bytesOf at hl
    split at hl
    · rename_i heq; cases heq
    · rename_i heq; cases heq
      simp only [Option.map_eq_some_iff] at hl
      obtain ⟨l', h1, _⟩ := hl
      simp only [ones, List.all_cons, AVal.one, Bool.true_and]
      exact bytes_ones h1
    · cases hl
theorem b2s_sound {src dst e : TypeId} (R : Rel h m F w) (hs : P.underlying src = some (.slice e)) (he : P.underlying e = some (.int .u8)) (hd : P.underlying dst = some .string) {x r : AVal} {u : Value} (hx : VRel m F w x u)
    (hr : b2sV h x = some r) : ∃ v, (convert src dst u).run P w = .ok v w ∧ VRel m F w r v := by
  unfold b2sV at hr
  split at hr
  · rename_i cs n hc hn
    split at hr
    · rename_i hlen
      simp only [Option.map_eq_some_iff] at hr
      obtain ⟨l, hl, rfl⟩ := hr
      obtain ⟨A, c, rfl, hnc, hnb, hv⟩ := slCells_sound R hx hc hn
      obtain ⟨vs, h1, h2, h3⟩ := hv 1 (by omega) (bytes_ones hl)
      obtain ⟨ns, rfl, rfl⟩ := bytesOf_sound h1 hl
      have hlen' : ns.length = n := by have := h1.length; simp at this; omega
      refine ⟨.string (strOfNums ns), ?_, ?_⟩
      · rcases h3 with h3 | ⟨b, o, rfl, _, hcell⟩
        · have : ns = [] := by simpa using h3
          subst this
          simp at hlen'
          subst hlen'
          cases A with
          | none => exact run_convert_bytes_nil w src e hs he _ _ dst hd
          | some a =>
            unfold convert
            simp only [Sem.run_bind, run_und hs, run_und hd, run_und he, Result.andThen_ok, Conv.bytesToString, loadCells, loadCellsFrom, Sem.run_pure]
            simp [strOfNums]
            rfl
        · refine run_convert_bytes_arg w src e hs he b o n c ns hlen' (fun i hi => ?_) dst hd
          refine (hcell i _ ?_).cell?
          simp [List.getD_eq_getElem?_getD, List.getElem?_eq_getElem (show i < ns.length by omega)]
      · simp only [VRel]
        exact ⟨rfl, by show (strOfNums ns).size ≤ huge; rw [strOfNums_size]; omega⟩
    · cases hr
  · cases hr
end
end Go.Proofs.YtcjlgmknclifmaaDoor.Ab
