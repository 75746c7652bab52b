/- append. -/
import Derived.Test.YtcjlgmknclifmaaDoorAb10
set_option linter.unusedVariables false
set_option linter.unusedSimpArgs false
namespace Go.Proofs.YtcjlgmknclifmaaDoor.Ab
open Go
section
variable {P : Program} {w : World} {m : Map} {F : Nat → Prop} {h : AHeap}

theorem alloc_f (h : AHeap) (o : AObj) (i : Nat) : (h.alloc o).f i = if i = h.next then some o else h.f i := rfl
theorem renew_f (h : AHeap) (id : Nat) (o : AObj) (i : Nat) : ((h.drop id).alloc o).f i = if i = h.next then some o else if i = id then none else h.f i := rfl
/-- A block written, and told of under a new number from another place on. -/
theorem Rel.renew {w' : World} (r : Rel h m F w) {id b off off' : Nat} {o o' : AObj} (hi : h.f id = some o) (hm : m id = some (b, off))
    (hother : ∀ k, k ≠ b → w'.heap[k]? = w.heap[k]?) (hsz : w'.heap.size = w.heap.size) (hs : ∀ n, SizeAt w b n → SizeAt w' b n)
    (ho : ∀ m', Ext m F w m' F w' → ORel m' F w' o' b off') (h1 : w'.os = w.os) (h2 : w'.tape = w.tape) (h3 : w'.output = w.output) :
    Rel ((h.drop id).alloc o') (Map.put m h.next (b, off')) F w' ∧ Ext m F w (Map.put m h.next (b, off')) F w' := by
  obtain ⟨b0, off0, k1, kF, k3⟩ := r.live id o hi
  rw [hm] at k1; cases k1
  have e : Ext m F w (Map.put m h.next (b, off')) F w' := ⟨fun id x hx => by
      unfold Map.put
      split
      · rename_i he; subst he; rw [r.old _ (Nat.le_refl _)] at hx; cases hx
      · exact hx, fun _ h => h, fun c hc => hother c (fun e => kF (e ▸ hc)), fun c n hn => by
    by_cases hcb : c = b
    · subst hcb; exact hs n hn
    · obtain ⟨C, t, fr, g1, g2⟩ := hn
      exact ⟨C, t, fr, by rw [hother c hcb]; exact g1, g2⟩, by omega, h1, h2, h3⟩
  have hn : (h.drop id).next = h.next := rfl
  refine ⟨⟨fun id1 x hx => ?_, fun id1 id2 c o1 o2 x x' g1 g2 g3 g4 => ?_, fun id1 hid => ?_, fun c hc => by rw [hsz]; exact r.flt c hc, r.tab.ext e⟩, e⟩
  · rw [renew_f] at hx
    by_cases he : id1 = h.next
    · rw [if_pos he] at hx; cases hx; subst he
      exact ⟨b, off', by simp [Map.put], kF, ho _ e⟩
    · rw [if_neg he] at hx
      split at hx
      · cases hx
      · rename_i hne
        obtain ⟨b1, off1, g1, g2, g3⟩ := r.live id1 x hx
        refine ⟨b1, off1, e.mm _ _ g1, g2, g3.ext e (hother b1 fun hb => hne ?_)⟩
        subst hb
        exact r.inj id1 id b1 off1 off x o hx hi g1 hm
  · rw [renew_f] at g1 g2
    simp only [Map.put] at g3 g4
    by_cases e1 : id1 = h.next <;> by_cases e2 : id2 = h.next
    · rw [e1, e2]
    · rw [if_pos e1] at g3; rw [if_neg e2] at g4 g2
      split at g2 <;> try cases g2
      rename_i hne
      cases g3
      exact absurd (r.inj id2 id b o2 off x' o g2 hi g4 hm) hne
    · rw [if_neg e1] at g3 g1; rw [if_pos e2] at g4
      split at g1 <;> try cases g1
      rename_i hne
      cases g4
      exact absurd (r.inj id1 id b o1 off x o g1 hi g3 hm) hne
    · rw [if_neg e1] at g3 g1; rw [if_neg e2] at g4 g2
      split at g1 <;> try cases g1
      split at g2 <;> try cases g2
      exact r.inj id1 id2 c o1 o2 x x' g1 g2 g3 g4
  · simp only [AHeap.alloc, AHeap.drop] at hid
    simp only [Map.put]
    rw [if_neg (by omega)]
    exact r.old id1 (by omega)

theorem run_firstCells {size n : Nat} {A : Option Addr} {c : Nat} {vs : List Value} (hl : vs.length = n * size) (hv : vs = [] ∨ ∃ b o, A = some ⟨b, o, none⟩ ∧ b < w.heap.size ∧ ∀ (j : Nat) v, vs[j]? = some v → CellAt w b (o + j) v) (w' : World) (hw : w'.heap = w.heap) :
    (Builtin.firstCells size n (.slice A n c)).run P w' = .ok vs.toArray w' := by
  rcases hv with rfl | ⟨b, o, rfl, _, hc⟩
  · simp only [List.length_nil] at hl
    cases A with
    | none => rfl
    | some a => simp only [Builtin.firstCells, ← hl, loadCells, loadCellsFrom, Sem.run_pure]
  · have hc' : ∀ (j : Nat) v, vs[j]? = some v → CellAt w' b (o + j) v := fun j v hj => by
      obtain ⟨C, t, fr, g1, g2⟩ := hc j v hj
      exact ⟨C, t, fr, by rw [hw]; exact g1, g2⟩
    simp only [Builtin.firstCells]
    exact run_loadCells vs hc' _ hl.symm

/-- What is appended. -/
theorem src_ok (R : Rel h m F w) {y : AVal} {v : Value} {ys : List AVal} {n size : Nat} (hy : VRel m F w y v)
    (hc : srcCells h y = some ys) (hn : srcLen y = some n)
    (hl : ys.length = n * size) (h1 : ones ys = true) (hsz : size ≠ 0) :
    ∃ news : List Value, VRels m F w ys news ∧ (∀ v ∈ news, v.oneCell' = true) ∧ (∀ w' : World, (Builtin.lenOf v).run P w' = .ok n w') ∧ ∀ w' : World, w'.heap = w.heap → (Builtin.firstCells size n v).run P w' = .ok news.toArray w' := by
  unfold srcCells at hc
  unfold srcLen at hn
  cases y
  case str s =>
    simp only [VRel] at hy
    obtain ⟨rfl, hbig⟩ := hy
    simp only [Option.some.injEq] at hc hn
    subst hc; subst hn
    simp only [List.length_map, Array.length_toList] at hl
    have hss : s.data.size = s.size := rfl
    refine ⟨s.data.toList.map fun b : UInt8 => Value.int .u8 b.toNat, ?_, ?_, fun w' => rfl, fun w' _ => ?_⟩
    · refine VRels.mk (by simp) fun i x v hx hv => ?_
      simp only [List.getElem?_map, Option.map_eq_some_iff] at hx hv
      obtain ⟨b, hb, rfl⟩ := hx
      obtain ⟨b', hb', rfl⟩ := hv
      rw [hb] at hb'; cases hb'
      simp only [VRel]
    · intro v hv
      simp only [List.mem_map] at hv
      obtain ⟨b, _, rfl⟩ := hv
      rfl
    · simp only [Builtin.firstCells, Sem.run_pure]
      congr 1
      apply Array.ext'
      simp only [Array.toList_map]
      congr 1
      have he : s.extract 0 s.size = s := by
        apply ByteArray.ext
        rw [ByteArray.data_extract, ← hss]
        simp
      rw [he]
  all_goals
    simp only at hc hn
    obtain ⟨A, c, rfl, hnc, hnb, hv⟩ := slCells_sound R hy hc hn
    obtain ⟨vs, g1, g2, g3⟩ := hv size hl h1
    exact ⟨vs, g1, g2, fun w' => rfl, fun w' hw => run_firstCells (by rw [g1.length]; exact hl) g3 w' hw⟩

theorem slice_caps (need sCap : Nat) (hlt : sCap < need) : Builtin.nextslicecap need sCap ≤ 2 * need := by
  unfold Builtin.nextslicecap
  split
  · omega
  · split
    · omega
    · have key : ∀ (r c : Nat), c < need ∨ c ≤ 2 * need → c ≤ 2 * need → 256 ≤ c → Builtin.growBy need r c ≤ 2 * need := by
        intro r
        induction r with
        | zero => intro c _ h _; exact h
        | succ r ih =>
          intro c h1 h2 h3
          simp only [Builtin.growBy]
          split
          · exact h2
          · exact ih _ (by omega) (by omega) (by omega)
      exact key 4 sCap (by omega) (by omega) (by omega)

/-- An append that makes a new block. -/
theorem grow_ok (R : Rel h m F w) {t u e tt : TypeId} {i : TypeInfo} {z : Value} (ht : P.underlying t = some (.slice e)) (hu : ((∃ e', P.underlying u = some (.slice e')) ∨ P.underlying u = some .string)) (hi : P.info? e = some i) (hsz : i.size ≠ 0) (hby : i.bytes ≠ 0) (hz : i.zero = some z)
    (hzs : z.cells.size = i.size) {A : Option Addr} {sLen sCap n : Nat} {v : Value} {oldA ys : List AVal} {olds news : List Value} (ho1 : VRels m F w oldA olds) (ho2 : ∀ v ∈ olds, v.oneCell' = true) (hol : olds.length = sLen * i.size)
    (hn1 : VRels m F w ys news) (hn2 : ∀ v ∈ news, v.oneCell' = true) (hnl : news.length = n * i.size)
    (hold : ∀ w' : World, w'.heap = w.heap → (Builtin.firstCells i.size sLen (.slice A sLen sCap)).run P w' = .ok olds.toArray w') (hlen : ∀ w' : World, (Builtin.lenOf v).run P w' = .ok n w')
    (hnew : ∀ w' : World, w'.heap = w.heap → (Builtin.firstCells i.size n v).run P w' = .ok news.toArray w') (hgt : sCap < sLen + n) (hb1 : (sLen + n) * i.bytes ≤ big) (hb2 : sLen + n ≤ big) {h' : AHeap} (hf : ∀ id o, h'.f id = some o → h.f id = some o) (hnx : h'.next = h.next) :
    ∃ q w' m', (Builtin.append_ #[t, u] tt #[.slice A sLen sCap, v]).run P w = .ok q w' ∧ Rel (h'.alloc (.cells e (oldA ++ ys))) m' F w' ∧ VRel m' F w' (.sl i.size h.next 0 (sLen + n) none) q ∧ Ext m F w m' F w' := by
  have hcap := slice_caps (sLen + n) sCap hgt
  have hbb : Builtin.nextslicecap (sLen + n) sCap * i.bytes ≤ 281474976710656 := by
    refine Nat.le_trans (Nat.mul_le_mul_right _ hcap) ?_
    rw [Nat.mul_assoc]
    have := big_eq
    omega
  let nc : Nat := (Question.appendCap (sLen + n) sCap e).cut (w.tape w.drawn (.appendCap (sLen + n) sCap e))
  have hnc : sLen + n ≤ nc := by show _ ≤ sLen + n + _; omega
  let C : Array Value := olds.toArray ++ news.toArray ++ Builtin.zeroCells z.cells (nc - (sLen + n))
  have hzl : (Builtin.zeroCells z.cells (nc - (sLen + n))).size = (nc - (sLen + n)) * i.size := by simp [Builtin.zeroCells, hzs]
  have hC : C.size = nc * i.size := by
    simp only [C, Array.size_append, List.size_toArray, hzl, hol, hnl]
    rw [← Nat.add_mul, ← Nat.add_mul]
    congr 1
    omega
  have hrun : (Builtin.append_ #[t, u] tt #[.slice A sLen sCap, v]).run P w = .ok (.slice (some ⟨w.heap.size, 0, none⟩) (sLen + n) nc) (w.drew.alloc (.cells C e)) := by
    have hmax : ¬ (((sLen + n : Nat) : Int) > IntKind.i64.max) := by
      have := big_eq
      simp [IntKind.max, IntKind.signed, IntKind.bits]
      omega
    rcases hu with ⟨e', hu⟩ | hu
    all_goals
      unfold Builtin.append_
      simp only [List.getElem?_toArray, List.getElem?_cons_zero, List.getElem?_cons_succ, Sem.run_bind, run_und ht, run_und hu, run_sz hi, Result.andThen_ok, Bool.false_eq_true, if_false, hlen w, Sem.run_pure, Bool.not_false, if_true]
      rw [if_neg (show ¬ (sLen + n ≤ sCap) by omega)]
      simp only [Sem.run_bind, run_ti hi, Result.andThen_ok]
      rw [if_neg (by rintro ⟨h1, _⟩; exact hmax h1)]
      simp only [Sem.run_bind, run_ti hi, Result.andThen_ok]
      rw [if_neg (by omega)]
      simp only [Sem.run_bind, run_ti hi, Result.andThen_ok, run_choose, Question.forced, Bool.false_eq_true, if_false, run_askRoom]
      have hd : ({ heap := w.heap, tape := w.tape, drawn := w.drawn + 1, os := w.os, output := w.output } : World).heap = w.heap := rfl
      rw [hold _ hd]
      simp only [Result.andThen_ok]
      rw [hnew _ hd]
      simp only [Result.andThen_ok, run_zv hi hz, newRow, Sem.run_bind, run_newObj, Sem.run_pure]
      rfl
  have hblk := R.block e (oldA ++ ys) C (0, 0) (.inl rfl) (olds ++ news) (ho1.append hn1) (fun v hv => by
      rcases List.mem_append.1 hv with hv | hv
      · exact ho2 v hv
      · exact hn2 v hv) (fun k v hk => by
      simp only [C]
      rw [Array.append_assoc, ← Array.append_assoc, show olds.toArray ++ news.toArray = (olds ++ news).toArray from by simp, Array.getElem?_append_left (by simpa using (List.getElem?_eq_some_iff.1 hk).1)]
      simpa using hk) (by rw [hC, List.length_append, ← ho1.length, ← hn1.length, hol, hnl, ← Nat.add_mul]; exact Nat.mul_le_mul_right _ hnc) w.drew (.inr rfl)
  refine ⟨_, _, _, hrun, ?_, ?_, hblk.2⟩
  · refine hblk.1.sub (fun id o hid => ?_) (by simp [AHeap.alloc, hnx])
    rw [alloc_f] at hid ⊢
    rw [hnx] at hid
    split at hid
    · rename_i he; rw [if_pos he]; exact hid
    · rename_i he; rw [if_neg he]; exact hf id o hid
  · simp only [VRel]
    refine ⟨w.heap.size, 0, ⟨w.heap.size, 0, none⟩, nc, by simp [Map.put], rfl, hnc, fun _ => rfl, by simp, fun _ => ⟨C, e, (0, 0), ?_, by rw [hC]; omega⟩, hb2⟩
    exact heap_push_at w.drew (.cells C e)
/-- Nothing is appended, or there is room. -/
theorem run_append_in {t u e tt : TypeId} {i : TypeInfo} (ht : P.underlying t = some (.slice e)) (hu : ((∃ e', P.underlying u = some (.slice e')) ∨ P.underlying u = some .string)) (hi : P.info? e = some i)
    {A : Option Addr} {sLen sCap n : Nat} {v : Value} {news : List Value} (hlen : ∀ w' : World, (Builtin.lenOf v).run P w' = .ok n w') (hnew : ∀ w' : World, w'.heap = w.heap → (Builtin.firstCells i.size n v).run P w' = .ok news.toArray w') (hle : sLen + n ≤ sCap) {w' : World}
    (hst : ∀ a, A = some a → (storeCells (a.add (sLen * i.size)) news).run P w = .ok () w') (hno : A = none → w' = w) :
    (Builtin.append_ #[t, u] tt #[.slice A sLen sCap, v]).run P w = .ok (.slice A (sLen + n) sCap) w' := by
  rcases hu with ⟨e', hu⟩ | hu
  all_goals
    unfold Builtin.append_
    simp only [List.getElem?_toArray, List.getElem?_cons_zero, List.getElem?_cons_succ, Sem.run_bind, run_und ht, run_und hu, run_sz hi, Result.andThen_ok, Bool.false_eq_true, if_false, hlen w, Sem.run_pure, Bool.not_false, if_true]
    rw [if_pos hle]
    simp only [Sem.run_bind, hnew w rfl, Result.andThen_ok]
    cases A with
    | none => rw [hno rfl]; rfl
    | some a => simp only [Sem.run_bind, hst a rfl, Result.andThen_ok, Sem.run_pure]

theorem append_ok (R : Rel h m F w) {t u e tt : TypeId} {i : TypeInfo} {z : Value} (ht : P.underlying t = some (.slice e)) (hu : ((∃ e', P.underlying u = some (.slice e')) ∨ P.underlying u = some .string)) (hi : P.info? e = some i) (hsz : i.size ≠ 0) (hby : i.bytes ≠ 0) (hz : i.zero = some z)
    (hzs : z.cells.size = i.size) {x y r : AVal} {U V : Value} (hx : VRel m F w x U) (hy : VRel m F w y V) {c : Prop} {h' : AHeap} {ρ : Nat → AVal} {X Y : Opd} (eX : ev ρ X = x) (eY : ev ρ Y = y)
    (hr : achg (.append e i.size i.bytes X Y) ρ h = some (c, r, h')) (hc : c) : ∃ q w' m', (Builtin.append_ #[t, u] tt #[U, V]).run P w = .ok q w' ∧ Rel h' m' F w' ∧ VRel m' F w' r q ∧ Ext m F w m' F w' := by
  simp only [achg, eX, eY] at hr
  split at hr
  · rename_i ys n hys hn
    split at hr
    · rename_i hl
      obtain ⟨news, n1, n2, n3, n4⟩ := src_ok (P := P) R hy hys hn hl.1 hl.2 hsz
      have hnl : news.length = n * i.size := by rw [n1.length]; exact hl.1
      cases x <;> (try simp only [reduceCtorEq] at hr)
      case nils =>
        simp only [Option.some.injEq, Prod.mk.injEq] at hr
        obtain ⟨rfl, rfl, rfl⟩ := hr
        simp only [VRel] at hx; subst hx
        by_cases h0 : n = 0
        · subst h0
          refine ⟨.slice none 0 0, w, m, ?_, by simpa using R, by simp only [if_true, VRel], Ext.refl _ _ _⟩
          have := run_append_in (tt := tt) ht hu hi (A := none) (sLen := 0) (sCap := 0) n3 n4 (by omega) (w' := w) (fun a ha => by cases ha) (fun _ => rfl)
          simpa using this
        · simp only [if_neg h0]
          obtain ⟨q, w', m', g1, g2, g3, g4⟩ := grow_ok (tt := tt) R ht hu hi hsz hby hz hzs (A := none) (sLen := 0) (sCap := 0) (oldA := []) (olds := []) (by simp only [VRels]) (by simp) (by simp) n1 n2 hnl (fun w' _ => rfl) n3 n4 (by omega) (by simpa using hc.1) (by simpa using hc.2) (h' := h) (fun _ _ h => h) rfl
          exact ⟨q, w', m', g1, by simpa using g2, by simpa using g3, g4⟩
      case vec e' full xs =>
        cases full <;> simp only [reduceCtorEq] at hr
        split at hr
        · rename_i hcond
          simp only [Option.some.injEq, Prod.mk.injEq] at hr
          obtain ⟨rfl, rfl, rfl⟩ := hr
          have hx0 := hx
          obtain ⟨A, c', hU, hnc, hnb, hv⟩ := slCells_sound R hx (cs := xs.flatMap AVal.cells) (n := xs.length) rfl rfl
          subst hU
          have hfl : (xs.flatMap AVal.cells).length = xs.length * i.size := by
            simp only [VRel] at hx0
            obtain ⟨A', c'', vs, k1, _, _, _, _, k5⟩ := hx0
            have : ∀ (xs : List AVal) (vs : List Value), VRels m F w xs vs → ones (xs.flatMap AVal.cells) = true → (∀ x ∈ vs, x.cells.size = e') → (xs.flatMap AVal.cells).length = xs.length * e' := by
              intro xs
              induction xs with
              | nil => intro vs _ _ _; simp
              | cons x xs ih =>
                intro vs k1 k2 k3
                simp only [VRels] at k1
                obtain ⟨v, vs', q1, q2, rfl⟩ := k1
                simp only [List.flatMap_cons, ones, List.all_append, Bool.and_eq_true] at k2
                have := (q1.cells k2.1).length
                rw [Array.length_toList, k3 v (by simp)] at this
                simp only [List.flatMap_cons, List.length_append, List.length_cons, ih vs' q2 k2.2 (fun x hx => k3 x (by simp [hx])), ← this, Nat.succ_mul]
                omega
            rw [this xs vs k1 hcond.2 k5.1, hcond.1]
          obtain ⟨vs, v1, v2, v3⟩ := hv i.size hfl hcond.2
          have hcc : c' = xs.length := by
            simp only [VRel] at hx
            obtain ⟨A', c'', vs', k1, k2, _, _, k4, _⟩ := hx
            have hl' := k1.length
            injection k2 with _ _ k2
            rw [k2, k4 trivial, hl']
          by_cases h0 : n = 0
          · subst h0
            have hnews : news = [] := List.eq_nil_of_length_eq_zero (by simpa using hnl)
            refine ⟨.slice A xs.length c', w, m, ?_, by simpa using R, by simpa using hx, Ext.refl _ _ _⟩
            have := run_append_in (tt := tt) ht hu hi (A := A) (sLen := xs.length) (sCap := c') n3 n4 (by omega) (w' := w) (fun a ha => by rw [hnews]; rfl) (fun _ => rfl)
            simpa using this
          · simp only [if_neg h0]
            exact grow_ok (tt := tt) R ht hu hi hsz hby hz hzs (A := A) (sLen := xs.length) (sCap := c') v1 v2 (by rw [v1.length]; exact hfl) n1 n2 hnl (fun w' hw => run_firstCells (by rw [v1.length]; exact hfl) v3 w' hw) n3 n4 (by omega) hc.1 hc.2 (h' := h) (fun _ _ h => h) rfl
        · cases hr
      case sl e' id off ln cap =>
        split at hr
        · rename_i he'
          subst he'
          split at hr
          · rename_i ty' cs hid
            split at hr
            · rename_i hcond
              obtain ⟨rfl, hle, hone⟩ := hcond
              have hx0 := hx
              simp only [VRel] at hx
              obtain ⟨b, o, A, cc, hm, rfl, hlc, hA, hcap, hsize, hbig⟩ := hx
              obtain ⟨b', o', hm', hF, hO⟩ := R.live id _ hid
              rw [hm] at hm'; cases hm'
              obtain ⟨vs, v1, v2, v3, v4⟩ := hO.vals off (ln * i.size) hle
              have hold : ∀ w' : World, w'.heap = w.heap → (Builtin.firstCells i.size ln (.slice (some A) ln cc)).run P w' = .ok vs.toArray w' := by
                intro w' hw
                by_cases hc0 : 0 < cc
                · exact run_firstCells v2 (.inr ⟨b, o + off, by rw [hA hc0], hO.lt, v3⟩) w' hw
                · have : ln = 0 := by omega
                  subst this
                  have : vs = [] := List.eq_nil_of_length_eq_zero (by simpa using v2)
                  exact run_firstCells (by simp [this]) (.inl this) w' hw
              have grow : ∀ h'' : AHeap, (∀ id o, h''.f id = some o → h.f id = some o) → h''.next = h.next → cc < ln + n → (ln + n) * i.bytes ≤ big → ln + n ≤ big →
                  ∃ q w' m', (Builtin.append_ #[t, u] tt #[.slice (some A) ln cc, V]).run P w = .ok q w' ∧ Rel (h''.alloc (.cells ty' ((cs.drop off).take (ln * i.size) ++ ys))) m' F w' ∧ VRel m' F w' (.sl i.size h.next 0 (ln + n) none) q ∧ Ext m F w m' F w' :=
                fun h'' k1 k2 k3 k4 k5 => grow_ok (tt := tt) R ht hu hi hsz hby hz hzs (A := some A) (sLen := ln) (sCap := cc) v1 v4 v2 n1 n2 hnl hold n3 n4 k3 k4 k5 k1 k2
              cases cap with
              | some c0 =>
                simp only at hr
                have hcc := hcap c0 rfl
                subst hcc
                have hyl : ys.length = n * i.size := hl.1
                by_cases h0 : n = 0
                · rw [if_pos h0] at hr
                  simp only [Option.some.injEq, Prod.mk.injEq] at hr
                  obtain ⟨rfl, rfl, rfl⟩ := hr
                  subst h0
                  have hnews : news = [] := List.eq_nil_of_length_eq_zero (by simpa using hnl)
                  refine ⟨.slice (some A) ln cc, w, m, ?_, R, hx0, Ext.refl _ _ _⟩
                  have := run_append_in (tt := tt) ht hu hi (A := some A) (sLen := ln) (sCap := cc) n3 n4 (by omega) (w' := w) (fun a ha => by rw [hnews]; rfl) (fun _ => rfl)
                  simpa using this
                · rw [if_neg h0] at hr
                  split at hr
                  · rename_i hle2
                    split at hr
                    · rename_i hroom
                      simp only [Option.some.injEq, Prod.mk.injEq] at hr
                      obtain ⟨rfl, rfl, rfl⟩ := hr
                      have hp : 0 < cc := by omega
                      have hO' := hO
                      cases hO with
                      | cells hb hlen hfr hcell =>
                        rename_i C fr
                        have hmul : (ln + n) * i.size = ln * i.size + n * i.size := Nat.add_mul _ _ _
                        obtain ⟨w', C', g1, g2, g3, g4, g5, g6, g7, g8, g9⟩ := run_stores (P := P) news (o + off + ln * i.size) 0 w C hb hfr (by rw [hnl]; omega) n2
                        have hst : ∀ a, some A = some a → (storeCells (a.add (ln * i.size)) news).run P w = .ok () w' := by
                          intro a ha
                          cases ha
                          rw [hA hp, add_plain]; exact g1
                        have hrun := run_append_in (tt := tt) ht hu hi (A := some A) (sLen := ln) (sCap := cc) n3 n4 hle2 hst (fun h => by cases h)
                        obtain ⟨r1, r2⟩ := R.write (o' := .cells ty' (cs.take (off + ln * i.size) ++ ys ++ cs.drop (off + (ln + n) * i.size))) hid hm g5 g6 (sizeAt_keep hb g2 g3) (fun e => by
                          refine .cells g2 (by rw [g3]; simp only [List.length_append, List.length_take, List.length_drop, hyl]; omega) (by rw [g3]; exact hfr) fun k x hx => ?_
                          rw [g4 (o + k)]
                          simp only [Nat.add_zero]
                          rw [List.append_assoc, List.getElem?_append] at hx
                          have ht1 : (cs.take (off + ln * i.size)).length = off + ln * i.size := by simp; omega
                          rw [ht1] at hx
                          split at hx
                          · rename_i hk
                            rw [List.getElem?_take, if_pos hk] at hx
                            rw [if_neg (by omega)]
                            obtain ⟨u, q1, q2, q3⟩ := hcell k x hx
                            exact ⟨u, q1, q2, q3.ext e⟩
                          · rename_i hk
                            rw [List.getElem?_append] at hx
                            split at hx
                            · rename_i hk2
                              rw [if_pos (by rw [hnl]; omega), show o + k - (o + off + ln * i.size) = k - (off + ln * i.size) from by omega]
                              obtain ⟨u, q1, q2⟩ := n1.get hx
                              exact ⟨u, q1, n2 u (List.mem_of_getElem? q1), q2.ext e⟩
                            · rename_i hk2
                              rw [List.getElem?_drop] at hx
                              rw [if_neg (by rw [hnl]; omega)]
                              obtain ⟨u, q1, q2, q3⟩ := hcell _ x hx
                              refine ⟨u, ?_, q2, q3.ext e⟩
                              rw [← q1]; congr 1; omega) g7 g8 g9
                        refine ⟨_, w', m, hrun, r1, ?_, r2⟩
                        simp only [VRel]
                        obtain ⟨C0, t0, fr0, k1, k2⟩ := hsize hp
                        rw [hb] at k1; cases k1
                        refine ⟨b, o, A, cc, hm, rfl, hle2, hA, fun k hk => hcap k hk, fun hp => ⟨C', ty', fr, g2, by rw [g3]; exact k2⟩, ?_⟩
                        exact hc
                    · cases hr
                  · rename_i hgt
                    simp only [Option.some.injEq, Prod.mk.injEq] at hr
                    obtain ⟨rfl, rfl, rfl⟩ := hr
                    exact grow h (fun _ _ h => h) rfl (by omega) hc.1 hc.2
              | none =>
                simp only [Option.some.injEq, Prod.mk.injEq] at hr
                obtain ⟨rfl, rfl, rfl⟩ := hr
                by_cases hgt : cc < ln + n
                · refine grow (h.drop id) (fun id1 o1 h1 => ?_) rfl hgt hc.1 hc.2
                  simp only [AHeap.drop] at h1
                  split at h1
                  · cases h1
                  · exact h1
                · have hle2 : ln + n ≤ cc := by omega
                  have hO' := hO
                  cases hO with
                  | cells hb hlen hfr hcell =>
                    rename_i C fr
                    have hroom : 0 < cc → o + off + cc * i.size ≤ C.size := by
                      intro hp
                      obtain ⟨C0, t0, fr0, k1, k2⟩ := hsize hp
                      rw [hb] at k1; cases k1
                      exact k2
                    have hfit : o + off + (ln + n) * i.size ≤ C.size := by
                      by_cases hp : 0 < cc
                      · have h1 := hroom hp
                        have h2 : (ln + n) * i.size ≤ cc * i.size := Nat.mul_le_mul_right _ hle2
                        omega
                      · have e1 : ln = 0 := by omega
                        have e2 : n = 0 := by omega
                        subst e1; subst e2
                        simp only [Nat.zero_add, Nat.zero_mul, Nat.add_zero] at hle ⊢
                        omega
                    obtain ⟨w', C', g1, g2, g3, g4, g5, g6, g7, g8, g9⟩ := run_stores (P := P) news (o + off + ln * i.size) 0 w C hb hfr (by rw [hnl]; rw [Nat.add_mul] at hfit; omega) n2
                    have hst : ∀ a, some A = some a → (storeCells (a.add (ln * i.size)) news).run P w = .ok () w' := by
                      intro a ha
                      cases ha
                      by_cases hp : 0 < cc
                      · rw [hA hp, add_plain]; exact g1
                      · have e2 : n = 0 := by omega
                        subst e2
                        have : news = [] := List.eq_nil_of_length_eq_zero (by simpa using hnl)
                        subst this
                        simpa [storeCells] using g1
                    have hrun := run_append_in (tt := tt) ht hu hi (A := some A) (sLen := ln) (sCap := cc) n3 n4 hle2 hst (fun h => by cases h)
                    obtain ⟨r1, r2⟩ := R.renew (o' := .cells ty' ((cs.drop off).take (ln * i.size) ++ ys)) (off' := o + off) hid hm g5 g6 (sizeAt_keep hb g2 g3) (fun m' e => by
                      have hyl : ys.length = n * i.size := hl.1
                      refine .cells g2 (by rw [g3, List.length_append, List.length_take, List.length_drop, hyl, Nat.min_eq_left (by omega), ← Nat.add_mul]; exact hfit) (by rw [g3]; exact hfr) fun k x hx => ?_
                      rw [g4 (o + off + k)]
                      simp only [Nat.add_zero]
                      rw [List.getElem?_append] at hx
                      have htl : ((cs.drop off).take (ln * i.size)).length = ln * i.size := by simp; omega
                      rw [htl] at hx
                      split at hx
                      · rename_i hk
                        rw [if_neg (by omega)]
                        rw [List.getElem?_take, if_pos hk, List.getElem?_drop] at hx
                        obtain ⟨u, q1, q2, q3⟩ := hcell _ x hx
                        exact ⟨u, by rw [Nat.add_assoc]; exact q1, q2, q3.ext e⟩
                      · rename_i hk
                        have hk2 := (List.getElem?_eq_some_iff.1 hx).1
                        rw [if_pos (by rw [hnl]; omega), show o + off + k - (o + off + ln * i.size) = k - ln * i.size from by omega]
                        obtain ⟨u, q1, q2⟩ := n1.get hx
                        exact ⟨u, q1, n2 u (List.mem_of_getElem? q1), q2.ext e⟩) g7 g8 g9
                    refine ⟨_, w', _, hrun, r1, ?_, r2⟩
                    simp only [VRel]
                    refine ⟨b, o + off, A, cc, by simp [Map.put], rfl, hle2, fun hp => by rw [hA hp]; rfl, by simp, fun hp => ⟨C', ty', fr, g2, by rw [g3]; have := hroom hp; omega⟩, hc.2⟩
            · cases hr
          · cases hr
        · cases hr
    · cases hr
  · cases hr
end
end Go.Proofs.YtcjlgmknclifmaaDoor.Ab
