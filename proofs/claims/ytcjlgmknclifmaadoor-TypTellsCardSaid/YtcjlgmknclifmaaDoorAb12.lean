/- All operations that make or write memory. -/
import Derived.Test.YtcjlgmknclifmaaDoorAb11
set_option linter.unusedVariables false
set_option linter.unusedSimpArgs false
namespace Go.Proofs.YtcjlgmknclifmaaDoor.Ab
open Go
section
variable {P : Program} {w : World} {m : Map} {F : Nat → Prop} {h : AHeap}

theorem ones_zero {v : Value} {z : List AVal} (hz : VRels m F w z v.cells.toList) (h1 : ones z = true) : ∀ x ∈ v.cells.toList, x.oneCell' = true := hz.ones h1

/-- A new block of exactly these cells. -/
theorem new_ok (R : Rel h m F w) (ty : TypeId) (cs : List AVal) (C : Array Value) (hv : VRels m F w cs C.toList) (h1 : ∀ v ∈ C.toList, v.oneCell' = true) :
    Rel (h.alloc (.cells ty cs)) (Map.put m h.next (w.heap.size, 0)) F (w.alloc (.cells C ty)) ∧ Ext m F w (Map.put m h.next (w.heap.size, 0)) F (w.alloc (.cells C ty)) :=
  R.block ty cs C (0, 0) (.inl rfl) C.toList hv h1 (fun i v hi => by simpa using hi) (by rw [← hv.length]; simp) w (.inl rfl)
theorem new_ptr (w' : World) (ty : TypeId) (n b : Nat) : VRel (Map.put m n (b, 0)) F w' (.ptr n 0) (.pointer (some ⟨b, 0, none⟩)) := by
  simp only [VRel]
  exact ⟨b, 0, by simp [Map.put], rfl⟩

theorem bytes_beq (a : ByteArray) : (a == a) = true := by
  rw [beq_toListBytes]
  simp
theorem keyEq_self {st : Bool} {x y : AVal} {u : Value} (hx : VRel m F w x u) (hr : keyEq st x y = some true) (n : Nat) : Instr.sameBits n u u = true := by
  unfold keyEq at hr
  split at hr
  · simp only [VRel] at hx; subst hx
    cases n <;> simp [Instr.sameBits]
  · simp only [VRel] at hx; obtain ⟨rfl, _⟩ := hx
    cases n <;> simp [Instr.sameBits, bytes_beq]
  · cases hr
theorem putK_sound {st : Bool} {d : TypeDesc} (hd : keyDesc st d) {k v : AVal} {u q : Value} (hk : VRel m F w k u) (hv : VRel m F w v q) : ∀ {es : List (AVal × AVal)} {E : List MapEntry} (i : Nat), ERel m F w es E → ∀ {es'}, putK st k v es = some es' →
    (Instr.findNow d u E i = some none ∧ ∀ c, ERel m F w es' (E ++ [{ key := u, val := q, born := c }])) ∨
    ∃ j e, Instr.findNow d u E i = some (some (i + j, e.val)) ∧ E[j]? = some e ∧ e.key = u ∧ (∀ n, Instr.sameBits n u u = true) ∧ ERel m F w es' (E.modify j fun e => { e with key := u, val := q })
  | [], E, i, h, es', hp => by
    simp only [ERel] at h; simp only [putK] at hp
    cases hp; subst h
    refine .inl ⟨rfl, fun c => ?_⟩
    simp only [List.nil_append, ERel]
    exact ⟨_, [], hk, hv, rfl, rfl⟩
  | (k', v') :: es, E, i, h, es', hp => by
    simp only [ERel] at h
    obtain ⟨e, E', h1, h2, h3, rfl⟩ := h
    simp only [putK] at hp
    split at hp
    · rename_i he
      cases hp
      refine .inr ⟨0, e, ?_, rfl, (keyEq_bits hk h1 he).symm, fun n => keyEq_self hk he n, ?_⟩
      · simp only [Instr.findNow, keyEq_sound hd hk h1 he, Nat.add_zero]
      · simp only [List.modify_zero_cons, ERel]
        exact ⟨_, _, hk, hv, h3, rfl⟩
    · rename_i he
      simp only [Option.map_eq_some_iff] at hp
      obtain ⟨es2, hp, rfl⟩ := hp
      have hf := keyEq_sound hd hk h1 he
      rcases putK_sound hd hk hv (i + 1) h3 hp with ⟨g1, g2⟩ | ⟨j, e2, g1, g2, g3, g5, g4⟩
      · refine .inl ⟨by simp only [Instr.findNow, hf, g1], fun c => ?_⟩
        simp only [List.cons_append, ERel]
        exact ⟨_, _, h1, h2, g2 c, rfl⟩
      · refine .inr ⟨j + 1, e2, by simp only [Instr.findNow, hf, g1]; congr 3; omega, by simpa using g2, g3, g5, ?_⟩
        simp only [List.modify_succ_cons, ERel]
        exact ⟨_, _, h1, h2, g4, rfl⟩
    · cases hp

theorem mapupd_ok (R : Rel h m F w) {t kt e : TypeId} {st : Bool} {d : TypeDesc} (ht : P.underlying t = some (.map kt e)) (hkt : P.underlying kt = some d) (hd : keyDesc st d) {id : Nat} {k v : AVal} {U K V : Value}
    (hx : VRel m F w (.map id) U) (hk : VRel m F w k K) (hv : VRel m F w v V) {es es' : List (AVal × AVal)} (hid : h.f id = some (.map es)) (hp : putK st k v es = some es') :
    ∃ w', (Instr.mapUpdate t U K V).run P w = .ok () w' ∧ Rel (h.put id (.map es')) m F w' ∧ Ext m F w m F w' := by
  simp only [VRel] at hx
  obtain ⟨b, hm, rfl⟩ := hx
  obtain ⟨b', o', hm', hF, hO⟩ := R.live id _ hid
  rw [hm] at hm'; cases hm'
  cases hO with
  | map hb hl hc =>
    rename_i E clock
    have hE : ERel m F w es E.toList := ERel.of (by simpa using hl) (fun i x e hx he => hc i x e hx (by simpa using he))
    have hlt : b < w.heap.size := (Array.getElem?_eq_some_iff.1 hb).1
    have set_ok : ∀ (E' : Array MapEntry) (c' : Nat), ERel m F w es' E'.toList → ∃ w', (setObj b (.map E' c')).run P w = .ok () w' ∧ Rel (h.put id (.map es')) m F w' ∧ Ext m F w m F w' := by
      intro E' c' hE'
      refine ⟨{ w with heap := w.heap.setIfInBounds b (.map E' c') }, by simp [setObj, Sem.run, hb], ?_⟩
      refine R.write hid hm (fun k hk => by simp [Array.getElem?_setIfInBounds_ne (Ne.symm hk)]) (by simp) (fun n hn => ?_) (fun e => ?_) rfl rfl rfl
      · obtain ⟨C, t', fr, h1, _⟩ := hn
        rw [hb] at h1; cases h1
      · refine .map (E := E') (clock := c') (by simp [hlt]) (by have := hE'.length; simpa using this) fun i x y hx hy => ?_
        have := hE'.get i x y hx (by simpa using hy)
        exact ⟨this.1.ext e, this.2.ext e⟩
    rcases putK_sound hd hk hv 0 hE hp with ⟨g1, g2⟩ | ⟨j, e0, g1, g2, g3, g5, g4⟩
    · obtain ⟨w', q1, q2⟩ := set_ok (E.push { key := K, val := V, born := clock }) (clock + 1) (by simpa using g2 clock)
      refine ⟨w', ?_, q2⟩
      unfold Instr.mapUpdate
      simp only [Sem.run_bind, run_und ht, Result.andThen_ok, run_getMap hb, run_checkKey hd hkt, run_findKey hd hkt g1, q1]
    · obtain ⟨w', q1, q2⟩ := set_ok (E.modify j fun e => { e with key := K, val := V }) clock (by simpa [Array.toList_modify] using g4)
      refine ⟨w', ?_, q2⟩
      have hj : E[j]? = some e0 := by simpa using g2
      have hks : (Instr.keyThatStays (((E[0 + j]?).map (·.key)).getD K) K).run P w = .ok K w := by
        rw [Nat.zero_add, hj]
        simp only [Option.map_some, Option.getD_some, g3]
        unfold Instr.keyThatStays
        rw [if_pos (g5 10000)]
        rfl
      unfold Instr.mapUpdate
      simp only [Sem.run_bind, run_und ht, Result.andThen_ok, run_getMap hb, run_checkKey hd hkt, run_findKey hd hkt g1, hks]
      rw [Nat.zero_add]
      exact q1

theorem sizeAt_keep' {w w' : World} {b : Nat} {C : Array Value} {ty : TypeId} {fr fr' : Nat × Nat} (hb : w.heap[b]? = some (.cells C ty fr)) (hb' : w'.heap[b]? = some (.cells C ty fr')) (n : Nat) (h : SizeAt w b n) : SizeAt w' b n := by
  obtain ⟨C0, t0, fr0, h1, h2⟩ := h
  rw [hb] at h1; cases h1
  exact ⟨C, ty, fr', hb', h2⟩
theorem mark_ok (R : Rel h m F w) {src e e' : TypeId} (hs : P.underlying src = some (.slice e)) (he : P.underlying e = some (.int .u8)) {k id off len : Nat} {cap : Option Nat} {U : Value} {ty : TypeId} {cs : List AVal} (h0 : 0 < len) (hid : h.f id = some (.cells ty cs)) (hx : VRel m F w (.sl k id off len cap) U) :
    ∃ q w', (convert src src U).run P w = .ok q w' ∧ Rel h m F w' ∧ VRel m F w' (.sl k id off len cap) q ∧ Ext m F w m F w' := by
  have hx0 := hx
  simp only [VRel] at hx
  obtain ⟨b, o, A, c, hm, rfl, hlc, hA, _⟩ := hx
  have hA := hA (by omega)
  subst hA
  obtain ⟨b', o', hm', hF, hO⟩ := R.live id _ hid
  rw [hm] at hm'; cases hm'
  cases hO with
  | cells hb hl hfr hc =>
    rename_i C fr
    have hlt : b < w.heap.size := (Array.getElem?_eq_some_iff.1 hb).1
    let fr' : Nat × Nat := if fr.1 == fr.2 then (C.size, C.size + 1) else (min fr.1 C.size, max fr.2 (C.size + 1))
    have hb' : (w.freeze ⟨b, C.size, none⟩ 1).heap[b]? = some (.cells C ty fr') := by
      obtain ⟨lo, hi⟩ := fr
      simp [World.freeze, Array.getElem?_modify, hb, fr']
    have hfr' : fr'.1 = fr'.2 ∨ C.size ≤ fr'.1 := by
      simp only [fr']
      split
      · right; simp
      · rename_i hne
        rcases hfr with h1 | h1
        · simp [h1] at hne
        · right; simp; omega
    have hrun : (convert src src (.slice (some ⟨b, o + off, none⟩) len c)).run P w = .ok (.slice (some ⟨b, o + off, none⟩) len c) (w.freeze ⟨b, C.size, none⟩ 1) := by
      unfold convert
      simp only [Sem.run_bind, run_und hs, Result.andThen_ok, run_und he, BEq.rfl]
      simp [markStringish, shape, freeze, Sem.run, World.shape?, hb]
    obtain ⟨r1, r2⟩ := R.write (w' := w.freeze ⟨b, C.size, none⟩ 1) (o' := .cells ty cs) hid hm (fun k hk => by simp [World.freeze, Array.getElem?_modify, Ne.symm hk]) (by simp [World.freeze]) (sizeAt_keep' hb hb') (fun e => .cells hb' hl hfr' fun i x hx => let ⟨v, g1, g2, g3⟩ := hc i x hx; ⟨v, g1, g2, g3.ext e⟩) (by simp [World.freeze]) (by simp [World.freeze]) (by simp [World.freeze])
    refine ⟨_, _, hrun, ?_, hx0.ext r2, r2⟩
    have : h.put id (.cells ty cs) = h := by
      cases h
      simp only [AHeap.put, AHeap.mk.injEq, and_true]
      funext i
      split
      · rename_i hi; rw [hi]; exact hid.symm
      · rfl
    rw [this] at r1
    exact r1

theorem s2b_ok (R : Rel h m F w) {src dst e : TypeId} (hs : P.underlying src = some .string) (hd : P.underlying dst = some (.slice e)) (he : P.underlying e = some (.int .u8)) {s : ByteArray} {U : Value} (hbb : s.size ≤ big) (hx : VRel m F w (.str s) U) :
    ∃ q w' m', (convert src dst U).run P w = .ok q w' ∧ Rel (h.alloc (.cells e (s.data.toList.map fun b : UInt8 => AVal.int .u8 b.toNat))) m' F w' ∧ VRel m' F w' (.sl 1 h.next 0 s.size none) q ∧ Ext m F w m' F w' := by
  simp only [VRel] at hx
  obtain ⟨rfl, hbig⟩ := hx
  let cap : Nat := (Question.appendCap s.size 0 e).cut (w.tape w.drawn (.appendCap s.size 0 e))
  have hcap : s.size ≤ cap := by show _ ≤ s.size + _; omega
  let C : Array Value := s.data.map (fun b => Value.int .u8 b.toNat) ++ Array.replicate (cap - s.size) (.int .u8 0)
  have hC : C.size = cap := by
    have : s.data.size = s.size := rfl
    simp only [C, Array.size_append, Array.size_map, Array.size_replicate]
    omega
  have hrun : (convert src dst (.string s)).run P w = .ok (.slice (some ⟨w.heap.size, 0, none⟩) s.size cap) (w.drew.alloc (.cells C e (C.size, C.size + 1))) := run_bytes_of_string w src dst e s hs hd he
  obtain ⟨r1, r2⟩ := R.block e (s.data.toList.map fun b : UInt8 => AVal.int .u8 b.toNat) C (C.size, C.size + 1) (.inr (Nat.le_refl _)) (s.data.toList.map fun b : UInt8 => Value.int .u8 b.toNat)
    (VRels.mk (by simp) fun i x v hx hv => by
      simp only [List.getElem?_map, Option.map_eq_some_iff] at hx hv
      obtain ⟨b, hb, rfl⟩ := hx
      obtain ⟨b', hb', rfl⟩ := hv
      rw [hb] at hb'; cases hb'
      simp only [VRel])
    (fun v hv => by simp only [List.mem_map] at hv; obtain ⟨b, _, rfl⟩ := hv; rfl)
    (fun i v hi => by
      have hlt : i < (s.data.map (fun b => Value.int .u8 b.toNat)).size := by
        have := (List.getElem?_eq_some_iff.1 hi).1
        simpa using this
      simp only [C]
      rw [Array.getElem?_append_left hlt]
      simpa using hi) (by rw [hC]; simpa using hcap) w.drew (.inr rfl)
  refine ⟨_, _, _, hrun, r1, ?_, r2⟩
  simp only [VRel]
  exact ⟨w.heap.size, 0, ⟨w.heap.size, 0, none⟩, cap, by simp [Map.put], rfl, hcap, fun _ => rfl, by simp, fun _ => ⟨C, e, _, heap_push_at w.drew _, by rw [hC]; omega⟩, hbb⟩

theorem upon_next {s : Sem Unit} {w' : World} (hs : s.run P w = .ok () w') : (do s; pure Next.skip : Sem Next).run P w = .ok .skip w' := by
  simp only [Sem.run_bind, hs, Result.andThen_ok, Sem.run_pure]

/-- ALL THAT MAKES OR WRITES MEMORY. -/
theorem chg_ok {o : Oper} {ao : AOp} {n : Nat} {ρ : Nat → AVal} {a : Act} {x : AVal} {c : Prop} {h' : AHeap} (h0 : resolveOp P o = some ao) (R : Rel h m F w) (A : ARel n m F w ρ a) (hv : achg ao ρ h = some (c, x, h')) (hc : c) :
    ∃ nx v w' m', (execOp a.eval o).run P w = .ok nx w' ∧ (nx = .value v ∨ (nx = .skip ∧ v = undef)) ∧ Rel h' m' F w' ∧ VRel m' F w' x v ∧ Ext m F w m' F w' := by
  obtain ⟨dst, op, ty, pos, after, guard⟩ := o
  have und : ∀ {m' : Map} {w' : World}, VRel m' F w' (.tup []) undef := by
    intro m' w'
    simp only [VRel, VRels]
    exact ⟨[], rfl, rfl⟩
  cases op <;> simp only [resolveOp, reduceCtorEq] at h0
  case alloc t =>
    split at h0
    · rename_i z i hz hi
      split at h0 <;> cases h0
      rename_i hone
      simp only [achg, Option.some.injEq, Prod.mk.injEq] at hv
      obtain ⟨rfl, rfl, rfl⟩ := hv
      obtain ⟨zv, hzr, hzv⟩ := zeroCs_sound (w := w) (m := m) (F := F) hz
      obtain ⟨r1, r2⟩ := new_ok R t z zv.cells hzv (hzv.ones hone)
      refine ⟨_, _, _, _, ?_, .inl rfl, r1, new_ptr _ t _ _, r2⟩
      simp only [execOp]; apply run_v
      simp only [Instr.alloc, Sem.run_bind, hzr, Result.andThen_ok, newVar, newRow, run_newObj, Sem.run_pure]
      rfl
    · cases h0
  case box t y =>
    split at h0 <;> cases h0
    rename_i i z hi hz
    simp only [achg] at hv
    split at hv <;> cases hv
    rename_i hcond
    have hr := (rOpd_sound A hz).cells hcond.2
    obtain ⟨r1, r2⟩ := new_ok R t _ (a.eval y).cells hr (hr.ones hcond.2)
    refine ⟨_, _, _, _, ?_, .inl rfl, r1, new_ptr _ t _ _, r2⟩
    simp only [execOp]; apply run_v
    simp only [Instr.box, Sem.run_bind, newVar, newRow, run_newObj, Sem.run_pure, Result.andThen_ok]
    rfl
  case store t y z =>
    split at h0 <;> cases h0
    rename_i i y' z' hi hy hz
    simp only [achg] at hv
    split at hv
    · rename_i id off he
      split at hv
      · rename_i ty' cs hid
        split at hv <;> cases hv
        rename_i hcond
        have hyr := rOpd_sound A hy
        rw [he] at hyr
        obtain ⟨w', g1, g2, g3⟩ := store_ok (P := P) R hi hyr (rOpd_sound A hz) hid hcond.1 hcond.2.1 hcond.2.2
        refine ⟨_, _, w', m, ?_, .inr ⟨rfl, rfl⟩, g2, und, g3⟩
        simp only [execOp]; exact upon_next g1
      · cases hv
    · cases hv
  case makeMap t r =>
    split at h0 <;> cases h0
    simp only [achg, Option.some.injEq, Prod.mk.injEq] at hv
    obtain ⟨rfl, rfl, rfl⟩ := hv
    obtain ⟨r1, r2⟩ := R.alloc (.map []) (.map #[] 0) (fun m' w' e hb => .map hb (by simp) (fun i x e hx _ => by simp at hx))
    refine ⟨_, .map (some w.heap.size), _, _, ?_, .inl rfl, r1, by simp only [VRel]; exact ⟨_, by simp [Map.put], rfl⟩, r2⟩
    simp only [execOp]; apply run_v
    simp only [Instr.makeMap, Option.map_none, Sem.run_bind, run_newObj, Sem.run_pure, Result.andThen_ok]
    rfl
  case mapUpdate t y k v =>
    split at h0
    · rename_i kt e y' k' v' ht hy hk hvv
      have main : ∀ (st : Bool) (d : TypeDesc), P.underlying kt = some d → keyDesc st d → achg (.mapupd st y' k' v') ρ h = some (c, x, h') → ∃ nx q w' m', (execOp a.eval ⟨dst, .mapUpdate t y k v, ty, pos, after, guard⟩).run P w = .ok nx w' ∧ (nx = .value q ∨ (nx = .skip ∧ q = undef)) ∧ Rel h' m' F w' ∧ VRel m' F w' x q ∧ Ext m F w m' F w' := by
        intro st d hkt hd hv
        simp only [achg] at hv
        split at hv
        · rename_i id he
          split at hv
          · rename_i es hid
            simp only [Option.map_eq_some_iff, Prod.mk.injEq] at hv
            obtain ⟨es', hp, rfl, rfl, rfl⟩ := hv
            have hyr := rOpd_sound A hy
            rw [he] at hyr
            obtain ⟨w', g1, g2, g3⟩ := mapupd_ok R ht hkt hd hyr (rOpd_sound A hk) (rOpd_sound A hvv) hid hp
            refine ⟨_, _, w', m, ?_, .inr ⟨rfl, rfl⟩, g2, und, g3⟩
            simp only [execOp]; exact upon_next g1
          · cases hv
        · cases hv
      split at h0 <;> cases h0
      · exact main false _ (by assumption) ⟨_, rfl⟩ hv
      · exact main true _ (by assumption) rfl hv
    · cases h0
  case insert t y k v =>
    split at h0
    · rename_i kt e y' k' v' ht hy hk hvv
      have main : ∀ (st : Bool) (d : TypeDesc), P.underlying kt = some d → keyDesc st d → achg (.mapupd st y' k' v') ρ h = some (c, x, h') → ∃ nx q w' m', (execOp a.eval ⟨dst, .insert t y k v, ty, pos, after, guard⟩).run P w = .ok nx w' ∧ (nx = .value q ∨ (nx = .skip ∧ q = undef)) ∧ Rel h' m' F w' ∧ VRel m' F w' x q ∧ Ext m F w m' F w' := by
        intro st d hkt hd hv
        simp only [achg] at hv
        split at hv
        · rename_i id he
          split at hv
          · rename_i es hid
            simp only [Option.map_eq_some_iff, Prod.mk.injEq] at hv
            obtain ⟨es', hp, rfl, rfl, rfl⟩ := hv
            have hyr := rOpd_sound A hy
            rw [he] at hyr
            obtain ⟨w', g1, g2, g3⟩ := mapupd_ok R ht hkt hd hyr (rOpd_sound A hk) (rOpd_sound A hvv) hid hp
            refine ⟨_, _, w', m, ?_, .inr ⟨rfl, rfl⟩, g2, und, g3⟩
            simp only [execOp]; exact upon_next g1
          · cases hv
        · cases hv
      split at h0 <;> cases h0
      · exact main false _ (by assumption) ⟨_, rfl⟩ hv
      · exact main true _ (by assumption) rfl hv
    · cases h0
  case convert src dst' y =>
    unfold rConv at h0
    split at h0
    · cases h0; simp [achg] at hv
    · cases h0; simp [achg] at hv
    · split at h0 <;> cases h0; simp [achg] at hv
    · rename_i z e hz hs1 hd1
      split at h0 <;> cases h0
      rename_i he
      simp only [achg] at hv
      split at hv
      · rename_i s hse
        simp only [Option.some.injEq, Prod.mk.injEq] at hv
        obtain ⟨rfl, rfl, rfl⟩ := hv
        have hr := rOpd_sound A hz
        rw [hse] at hr
        have he' : P.underlying e = some (.int .u8) := by
          revert he
          cases P.underlying e with
          | none => simp
          | some d =>
            cases d <;> simp
            try (rename_i k; cases k <;> simp)
        obtain ⟨q, w', m', g1, g2, g3, g4⟩ := s2b_ok R hs1 hd1 he' hc hr
        exact ⟨_, q, w', m', by simp only [execOp]; exact run_v g1, .inl rfl, g2, g3, g4⟩
      · cases hv
    · rename_i z e0 e hz hs1 hd1
      by_cases he : markable P src dst' e = true
      case neg => rw [if_neg he] at h0; cases h0
      rw [if_pos he] at h0
      cases h0
      simp only [markable, Bool.and_eq_true, beq_iff_eq] at he
      obtain ⟨hsd, he⟩ := he
      subst hsd
      have he' : P.underlying e = some (.int .u8) := by
        revert he
        cases P.underlying e with
        | none => simp
        | some d =>
          cases d <;> simp
          try (rename_i k; cases k <;> simp)
      rw [hs1] at hd1; cases hd1
      simp only [achg] at hv
      split at hv
      · rename_i k id off len cap hse
        split at hv
        · rename_i ty cs hid
          simp only [Option.some.injEq, Prod.mk.injEq] at hv
          obtain ⟨rfl, rfl, rfl⟩ := hv
          have hr := rOpd_sound A hz
          rw [hse] at hr
          obtain ⟨q, w', g1, g2, g3, g4⟩ := mark_ok (P := P) (e' := e0) R hs1 he' hc hid hr
          exact ⟨_, q, w', m, by simp only [execOp]; exact run_v g1, .inl rfl, g2, g3, g4⟩
        · cases hv
      · cases hv
    · cases h0
  case buildSlice t len parts =>
    split at h0
    · rename_i e ht
      split at h0
      · rename_i inf z hinf hz
        split at h0
        · rename_i hcond
          simp only [Option.map_eq_some_iff] at h0; obtain ⟨ps, hps, rfl⟩ := h0
          simp only [achg] at hv
          split at hv <;> cases hv
          rename_i cs hcs
          obtain ⟨zv, hzr, hzv⟩ := zeroCs_sound (w := w) (m := m) (F := F) hz
          have hzl : zv.cells.size = inf.size := by rw [← Array.length_toList, hzv.length, hcond.1]
          obtain ⟨rs, g1, g2, g3⟩ := fill_sound A parts.toList ps _ _ cs hps (zeros_list hzv len) hcs
          have hone : ones (List.replicate len z).flatten = true := by
            simp only [ones, List.all_flatten, List.all_replicate]
            have := hcond.2.2.2
            simp only [ones] at this
            simp [this]
          have fill_ones : ∀ (qs : List (Nat × Nat × AVal)) (z r : List AVal), ones z = true → fillV z qs = some r → ones r = true := by
            intro qs
            induction qs with
            | nil => intro z r h1 h2; simp only [fillV, Option.some.injEq] at h2; subst h2; exact h1
            | cons q qs ih =>
              intro z r h1 h2
              obtain ⟨o, k, v⟩ := q
              simp only [fillV] at h2
              split at h2
              · rename_i hc2
                refine ih _ r ?_ h2
                simp only [ones, List.all_append, Bool.and_eq_true] at h1 hc2 ⊢
                simp only [List.all_eq_true] at h1 hc2 ⊢
                exact ⟨⟨fun x hx => h1 x (List.mem_of_mem_take hx), hc2.2.2⟩, fun x hx => h1 x (List.mem_of_mem_drop hx)⟩
              · cases h2
          obtain ⟨r1, r2⟩ := new_ok R e cs rs g2 (g2.ones (fill_ones _ _ _ hone hcs))
          have hrs : rs.size = len * inf.size := by rw [g3, flat_len, Array.length_toList, hzl]
          refine ⟨.value (.slice (some ⟨w.heap.size, 0, none⟩) len len), _, _, _, ?_, .inl rfl, r1, ?_, r2⟩
          · simp only [execOp]; apply run_v
            unfold Instr.buildSlice
            simp only [Sem.run_bind, run_und ht, run_sz hinf, Result.andThen_ok]
            rw [if_neg (by omega)]
            by_cases hz0 : len * inf.size = 0
            · have hl0 : len = 0 := by
                rcases Nat.mul_eq_zero.1 hz0 with e1 | e1
                · exact e1
                · exact absurd e1 hcond.2.1
              rw [if_pos hz0]
              subst hl0
              simp only [Sem.run_bind, Sem.run_pure, Result.andThen_ok, Nat.zero_mul]
              have this : (parts.map fun x => (x.1, a.eval x.2)).toList = parts.toList.map (fun p => (p.1, a.eval p.2)) := by simp
              rw [this]
              have e0 : (Array.range 0).map (fun x => (#[] : Array Value)[x % (#[] : Array Value).size]!) = #[] := by simp
              have g1' : Instr.fill (fun i => some (i * inf.size, inf.size)) #[] (parts.toList.map (fun p => (p.1, a.eval p.2))) = some rs := g1
              rw [e0, g1']
              simp only [Sem.run_bind, newRow, run_newObj, Sem.run_pure, Result.andThen_ok]
              rfl
            · rw [if_neg hz0]
              simp only [Sem.run_bind, hzr, Sem.run_pure, Result.andThen_ok]
              have hfl : (Array.range (len * inf.size)).map (fun k => zv.cells[k % zv.cells.size]!) = (List.replicate len zv.cells.toList).flatten.toArray := by
                apply Array.ext'
                have := made_zeros (z := zv.cells) len (.inl (by rw [hzl]; exact hcond.2.1))
                rw [← hzl]
                exact this
              rw [hfl]
              have this : (parts.map fun x => (x.1, a.eval x.2)).toList = parts.toList.map (fun p => (p.1, a.eval p.2)) := by simp
              rw [this]
              rw [g1]
              simp only [Sem.run_bind, newRow, run_newObj, Sem.run_pure, Result.andThen_ok]
              rfl
          · simp only [VRel]
            refine ⟨w.heap.size, 0, ⟨w.heap.size, 0, none⟩, len, by simp [Map.put], rfl, Nat.le_refl _, fun _ => rfl, by simp, fun _ => ⟨rs, e, (0, 0), heap_push_at w _, by rw [hrs]; omega⟩, ?_⟩
            have h1 := hcond.2.2.1
            have h2 : len ≤ len * inf.size := Nat.le_mul_of_pos_right _ (by omega)
            have := big_eq
            omega
        · cases h0
      · cases h0
    · cases h0
  case makeSlice t l c' =>
    split at h0
    · rename_i e l' cc ht hl hcc
      split at h0
      · rename_i inf z hinf hz
        split at h0 <;> cases h0
        rename_i hcond
        simp only [achg] at hv
        split at hv
        · rename_i k1 L k2 C hL hCC
          simp only [Option.some.injEq, Prod.mk.injEq] at hv
          obtain ⟨rfl, rfl, rfl⟩ := hv
          obtain ⟨b1, b2, b3, b4⟩ := hc
          have hlr := rOpd_sound A hl
          have hcr := rOpd_sound A hcc
          rw [hL] at hlr; rw [hCC] at hcr
          simp only [VRel] at hlr hcr
          obtain ⟨zv, hzr, hzv⟩ := zeroCs_sound (w := w) (m := m) (F := F) hz
          have hzl : zv.cells.size = inf.size := by rw [← Array.length_toList, hzv.length, hcond.1]
          obtain ⟨n, rfl⟩ := Int.eq_ofNat_of_zero_le b1
          obtain ⟨q, rfl⟩ := Int.eq_ofNat_of_zero_le (show 0 ≤ C by omega)
          have hbig := big_eq
          have w1 : IntKind.i64.wrap (n : Int) = n := by
            simp [IntKind.wrap, IntKind.bits, IntKind.signed]
            omega
          have w2 : IntKind.i64.wrap (q : Int) = q := by
            simp [IntKind.wrap, IntKind.bits, IntKind.signed]
            omega
          have hones : ones (List.replicate q z).flatten = true := by
            simp only [ones, List.all_flatten, List.all_replicate]
            have := hcond.2.2.2
            simp only [ones] at this
            simp [this]
          have hzs := zeros_list hzv q
          obtain ⟨r1, r2⟩ := new_ok R e (List.replicate q z).flatten (List.replicate q zv.cells.toList).flatten.toArray (by simpa using hzs) (by simpa using hzs.ones hones)
          refine ⟨.value (.slice (some ⟨w.heap.size, 0, none⟩) n q), _, _, _, ?_, .inl rfl, by simpa using r1, ?_, r2⟩
          · simp only [execOp]; apply run_v
            rw [hlr, hcr]
            unfold Instr.makeSlice
            have hq2 : (q : Int) * inf.bytes ≤ 140737488355328 := by have : (q : Int) * inf.bytes ≤ big := b3; omega
            simp only [Sem.run_bind, run_und ht, Result.andThen_ok, asInt, asIntOf, Sem.run_pure, run_ti hinf, w1, w2]
            have hc1 : ((decide ((q : Int) < 0) || decide ((inf.bytes : Int) * q > 2 ^ 48)) || decide ((n : Int) < 0) || decide ((n : Int) > q)) = false := by
              simp only [Bool.or_eq_false_iff, decide_eq_false_iff_not]
              rw [Int.mul_comm]
              refine ⟨⟨⟨by omega, by omega⟩, by omega⟩, by omega⟩
            rw [if_neg (by rw [hc1]; simp)]
            simp only [Sem.run_bind, run_askRoom, run_sz hinf, Result.andThen_ok, Int.toNat_natCast]
            by_cases hz0 : q * inf.size = 0
            · have hl0 : q = 0 := by
                rcases Nat.mul_eq_zero.1 hz0 with e1 | e1
                · exact e1
                · exact absurd e1 hcond.2.1
              rw [if_pos hz0]
              subst hl0
              simp only [Sem.run_bind, Sem.run_pure, Result.andThen_ok, Nat.zero_mul]
              have e0 : (Array.range 0).map (fun x => (#[] : Array Value)[x % (#[] : Array Value).size]!) = #[] := by simp
              rw [e0]
              simp only [Sem.run_bind, newRow, run_newObj, Sem.run_pure, Result.andThen_ok]
              rfl
            · rw [if_neg hz0]
              simp only [Sem.run_bind, hzr, Sem.run_pure, Result.andThen_ok]
              have hfl : (Array.range (q * inf.size)).map (fun k => zv.cells[k % zv.cells.size]!) = (List.replicate q zv.cells.toList).flatten.toArray := by
                apply Array.ext'
                have := made_zeros (z := zv.cells) q (.inl (by rw [hzl]; exact hcond.2.1))
                rw [← hzl]
                exact this
              rw [hfl]
              simp only [Sem.run_bind, newRow, run_newObj, Sem.run_pure, Result.andThen_ok]
              rfl
          · simp only [VRel]
            refine ⟨w.heap.size, 0, ⟨w.heap.size, 0, none⟩, q, by simp [Map.put], by simp, by omega, fun _ => rfl, by simp, fun _ => ⟨_, e, (0, 0), heap_push_at w _, ?_⟩, by omega⟩
            rw [List.size_toArray, flat_len, Array.length_toList, hzl]
            omega
        · cases hv
      · cases h0
    · cases h0
  case call cc =>
    unfold rCall at h0
    split at h0
    · split at h0
      · simp only [Option.map_eq_some_iff] at h0; obtain ⟨l, _, rfl⟩ := h0; simp [achg] at hv
      · cases h0
    · split at h0 <;> cases h0; simp [achg] at hv
    · split at h0
      · split at h0 <;> cases h0 <;> simp [achg] at hv
      · cases h0
    · rename_i hcal
      split at h0
      · rename_i t u x' y' hat hag
        have hrr := rOpds_sound A hag
        simp only [List.map_cons, List.map_nil, VRels] at hrr
        obtain ⟨U, us, hU, ⟨V, vs, hV, rfl, rfl⟩, hus⟩ := hrr
        have e1 : cc.args.map a.eval = #[U, V] := by apply Array.ext'; simpa using hus
        have e2 : cc.argTypes = #[t, u] := by apply Array.ext'; simpa using hat
        have main : ∀ (e : TypeId) (i : TypeInfo), P.underlying t = some (.slice e) → ((∃ e', P.underlying u = some (.slice e')) ∨ P.underlying u = some .string) → P.info? e = some i → (i.size ≠ 0 ∧ i.bytes ≠ 0 ∧ (i.zero.map fun z => z.cells.size) = some i.size ∧ (i.zero.map fun z => z.cells.all fun c => c.oneCell') = some true) →
            achg (.append e i.size i.bytes x' y') ρ h = some (c, x, h') → ∃ nx v w' m', (execOp a.eval ⟨dst, .call cc, ty, pos, after, guard⟩).run P w = .ok nx w' ∧ (nx = .value v ∨ (nx = .skip ∧ v = undef)) ∧ Rel h' m' F w' ∧ VRel m' F w' x v ∧ Ext m F w m' F w' := by
          intro e i ht hu hi hcond hv
          simp only [Option.map_eq_some_iff] at hcond
          obtain ⟨k1, k2, ⟨z, hz, hz2⟩, _⟩ := hcond
          obtain ⟨q, w', m', g1, g2, g3, g4⟩ := append_ok (tt := ty) R ht hu hi k1 k2 hz hz2 hU hV rfl rfl hv hc
          refine ⟨_, q, w', m', ?_, .inl rfl, g2, g3, g4⟩
          simp only [execOp, resolve, hcal, Sem.run_bind, Sem.run_pure, Result.andThen_ok, invoke, builtin, e1, e2, g1]
        split at h0
        · split at h0
          · split at h0 <;> cases h0
            exact main _ _ (by assumption) (.inl ⟨_, by assumption⟩) (by assumption) (by assumption) hv
          · cases h0
        · split at h0
          · split at h0 <;> cases h0
            exact main _ _ (by assumption) (.inr (by assumption)) (by assumption) (by assumption) hv
          · cases h0
        · cases h0
      · cases h0
    · simp only [Option.map_eq_some_iff] at h0; obtain ⟨l, _, rfl⟩ := h0; simp [achg] at hv
    · simp only [Option.map_eq_some_iff] at h0; obtain ⟨l, _, rfl⟩ := h0; simp [achg] at hv
    · cases h0
  case binOp op t p q t' =>
    exfalso
    unfold rBin at h0
    split at h0
    · split at h0
      · split at h0
        · cases h0; simp [achg] at hv
        · cases h0; simp [achg] at hv
        · split at h0
          · split at h0
            · split at h0 <;> cases h0; simp [achg] at hv
            · cases h0
          · cases h0
        · split at h0 <;> cases h0; simp [achg] at hv
      · cases h0; simp [achg] at hv
    · cases h0
  all_goals exfalso
  case makeFunc fn first cap =>
    cases fn <;> simp only [reduceCtorEq] at h0
    split at h0
    · simp only [Option.map_eq_some_iff] at h0; obtain ⟨z, _, rfl⟩ := h0; simp [achg] at hv
    · cases h0
  all_goals (repeat' (split at h0))
  all_goals first
    | (cases h0; done)
    | (cases h0; simp [achg] at hv; done)
    | (simp only [Option.map_eq_some_iff] at h0; obtain ⟨z, _, rfl⟩ := h0; simp [achg] at hv; done)
end
end Go.Proofs.YtcjlgmknclifmaaDoor.Ab
