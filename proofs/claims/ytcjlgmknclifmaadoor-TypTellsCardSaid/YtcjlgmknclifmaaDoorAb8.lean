/- Each operation that leaves memory alone does in the model what it does here: maps, structs, and all together. -/
import Derived.Test.YtcjlgmknclifmaaDoorAb7
set_option linter.unusedVariables false
set_option linter.unusedSimpArgs false
namespace Go.Proofs.YtcjlgmknclifmaaDoor.Ab
open Go
section
variable {P : Program} {w : World} {m : Map} {F : Nat → Prop} {h : AHeap}

/-! ### maps -/
def ERel (m : Map) (F : Nat → Prop) (w : World) : List (AVal × AVal) → List MapEntry → Prop
  | [], es => es = []
  | x :: xs, es => ∃ e r, VRel m F w x.1 e.key ∧ VRel m F w x.2 e.val ∧ ERel m F w xs r ∧ es = e :: r
theorem ERel.of : ∀ {es : List (AVal × AVal)} {E : List MapEntry}, E.length = es.length → (∀ (i : Nat) (x : AVal × AVal) (e : MapEntry), es[i]? = some x → E[i]? = some e → VRel m F w x.1 e.key ∧ VRel m F w x.2 e.val) → ERel m F w es E
  | [], E, hl, _ => by simp only [ERel]; exact List.eq_nil_of_length_eq_zero hl
  | x :: es, [], hl, _ => by simp at hl
  | x :: es, e :: E, hl, h => by
    simp only [ERel]
    have h0 := h 0 x e (by simp) (by simp)
    exact ⟨e, E, h0.1, h0.2, ERel.of (by simpa using hl) (fun i y z hy hz => h (i + 1) y z (by simpa using hy) (by simpa using hz)), rfl⟩
theorem ERel.length : ∀ {es : List (AVal × AVal)} {E : List MapEntry}, ERel m F w es E → E.length = es.length
  | [], E, h => by simp only [ERel] at h; simp [h]
  | x :: es, E, h => by
    simp only [ERel] at h
    obtain ⟨e, r, _, _, h3, rfl⟩ := h
    simp [ERel.length h3]
theorem ERel.get : ∀ {es : List (AVal × AVal)} {E : List MapEntry}, ERel m F w es E → ∀ (i : Nat) (x : AVal × AVal) (e : MapEntry), es[i]? = some x → E[i]? = some e → VRel m F w x.1 e.key ∧ VRel m F w x.2 e.val
  | [], E, h, i, x, e, hx, he => by simp at hx
  | y :: es, E, h, i, x, e, hx, he => by
    simp only [ERel] at h
    obtain ⟨e', r, h1, h2, h3, rfl⟩ := h
    cases i with
    | zero => simp at hx he; subst hx; subst he; exact ⟨h1, h2⟩
    | succ i => exact ERel.get h3 i x e (by simpa using hx) (by simpa using he)

def keyDesc : Bool → TypeDesc → Prop
  | false, d => ∃ k, d = .int k
  | true, d => d = .string
theorem keyEq_sound {st : Bool} {d : TypeDesc} (hd : keyDesc st d) {x y : AVal} {u v : Value} (hx : VRel m F w x u) (hy : VRel m F w y v) {r : Bool} (hr : keyEq st x y = some r) : Instr.sameNow d u v = some r := by
  unfold keyEq at hr
  split at hr
  · obtain ⟨k, rfl⟩ := hd
    simp only [VRel] at hx hy; subst hx; subst hy
    split at hr <;> cases hr
    rename_i hk
    simp [Instr.sameNow, hk]
  · cases hd
    simp only [VRel] at hx hy; obtain ⟨rfl, _⟩ := hx; obtain ⟨rfl, _⟩ := hy
    simpa [Instr.sameNow] using hr
  · cases hr
theorem keyEq_bits {st : Bool} {x y : AVal} {u v : Value} (hx : VRel m F w x u) (hy : VRel m F w y v) (hr : keyEq st x y = some true) : u = v := by
  unfold keyEq at hr
  split at hr
  · simp only [VRel] at hx hy; subst hx; subst hy
    split at hr
    · rename_i hk
      simp only [Option.some.injEq, beq_iff_eq] at hr
      rw [hk, hr]
    · cases hr
  · simp only [VRel] at hx hy; obtain ⟨rfl, _⟩ := hx; obtain ⟨rfl, _⟩ := hy
    simp only [Option.some.injEq] at hr
    rw [beq_toListBytes, beq_iff_eq, ByteArray.toList_eq, ByteArray.toList_eq] at hr
    rename_i a b _ _
    obtain ⟨⟨a⟩⟩ := a
    obtain ⟨⟨b⟩⟩ := b
    simp only at hr
    rw [hr]
  · cases hr

theorem findK_sound {st : Bool} {d : TypeDesc} (hd : keyDesc st d) {k : AVal} {u : Value} (hk : VRel m F w k u) : ∀ {es : List (AVal × AVal)} {E : List MapEntry} (i : Nat), ERel m F w es E → ∀ {r}, findK st k es = some r →
    (r = none ∧ Instr.findNow d u E i = some none) ∨ ∃ x j v, r = some x ∧ Instr.findNow d u E i = some (some (j, v)) ∧ VRel m F w x v
  | [], E, i, h, r, hr => by
    simp only [ERel] at h; simp only [findK] at hr
    cases hr; subst h
    exact .inl ⟨rfl, rfl⟩
  | (k', v') :: es, E, i, h, r, hr => by
    simp only [ERel] at h
    obtain ⟨e, E', h1, h2, h3, rfl⟩ := h
    simp only [findK] at hr
    split at hr
    · rename_i he
      cases hr
      refine .inr ⟨v', i, e.val, rfl, ?_, h2⟩
      simp only [Instr.findNow, keyEq_sound hd hk h1 he]
    · rename_i he
      have := findK_sound hd hk (i + 1) h3 hr
      simpa only [Instr.findNow, keyEq_sound hd hk h1 he] using this
    · cases hr
theorem run_checkKey {st : Bool} {d : TypeDesc} (hd : keyDesc st d) {kt : TypeId} (ht : P.underlying kt = some d) {b : Bool} {v : Value} : (Instr.checkKey b 10000 kt v).run P w = .ok () w := by
  cases st
  · obtain ⟨k, rfl⟩ := hd
    unfold Instr.checkKey
    simp [run_und ht]
  · cases hd
    unfold Instr.checkKey
    simp [run_und ht]
theorem run_getMap {b : Nat} {E : Array MapEntry} {clock : Nat} (hb : w.heap[b]? = some (.map E clock)) : (getObj b).run P w = .ok (.map E clock) w := by
  simp [getObj, Sem.run, hb]
theorem run_findKey {st : Bool} {d : TypeDesc} (hd : keyDesc st d) {kt : TypeId} (ht : P.underlying kt = some d) {u : Value} {E : List MapEntry} {r} (hr : Instr.findNow d u E 0 = some r) : (Instr.findKey kt u E).run P w = .ok r w := by
  unfold Instr.findKey
  simp only [Sem.run_bind, run_und ht, Result.andThen_ok, hr, Sem.run_pure]

theorem zeroA_sound {t : TypeId} {z : AVal} (h : zeroA P t = some z) : ∃ v, (zeroValue t).run P w = .ok v w ∧ VRel m F w z v := by
  unfold zeroA at h
  cases hi : P.info? t with
  | none => simp [hi] at h
  | some i =>
    simp only [hi, Option.bind_some] at h
    cases hz : i.zero with
    | none => simp [hz] at h
    | some v =>
      simp only [hz, Option.bind_some] at h
      exact ⟨v, run_zv hi hz, toA_sound h⟩
theorem zeroCs_sound {t : TypeId} {z : List AVal} (h : zeroCs P t = some z) : ∃ v, (zeroValue t).run P w = .ok v w ∧ VRels m F w z v.cells.toList := by
  unfold zeroCs at h
  cases hi : P.info? t with
  | none => simp [hi] at h
  | some i =>
    simp only [hi, Option.bind_some] at h
    cases hz : i.zero with
    | none => simp [hz] at h
    | some v =>
      simp only [hz, Option.bind_some] at h
      exact ⟨v, run_zv hi hz, toAs_sound h⟩

theorem lookup_sound (R : Rel h m F w) {t kt e : TypeId} {st ok : Bool} {d : TypeDesc} (ht : P.underlying t = some (.map kt e)) (hkt : P.underlying kt = some d) (hd : keyDesc st d) {z : AVal} (hz : zeroA P e = some z)
    {x k r : AVal} {u v : Value} (hx : VRel m F w x u) (hk : VRel m F w k v)
    (hr : lookupV h st ok z x k = some r) : ∃ q, (Instr.lookup t u v ok).run P w = .ok q w ∧ VRel m F w r q := by
  obtain ⟨zv, hzr, hzv⟩ := zeroA_sound (w := w) (m := m) (F := F) hz
  have fin : ∀ (y : AVal) (yv : Value) (b : Bool), VRel m F w y yv → VRel m F w (if ok then AVal.tup [y, .bool b] else y) (if ok then Value.tuple #[yv, .bool b] else yv) := by
    intro y yv b hy
    cases ok
    · exact hy
    · simp only [if_true, VRel, VRels]
      exact ⟨_, ⟨yv, _, hy, ⟨.bool b, [], rfl, rfl, rfl⟩, rfl⟩, rfl⟩
  unfold lookupV at hr
  cases x <;> simp only [reduceCtorEq] at hr
  case nilm =>
    cases hr
    simp only [VRel] at hx; subst hx
    refine ⟨_, ?_, fin z zv false hzv⟩
    unfold Instr.lookup
    simp only [Sem.run_bind, run_und ht, Result.andThen_ok, Sem.run_pure, run_checkKey hd hkt]
    rw [run_findKey hd hkt (r := none) (by simp [Instr.findNow])]
    simp only [Result.andThen_ok, hzr, Sem.run_bind, Sem.run_pure]
  case map id =>
    simp only [VRel] at hx
    obtain ⟨b, hm, rfl⟩ := hx
    split at hr
    · rename_i es hid
      obtain ⟨b', o', hm', hF, hO⟩ := R.live id _ hid
      rw [hm] at hm'; cases hm'
      cases hO with
      | map hb hl hc =>
        rename_i E clock
        have hE : ERel m F w es E.toList := ERel.of (by simpa using hl) (fun i x e hx he => hc i x e hx (by simpa using he))
        simp only [Option.map_eq_some_iff] at hr
        obtain ⟨r0, hf, rfl⟩ := hr
        rcases findK_sound hd hk 0 hE hf with ⟨rfl, hn⟩ | ⟨y, j, yv, rfl, hn, hy⟩
        · refine ⟨_, ?_, fin z zv false hzv⟩
          unfold Instr.lookup
          simp only [Sem.run_bind, run_und ht, Result.andThen_ok, Sem.run_pure, run_getMap hb, run_checkKey hd hkt, run_findKey hd hkt hn, hzr]
        · refine ⟨_, ?_, fin y yv true hy⟩
          unfold Instr.lookup
          simp only [Sem.run_bind, run_und ht, Result.andThen_ok, Sem.run_pure, run_getMap hb, run_checkKey hd hkt, run_findKey hd hkt hn]
    · cases hr

/-! ### structs put together -/
theorem foldl_set (off : Nat) : ∀ (vs : List Value) (k : Nat) (cs : List Value), off + k + vs.length ≤ cs.length →
    ((vs.zipIdx k).foldl (fun (acc : Array Value) (p : Value × Nat) => acc.setIfInBounds (off + p.2) p.1) cs.toArray).toList = cs.take (off + k) ++ vs ++ cs.drop (off + k + vs.length)
  | [], k, cs, hl => by simp
  | v :: vs, k, cs, hl => by
    simp only [List.length_cons] at hl
    simp only [List.zipIdx_cons, List.foldl_cons]
    have e : (cs.toArray.setIfInBounds (off + k) v) = (cs.set (off + k) v).toArray := by simp
    rw [e, foldl_set off vs (k + 1) (cs.set (off + k) v) (by simp; omega)]
    have e1 : (cs.set (off + k) v).take (off + (k + 1)) = cs.take (off + k) ++ [v] := by
      apply List.ext_getElem?
      intro i
      simp only [List.getElem?_take, List.getElem?_set, List.getElem?_append, List.length_take, List.getElem?_singleton]
      have hm : min (off + k) cs.length = off + k := by omega
      rw [hm]
      rcases Nat.lt_trichotomy i (off + k) with hi | hi | hi
      · rw [if_pos (by omega), if_neg (by omega), if_pos hi, if_pos hi]
      · rw [if_pos (by omega), if_pos (by omega), if_pos (by omega), if_neg (by omega), if_pos (by omega)]
      · rw [if_neg (by omega), if_neg (by omega), if_neg (by omega)]
    have e2 : (cs.set (off + k) v).drop (off + (k + 1) + vs.length) = cs.drop (off + k + (vs.length + 1)) := by
      rw [List.drop_set_of_lt (by omega)]
      congr 1
      omega
    rw [e1, e2]
    simp

theorem fill_sound {place : Nat → Option (Nat × Nat)} {n : Nat} {ρ : Nat → AVal} {a : Act} (A : ARel n m F w ρ a) : ∀ (ps : List (Nat × Operand)) (qs : List (Nat × Nat × Opd)) (z : List AVal) (zs : List Value) (r : List AVal),
    rParts place ps = some qs → VRels m F w z zs → fillV z (qs.map fun p => (p.1, p.2.1, ev ρ p.2.2)) = some r →
    ∃ rs, Instr.fill place zs.toArray (ps.map fun p => (p.1, a.eval p.2)) = some rs ∧ VRels m F w r rs.toList ∧ rs.size = zs.length
  | [], qs, z, zs, r, hp, hz, hr => by
    simp only [rParts] at hp; cases hp
    simp only [List.map_nil, fillV] at hr; cases hr
    exact ⟨zs.toArray, rfl, hz, by simp⟩
  | (i, x) :: ps, qs, z, zs, r, hp, hz, hr => by
    simp only [rParts] at hp
    split at hp
    · rename_i off sz y l h1 h2 h3
      cases hp
      simp only [List.map_cons, fillV] at hr
      split at hr
      · rename_i hc
        have hv := (rOpd_sound A h2).cells hc.2.2
        have hl := hv.length
        have hzl := hz.length
        obtain ⟨rs, g1, g2, g3⟩ := fill_sound A ps l _ (zs.take off ++ (a.eval x).cells.toList ++ zs.drop (off + sz)) r h3 (((hz.take off).append hv).append (hz.drop (off + sz))) hr
        refine ⟨rs, ?_, g2, by rw [g3]; simp at hl ⊢; omega⟩
        simp only [List.map_cons, Instr.fill, h1]
        have hsz : (a.eval x).cells.size = sz := by rw [← Array.length_toList]; omega
        rw [if_neg (by simp [hsz]; omega)]
        have hfold := foldl_set off (a.eval x).cells.toList 0 zs (by rw [hl]; omega)
        have e2 : ((a.eval x).cells.zipIdx.foldl (fun cs (p : Value × Nat) => cs.setIfInBounds (off + p.2) p.1) zs.toArray) = (zs.take off ++ (a.eval x).cells.toList ++ zs.drop (off + sz)).toArray := by
          apply Array.ext'
          rw [← Array.foldl_toList, Array.toList_zipIdx]
          simp only [Nat.add_zero] at hfold
          rw [hfold]
          simp [hl, hc.1]
        rw [← g1]
        congr 1
      · cases hr
    · cases hp
end
end Go.Proofs.YtcjlgmknclifmaaDoor.Ab
