/- The program's heaps of words: a new block. -/
import Derived.Test.YtbdnopflbnbhnaaHpA
set_option linter.unusedVariables false
set_option linter.unusedSimpArgs false
namespace Go.Proofs.Ytbdnopflbnbhnaa.Ab
open Go

theorem ones_wV (fs : List Int) : ones (fs.map wV) = true := by simp [ones, List.all_map]
/-- A slice of words, and what it holds. -/
def WSl (h : AHeap) (V : AVal) (fs : List Int) : Prop := ∃ id c, V = .sl 1 id 0 fs.length c ∧ h.f id = some (.cells 32 (fs.map wV))
theorem fn53_ok {h : AHeap} {V : AVal} {fs : List Int} (hV : WSl h V fs) (hn : fs.length ≤ 1000000) :
    ACalls Try.prog 53 [V] h fun v h' => Sub h h' ∧ ∃ id c, h.next ≤ id ∧ id < h'.next ∧ v = .sl 1 id 0 fs.length c ∧ h'.f id = some (.cells 32 (fs.map wV)) := by
  obtain ⟨id, c, rfl, hb⟩ := hV
  refine ACalls.facts (isBody_of fn53) fun h1 h2 => acalls_of fn53 (by simp) ?_
  have hid := (h1 id _ hb).1
  have hne : id ≠ h.next := by omega
  have e1 : fs.length * 8 ≤ 140737488355328 := by omega
  have e2 : fs.length ≤ 140737488355328 := by omega
  have ho : ones (fs.map (AVal.int IntKind.i64)) = true := ones_wV fs
  have htk : (fs.map wV).take fs.length = fs.map wV := List.take_of_length_le (by simp)
  by_cases h0 : fs.length = 0
  · have : fs = [] := List.eq_nil_of_length_eq_zero h0
    subst this
    simp [code53, eq1, hb, hne, big]
    exact ⟨Sub.alloc h1 (Sub.refl _), h.next, by simp⟩
  · have h9 : fs ≠ [] := fun e => h0 (by simp [e])
    simp [code53, eq1, hb, hne, ho, big, h0, h9, e1, e2, htk, ones_wV]
    exact ⟨Sub.alloc h1 (Sub.alloc h1 (Sub.refl _)), h.next + 1, by simp⟩

structure RepOk (size used : Int) (es : List Ent) : Prop where
  h0 : 0 ≤ used
  h1 : used ≤ size
  h2 : size ≤ 20000
  ws : ∀ e ∈ es, 0 ≤ e.w ∧ e.w < 2 * used
/-- What stands elsewhere stays. -/
def FrameBut (p mid : Nat) (h h' : AHeap) : Prop := h.next ≤ h'.next ∧ ∀ id o, id ≠ p → id ≠ mid → h.f id = some o → h'.f id = some o
theorem putK_new (es : List Ent) (w : Int) (v : AVal) (hw : ∀ e ∈ es, e.w ≠ w) : putK false (.int .i64 w) v (es.map fun e => (.int .i64 e.w, .ptr e.b 0)) = some ((es.map fun e => (AVal.int .i64 e.w, AVal.ptr e.b 0)) ++ [(.int .i64 w, v)]) := by
  induction es with
  | nil => rfl
  | cons e es ih =>
    have h1 : (w == e.w) = false := by simpa using fun k => hw e (by simp) k.symm
    simp only [List.map_cons, putK, keyEq, if_true, h1, ih (fun x hx => hw x (by simp [hx])), Option.map_some, List.cons_append]
theorem Ent.at_of {h h' : AHeap} {p mid : Nat} {size used : Int} {es : List Ent} (R : Rep h p mid size used es) (hf : FrameBut p mid h h') {e : Ent} (he : e ∈ es) : e.at h' := by
  have k := R.ents e he
  have hb : e.b ≠ p ∧ e.b ≠ mid := ⟨fun x => by have := k.1; rw [x, R.top] at this; simp at this, fun x => by have := k.1; rw [x, R.mp] at this; simp at this⟩
  refine ⟨hf.2 e.b _ hb.1 hb.2 k.1, ?_⟩
  have k2 := k.2
  cases hs : e.s with
  | none => rw [hs] at k2; exact k2
  | some x =>
    rw [hs] at k2
    simp only at k2 ⊢
    exact hf.2 x.1 _ (fun y => by rw [y, R.top] at k2; simp at k2) (fun y => by rw [y, R.mp] at k2; simp at k2) k2

theorem fn34_no {h : AHeap} {p mid : Nat} {size used : Int} {es : List Ent} (R : Rep h p mid size used es) (O : RepOk size used es) {tag : Int} {V : AVal} {fs : List Int} (hV : WSl h V fs) (hn : fs.length ≤ 1000000) (hno : tag < 1 ∨ 8 < tag ∨ size - used < 1 + fs.length) :
    Returns Try.prog 34 [.ptr p 0, .int .i64 tag, V] h (.tup [.int .i64 0, .bool false]) h := by
  obtain ⟨id, c, rfl, hb⟩ := hV
  refine Returns.exact fn34 (by simp) fun h1 h2 => ?_
  have := O.h0; have := O.h1; have := O.h2
  simp [code34, eq1, R.top]
  by_cases c1 : tag < 1
  · simp [c1]
  by_cases c2 : 8 < tag
  · simp [c1, c2]
  have w1 : IntKind.i64.wrap (size - used) = size - used := wrap_i64 (by omega) (by omega)
  have w2 : IntKind.i64.wrap (1 + ↑fs.length) = 1 + ↑fs.length := wrap_i64 (by omega) (by omega)
  have c3 : size - used < 1 + fs.length := by omega
  simp [c1, c2, w1, w2, c3, R.top]
theorem fn34_ok {h : AHeap} {p mid : Nat} {size used : Int} {es : List Ent} (R : Rep h p mid size used es) (O : RepOk size used es) {tag : Int} {V : AVal} {fs : List Int} (hV : WSl h V fs) (hn : fs.length ≤ 1000000) (ht : 1 ≤ tag) (ht2 : tag ≤ 8) (hfit : 1 + fs.length ≤ size - used) :
    ACalls Try.prog 34 [.ptr p 0, .int .i64 tag, V] h fun v h' => v = .tup [.int .i64 (2 * used), .bool true] ∧ FrameBut p mid h h' ∧ ∃ b s, Rep h' p mid size (used + 1 + fs.length) (es ++ [⟨2 * used, tag, fs, b, s⟩]) := by
  have hV' := hV
  obtain ⟨id, c, rfl, hb⟩ := hV
  refine ACalls.facts (isBody_of fn34) fun h1 h2 => acalls_of fn34 (by simp) ?_
  have := O.h0; have := O.h1; have := O.h2
  have w1 : IntKind.i64.wrap (size - used) = size - used := wrap_i64 (by omega) (by omega)
  have w2 : IntKind.i64.wrap (1 + ↑fs.length) = 1 + ↑fs.length := wrap_i64 (by omega) (by omega)
  have w3 : IntKind.i64.wrap (2 * used) = 2 * used := wrap_i64 (by omega) (by omega)
  have c1 : ¬ tag < 1 := by omega
  have c2 : ¬ 8 < tag := by omega
  have c3 : ¬ size - used < 1 + fs.length := by omega
  simp [code34, eq1, R.top, c1, c2, w1, w2, w3, c3]
  refine (fn53_ok hV' hn).mono fun v h' hn2 ⟨hs, id2, c', hid2, h2id, hv, hb2⟩ => ?_
  subst hv
  have hp := hs.2 _ _ R.top
  have hm := hs.2 _ _ R.mp
  have hpn := (h1 _ _ R.top).1
  have hmn := (h1 _ _ R.mp).1
  have hpm : p ≠ mid := fun e => by have := R.top; rw [e, R.mp] at this; simp at this
  have hk := putK_new es (2 * used) (.ptr h'.next 0) (fun e he => by have := (O.ws e he).2; omega)
  have w4 : IntKind.i64.wrap (used + (1 + ↑fs.length)) = used + (1 + ↑fs.length) := wrap_i64 (by omega) (by omega)
  have n1 : mid ≠ h'.next := by omega
  have n2 : p ≠ h'.next := by omega
  simp [hp, hm, hk, w2, w4, n1, n2, hpm, R.top, R.mp]
  have hf : FrameBut p mid h (((h'.put mid (.map ((es.map fun e => (AVal.int .i64 e.w, AVal.ptr e.b 0)) ++ [(.int .i64 (2 * used), .ptr h'.next 0)]))).put p (.cells 68 [.int .i64 size, .int .i64 (used + (1 + ↑fs.length)), .map mid])).alloc (.cells 76 [.int .i64 tag, .sl 1 id2 0 fs.length c'])) := by
    refine ⟨by simp; omega, fun id o k1 k2 k3 => ?_⟩
    have := (h1 id o k3).1
    have n3 : id ≠ h'.next := by omega
    simp [n3, k1, k2]
    exact hs.2 _ _ k3
  refine ⟨hf, h'.next, some (id2, c'), ⟨?_, ?_, fun e he => ?_⟩⟩
  · have : used + 1 + ↑fs.length = used + (1 + ↑fs.length) := by omega
    simp [n1, n2, hpm, this]
  · simp [n1, n2, Ne.symm hpm]
  · rcases List.mem_append.1 he with he | he
    · exact Ent.at_of R hf he
    · simp at he
      subst he
      have n4 : id2 ≠ h'.next := by omega
      have n5 : id2 ≠ p := by omega
      have n6 : id2 ≠ mid := by omega
      refine ⟨by simp [Ent.V], ?_⟩
      simp [n4, n5, n6, hb2]
end Go.Proofs.Ytbdnopflbnbhnaa.Ab
