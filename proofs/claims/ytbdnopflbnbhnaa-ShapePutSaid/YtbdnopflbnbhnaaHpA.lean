/- The program's heaps of words, as they lie in memory: reading. -/
import Derived.Test.YtbdnopflbnbhnaaAb19
import Derived.Test.YtbdnopflbnbhnaaShC
import Derived.Test.YtbdnopflbnbhnaaCodeB
set_option linter.unusedVariables false
set_option linter.unusedSimpArgs false
namespace Go.Proofs.Ytbdnopflbnbhnaa.Ab
open Go

@[simp] def wV (n : Int) : AVal := .int .i64 n
/-- A block of the heap: its word, tag, fields; where it lies, and the slice of its fields. -/
structure Ent where
  w : Int
  tag : Int
  fs : List Int
  b : Nat
  s : Option (Nat × Option Nat)
def Ent.V (e : Ent) : AVal := match e.s with | none => .nils | some (id, c) => .sl 1 id 0 e.fs.length c
def Ent.at (h : AHeap) (e : Ent) : Prop := h.f e.b = some (.cells 76 [.int .i64 e.tag, e.V]) ∧ match e.s with | none => e.fs = [] | some (id, _) => h.f id = some (.cells 32 (e.fs.map wV))
structure Rep (h : AHeap) (p mid : Nat) (size used : Int) (es : List Ent) : Prop where
  top : h.f p = some (.cells 68 [.int .i64 size, .int .i64 used, .map mid])
  mp : h.f mid = some (.map (es.map fun e => (.int .i64 e.w, .ptr e.b 0)))
  ents : ∀ e ∈ es, e.at h
def getE (es : List Ent) (w : Int) : Option Ent := es.find? fun e => e.w == w
theorem findK_ents (es : List Ent) (w : Int) : findK false (.int .i64 w) (es.map fun e => (.int .i64 e.w, .ptr e.b 0)) = some ((getE es w).map fun e => .ptr e.b 0) := by
  induction es with
  | nil => rfl
  | cons e es ih =>
    simp only [List.map_cons, findK, keyEq, if_true, getE, List.find?_cons]
    by_cases h : w = e.w
    · subst h; simp
    · have h1 : (w == e.w) = false := by simpa using h
      have h2 : (e.w == w) = false := by simpa using fun k => h k.symm
      simp only [h1, h2]
      exact ih
theorem getE_mem {es : List Ent} {w : Int} {e : Ent} (h : getE es w = some e) : e ∈ es ∧ e.w = w := by
  unfold getE at h
  exact ⟨List.mem_of_find?_eq_some h, by simpa using List.find?_some h⟩

theorem fn37_ok {h : AHeap} {p mid : Nat} {size used : Int} {es : List Ent} (R : Rep h p mid size used es) (w : Int) :
    Returns Try.prog 37 [.ptr p 0, .int .i64 w] h (match getE es w with | some e => .ptr e.b 0 | none => .nilp) h := by
  refine Returns.exact fn37 (by simp) fun h1 h2 => ?_
  simp [code37, eq1, R.top, R.mp, findK_ents]
  cases getE es w <;> simp
theorem fn15_ok {h : AHeap} {p mid : Nat} {size used : Int} {es : List Ent} (R : Rep h p mid size used es) (w : Int) :
    Returns Try.prog 15 [.ptr p 0, .int .i64 w] h (.int .i64 (match getE es w with | some e => e.tag | none => 0)) h := by
  refine Returns.exact fn15 (by simp) fun h1 h2 => ?_
  simp [code15]
  refine (fn37_ok R w).to ?_
  cases hg : getE es w with
  | none => simp [eq1]
  | some e =>
    have := R.ents e (getE_mem hg).1
    simp [eq1, this.1]
theorem fn25_ok {h : AHeap} {p mid : Nat} {size used : Int} {es : List Ent} (R : Rep h p mid size used es) (w : Int) :
    Returns Try.prog 25 [.ptr p 0, .int .i64 w] h (.int .i64 (match getE es w with | some e => (e.fs.length : Int) | none => 0)) h := by
  refine Returns.exact fn25 (by simp) fun h1 h2 => ?_
  simp [code25]
  refine (fn37_ok R w).to ?_
  cases hg : getE es w with
  | none => simp [eq1]
  | some e =>
    have := R.ents e (getE_mem hg).1
    have hl : lenV h .slice e.V = some (.int .i64 e.fs.length) := by
      have h2 := this.2
      unfold Ent.V
      cases hs : e.s with
      | none => rw [hs] at h2; simp [h2]
      | some x => simp
    simp [eq1, this.1, hl]
theorem fn14_ok {h : AHeap} {p mid : Nat} {size used : Int} {es : List Ent} (R : Rep h p mid size used es) :
    Returns Try.prog 14 [.ptr p 0] h (.int .i64 used) h := by
  refine Returns.exact fn14 (by simp) fun h1 h2 => ?_
  simp [code14, eq1, R.top]
theorem fn39_ok {h : AHeap} {p mid : Nat} {size used : Int} {es : List Ent} (R : Rep h p mid size used es) :
    Returns Try.prog 39 [.ptr p 0] h (.int .i64 size) h := by
  refine Returns.exact fn39 (by simp) fun h1 h2 => ?_
  simp [code39, eq1, R.top]
theorem fn27_ok {h : AHeap} {p mid : Nat} {size used : Int} {es : List Ent} (R : Rep h p mid size used es) (w i : Int) :
    Returns Try.prog 27 [.ptr p 0, .int .i64 w, .int .i64 i] h (match (getE es w).bind fun e => if 0 ≤ i then e.fs[i.toNat]? else none with | some n => .tup [.int .i64 n, .bool true] | none => .tup [.int .i64 0, .bool false]) h := by
  refine Returns.exact fn27 (by simp) fun h1 h2 => ?_
  simp [code27]
  by_cases c1 : i < 0
  · have : ¬ 0 ≤ i := by omega
    cases getE es w <;> simp [c1, this]
  simp [c1]
  refine (fn25_ok R w).to ?_
  have c2 : 0 ≤ i := by omega
  obtain ⟨k, rfl⟩ : ∃ k : Nat, i = k := ⟨i.toNat, by omega⟩
  cases hg : getE es w with
  | none => simp
  | some e =>
    by_cases c3 : e.fs.length ≤ k
    · have : e.fs[k]? = none := List.getElem?_eq_none c3
      simp [c3, this]
    have hk : k < e.fs.length := by omega
    simp [c3, hk]
    refine (fn37_ok R w).to ?_
    have he := R.ents e (getE_mem hg).1
    have h2 := he.2
    cases hs : e.s with
    | none => rw [hs] at h2; simp only at h2; rw [h2] at hk; simp at hk
    | some x =>
      rw [hs] at h2
      have hv : e.V = .sl 1 x.1 0 e.fs.length x.2 := by simp [Ent.V, hs]
      simp [hg, he.1, hv, hk, h2]
end Go.Proofs.Ytbdnopflbnbhnaa.Ab
