/- Rows of numbers: in memory of the call's own, or by value. -/
import Derived.Test.YtcjlgmknclifmaaDoorAb24
import Derived.Test.YtcjlgmknclifmaaDoorAb22
set_option linter.unusedVariables false
set_option linter.unusedSimpArgs false
namespace Go.Proofs.YtcjlgmknclifmaaDoor.Ab
open Go

/-- Numbers as values. -/
def iVs (l : List Int) : List AVal := l.map (AVal.int .i64)
@[simp] theorem iVs_nil : iVs [] = [] := rfl
@[simp] theorem iVs_cons (x : Int) (l : List Int) : iVs (x :: l) = .int .i64 x :: iVs l := rfl
@[simp] theorem iVs_append (l l' : List Int) : iVs (l ++ l') = iVs l ++ iVs l' := by simp [iVs]
@[simp] theorem iVs_length (l : List Int) : (iVs l).length = l.length := by simp [iVs]
@[simp] theorem iVs_eq_nil (l : List Int) : iVs l = [] ↔ l = [] := by simp [iVs]
@[simp] theorem iVs_take_len (l : List Int) : (iVs l).take l.length = iVs l := List.take_of_length_le (by simp)
theorem iVs_get {l : List Int} {i : Nat} (hi : i < l.length) : (iVs l)[i]? = some (.int .i64 l[i]) := by simp [iVs, hi]
@[simp] theorem ones_iV (l : List Int) : ones (iVs l) = true := by simp [iVs, ones, List.all_map]
@[simp] theorem oks_iV (n : Nat) (l : List Int) : AVal.oks n (iVs l) := by rw [oks_iff]; simp [iVs, AVal.ok]
@[simp] theorem cells_iV (l : List Int) : (iVs l).flatMap AVal.cells = iVs l := by
  induction l with
  | nil => rfl
  | cons a l ih => simp only [iVs_cons, List.flatMap_cons, ih]; rfl
inductive IsI (h : AHeap) : AVal → List Int → Prop
  | nils : IsI h .nils []
  | vec (b : Bool) (l : List Int) : IsI h (.vec 1 b (iVs l)) l
  | sl {id off : Nat} {c : Option Nat} {ty : TypeId} {cs : List AVal} {l : List Int} : h.f id = some (.cells ty cs) → off + l.length ≤ cs.length → (cs.drop off).take l.length = iVs l → IsI h (.sl 1 id off l.length c) l
section
variable {h : AHeap} {v : AVal} {l : List Int}
theorem IsI.lenV (hB : IsI h v l) (h' : AHeap) : lenV h' .slice v = some (.int .i64 l.length) := by cases hB <;> simp
theorem IsI.sub {h' : AHeap} (hB : IsI h v l) (hs : Sub h h') : IsI h' v l := by
  cases hB with
  | nils => exact .nils
  | vec b l => exact .vec b l
  | sl h1 h2 h3 => exact .sl (hs.2 _ _ h1) h2 h3
theorem IsI.at (hB : IsI h v l) {i : Nat} (hi : i < l.length) : ∃ p, iaddrV 1 v (.int .i64 i) = some p ∧ loadV h none p = some (.int .i64 l[i]) := by
  cases hB with
  | nils => simp at hi
  | vec b l => exact ⟨.ref (.int .i64 l[i]), by simp [iVs_get hi], by simp⟩
  | @sl id off c ty cs l h1 h2 h3 =>
    refine ⟨.ptr id (off + i * 1), by simp [hi], ?_⟩
    have : ((cs.drop off).take l.length)[i]? = some (.int .i64 l[i]) := by rw [h3]; simp [iVs_get hi]
    simp only [loadV_ptr, h1, loadO_one, Nat.mul_one]
    exact (drop_take_at this).2
theorem IsI.whole {id n : Nat} {c : Option Nat} (ty : TypeId) {l : List Int} (ho : h.f id = some (.cells ty (iVs l))) (hn : l.length = n) : IsI h (.sl 1 id 0 n c) l := by
  subst hn; exact .sl ho (by simp) (by simp)
theorem IsI.len_le (hB : IsI h v l) {n : Nat} (hv : v.ok n) : l.length ≤ huge := by
  cases hB with
  | nils => simp
  | vec b l => simpa [AVal.ok] using hv
  | sl h1 h2 h3 => simp [AVal.ok] at hv; exact big_huge hv.2
end
/-- A row in a block of the call's own, behind a heap that stays. -/
def OwnI (ty : TypeId) (hb h : AHeap) (v : AVal) (l : List Int) : Prop :=
  (v = .nils ∧ l = []) ∨ ∃ id, v = .sl 1 id 0 l.length none ∧ hb.next ≤ id ∧ hb.f id = none ∧ h.f id = some (.cells ty (iVs l))
theorem OwnI.isI {ty : TypeId} {hb h : AHeap} {v : AVal} {l : List Int} (o : OwnI ty hb h v l) : IsI h v l := by
  rcases o with ⟨rfl, rfl⟩ | ⟨id, rfl, _, _, ho⟩
  · exact .nils
  · exact .whole ty ho rfl
theorem OwnI.le {ty : TypeId} {hb h : AHeap} {v : AVal} {l : List Int} (o : OwnI ty hb h v l) : Le (newZ hb.next) h v (.vec 1 false (iVs l)) := by
  rcases o with ⟨rfl, rfl⟩ | ⟨id, rfl, h1, h2, ho⟩
  · exact .nils _ _
  · exact .frzw ty (by simpa using h1) ho (by simp)
/-- What is not in the heap that stays may go. -/
theorem Sub.alloc' {h h' : AHeap} {o : AObj} (hk : HOk h') (hs : Sub h h') : Sub h (h'.alloc o) :=
  ⟨by have := hs.1; simp; omega, fun id x hx => by
    have h1 := (hk id x (hs.2 id x hx)).1
    simp only [alloc_at]; rw [if_neg (by omega)]; exact hs.2 id x hx⟩
theorem Sub.drop' {h h' : AHeap} {i : Nat} (hs : Sub h h') (hi : h.f i = none) : Sub h (h'.drop i) :=
  ⟨hs.1, fun id x hx => by
    have : id ≠ i := fun e => by rw [e, hi] at hx; cases hx
    simp only [drop_at]; rw [if_neg this]; exact hs.2 id x hx⟩
theorem Sub.allocN {h h' : AHeap} {o : AObj} (n0 : Nat) (hlt : ∀ id o, h.f id = some o → id < n0) (hn : n0 ≤ h'.next) (hs : Sub h h') : Sub h (h'.alloc o) :=
  ⟨by have := hs.1; simp; omega, fun id x hx => by
    have h1 := hlt id x hx
    simp only [alloc_at]; rw [if_neg (by omega)]; exact hs.2 id x hx⟩
theorem Sub.below_all {h h' : AHeap} (hk : HOk h') (hs : Sub h h') : ∀ id o, h.f id = some o → id < h'.next := fun id o ho => (hk id o (hs.2 id o ho)).1
theorem Sub.none_at {h h' : AHeap} (hk : HOk h') (hs : Sub h h') {id : Nat} (hid : h'.next ≤ id) : h.f id = none := by
  cases hx : h.f id with
  | none => rfl
  | some o => have := (hk id o (hs.2 id o hx)).1; omega
theorem OwnI.alloc {ty : TypeId} {hb h : AHeap} {v : AVal} {l : List Int} {o : AObj} (hk : HOk h) (w : OwnI ty hb h v l) : OwnI ty hb (h.alloc o) v l := by
  rcases w with ⟨rfl, rfl⟩ | ⟨id, rfl, h1, h2, ho⟩
  · exact .inl ⟨rfl, rfl⟩
  · exact .inr ⟨id, rfl, h1, h2, by simp only [alloc_at]; rw [if_neg (by have := (hk id _ ho).1; omega)]; exact ho⟩
end Go.Proofs.YtcjlgmknclifmaaDoor.Ab
