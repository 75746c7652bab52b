/- Bytes: slices of them, in memory of the call's own or by value. -/
import Derived.Test.YtcjlgmknclifmaaDoorAb20
set_option linter.unusedVariables false
set_option linter.unusedSimpArgs false
namespace Go.Proofs.YtcjlgmknclifmaaDoor.Ab
open Go

@[simp] def bV (n : Nat) : AVal := .int .u8 n
/-- Bytes as values. -/
def bVs (l : List Nat) : List AVal := l.map bV
@[simp] theorem bVs_nil : bVs [] = [] := rfl
@[simp] theorem bVs_cons (x : Nat) (l : List Nat) : bVs (x :: l) = .int .u8 x :: bVs l := rfl
@[simp] theorem bVs_append (l l' : List Nat) : bVs (l ++ l') = bVs l ++ bVs l' := by simp [bVs]
@[simp] theorem bVs_length (l : List Nat) : (bVs l).length = l.length := by simp [bVs]
@[simp] theorem bVs_eq_nil (l : List Nat) : bVs l = [] ↔ l = [] := by simp [bVs]
@[simp] theorem bVs_take_len (l : List Nat) : (bVs l).take l.length = bVs l := List.take_of_length_le (by simp)
theorem bVs_take (l : List Nat) (n : Nat) : bVs (l.take n) = (bVs l).take n := by simp [bVs]
theorem bVs_drop (l : List Nat) (n : Nat) : bVs (l.drop n) = (bVs l).drop n := by simp [bVs]
theorem bVs_get {l : List Nat} {i : Nat} (hi : i < l.length) : (bVs l)[i]? = some (bV l[i]) := by simp [bVs, hi]
@[simp] theorem ones_bV (l : List Nat) : ones (bVs l) = true := by simp [bVs, ones, List.all_map]
@[simp] theorem oks_bV (n : Nat) (l : List Nat) : AVal.oks n (bVs l) := by rw [oks_iff]; simp [bVs, AVal.ok]
@[simp] theorem cells_bV (l : List Nat) : (bVs l).flatMap AVal.cells = bVs l := by
  induction l with
  | nil => rfl
  | cons a l ih => simp only [bVs_cons, List.flatMap_cons, ih]; rfl
@[simp] theorem rens_bVs (π : Nat → Nat) (l : List Nat) : AVal.rens π (bVs l) = bVs l := by
  induction l with
  | nil => simp only [bVs_nil, AVal.rens]
  | cons a l ih => simp only [bVs_cons, AVal.rens, AVal.ren, ih]
/-- Bytes as a string. -/
def bytesS (l : List Nat) : ByteArray := ⟨(l.map UInt8.ofNat).toArray⟩
theorem bytes_inj {l l' : List Nat} (h1 : ∀ b ∈ l, b < 256) (h2 : ∀ b ∈ l', b < 256) : (bytesS l = bytesS l') = (l = l') := by
  have go : ∀ l l' : List Nat, (∀ b ∈ l, b < 256) → (∀ b ∈ l', b < 256) → l.map UInt8.ofNat = l'.map UInt8.ofNat → l = l' := by
    intro l
    induction l with
    | nil => intro l' _ _ h; cases l' <;> simp at h ⊢
    | cons a l ih =>
      intro l' g1 g2 h
      cases l' with
      | nil => simp at h
      | cons b l' =>
        simp only [List.map_cons, List.cons.injEq] at h
        have e : a = b := by
          have ha := g1 a (by simp)
          have hb := g2 b (by simp)
          have := congrArg UInt8.toNat h.1
          simp at this; omega
        rw [e, ih l' (fun b hb => g1 b (by simp [hb])) (fun b hb => g2 b (by simp [hb])) h.2]
  rw [eq_iff_iff]
  refine ⟨fun h => go l l' h1 h2 ?_, fun h => by rw [h]⟩
  simpa [bytesS] using h
@[simp] theorem bytesS_size (l : List Nat) : (bytesS l).size = l.length := by simp [bytesS, ByteArray.size]
@[simp] theorem take_map_len {α β : Type} (f : α → β) (l : List α) : (l.map f).take l.length = l.map f := List.take_of_length_le (by simp)
@[simp] theorem iaddrV_vec_lit (e : Nat) (b : Bool) (xs : List AVal) (k : IntKind) (n : Nat) : iaddrV e (.vec e b xs) (.int k (no_index (OfNat.ofNat n) : Int)) = xs[(OfNat.ofNat n : Nat)]?.map .ref := iaddrV_vec e b xs k (OfNat.ofNat n)
@[simp] theorem iaddrV_sl_lit (e id off len : Nat) (c : Option Nat) (k : IntKind) (n : Nat) : iaddrV e (.sl e id off len c) (.int k (no_index (OfNat.ofNat n) : Int)) = if (OfNat.ofNat n : Nat) < len then some (.ptr id (off + (OfNat.ofNat n : Nat) * e)) else none := iaddrV_sl e id off len c k (OfNat.ofNat n)
@[simp] theorem indexV_str_lit (s : ByteArray) (k : IntKind) (n : Nat) : indexV (.str s) (.int k (no_index (OfNat.ofNat n) : Int)) = s[(OfNat.ofNat n : Nat)]?.map (fun b => .int .u8 b.toNat) := indexV_str s k (OfNat.ofNat n)

inductive IsB (h : AHeap) : AVal → List Nat → Prop
  | nils : IsB h .nils []
  | vec (b : Bool) (l : List Nat) : IsB h (.vec 1 b (bVs l)) l
  | sl {id off : Nat} {c : Option Nat} {ty : TypeId} {cs : List AVal} {l : List Nat} : h.f id = some (.cells ty cs) → off + l.length ≤ cs.length → (cs.drop off).take l.length = bVs l → IsB h (.sl 1 id off l.length c) l
section
variable {h : AHeap} {v : AVal} {l : List Nat}
theorem IsB.slLen (hB : IsB h v l) : slLen v = some l.length := by cases hB <;> simp
theorem IsB.lenV (hB : IsB h v l) (h' : AHeap) : lenV h' .slice v = some (.int .i64 l.length) := by cases hB <;> simp
theorem IsB.srcLen (hB : IsB h v l) : srcLen v = some l.length := by cases hB <;> simp
theorem IsB.slCells (hB : IsB h v l) : slCells h v = some (bVs l) := by
  cases hB with
  | nils => simp
  | vec b l => simp
  | sl h1 h2 h3 => simp [h1, h2, h3]
theorem IsB.src (hB : IsB h v l) : srcCells h v = some (bVs l) := by
  cases hB with
  | nils => simp
  | vec b l => simp
  | sl h1 h2 h3 => simp [h1, h2, h3]
theorem IsB.sub {h' : AHeap} (hB : IsB h v l) (hs : Sub h h') : IsB h' v l := by
  cases hB with
  | nils => exact .nils
  | vec b l => exact .vec b l
  | sl h1 h2 h3 => exact .sl (hs.2 _ _ h1) h2 h3
theorem IsB.at (hB : IsB h v l) {i : Nat} (hi : i < l.length) : ∃ p, iaddrV 1 v (.int .i64 i) = some p ∧ loadV h none p = some (bV l[i]) := by
  cases hB with
  | nils => simp at hi
  | vec b l => exact ⟨.ref (bV l[i]), by simp [bVs_get hi], by simp⟩
  | @sl id off c ty cs l h1 h2 h3 =>
    refine ⟨.ptr id (off + i * 1), by simp [hi], ?_⟩
    have : ((cs.drop off).take l.length)[i]? = some (bV l[i]) := by rw [h3]; simp [bVs_get hi]
    simp only [loadV_ptr, h1, loadO_one, Nat.mul_one]
    exact (drop_take_at this).2
theorem IsB.b2s (hB : IsB h v l) (hl : ∀ b ∈ l, b < 256) : b2sV h v = some (.str (bytesS l)) := by
  have go : ∀ l : List Nat, (∀ b ∈ l, b < 256) → bytesOf (bVs l) = some (l.map UInt8.ofNat) := by
    intro l
    induction l with
    | nil => intro _; rfl
    | cons a l ih => intro hl; simp [bytesOf, ih (fun b hb => hl b (by simp [hb]))]
  simp [b2sV, hB.slCells, hB.slLen, go l hl, bytesS]
/-- A whole block. -/
theorem IsB.whole {id n : Nat} {c : Option Nat} (ty : TypeId) {l : List Nat} (ho : h.f id = some (.cells ty (bVs l))) (hn : l.length = n) : IsB h (.sl 1 id 0 n c) l := by
  subst hn; exact .sl ho (by simp) (by simp)
/-- A part of it. -/
theorem IsB.slice (hB : IsB h v l) (lo hi : Option Int) (a b : Nat) (ha : lo.getD 0 = a) (hb : hi.getD l.length = b) (h1 : a ≤ b) (h2 : b ≤ l.length) (k1 : IntKind := .i64) (k2 : IntKind := .i64) :
    ∃ u, sliceV 1 v (lo.map (AVal.int k1)) (hi.map (AVal.int k2)) none = some u ∧ IsB h u ((l.take b).drop a) ∧ ∀ n, v.ok n → u.ok n := by
  have e1 : intOf' (lo.map (AVal.int k1)) = some lo := by cases lo <;> rfl
  have e2 : intOf' (hi.map (AVal.int k2)) = some hi := by cases hi <;> rfl
  cases hB with
  | nils =>
    have hb0 : b = 0 := by simpa using h2
    have ha0 : a = 0 := by omega
    have g1 : lo.getD 0 = 0 := by rw [ha, ha0]; rfl
    have g2 : hi.getD 0 = 0 := by simpa [hb0] using hb
    refine ⟨.nils, ?_, ?_, fun n hn => by simp [AVal.ok]⟩
    · unfold sliceV; rw [e1, e2]; simp [intOf', g1, g2]
    · rw [ha0, hb0]; exact .nils
  | vec full l =>
    have hnn : ((bVs l).take b).drop a = bVs ((l.take b).drop a) := by rw [bVs_drop, bVs_take]
    refine ⟨_, ?_, .vec (full && decide (b = l.length)) _, fun n hn => ?_⟩
    · unfold sliceV; rw [e1, e2]
      simp only [intOf', bVs_length, ha, hb, Option.getD_none, Int.toNat_natCast, hnn]
      rw [if_pos ⟨trivial, by omega, by omega, by omega, by omega⟩]
      cases full <;> simp
    · simp only [AVal.ok] at hn ⊢
      refine ⟨?_, oks_bV _ _⟩
      have := hn.1
      simp at this ⊢; omega
  | @sl id off c ty cs l q1 q2 q3 =>
    have e : ((l.take b).drop a).length = b - a := by simp; omega
    refine ⟨.sl 1 id (off + a) ((l.take b).drop a).length (c.map (· - a)), ?_,   .sl q1 (by rw [e]; omega) ?_, fun n hn => ?_⟩
    · unfold sliceV; rw [e1, e2]
      simp only [intOf', ha, hb, e, Int.toNat_natCast, Nat.mul_one]
      rw [if_pos ⟨by decide, by omega, by omega, by omega⟩]
    · rw [e]
      have : bVs ((l.take b).drop a) = ((bVs l).take b).drop a := by rw [bVs_drop, bVs_take]
      rw [this, ← q3, List.take_take, List.drop_take, List.drop_drop, Nat.min_eq_left h2]
    · simp only [AVal.ok] at hn ⊢
      rw [e]; exact ⟨hn.1, by omega⟩
/-- A part of bytes by value. -/
theorem vec_slice (full : Bool) (l : List Nat) (lo hi : Option Int) (a b : Nat) (ha : lo.getD 0 = a) (hb : hi.getD l.length = b) (h1 : a ≤ b) (h2 : b ≤ l.length) (k1 : IntKind := .i64) (k2 : IntKind := .i64) :
    sliceV 1 (.vec 1 full (bVs l)) (lo.map (AVal.int k1)) (hi.map (AVal.int k2)) none = some (.vec 1 (full && decide (b = l.length)) (bVs ((l.take b).drop a))) := by
  have e1 : intOf' (lo.map (AVal.int k1)) = some lo := by cases lo <;> rfl
  have e2 : intOf' (hi.map (AVal.int k2)) = some hi := by cases hi <;> rfl
  have hnn : ((bVs l).take b).drop a = bVs ((l.take b).drop a) := by rw [bVs_drop, bVs_take]
  unfold sliceV; rw [e1, e2]
  simp only [intOf', bVs_length, ha, hb, Option.getD_none, Int.toNat_natCast, hnn]
  rw [if_pos ⟨trivial, by omega, by omega, by omega, by omega⟩]
  cases full <;> simp
theorem IsB.len_le (hB : IsB h v l) {n : Nat} (hv : v.ok n) : l.length ≤ huge := by
  cases hB with
  | nils => simp
  | vec b l => simpa [AVal.ok] using hv
  | sl h1 h2 h3 => simp [AVal.ok] at hv; exact big_huge hv.2
end
/-- What lives below stays readable while memory grows. -/
theorem srcCells_alloc {n : Nat} {v : AVal} (hv : v.ok n) (h : AHeap) (o : AObj) (hn : n ≤ h.next) : srcCells (h.alloc o) v = srcCells h v := by
  cases v <;> try rfl
  simp only [AVal.ok] at hv
  simp only [srcCells_sl, alloc_at]
  rw [if_neg (by omega)]
theorem srcCells_drop {n : Nat} {v : AVal} (hv : v.ok n) (h : AHeap) (i : Nat) (hn : n ≤ i) : srcCells (h.drop i) v = srcCells h v := by
  cases v <;> try rfl
  simp only [AVal.ok] at hv
  simp only [srcCells_sl, drop_at]
  rw [if_neg (by omega)]
theorem srcCells_put {n : Nat} {v : AVal} (hv : v.ok n) (h : AHeap) (i : Nat) (o : AObj) (hn : n ≤ i) : srcCells (h.put i o) v = srcCells h v := by
  cases v <;> try rfl
  simp only [AVal.ok] at hv
  simp only [srcCells_sl, put_at]
  rw [if_neg (by omega)]
/-- Fresh bytes, told by value. -/
theorem Le_bytes {Z : Nat → Prop} {h : AHeap} {id off n : Nat} {c : Option Nat} {l : List Nat} (hz : Z id) (hs : slO (h.f id) 1 off n = some (bVs l)) : Le Z h (.sl 1 id off n c) (.vec 1 false (bVs l)) := .frz hz hs

@[simp] def optV (o : Option (List Nat)) : AVal := .tup [.vec 1 false (bVs (o.getD [])), .bool o.isSome]
theorem optV_ok (n : Nat) (o : Option (List Nat)) (hl : (o.getD []).length ≤ big) : (optV o).ok n := by
  simp [AVal.ok, AVal.oks, oks_bV, -bV]; exact big_huge hl

/-! ### a slice of the call's own that grows: nil as long as nothing is in it -/
def accV (k : Nat) (l : List Nat) : AVal := if l = [] then .nils else .sl 1 k 0 l.length none
def accH (h : AHeap) (l : List Nat) : AHeap := if l = [] then h else h.alloc (.cells 5 (bVs l))
@[simp] theorem accV_nil (k : Nat) : accV k [] = .nils := rfl
@[simp] theorem accH_nil (h : AHeap) : accH h [] = h := rfl
@[simp] theorem accV_cons (k x : Nat) (l : List Nat) : accV k (x :: l) = .sl 1 k 0 (l.length + 1) none := rfl
@[simp] theorem accH_cons (h : AHeap) (x : Nat) (l : List Nat) : accH h (x :: l) = h.alloc (.cells 5 (.int .u8 x :: bVs l)) := rfl
theorem accV_ne {k : Nat} {l : List Nat} (hl : l ≠ []) : accV k l = .sl 1 k 0 l.length none := by simp [accV, hl]
theorem accH_ne {h : AHeap} {l : List Nat} (hl : l ≠ []) : accH h l = h.alloc (.cells 5 (bVs l)) := by simp [accH, hl]
theorem accV_ren {k id0 : Nat} {l : List Nat} (hl : l ≠ []) : (accV k l).ren (at1 k id0) = .sl 1 id0 0 l.length none := by simp [accV, hl, AVal.ren]
theorem accV_ok {k : Nat} {l : List Nat} (hl : l.length ≤ big) : (accV k l).ok (k + 1) := by
  unfold accV; split <;> simp [AVal.ok, hl]
theorem Tidy.acc {n : Nat} {s : St} {σ : Nat → AVal} {h : AHeap} {id0 : Nat} {l : List Nat} (hl : l ≠ []) (hn : n ≤ h.next) (hb : HOk h) (hs : Sub h s.h) (hid : h.next ≤ id0) (ho : s.h.f id0 = some (.cells 5 (bVs l)))
    (h3 : TidyW (newZ1 h.next id0) s.h s.ρ h.next id0 σ) : Tidy n s ⟨σ, accH h l⟩ := by
  rw [accH_ne hl]
  refine .one hn hb hs hid ho (by simp only [AObj.ok]; exact oks_bV _ _) ?_ h3
  rw [AObj.ren_ok (n := h.next) (fun i hi => at1_ne (by omega)) (by simp only [AObj.ok]; exact oks_bV _ _)]
  exact ole_refl _
end Go.Proofs.YtcjlgmknclifmaaDoor.Ab
