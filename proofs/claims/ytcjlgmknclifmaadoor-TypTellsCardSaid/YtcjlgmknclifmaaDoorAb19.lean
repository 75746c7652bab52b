/- More rules: appending, memory put in order, loops over what turns. -/
import Derived.Test.YtcjlgmknclifmaaDoorAb17
set_option linter.unusedVariables false
set_option linter.unusedSimpArgs false
namespace Go.Proofs.YtcjlgmknclifmaaDoor.Ab
open Go

/-! ### what a slice holds -/
def slO (o : Option AObj) (e off len : Nat) : Option (List AVal) :=
  match o with
  | some (.cells _ cs) => if off + len * e ≤ cs.length then some ((cs.drop off).take (len * e)) else none
  | _ => none
@[simp] theorem slO_cells (ty : TypeId) (cs : List AVal) (e off len : Nat) : slO (some (.cells ty cs)) e off len = if off + len * e ≤ cs.length then some ((cs.drop off).take (len * e)) else none := (rfl)
@[simp] theorem slCells_nils (h : AHeap) : slCells h .nils = some [] := (rfl)
@[simp] theorem slCells_vec (h : AHeap) (e : Nat) (b : Bool) (xs : List AVal) : slCells h (.vec e b xs) = some (xs.flatMap AVal.cells) := (rfl)
@[simp] theorem slCells_sl (h : AHeap) (e id off len : Nat) (c : Option Nat) : slCells h (.sl e id off len c) = slO (h.f id) e off len := (rfl)
@[simp] theorem slLen_nils : slLen .nils = some 0 := (rfl)
@[simp] theorem slLen_vec (e : Nat) (b : Bool) (xs : List AVal) : slLen (.vec e b xs) = some xs.length := (rfl)
@[simp] theorem slLen_sl (e id off len : Nat) (c : Option Nat) : slLen (.sl e id off len c) = some len := (rfl)
@[simp] theorem srcCells_str (h : AHeap) (s : ByteArray) : srcCells h (.str s) = some (s.data.toList.map fun b : UInt8 => AVal.int .u8 b.toNat) := (rfl)
@[simp] theorem srcCells_nils (h : AHeap) : srcCells h .nils = some [] := (rfl)
@[simp] theorem srcCells_vec (h : AHeap) (e : Nat) (b : Bool) (xs : List AVal) : srcCells h (.vec e b xs) = some (xs.flatMap AVal.cells) := (rfl)
@[simp] theorem srcCells_sl (h : AHeap) (e id off len : Nat) (c : Option Nat) : srcCells h (.sl e id off len c) = slO (h.f id) e off len := (rfl)
@[simp] theorem srcLen_str (s : ByteArray) : srcLen (.str s) = some s.size := (rfl)
@[simp] theorem srcLen_nils : srcLen .nils = some 0 := (rfl)
@[simp] theorem srcLen_vec (e : Nat) (b : Bool) (xs : List AVal) : srcLen (.vec e b xs) = some xs.length := (rfl)
@[simp] theorem srcLen_sl (e id off len : Nat) (c : Option Nat) : srcLen (.sl e id off len c) = some len := (rfl)

/-! ### appending -/
def appS (o : Option AObj) (h : AHeap) (ty e bytes e' id off len : Nat) (cap : Option Nat) (ys : List AVal) (n : Nat) : Option (Prop × AVal × AHeap) :=
  if e' = e then
    match o with
    | some (.cells ty' cs) =>
      if ty' = ty ∧ off + len * e ≤ cs.length ∧ ones ((cs.drop off).take (len * e)) = true then
        match cap with
        | none => some ((len + n) * bytes ≤ big ∧ len + n ≤ big, .sl e h.next 0 (len + n) none, (h.drop id).alloc (.cells ty ((cs.drop off).take (len * e) ++ ys)))
        | some c =>
          if n = 0 then some (True, .sl e' id off len (some c), h)
          else if len + n ≤ c then
            (if off + (len + n) * e ≤ cs.length then some (len + n ≤ big, .sl e' id off (len + n) (some c), h.put id (.cells ty (cs.take (off + len * e) ++ ys ++ cs.drop (off + (len + n) * e)))) else none)
          else some ((len + n) * bytes ≤ big ∧ len + n ≤ big, .sl e h.next 0 (len + n) none, h.alloc (.cells ty ((cs.drop off).take (len * e) ++ ys)))
      else none
    | _ => none
  else none
def appX (h : AHeap) (ty e bytes : Nat) (x : AVal) (ys : List AVal) (n : Nat) : Option (Prop × AVal × AHeap) :=
  match x with
  | .nils => some (n * bytes ≤ big ∧ n ≤ big, (if n = 0 then .nils else .sl e h.next 0 n none), if n = 0 then h else h.alloc (.cells ty ys))
  | .vec e' true xs =>
    if e' = e ∧ ones (xs.flatMap AVal.cells) = true then
      some ((xs.length + n) * bytes ≤ big ∧ xs.length + n ≤ big, (if n = 0 then .vec e' true xs else .sl e h.next 0 (xs.length + n) none), if n = 0 then h else h.alloc (.cells ty (xs.flatMap AVal.cells ++ ys))) else none
  | .sl e' id off len cap => appS (h.f id) h ty e bytes e' id off len cap ys n
  | _ => none
def appY (h : AHeap) (ty e bytes : Nat) (x : AVal) (ys : Option (List AVal)) (n : Option Nat) : Option (Prop × AVal × AHeap) :=
  match ys, n with
  | some ys, some n => if ys.length = n * e ∧ ones ys = true then appX h ty e bytes x ys n else none
  | _, _ => none
@[simp] theorem appV_eq (h : AHeap) (ty e bytes : Nat) (x y : AVal) : appV h ty e bytes x y = appY h ty e bytes x (srcCells h y) (srcLen y) := by
  simp only [appV, achg, appY, ev]
  cases srcCells h y with
  | none => rfl
  | some ys =>
    cases srcLen y with
    | none => rfl
    | some n =>
      simp only
      split
      · cases x <;> simp only [appX]
        · cases ‹Bool› <;> rfl
        · simp only [appS]
          split
          · subst_vars; rfl
          · rfl
      · rfl
@[simp] theorem appY_some (h : AHeap) (ty e bytes : Nat) (x : AVal) (ys : List AVal) (n : Nat) : appY h ty e bytes x (some ys) (some n) = if ys.length = n * e ∧ ones ys = true then appX h ty e bytes x ys n else none := (rfl)
@[simp] theorem appX_nils (h : AHeap) (ty e bytes : Nat) (ys : List AVal) (n : Nat) : appX h ty e bytes .nils ys n = some (n * bytes ≤ big ∧ n ≤ big, (if n = 0 then .nils else .sl e h.next 0 n none), if n = 0 then h else h.alloc (.cells ty ys)) := (rfl)
@[simp] theorem appX_vec (h : AHeap) (ty e bytes e' : Nat) (xs ys : List AVal) (n : Nat) : appX h ty e bytes (.vec e' true xs) ys n = if e' = e ∧ ones (xs.flatMap AVal.cells) = true then
      some ((xs.length + n) * bytes ≤ big ∧ xs.length + n ≤ big, (if n = 0 then .vec e' true xs else .sl e h.next 0 (xs.length + n) none), if n = 0 then h else h.alloc (.cells ty (xs.flatMap AVal.cells ++ ys))) else none := (rfl)
@[simp] theorem appX_sl (h : AHeap) (ty e bytes e' id off len : Nat) (cap : Option Nat) (ys : List AVal) (n : Nat) : appX h ty e bytes (.sl e' id off len cap) ys n = appS (h.f id) h ty e bytes e' id off len cap ys n := (rfl)
@[congr] theorem appS_congr {o o' : Option AObj} {h : AHeap} {ty e bytes e' id off len : Nat} {cap : Option Nat} {ys : List AVal} {n : Nat} (x : o = o') : appS o h ty e bytes e' id off len cap ys n = appS o' h ty e bytes e' id off len cap ys n := by rw [x]
@[simp] theorem appS_none (h : AHeap) (ty ty' e bytes id off len n : Nat) (cs ys : List AVal) : appS (some (.cells ty' cs)) h ty e bytes e id off len none ys n = if ty' = ty ∧ off + len * e ≤ cs.length ∧ ones ((cs.drop off).take (len * e)) = true then
    some ((len + n) * bytes ≤ big ∧ len + n ≤ big, .sl e h.next 0 (len + n) none, (h.drop id).alloc (.cells ty ((cs.drop off).take (len * e) ++ ys))) else none := by simp [appS]
@[simp] theorem appS_some (h : AHeap) (ty ty' e bytes id off len n c : Nat) (cs ys : List AVal) : appS (some (.cells ty' cs)) h ty e bytes e id off len (some c) ys n = if ty' = ty ∧ off + len * e ≤ cs.length ∧ ones ((cs.drop off).take (len * e)) = true then
    (if n = 0 then some (True, .sl e id off len (some c), h)
     else if len + n ≤ c then
      (if off + (len + n) * e ≤ cs.length then some (len + n ≤ big, .sl e id off (len + n) (some c), h.put id (.cells ty (cs.take (off + len * e) ++ ys ++ cs.drop (off + (len + n) * e)))) else none)
     else some ((len + n) * bytes ≤ big ∧ len + n ≤ big, .sl e h.next 0 (len + n) none, h.alloc (.cells ty ((cs.drop off).take (len * e) ++ ys)))) else none := by simp [appS]

/-! ### memory in order -/
theorem AHeap.ext' {h h' : AHeap} (h1 : ∀ i, h.f i = h'.f i) (h2 : h.next = h'.next) : h = h' := by
  cases h; cases h'
  simp only at h1 h2
  rw [h2, funext h1]
@[simp] theorem put_put (h : AHeap) (i : Nat) (o o' : AObj) : (h.put i o).put i o' = h.put i o' := AHeap.ext' (fun j => by simp only [put_at]; split <;> simp) rfl
@[simp] theorem alloc_put (h : AHeap) (o o' : AObj) : (h.alloc o).put h.next o' = h.alloc o' := AHeap.ext' (fun j => by simp only [put_at, alloc_at]; split <;> simp_all) rfl
@[simp] theorem alloc_put_old (h : AHeap) (i : Nat) (o o' : AObj) (hi : i ≠ h.next) : (h.alloc o).put i o' = (h.put i o').alloc o := AHeap.ext' (fun j => by
  simp only [put_at, alloc_at, put_next]
  by_cases h1 : j = i
  · subst h1; simp [hi]
  · simp [h1]) rfl
@[simp] theorem alloc_drop_old (h : AHeap) (i : Nat) (o : AObj) (hi : i ≠ h.next) : (h.alloc o).drop i = (h.drop i).alloc o := AHeap.ext' (fun j => by
  simp only [drop_at, alloc_at, drop_next]
  by_cases h1 : j = i
  · subst h1; simp [hi]
  · simp [h1]) rfl
@[simp] theorem put_drop (h : AHeap) (i : Nat) (o : AObj) : (h.put i o).drop i = h.drop i := AHeap.ext' (fun j => by simp only [drop_at, put_at]; split <;> simp) rfl

/-! ### loops over what turns -/
theorem Ev.over {P : Program} {N : Nat} {c : ACode} {Q : AExit → St → Prop} {s : St} {ι : Type} (I : ι → Prop) (S : ι → St) (μ : ι → Nat)
    (h0 : SOk s → N ≤ s.h.next → ∃ i, I i ∧ Tidy N s (S i))
    (hs : ∀ i, I i → SOk (S i) → Ev P N c (thenK (fun s' => SOk s' → ∃ j, I j ∧ μ j < μ i ∧ Tidy N s' (S j)) Q) (S i)) : Ev P N (.loop c) Q s := by
  rw [Ev_loop]
  intro hok hN
  obtain ⟨i, k1, k2⟩ := h0 hok hN
  exact ⟨ι, I, S, μ, ⟨i, k1, k2⟩, hs⟩
/-- A loop that counts from 0, over a heap that turns. -/
theorem Ev.countH {P : Program} {N : Nat} {c : ACode} {Q : AExit → St → Prop} {ρ : Nat → AVal} {h : AHeap} (σ : Nat → Nat → AVal) (H : Nat → AHeap) (n : Nat) (I : Nat → Prop)
    (h0 : SOk ⟨ρ, h⟩ → N ≤ h.next → I 0 ∧ Tidy N ⟨ρ, h⟩ ⟨σ 0, H 0⟩)
    (hs : ∀ i, i ≤ n → I i → SOk ⟨σ i, H i⟩ → Ev P N c (thenK (fun s' => SOk s' → I (i + 1) ∧ i < n ∧ Tidy N s' ⟨σ (i + 1), H (i + 1)⟩) Q) ⟨σ i, H i⟩) : Ev P N (.loop c) Q ⟨ρ, h⟩ := by
  refine Ev.over (fun i => i ≤ n ∧ I i) (fun i => ⟨σ i, H i⟩) (fun i => n - i) (fun hok hN => ⟨0, ⟨Nat.zero_le _, (h0 hok hN).1⟩, (h0 hok hN).2⟩) fun i hi hsi => ?_
  refine Ev.mono ?_ (hs i hi.1 hi.2 hsi)
  intro e s' hq
  cases e with
  | normal =>
    intro hs'
    obtain ⟨k1, k2, k3⟩ := hq hs'
    exact ⟨i + 1, ⟨by omega, k1⟩, by omega, k3⟩
  | exit i => exact hq
  | ret => exact hq
/-- One more cell is filled. -/
theorem fill_step {α : Type} (f : Nat → α) (z : α) (n i : Nat) (hi : i < n) :
    ((List.range i).map f ++ List.replicate (n - i) z).take i ++ (f i :: ((List.range i).map f ++ List.replicate (n - i) z).drop (i + 1)) = (List.range (i + 1)).map f ++ List.replicate (n - (i + 1)) z := by
  have h1 : ((List.range i).map f ++ List.replicate (n - i) z).take i = (List.range i).map f := by
    rw [List.take_append_of_le_length (by simp)]
    exact List.take_of_length_le (by simp)
  have h2 : ((List.range i).map f ++ List.replicate (n - i) z).drop (i + 1) = List.replicate (n - (i + 1)) z := by
    rw [List.drop_append]
    simp only [List.length_map, List.length_range, List.drop_replicate]
    rw [List.drop_eq_nil_of_le (by simp)]
    simp only [List.nil_append]
    congr 1; omega
  rw [h1, h2, List.range_succ]
  simp
theorem fill_step' {α : Type} (f : Nat → α) (z : α) (n i : Nat) (hi : i < n) :
    (List.range i).map f ++ (f i :: ((List.range i).map f ++ List.replicate (n - i) z).drop (i + 1)) = (List.range (i + 1)).map f ++ List.replicate (n - (i + 1)) z := by
  rw [← fill_step f z n i hi]
  congr 1
  rw [List.take_append_of_le_length (by simp)]
  exact (List.take_of_length_le (by simp)).symm
end Go.Proofs.YtcjlgmknclifmaaDoor.Ab
