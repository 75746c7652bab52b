/- Sums of bytes, copies of them. -/
import Derived.Test.YtbjifmoiblicgaaByB
set_option linter.unusedVariables false
set_option linter.unusedSimpArgs false
namespace Go.Proofs.Ytbjifmoiblicgaa.Ab
open Go

def adlStep (p : Nat × Nat) (c : Nat) : Nat × Nat := ((p.1 + c) % 65521, (p.2 + (p.1 + c) % 65521) % 65521)
def adl (l : List Nat) : Nat × Nat := l.foldl adlStep (1, 0)
def adler (l : List Nat) : Nat := (adl l).2 * 65536 + (adl l).1
theorem adl_lt (l : List Nat) : (adl l).1 < 65521 ∧ (adl l).2 < 65521 := by
  have go : ∀ (l : List Nat) (p : Nat × Nat), p.1 < 65521 ∧ p.2 < 65521 → (l.foldl adlStep p).1 < 65521 ∧ (l.foldl adlStep p).2 < 65521 := by
    intro l
    induction l with
    | nil => intro p hp; exact hp
    | cons a l ih => intro p hp; exact ih _ ⟨Nat.mod_lt _ (by decide), Nat.mod_lt _ (by decide)⟩
  exact go l (1, 0) ⟨by decide, by decide⟩
theorem adl_take (l : List Nat) (i : Nat) (hi : i < l.length) : adl (l.take (i + 1)) = adlStep (adl (l.take i)) l[i] := by
  unfold adl
  rw [List.take_succ_eq_append_getElem hi, List.foldl_append]
  rfl
theorem fn26_ok (l : List Nat) (v : AVal) (h : AHeap) (hl : ∀ b ∈ l, b < 256) (hB : IsB h v l) : Returns Try.prog 26 [v] h (.int .u32 (adler l)) h := by
  refine Returns.val fn26 (by simp) fun h1 h2 => ⟨by simp [AVal.ok], ?_⟩
  simp [AVal.oks] at h2
  have hlen := hB.len_le h2
  simp only [huge] at hlen
  simp [code26]
  refine Ev.countV (fun i => upd (upd (upd (upd noEnv 0 v) 3 (.int .i64 (adl (l.take i)).1)) 4 (.int .i64 (adl (l.take i)).2)) 5 (.int .i64 i)) l.length (fun _ => True) (fun _ => ⟨trivial, ?_⟩) ?_
  · repeat' (first | exact TidyV_none _ _ _ _ | (refine TidyV_upd (by simp [AVal.ok, AVal.oks, huge, big, h2, adl] <;> omega) ?_))
  intro i hi _ _
  by_cases hlt : i < l.length
  · obtain ⟨p, p1, p2⟩ := hB.at hlt
    have hw : IntKind.i64.wrap (↑i + 1) = ↑i + 1 := wrap_i64 (by omega) (by omega)
    have hb := hl l[i] (List.getElem_mem hlt)
    have ha := adl_lt (l.take i)
    have ht := adl_take l i hlt
    have hw8 : IntKind.i64.wrap (l[i] : Int) = l[i] := wrap_i64 (by omega) (by omega)
    have hwa : IntKind.i64.wrap ((adl (l.take i)).1 + l[i] : Int) = (adl (l.take i)).1 + l[i] := wrap_i64 (by omega) (by omega)
    have hm1 : ((adl (l.take i)).1 + l[i] : Int).tmod 65521 = (((adl (l.take i)).1 + l[i]) % 65521 : Nat) := by rw [tmod_pos (by omega)]; simp
    have hwb : IntKind.i64.wrap ((adl (l.take i)).2 + ((adl (l.take i)).1 + l[i]) % 65521 : Int) = (adl (l.take i)).2 + ((adl (l.take i)).1 + l[i]) % 65521 := wrap_i64 (by omega) (by omega)
    have hm2 : ((adl (l.take i)).2 + ((adl (l.take i)).1 + l[i]) % 65521 : Int).tmod 65521 = ((adl (l.take i)).2 + ((adl (l.take i)).1 + l[i]) % 65521) % 65521 := tmod_pos (by omega)
    simp [hB.lenV, hlt, p1, p2, hw, hw8, hwa, hm1, hwb, hm2]
    intro _
    repeat' (first | exact TidyV_none _ _ _ _ | (refine TidyV_upd (by simp [AVal.ok, AVal.oks, huge, big, h2, ht, adlStep] <;> omega) ?_))
  · have hlast : l.take i = l := List.take_of_length_le (by omega)
    have ha := adl_lt l
    have hw1 : IntKind.i64.wrap ((adl l).2 * 65536 : Int) = (adl l).2 * 65536 := wrap_i64 (by omega) (by omega)
    have hw2 : IntKind.i64.wrap ((adl l).2 * 65536 + (adl l).1 : Int) = (adl l).2 * 65536 + (adl l).1 := wrap_i64 (by omega) (by omega)
    have hw3 : ((adl l).2 * 65536 + (adl l).1 : Int) % 4294967296 = (adl l).2 * 65536 + (adl l).1 := by omega
    simp [hB.lenV, hlt, hlast, hw1, hw2, hw3, adler]
theorem fn41_ok (l : List Nat) (v : AVal) (h : AHeap) (id : Nat) (c : Option Nat) (ty : TypeId) (hl : ∀ b ∈ l, b < 256) (hB : IsB h v l) (hi : h.f id = some (.cells ty [v])) : Returns Try.prog 41 [.sl 1 id 0 1 c] h (.int .u32 (adler l)) h := by
  refine Returns.val fn41 (by simp) fun h1 h2 => ⟨by simp [AVal.ok], ?_⟩
  have hid := (h1 id _ hi).1
  have hv : v.ok h.next := by have := (h1 id _ hi).2; simpa [AObj.ok, AVal.oks] using this
  have hlen := hB.len_le hv
  simp only [huge] at hlen
  simp [code41]
  refine Ev.countV (fun i => upd (upd (upd (upd (upd (upd noEnv 0 (.sl 1 id 0 1 c)) 3 (.int .u32 (if i = 0 then 1 else (adl l).1))) 4 (.int .u32 (if i = 0 then 0 else (adl l).2))) 9 (.sl 1 id 0 1 c)) 10 (.int .i64 1)) 11 (.int .i64 i)) 1 (fun _ => True) (fun _ => ⟨trivial, ?_⟩) ?_
  · repeat' (first | exact TidyV_none _ _ _ _ | (refine TidyV_upd (by simp [AVal.ok, AVal.oks, huge, big, hid] <;> omega) ?_))
  intro i hi1 _ _
  have ha := adl_lt l
  by_cases h0 : i = 0
  · subst h0
    simp [hi, hB.lenV]
    refine Ev.countV (fun i => upd (upd (upd (upd (upd (upd (upd (upd (upd noEnv 0 (.sl 1 id 0 1 c)) 3 (.int .u32 (adl (l.take i)).1)) 4 (.int .u32 (adl (l.take i)).2)) 9 (.sl 1 id 0 1 c)) 10 (.int .i64 1)) 11 (.int .i64 0)) 15 v) 16 (.int .i64 l.length)) 17 (.int .i64 i)) l.length (fun _ => True) (fun _ => ⟨trivial, ?_⟩) ?_
    · repeat' (first | exact TidyV_none _ _ _ _ | (refine TidyV_upd (by simp [AVal.ok, AVal.oks, huge, big, hid, hv, adl] <;> omega) ?_))
    intro k hk _ _
    by_cases hlt : k < l.length
    · obtain ⟨p, p1, p2⟩ := hB.at hlt
      have hw : IntKind.i64.wrap (↑k + 1) = ↑k + 1 := wrap_i64 (by omega) (by omega)
      have hb := hl l[k] (List.getElem_mem hlt)
      have hp := adl_lt (l.take k)
      have ht := adl_take l k hlt
      have hw8 : (l[k] : Int) % 4294967296 = l[k] := by omega
      have hwa : ((adl (l.take k)).1 + l[k] : Int) % 4294967296 = (adl (l.take k)).1 + l[k] := by omega
      have hm1 : ((adl (l.take k)).1 + l[k] : Int).tmod 65521 = ((adl (l.take k)).1 + l[k]) % 65521 := tmod_pos (by omega)
      have hwb : ((adl (l.take k)).2 + ((adl (l.take k)).1 + l[k]) % 65521 : Int) % 4294967296 = (adl (l.take k)).2 + ((adl (l.take k)).1 + l[k]) % 65521 := by omega
      have hm2 : ((adl (l.take k)).2 + ((adl (l.take k)).1 + l[k]) % 65521 : Int).tmod 65521 = ((adl (l.take k)).2 + ((adl (l.take k)).1 + l[k]) % 65521) % 65521 := tmod_pos (by omega)
      simp [hlt, p1, p2, hw, hw8, hwa, hm1, hwb, hm2]
      intro _
      repeat' (first | exact TidyV_none _ _ _ _ | (refine TidyV_upd (by simp [AVal.ok, AVal.oks, huge, big, hid, hv, ht, adlStep] <;> omega) ?_))
    · have hlast : l.take k = l := List.take_of_length_le (by omega)
      have hw1 : IntKind.i64.wrap 1 = 1 := by decide
      simp [hlt, hlast, hw1]
      intro _
      repeat' (first | exact TidyV_none _ _ _ _ | (refine TidyV_upd (by simp [AVal.ok, AVal.oks, huge, big, hid, hv] <;> omega) ?_))
  · have h1' : i = 1 := by omega
    subst h1'
    have hw1 : ((adl l).2 * 65536 : Int) % 4294967296 = (adl l).2 * 65536 := by omega
    have hw2 : ((adl l).2 * 65536 + (adl l).1 : Int) % 4294967296 = (adl l).2 * 65536 + (adl l).1 := by omega
    simp [hw1, hw2, adler]
theorem fn24_ok (l : List Nat) (v : AVal) (h : AHeap) (hB : IsB h v l) (hl : l.length ≤ big) : Returns Try.prog 24 [v] h (.vec 1 false (bVs l)) h := by
  refine Returns.val fn24 (by simp) fun h1 h2 => ?_
  simp [AVal.oks] at h2
  refine ⟨by simp [AVal.ok, oks_bV]; exact big_huge hl, ?_⟩
  simp [code24]
  have hs := srcCells_alloc h2 h (.cells 5 []) (Nat.le_refl _)
  have fin : 0 < l.length → Sub h ((h.alloc (AObj.cells 5 [])).alloc (AObj.cells 5 (bVs l))) := fun _ => by
    repeat' (first | exact Sub.refl _ | refine Sub.put_both ?_ | refine Sub.alloc h1 ?_ | refine Sub.put h1 ?_ (by simp) | refine Sub.drop h1 ?_ (by simp))
  cases hB with
  | nils => simp
  | vec b l =>
    cases l with
    | nil =>
      simp
      repeat' (first | exact Sub.refl _ | refine Sub.put_both ?_ | refine Sub.alloc h1 ?_ | refine Sub.put h1 ?_ (by simp) | refine Sub.drop h1 ?_ (by simp))
    | cons x l =>
      simp at hl
      simp [hl]
      refine ⟨Le.frzw 5 (by simp) (by simp) (by simp), ?_⟩
      repeat' (first | exact Sub.refl _ | refine Sub.put_both ?_ | refine Sub.alloc h1 ?_ | refine Sub.put h1 ?_ (by simp) | refine Sub.drop h1 ?_ (by simp))
  | @sl id off c ty cs l k1 k2 k3 =>
    have hlt := (h1 id _ k1).1
    have hne : ¬ id = h.next := by omega
    cases l with
    | nil =>
      simp at k2
      simp [hne, k1, k2]
      repeat' (first | exact Sub.refl _ | refine Sub.put_both ?_ | refine Sub.alloc h1 ?_ | refine Sub.put h1 ?_ (by simp) | refine Sub.drop h1 ?_ (by simp))
    | cons x l =>
      simp at hl k2 k3
      simp [hne, k1, k2, k3, hl]
      refine ⟨Le.frzw 5 (by simp) (by simp) (by simp), ?_⟩
      repeat' (first | exact Sub.refl _ | refine Sub.put_both ?_ | refine Sub.alloc h1 ?_ | refine Sub.put h1 ?_ (by simp) | refine Sub.drop h1 ?_ (by simp))
theorem fn50_ok (l l' : List Nat) (v v' : AVal) (h : AHeap) (hB : IsB h v l) (hB' : IsB h v' l') (h1 : ∀ b ∈ l, b < 256) (h2 : ∀ b ∈ l', b < 256) : Returns Try.prog 50 [v, v'] h (.bool (decide (l = l'))) h := by
  refine Returns.val fn50 (by simp) fun h3 h4 => ⟨by simp [AVal.ok], ?_⟩
  simp [code50, hB.b2s h1, hB'.b2s h2, bytes_inj h1 h2]
theorem fn46_ok (l l' : List Nat) (v v' : AVal) (h : AHeap) (hB : IsB h v l) (hB' : IsB h v' l') (h1 : ∀ b ∈ l, b < 256) (h2 : ∀ b ∈ l', b < 256) : Returns Try.prog 46 [v, v'] h (.bool (decide (l' <+: l))) h := by
  refine Returns.val fn46 (by simp) fun h3 h4 => ⟨by simp [AVal.ok], ?_⟩
  by_cases hle : l'.length ≤ l.length
  · obtain ⟨u, hu, hBu, _⟩ := hB.slice none (some l'.length) 0 l'.length rfl rfl (by omega) hle
    simp [code46, hB.lenV, hB'.lenV, hle]
    simp at hu hBu
    simp [hu]
    refine (fn50_ok _ _ _ _ _ hBu hB' (fun b hb => h1 b (List.mem_of_mem_take hb)) h2).to ?_
    have e : (l.take l'.length = l') = (l' <+: l) := by rw [eq_iff_iff, List.prefix_iff_eq_take]; exact eq_comm
    simp [e]
  · have : ¬ l' <+: l := fun h => hle h.length_le
    simp [code46, hB.lenV, hB'.lenV, hle, this]
end Go.Proofs.Ytbjifmoiblicgaa.Ab
