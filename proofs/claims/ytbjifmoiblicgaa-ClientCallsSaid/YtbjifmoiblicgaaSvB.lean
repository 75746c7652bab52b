/- Replies of bytes: the program's walk. -/
import Derived.Test.YtbjifmoiblicgaaSvA
set_option linter.unusedVariables false
set_option linter.unusedSimpArgs false
namespace Go.Proofs.Ytbjifmoiblicgaa.Ab
open Go

/-- A reader: what is left, whether all was there. -/
def rdO (l : List Nat) (ok : Bool) : AObj := .cells 69 [.vec 1 false (bVs l), .bool ok]
def numV (most : Nat) (l : List Nat) (ok : Bool) : Int := if ok then (match rd most l with | some (v, _) => (v : Int) | none => 0) else 0
def numL (l : List Nat) : List Nat := match getU l with | some (_, n) => l.drop n | none => l
def numB (most : Nat) (l : List Nat) (ok : Bool) : Bool := ok && (rd most l).isSome
theorem numL_lt {l : List Nat} (h : ∀ b ∈ l, b < 256) : ∀ b ∈ numL l, b < 256 := by
  unfold numL
  split
  · exact fun b hb => h b (List.mem_of_mem_drop hb)
  · exact h
theorem numL_len (l : List Nat) : (numL l).length ≤ l.length := by
  unfold numL
  split
  · simp
  · exact Nat.le_refl _
theorem fn35_ok (l : List Nat) (ok : Bool) (id most : Nat) (h : AHeap) (hl : ∀ b ∈ l, b < 256) (hm : most ≤ 2147483647) (hi : h.f id = some (rdO l ok)) :
    Returns Try.prog 35 [.ptr id 0, .int .u64 most] h (.int .i64 (numV most l ok)) (h.put id (rdO (numL l) (numB most l ok))) := by
  refine Returns.exact fn35 (by simp) fun h1 h2 => ?_
  simp only [rdO] at hi
  simp [code35, hi]
  refine (fn43_ok l _ h hl (.vec _ _)).to ?_
  cases hg : getU l with
  | none =>
    have hsl := vec_slice false l (some 0) none 0 l.length rfl rfl (by omega) (by omega)
    simp at hsl
    have hr : rd most l = none := by simp [rd, hg]
    have hn : numL l = l := by simp [numL, hg]
    cases ok <;> simp [hi, hsl, hr, hn, numV, numB, rdO]
  | some q =>
    obtain ⟨v, n⟩ := q
    obtain ⟨g1, g2, g3, g4, g5⟩ := getU_some hg
    have hsl := vec_slice false l (some (n : Int)) none n l.length rfl rfl (by omega) (by omega)
    simp at hsl
    have hn : numL l = l.drop n := by simp [numL, hg]
    by_cases hv : v ≤ most
    · have hr : rd most l = some (v, l.drop n) := by simp [rd, hg, hv]
      have hw : IntKind.i64.wrap (v : Int) = v := wrap_i64 (by omega) (by omega)
      cases ok <;> simp [hi, hsl, hr, hn, hv, hw, numV, numB, rdO]
    · have hr : rd most l = none := by simp [rd, hg, hv]
      cases ok <;> simp [hi, hsl, hr, hn, hv, numV, numB, rdO]
theorem rdO_ok (n : Nat) (l : List Nat) (ok : Bool) (hl : l.length ≤ huge) : (rdO l ok).ok n := by simp [rdO, AObj.ok, AVal.oks, AVal.ok, hl]
theorem fn34_ok (l : List Nat) (ok : Bool) (id : Nat) (h : AHeap) (hl : ∀ b ∈ l, b < 256) (hi : h.f id = some (rdO l ok)) :
    Returns Try.prog 34 [.ptr id 0] h (.agg [.int .i64 (numV 2147483647 l ok), .int .i64 (numV 2147483647 (numL l) (numB 2147483647 l ok))])
      (h.put id (rdO (numL (numL l)) (numB 2147483647 (numL l) (numB 2147483647 l ok)))) := by
  refine Returns.chg fn34 (by simp) fun h1 h2 => ?_
  have hid := (h1 id _ hi).1
  have hll : l.length ≤ huge := by have := (h1 id _ hi).2; simp [rdO, AObj.ok, AVal.oks, AVal.ok] at this; exact this
  have hl2 := numL_len l
  have hl3 := numL_len (numL l)
  have hk : HOk (h.put id (rdO (numL (numL l)) (numB 2147483647 (numL l) (numB 2147483647 l ok)))) := h1.put hid (rdO_ok _ _ _ (by omega))
  refine ⟨by simp, hk, by simp [AVal.ok, AVal.oks], ?_⟩
  have hne : id ≠ h.next := by omega
  simp [code34]
  refine (fn35_ok l ok id 2147483647 _ hl (by decide) (by simpa [hne] using hi)).to ?_
  simp
  refine (fn35_ok (numL l) (numB 2147483647 l ok) id 2147483647 _ (numL_lt hl) (by decide) (by simp)).to ?_
  simp [hne, Ne.symm hne]
  refine Chg.of_sub ?_
  repeat' (first | exact Sub.refl _ | refine Sub.put_both ?_ | refine Sub.alloc hk ?_ | refine Sub.put hk ?_ (by simp) | refine Sub.drop hk ?_ (by simp))
theorem fn33_ok (l : List Nat) (v : AVal) (k : Nat) (h : AHeap) (hl : ∀ b ∈ l, b < 256) (hB : IsB h v l) :
    Returns Try.prog 33 [v, bV k] h (.ptr h.next 0) (h.alloc (rdO ((getF l).getD (0, [], 0)).2.1 ((getF l).isSome && decide (((getF l).getD (0, [], 0)).1 = k) && decide (((getF l).getD (0, [], 0)).2.2 = l.length)))) := by
  refine Returns.exact fn33 (by simp) fun h1 h2 => ?_
  simp [code33]
  refine (fn42_ok l v h hl hB).to ?_
  cases hg : getF l with
  | none => simp [rdO]
  | some q =>
    obtain ⟨k', b, n⟩ := q
    by_cases hk : k' = k
    · simp [hk, rdO, hB.lenV]
    · simp [hk, rdO]
theorem getF_some {l : List Nat} {k n : Nat} {b : List Nat} (h : getF l = some (k, b, n)) (hl : ∀ x ∈ l, x < 256) : (∀ x ∈ b, x < 256) ∧ b.length ≤ 4000 := by
  unfold getF at h
  cases l with
  | nil => cases h
  | cons k0 r =>
    simp only at h
    split at h
    · cases h
    · rename_i v n0 hg
      split at h
      · rename_i hc
        simp only [Option.some.injEq, Prod.mk.injEq] at h
        obtain ⟨rfl, rfl, rfl⟩ := h
        exact ⟨bodyF_lt fun x hx => hl x (by simp [hx]), by simp [bodyF]; omega⟩
      · cases h
theorem rd_lt {most : Nat} {l l' : List Nat} {v : Nat} (h : rd most l = some (v, l')) (hl : ∀ b ∈ l, b < 256) : (∀ b ∈ l', b < 256) ∧ l'.length ≤ l.length ∧ v ≤ most := by
  unfold rd at h
  split at h
  · split at h
    · rename_i hv
      simp only [Option.some.injEq, Prod.mk.injEq] at h
      obtain ⟨rfl, rfl⟩ := h
      exact ⟨fun b hb => hl b (List.mem_of_mem_drop hb), by simp, hv⟩
    · cases h
  · cases h
theorem numL_of {most : Nat} {l l' : List Nat} {v : Nat} (h : rd most l = some (v, l')) : numL l = l' := by
  unfold rd at h
  split at h
  · rename_i v0 n hg
    split at h
    · simp only [Option.some.injEq, Prod.mk.injEq] at h
      simp [numL, hg, h.2]
    · cases h
  · cases h
theorem body3_ok {l : List Nat} {r : Rp} (h : body3 l = some r) (hl : ∀ b ∈ l, b < 256) : (∀ b ∈ r.bytes, b < 256) ∧ r.bytes.length ≤ l.length := by
  unfold body3 at h
  split at h
  · cases h
  · rename_i e b1 h1
    have k1 := rd_lt h1 hl
    split at h
    · cases h
    · rename_i s b2 h2
      have k2 := rd_lt h2 k1.1
      split at h
      · cases h
      · rename_i x b3 h3
        have k3 := rd_lt h3 k2.1
        split at h
        · cases h
        · cases h
          exact ⟨k3.1, by show b3.length ≤ _; omega⟩
theorem ans_ok {l : List Nat} {r : Rp} (h : ans l = some r) (hl : ∀ b ∈ l, b < 256) : (∀ b ∈ r.bytes, b < 256) ∧ r.bytes.length ≤ 4000 := by
  unfold ans at h
  split at h
  · rename_i k b n hg
    have := getF_some hg hl
    split at h
    · have k2 := body3_ok h this.1
      exact ⟨k2.1, by omega⟩
    · cases h
  · cases h
theorem ansV_ok {n : Nat} {l : List Nat} (hl : ∀ b ∈ l, b < 256) : (ansV (ans l)).ok n := by
  cases h : ans l with
  | none => simp [ansV, noRp, AVal.ok, AVal.oks]
  | some r =>
    have := (ans_ok h hl).2
    simp [ansV, AVal.ok, AVal.oks, huge]; omega
theorem numB_true {most : Nat} {l : List Nat} {ok : Bool} (h : numB most l ok = true) : ok = true ∧ ∃ v, rd most l = some (v, numL l) ∧ numV most l ok = v := by
  simp only [numB, Bool.and_eq_true] at h
  obtain ⟨rfl, h2⟩ := h
  refine ⟨rfl, ?_⟩
  cases hr : rd most l with
  | none => rw [hr] at h2; simp at h2
  | some q =>
    obtain ⟨v, l'⟩ := q
    rw [numL_of hr]
    exact ⟨v, rfl, by simp [numV, hr]⟩
theorem numB_some {most : Nat} {l l' : List Nat} {v : Nat} {ok : Bool} (h : rd most l = some (v, l')) : numB most l ok = ok ∧ numL l = l' := ⟨by simp [numB, h], numL_of h⟩
/-- All three were there just if the body is one. -/
theorem chain (b : List Nat) (ok : Bool) : numB 12 (numL (numL b)) (numB 2147483647 (numL b) (numB 2147483647 b ok)) = true →
    ok = true ∧ ∃ e s x : Nat, numV 2147483647 b ok = e ∧ numV 2147483647 (numL b) (numB 2147483647 b ok) = s ∧ numV 12 (numL (numL b)) (numB 2147483647 (numL b) (numB 2147483647 b ok)) = x ∧
      body3 b = if x ≠ 0 ∧ numL (numL (numL b)) ≠ [] then none else some ⟨⟨e, s⟩, x, numL (numL (numL b))⟩ := by
  intro h
  obtain ⟨h2, x, r3, v3⟩ := numB_true h
  obtain ⟨h1, s, r2, v2⟩ := numB_true h2
  obtain ⟨h0, e, r1, v1⟩ := numB_true h1
  exact ⟨h0, e, s, x, v1, v2, v3, by simp only [body3, r1, r2, r3]⟩
theorem chain_none (b : List Nat) : numB 12 (numL (numL b)) (numB 2147483647 (numL b) (numB 2147483647 b true)) = false → body3 b = none := by
  intro h
  cases hb : rd 2147483647 b with
  | none => simp [body3, hb]
  | some q =>
    obtain ⟨e, b1⟩ := q
    obtain ⟨n1, n2⟩ := numB_some (ok := true) hb
    rw [n1, n2] at h
    cases hb1 : rd 2147483647 b1 with
    | none => simp [body3, hb, hb1]
    | some q =>
      obtain ⟨s, b2⟩ := q
      obtain ⟨n1, n2⟩ := numB_some (ok := true) hb1
      rw [n1, n2] at h
      cases hb2 : rd 12 b2 with
      | none => simp [body3, hb, hb1, hb2]
      | some q => rw [(numB_some (ok := true) (l' := q.2) (v := q.1) hb2).1] at h; cases h
theorem fn27_ok (l : List Nat) (v : AVal) (h : AHeap) (hl : ∀ b ∈ l, b < 256) (hB : IsB h v l) : Returns Try.prog 27 [v] h (ansV (ans l)) h := by
  refine Returns.val fn27 (by simp) fun h1 h2 => ⟨ansV_ok hl, ?_⟩
  simp [code27]
  have hs : Sub h (h.alloc (.cells 34 [.int .i64 0, .int .i64 0, .int .i64 0, .nils])) := Sub.alloc h1 (Sub.refl _)
  refine (fn33_ok l v 2 _ hl (hB.sub hs)).to ?_
  have hbl : (∀ x ∈ ((getF l).getD (0, [], 0)).2.1, x < 256) ∧ ((getF l).getD (0, [], 0)).2.1.length ≤ 4000 := by
    cases hg : getF l with
    | none => simp
    | some q => obtain ⟨k, b, n⟩ := q; exact getF_some hg hl
  have hans : ans l = if ((getF l).isSome && decide (((getF l).getD (0, [], 0)).1 = 2) && decide (((getF l).getD (0, [], 0)).2.2 = l.length)) = true then body3 ((getF l).getD (0, [], 0)).2.1 else none := by
    unfold ans
    cases getF l with
    | none => simp
    | some q => simp
  generalize ((getF l).isSome && decide (((getF l).getD (0, [], 0)).1 = 2) && decide (((getF l).getD (0, [], 0)).2.2 = l.length)) = ok at *
  generalize ((getF l).getD (0, [], 0)).2.1 = b at *
  have b1 := numL_lt hbl.1
  have b2 := numL_lt b1
  have b3 := numL_lt b2
  have c1 := numL_len b
  have c2 := numL_len (numL b)
  have c3 := numL_len (numL (numL b))
  simp
  refine (fn34_ok b ok (h.next + 1) _ hbl.1 (by simp)).to ?_
  simp
  refine (fn35_ok (numL (numL b)) (numB 2147483647 (numL b) (numB 2147483647 b ok)) (h.next + 1) 12 _ b2 (by decide) (by simp)).to ?_
  have hch := chain b ok
  have hchn := chain_none b
  generalize hok3 : numB 12 (numL (numL b)) (numB 2147483647 (numL b) (numB 2147483647 b ok)) = ok3 at *
  cases ok3 with
  | false =>
    have hno : ans l = none := by
      rw [hans]
      cases ok with
      | false => rfl
      | true => simpa using hchn hok3
    simp [rdO, hno, ansV, noRp]
    repeat' (first | exact Sub.refl _ | refine Sub.put_both ?_ | refine Sub.alloc h1 ?_ | refine Sub.put h1 ?_ (by simp) | refine Sub.drop h1 ?_ (by simp))
  | true =>
    obtain ⟨rfl, e, s, x, v1, v2, v3, hb3⟩ := hch rfl
    rw [v1, v2, v3]
    have hi64 : IntKind.i64.wrap (x : Int) = x := by
      obtain ⟨_, x', r3, v3'⟩ := numB_true hok3
      have := (rd_lt r3 b2).2.2
      rw [v3] at v3'
      exact wrap_i64 (by omega) (by omega)
    have hlen : (numL (numL (numL b))).length ≤ big := by simp only [big]; omega
    have hans2 : ans l = body3 b := by rw [hans]; rfl
    by_cases hx : x = 0
    · have hans3 : ans l = some ⟨⟨e, s⟩, x, numL (numL (numL b))⟩ := by rw [hans2, hb3]; simp [hx]
      simp [rdO, hx]
      refine (fn24_ok _ _ _ (.vec _ _) hlen).to ?_
      simp [hans3, ansV, hx]
      repeat' (first | exact Sub.refl _ | refine Sub.put_both ?_ | refine Sub.alloc h1 ?_ | refine Sub.put h1 ?_ (by simp) | refine Sub.drop h1 ?_ (by simp))
    · by_cases hn : numL (numL (numL b)) = []
      · have hans3 : ans l = some ⟨⟨e, s⟩, x, numL (numL (numL b))⟩ := by rw [hans2, hb3]; simp [hn]
        simp [rdO, hx, hn]
        refine (fn24_ok [] _ _ (.vec _ _) (by decide)).to ?_
        simp [hans3, ansV, hn]
        repeat' (first | exact Sub.refl _ | refine Sub.put_both ?_ | refine Sub.alloc h1 ?_ | refine Sub.put h1 ?_ (by simp) | refine Sub.drop h1 ?_ (by simp))
      · have hans3 : ans l = none := by rw [hans2, hb3]; simp [hx, hn]
        have hpos : 0 < (numL (numL (numL b))).length := List.length_pos_iff.2 hn
        simp [rdO, hx, hpos, hans3, ansV, noRp]
        repeat' (first | exact Sub.refl _ | refine Sub.put_both ?_ | refine Sub.alloc h1 ?_ | refine Sub.put h1 ?_ (by simp) | refine Sub.drop h1 ?_ (by simp))
end Go.Proofs.Ytbjifmoiblicgaa.Ab
