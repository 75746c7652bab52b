/- Replies of bytes: the reference's walk. -/
import Derived.Test.YtbjifmoiblicgaaSvB
set_option linter.unusedVariables false
set_option linter.unusedSimpArgs false
namespace Go.Proofs.Ytbjifmoiblicgaa.Ab
open Go

def rdV (o : Option (Nat × List Nat)) : AVal := .tup [.int .i64 (o.getD (0, [])).1, .vec 1 false (bVs (o.getD (0, [])).2), .bool o.isSome]
theorem rdV_ok {n most : Nat} {l : List Nat} (hl : l.length ≤ huge) : (rdV (rd most l)).ok n := by
  cases h : rd most l with
  | none => simp [rdV, AVal.ok, AVal.oks]
  | some q =>
    obtain ⟨v, l'⟩ := q
    have : l'.length ≤ l.length := by
      unfold rd at h
      split at h
      · split at h
        · cases h; simp
        · cases h
      · cases h
    simp [rdV, AVal.ok, AVal.oks]; omega
theorem fn39_ok (l : List Nat) (h : AHeap) (hl : ∀ b ∈ l, b < 256) : Returns Try.prog 39 [.vec 1 false (bVs l)] h (rdV (rd 2147483647 l)) h := by
  refine ACalls.facts (isBody_of fn39) fun _ hv => ?_
  simp [AVal.oks, AVal.ok] at hv
  refine Returns.val fn39 (by simp) fun h1 h2 => ⟨rdV_ok hv, ?_⟩
  simp [code39]
  refine (fn45_ok l _ h hl (.vec _ _)).to ?_
  cases hg : getU l with
  | none => simp [rd, hg, rdV]
  | some q =>
    obtain ⟨v, n⟩ := q
    obtain ⟨g1, g2, g3, g4, g5⟩ := getU_some hg
    have hsl := vec_slice false l (some (n : Int)) none n l.length rfl rfl (by omega) (by omega)
    simp at hsl
    by_cases hv : 2147483648 ≤ v
    · have : ¬ v ≤ 2147483647 := by omega
      simp [rd, hg, hv, this, rdV]
    · have : v ≤ 2147483647 := by omega
      have hw : IntKind.i64.wrap (v : Int) = v := wrap_i64 (by omega) (by omega)
      simp [rd, hg, hv, this, rdV, hw, hsl]
/-- A body's call, and what is behind it. -/
def r1 (b : List Nat) : Nat × List Nat := (rd 2147483647 b).getD (0, [])
def bodC (b : List Nat) : Cl := ⟨(r1 b).1, (r1 (r1 b).2).1⟩
def bodL (b : List Nat) : List Nat := (r1 (r1 b).2).2
def bodB (b : List Nat) : Bool := (rd 2147483647 b).isSome && (rd 2147483647 (r1 b).2).isSome
def isK (k : Nat) (l : List Nat) : Bool := (getF l).isSome && decide (((getF l).getD (0, [], 0)).1 = k) && decide (((getF l).getD (0, [], 0)).2.2 = l.length)
def bdy (l : List Nat) : List Nat := ((getF l).getD (0, [], 0)).2.1
def bodV (k : Nat) (l : List Nat) : AVal := if isK k l then .tup [clV (bodC (bdy l)), .vec 1 false (bVs (bodL (bdy l))), .bool (bodB (bdy l))] else .tup [clV ⟨0, 0⟩, .vec 1 false [], .bool false]
theorem r1_lt {b : List Nat} (hl : ∀ x ∈ b, x < 256) : (∀ x ∈ (r1 b).2, x < 256) ∧ (r1 b).2.length ≤ b.length := by
  unfold r1
  cases h : rd 2147483647 b with
  | none => simp
  | some q => obtain ⟨v, l'⟩ := q; have := rd_lt h hl; exact ⟨this.1, this.2.1⟩
theorem bdy_lt {l : List Nat} (hl : ∀ x ∈ l, x < 256) : (∀ x ∈ bdy l, x < 256) ∧ (bdy l).length ≤ 4000 := by
  unfold bdy
  cases hg : getF l with
  | none => simp
  | some q => obtain ⟨k, b, n⟩ := q; exact getF_some hg hl
theorem bodL_lt {l : List Nat} (hl : ∀ x ∈ l, x < 256) : (∀ x ∈ bodL (bdy l), x < 256) ∧ (bodL (bdy l)).length ≤ 4000 := by
  have h1 := bdy_lt hl
  have h2 := r1_lt h1.1
  have h3 := r1_lt h2.1
  exact ⟨h3.1, Nat.le_trans h3.2 (Nat.le_trans h2.2 h1.2)⟩
theorem bodV_ok {n k : Nat} {l : List Nat} (hl : ∀ x ∈ l, x < 256) : (bodV k l).ok n := by
  unfold bodV
  have := (bodL_lt hl).2
  split <;> simp [AVal.ok, AVal.oks, huge]
  omega
theorem fn38_ok (l : List Nat) (f : Bool) (k : Nat) (h : AHeap) (hl : ∀ b ∈ l, b < 256) : Returns Try.prog 38 [.vec 1 f (bVs l), bV k] h (bodV k l) h := by
  refine Returns.val fn38 (by simp) fun h1 h2 => ⟨bodV_ok hl, ?_⟩
  simp [code38]
  refine (fn44_ok l f _ hl).to ?_
  have hb := bdy_lt hl
  have hr := r1_lt hb.1
  cases hg : getF l with
  | none =>
    simp [bodV, isK, hg]
    repeat' (first | exact Sub.refl _ | refine Sub.put_both ?_ | refine Sub.alloc h1 ?_ | refine Sub.put h1 ?_ (by simp) | refine Sub.drop h1 ?_ (by simp))
  | some q =>
    obtain ⟨k', b, n⟩ := q
    have hbd : bdy l = b := by simp [bdy, hg]
    by_cases c1 : k' = k
    case neg =>
      simp [bodV, isK, hg, c1]
      repeat' (first | exact Sub.refl _ | refine Sub.put_both ?_ | refine Sub.alloc h1 ?_ | refine Sub.put h1 ?_ (by simp) | refine Sub.drop h1 ?_ (by simp))
    by_cases c2 : n = l.length
    case neg =>
      simp [bodV, isK, hg, c1, c2]
      repeat' (first | exact Sub.refl _ | refine Sub.put_both ?_ | refine Sub.alloc h1 ?_ | refine Sub.put h1 ?_ (by simp) | refine Sub.drop h1 ?_ (by simp))
    rw [hbd] at hb hr
    simp [c1, c2]
    refine (fn39_ok b _ hb.1).to ?_
    simp only [rdV]
    simp
    refine (fn39_ok (r1 b).2 _ hr.1).to ?_
    have e1 : (rd 2147483647 b).getD (0, []) = r1 b := rfl
    have e2 : (rd 2147483647 (r1 b).2).getD (0, []) = r1 (r1 b).2 := rfl
    cases hs : (rd 2147483647 b).isSome with
    | true =>
      simp [bodV, isK, hg, c1, c2, rdV, bodC, bodL, bodB, hbd, hs, e1, e2]
      repeat' (first | exact Sub.refl _ | refine Sub.put_both ?_ | refine Sub.alloc h1 ?_ | refine Sub.put h1 ?_ (by simp) | refine Sub.drop h1 ?_ (by simp))
    | false =>
      simp [bodV, isK, hg, c1, c2, rdV, bodC, bodL, bodB, hbd, hs, e1, e2]
      repeat' (first | exact Sub.refl _ | refine Sub.put_both ?_ | refine Sub.alloc h1 ?_ | refine Sub.put h1 ?_ (by simp) | refine Sub.drop h1 ?_ (by simp))
theorem rd_le {m1 m2 : Nat} (hm : m1 ≤ m2) (l : List Nat) : rd m1 l = match rd m2 l with | some (v, l') => if v ≤ m1 then some (v, l') else none | none => none := by
  unfold rd
  cases getU l with
  | none => rfl
  | some q =>
    obtain ⟨v, n⟩ := q
    simp only
    by_cases h1 : v ≤ m1
    · rw [if_pos h1, if_pos (by omega)]; simp [h1]
    · rw [if_neg h1]
      split
      · rename_i h; split at h
        · cases h; rw [if_neg h1]
        · cases h
      · rfl
theorem ans_eq (l : List Nat) : ans l = if isK 2 l = true then body3 (bdy l) else none := by
  unfold ans isK bdy
  cases getF l with
  | none => simp
  | some q => simp
theorem fn29_ok (l : List Nat) (f : Bool) (h : AHeap) (hl : ∀ b ∈ l, b < 256) : Returns Try.prog 29 [.vec 1 f (bVs l)] h (ansV (ans l)) h := by
  refine Returns.val fn29 (by simp) fun h1 h2 => ⟨ansV_ok hl, ?_⟩
  simp [code29]
  refine (fn38_ok l f 2 _ hl).to ?_
  rw [ans_eq]
  cases hk : isK 2 l with
  | false =>
    simp [bodV, hk]
    refine (fn39_ok [] _ (by simp)).to ?_
    simp [rdV, ansV, noRp]
    repeat' (first | exact Sub.refl _ | refine Sub.put_both ?_ | refine Sub.alloc h1 ?_ | refine Sub.put h1 ?_ (by simp) | refine Sub.drop h1 ?_ (by simp))
  | true =>
    have hb := bodL_lt hl
    simp [bodV, hk]
    refine (fn39_ok (bodL (bdy l)) _ hb.1).to ?_
    generalize bdy l = b at *
    have h12 := rd_le (m1 := 12) (m2 := 2147483647) (by decide) (bodL b)
    cases hbb : bodB b with
    | false =>
      have : body3 b = none := by
        unfold bodB r1 at hbb
        unfold body3
        cases h1 : rd 2147483647 b with
        | none => rfl
        | some q =>
          rw [h1] at hbb
          simp only [Option.getD_some, Option.isSome_some, Bool.true_and] at hbb
          cases h2 : rd 2147483647 q.2 with
          | none => simp [h2]
          | some q2 => rw [h2] at hbb; simp at hbb
      simp [rdV, ansV, noRp, this]
      repeat' (first | exact Sub.refl _ | refine Sub.put_both ?_ | refine Sub.alloc h1 ?_ | refine Sub.put h1 ?_ (by simp) | refine Sub.drop h1 ?_ (by simp))
    | true =>
      have hb3 : body3 b = match rd 12 (bodL b) with | none => none | some (x, b3) => if x ≠ 0 ∧ b3 ≠ [] then none else some ⟨bodC b, x, b3⟩ := by
        unfold bodB r1 at hbb
        unfold body3 bodL bodC r1
        cases h1 : rd 2147483647 b with
        | none => rw [h1] at hbb; simp at hbb
        | some q =>
          rw [h1] at hbb
          simp only [Option.getD_some, Option.isSome_some, Bool.true_and] at hbb
          cases h2 : rd 2147483647 q.2 with
          | none => rw [h2] at hbb; simp at hbb
          | some q2 =>
            simp only [h2, Option.getD_some]
            cases rd 12 q2.2 <;> rfl
      rw [hb3, h12]
      cases h3 : rd 2147483647 (bodL b) with
      | none =>
        simp [rdV, ansV, noRp]
        repeat' (first | exact Sub.refl _ | refine Sub.put_both ?_ | refine Sub.alloc h1 ?_ | refine Sub.put h1 ?_ (by simp) | refine Sub.drop h1 ?_ (by simp))
      | some q =>
        obtain ⟨x, b3⟩ := q
        by_cases hx12 : x ≤ 12
        case neg =>
          have : 12 < x := by omega
          simp [rdV, ansV, noRp, hx12, this]
          repeat' (first | exact Sub.refl _ | refine Sub.put_both ?_ | refine Sub.alloc h1 ?_ | refine Sub.put h1 ?_ (by simp) | refine Sub.drop h1 ?_ (by simp))
        have hn12 : ¬ 12 < x := by omega
        by_cases hx : x = 0
        · simp [rdV, ansV, hx]
          repeat' (first | exact Sub.refl _ | refine Sub.put_both ?_ | refine Sub.alloc h1 ?_ | refine Sub.put h1 ?_ (by simp) | refine Sub.drop h1 ?_ (by simp))
        · by_cases hn : b3 = []
          · simp [rdV, ansV, hx, hn, hx12, hn12]
            repeat' (first | exact Sub.refl _ | refine Sub.put_both ?_ | refine Sub.alloc h1 ?_ | refine Sub.put h1 ?_ (by simp) | refine Sub.drop h1 ?_ (by simp))
          · have hpos : 0 < b3.length := List.length_pos_iff.2 hn
            simp [rdV, ansV, noRp, hx, hn, hx12, hn12, hpos]
            repeat' (first | exact Sub.refl _ | refine Sub.put_both ?_ | refine Sub.alloc h1 ?_ | refine Sub.put h1 ?_ (by simp) | refine Sub.drop h1 ?_ (by simp))
end Go.Proofs.Ytbjifmoiblicgaa.Ab
