/- The plain law of types normed. -/
import Derived.Test.YtcjlgmknclifmaaDoorTyJ
set_option linter.unusedVariables false
set_option linter.unusedSimpArgs false
namespace Go.Proofs.YtcjlgmknclifmaaDoor.Ab
open Go

def rng (n : Nat) : List Int := (List.range n).map fun i : Nat => (i : Int)
@[simp] theorem rng_length (n : Nat) : (rng n).length = n := by simp [rng]
theorem rng_succ (n : Nat) : rng (n + 1) = rng n ++ [(n : Int)] := by simp [rng, List.range_succ]
theorem rng_get {n i : Nat} (h : i < (rng n).length) : (rng n)[i] = (i : Int) := by simp [rng]
theorem mem_rng {n : Nat} {x : Int} : x ∈ rng n ↔ 0 ≤ x ∧ x < n := by
  simp only [rng, List.mem_map, List.mem_range]
  constructor
  · rintro ⟨i, hi, rfl⟩; omega
  · intro h; exact ⟨x.toNat, by omega, by omega⟩
theorem idxOf_rng {n i : Nat} (h : i < n) : idxOf (rng n) i = i :=
  idxOf_some (by simpa using h) (by rw [rng_get]) fun j hj hji => by rw [rng_get]; omega
theorem nodup_ne {l : List Int} (h : l.Nodup) {i j : Nat} (hi : i < l.length) (hji : j < i) : l[i] ≠ l[j] := by
  have := (List.pairwise_iff_getElem.1 h) j i (by omega) hi hji
  exact fun e => this e.symm
theorem idxOf_nodup {l : List Int} (h : l.Nodup) {i : Nat} (hi : i < l.length) : idxOf l l[i] = i :=
  idxOf_some hi rfl fun j hj hji => nodup_ne h hi hji
theorem adds_pre (t : Ty) : ∀ l, ∃ r, adds l t = l ++ r := by
  refine Ty.ind (motive := fun t => ∀ l, ∃ r, adds l t = l ++ r) (fun op n ks ih => ?_) t
  have go : ∀ (ks : List Ty), (∀ k ∈ ks, ∀ l, ∃ r, adds l k = l ++ r) → ∀ l, ∃ r, addsL l ks = l ++ r := by
    intro ks
    induction ks with
    | nil => intro _ l; exact ⟨[], by simp [addsL]⟩
    | cons k ks ih2 =>
      intro ih l
      obtain ⟨r1, h1⟩ := ih k (by simp) l
      obtain ⟨r2, h2⟩ := ih2 (fun k hk => ih k (by simp [hk])) (adds l k)
      exact ⟨r1 ++ r2, by rw [addsL, h2, h1, List.append_assoc]⟩
  intro l
  simp only [adds]
  by_cases c : op = sVar ∧ n ∉ l
  · rw [if_pos c]
    obtain ⟨r, hr⟩ := go ks ih (l ++ [n])
    exact ⟨[n] ++ r, by rw [hr, List.append_assoc]⟩
  · rw [if_neg c]
    exact go ks ih l
theorem addsL_pre (ks : List Ty) : ∀ l, ∃ r, addsL l ks = l ++ r := by
  induction ks with
  | nil => intro l; exact ⟨[], by simp [addsL]⟩
  | cons k ks ih2 =>
    intro l
    obtain ⟨r1, h1⟩ := adds_pre k l
    obtain ⟨r2, h2⟩ := ih2 (adds l k)
    exact ⟨r1 ++ r2, by rw [addsL, h2, h1, List.append_assoc]⟩
theorem adds_nodup (t : Ty) : ∀ l : List Int, l.Nodup → (adds l t).Nodup := by
  refine Ty.ind (motive := fun t => ∀ l : List Int, l.Nodup → (adds l t).Nodup) (fun op n ks ih => ?_) t
  have go : ∀ (ks : List Ty), (∀ k ∈ ks, ∀ l : List Int, l.Nodup → (adds l k).Nodup) → ∀ l : List Int, l.Nodup → (addsL l ks).Nodup := by
    intro ks
    induction ks with
    | nil => intro _ l hl; simpa [addsL] using hl
    | cons k ks ih2 =>
      intro ih l hl
      rw [addsL]
      exact ih2 (fun k hk => ih k (by simp [hk])) _ (ih k (by simp) l hl)
  intro l hl
  simp only [adds]
  by_cases c : op = sVar ∧ n ∉ l
  · rw [if_pos c]
    refine go ks ih _ ?_
    rw [List.nodup_append]
    refine ⟨hl, by simp, ?_⟩
    intro a ha b hb
    simp at hb; subst hb
    exact fun e => c.2 (e ▸ ha)
  · rw [if_neg c]
    exact go ks ih l hl
/-- The numbers of what is normed, as they come. -/
theorem adds_nrm (L : List Int) (hL : L.Nodup) (t : Ty) : good t = true → ∀ l, (∃ r, L = adds l t ++ r) → adds (rng l.length) (nrm L t) = rng (adds l t).length := by
  refine Ty.ind (motive := fun t => good t = true → ∀ l, (∃ r, L = adds l t ++ r) → adds (rng l.length) (nrm L t) = rng (adds l t).length) (fun op n ks ih => ?_) t
  intro hg l ⟨r, hr⟩
  obtain ⟨g1, g2, g3, g4⟩ := good_ops hg
  by_cases c : op = sVar
  · subst c
    have hk : ks = [] := by
      rcases g4 with ⟨h, _⟩ | ⟨a, _, h⟩ | ⟨a, b, _, h⟩
      · exact h
      · rcases h with h | h <;> exact absurd h (by decide)
      · rcases h with h | h <;> exact absurd h (by decide)
    subst hk
    rw [nrm_mk, if_pos rfl]
    simp only [adds, addsL] at hr ⊢
    by_cases hn : n ∈ l
    · simp only [hn, not_true, and_false, if_false] at hr
      have hm : idxOf L n ∈ rng l.length := by
        obtain ⟨i, hi, rfl⟩ := List.getElem_of_mem hn
        have hiL : i < L.length := by rw [hr]; simp; omega
        have e : l[i] = L[i] := by subst hr; simp [List.getElem_append_left hi]
        rw [e, idxOf_nodup hL hiL]
        exact mem_rng.2 ⟨by omega, by omega⟩
      simp [hn, hm]
    · simp only [hn, not_false_iff, and_self, if_true] at hr
      have hiL : l.length < L.length := by rw [hr]; simp
      have e : n = L[l.length] := by subst hr; simp
      have hi : idxOf L n = (l.length : Int) := by rw [e]; exact idxOf_nodup hL hiL
      have hm : (l.length : Int) ∉ rng l.length := fun h => by have := mem_rng.1 h; omega
      simp [hn, hi, hm, rng_succ]
  · rw [nrm_mk, if_neg c]
    simp only [adds]
    simp only [adds, c, false_and, if_false] at hr ⊢
    have go : ∀ (ks : List Ty), (∀ k ∈ ks, good k = true → ∀ l, (∃ r, L = adds l k ++ r) → adds (rng l.length) (nrm L k) = rng (adds l k).length) → (∀ k ∈ ks, good k = true) → ∀ l, (∃ r, L = addsL l ks ++ r) → addsL (rng l.length) (ks.map (nrm L)) = rng (addsL l ks).length := by
      intro ks
      induction ks with
      | nil => intro _ _ l _; simp [addsL]
      | cons k ks ih2 =>
        intro ih hg l ⟨r, hr⟩
        simp only [List.map_cons, addsL] at hr ⊢
        obtain ⟨r2, h2⟩ := addsL_pre ks (adds l k)
        rw [ih k (by simp) (hg k (by simp)) l ⟨r2 ++ r, by rw [hr, h2, List.append_assoc]⟩]
        exact ih2 (fun k hk => ih k (by simp [hk])) (fun k hk => hg k (by simp [hk])) _ ⟨r, hr⟩
    exact go ks ih g1 l ⟨r, hr⟩
theorem allN_adds (L : List Int) (t : Ty) : ∀ l, (∃ r, L = adds l t ++ r) → allN (fun n => n ∈ L) t := by
  refine Ty.ind (motive := fun t => ∀ l, (∃ r, L = adds l t ++ r) → allN (fun n => n ∈ L) t) (fun op n ks ih => ?_) t
  intro l ⟨r, hr⟩
  simp only [allN, allNs_mem]
  simp only [adds] at hr
  constructor
  · intro c
    by_cases hn : n ∈ l
    · rw [if_neg (by simp [hn])] at hr
      obtain ⟨r2, h2⟩ := addsL_pre ks l
      rw [hr, h2]; simp [hn]
    · rw [if_pos ⟨c, hn⟩] at hr
      obtain ⟨r2, h2⟩ := addsL_pre ks (l ++ [n])
      rw [hr, h2]; simp
  · have go : ∀ (ks : List Ty), (∀ k ∈ ks, ∀ l, (∃ r, L = adds l k ++ r) → allN (fun n => n ∈ L) k) → ∀ l, (∃ r, L = addsL l ks ++ r) → ∀ k ∈ ks, allN (fun n => n ∈ L) k := by
      intro ks
      induction ks with
      | nil => intro _ l _ k hk; simp at hk
      | cons k ks ih2 =>
        intro ih l ⟨r, hr⟩ x hx
        simp only [addsL] at hr
        obtain ⟨r2, h2⟩ := addsL_pre ks (adds l k)
        rcases List.mem_cons.1 hx with rfl | hx
        · exact ih x (by simp) l ⟨r2 ++ r, by rw [hr, h2, List.append_assoc]⟩
        · exact ih2 (fun k hk => ih k (by simp [hk])) _ ⟨r, hr⟩ x hx
    exact go ks ih _ ⟨r, hr⟩
theorem nrm_nrm (L : List Int) (hL : L.Nodup) (t : Ty) : allN (fun n => n ∈ L) t → nrm (rng L.length) (nrm L t) = nrm L t := by
  refine Ty.ind (motive := fun t => allN (fun n => n ∈ L) t → nrm (rng L.length) (nrm L t) = nrm L t) (fun op n ks ih => ?_) t
  intro ha
  simp only [allN, allNs_mem] at ha
  rw [nrm_mk]
  by_cases c : op = sVar
  · rw [if_pos c, nrm_mk, if_pos rfl]
    obtain ⟨i, hi, he⟩ := List.getElem_of_mem (ha.1 c)
    rw [← he, idxOf_nodup hL hi, idxOf_rng hi]
  · rw [if_neg c, nrm_mk, if_neg c, List.map_map]
    congr 1
    exact List.map_congr_left fun k hk => ih k hk (ha.2 k hk)
theorem sz_nrm (L : List Int) (t : Ty) : sz (nrm L t) ≤ sz t := by
  refine Ty.ind (motive := fun t => sz (nrm L t) ≤ sz t) (fun op n ks ih => ?_) t
  rw [nrm_mk]
  split
  · simp [sz, szs]
  · simp only [sz]
    have go : ∀ (ks : List Ty), (∀ k ∈ ks, sz (nrm L k) ≤ sz k) → szs (ks.map (nrm L)) ≤ szs ks := by
      intro ks
      induction ks with
      | nil => intro _; simp [szs]
      | cons k ks ih2 =>
        intro ih
        have h1 := ih k (by simp)
        have h2 := ih2 (fun k hk => ih k (by simp [hk]))
        simp only [List.map_cons, szs]; omega
    have := go ks ih
    omega
theorem vars_norm (t : Ty) (hg : good t = true) : vars (norm t) = rng (vars t).length := by
  have := adds_nrm (vars t) (adds_nodup t [] (by simp)) t hg [] ⟨[], by simp [vars]⟩
  simpa [vars, norm, rng] using this
theorem norm_norm (t : Ty) (hg : good t = true) : norm (norm t) = norm t := by
  show nrm (vars (norm t)) (norm t) = norm t
  rw [vars_norm t hg]
  exact nrm_nrm (vars t) (adds_nodup t [] (by simp)) t (allN_adds _ t [] ⟨[], by simp [vars]⟩)
theorem sz_norm (t : Ty) : sz (norm t) ≤ sz t := sz_nrm _ t
end Go.Proofs.YtcjlgmknclifmaaDoor.Ab
