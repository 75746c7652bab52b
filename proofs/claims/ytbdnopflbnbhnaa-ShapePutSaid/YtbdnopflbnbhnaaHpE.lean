/- ShapePut: the walk. -/
import Derived.Test.YtbdnopflbnbhnaaHpD
set_option linter.unusedVariables false
set_option linter.unusedSimpArgs false
namespace Go.Proofs.Ytbdnopflbnbhnaa.Ab
open Go

theorem textW_strW (s : ByteArray) : textW (strW s) = s := by
  have h1 : ∀ k, k < s.size → byteW (2 * byteI s k + 1) = s.data.toList[k]?.getD 0 := by
    intro k hk
    obtain ⟨b1, b2, b3, b4⟩ := byteI_at hk
    have : (2 * byteI s k + 1) / 2 = byteI s k := by omega
    rw [byteW, this, b2]
    have h3 : s.data.toList[k]? = some s[k] := by
      rw [List.getElem?_eq_getElem (by simpa using hk)]
      rfl
    rw [h3]
    simp
  unfold textW strW
  have : ((List.range s.size).map fun k => 2 * byteI s k + 1).map byteW = s.data.toList := by
    rw [List.map_map]
    refine List.ext_getElem? fun k => ?_
    by_cases hk : k < s.size
    · have h2 := h1 k hk
      rw [List.getElem?_eq_getElem (by simpa using hk)] at h2 ⊢
      simp only [List.getElem_map, List.getElem_range, Function.comp_def, Option.getD_some] at h2 ⊢
      rw [h2, List.getElem?_eq_getElem (by simpa using hk)]
    · rw [List.getElem?_eq_none (by simpa using hk), List.getElem?_eq_none (by simpa using hk)]
  rw [this]
theorem okW_strW (s : ByteArray) : ∀ x ∈ strW s, okW x := by
  intro x hx
  simp only [strW, List.mem_map, List.mem_range] at hx
  obtain ⟨k, hk, rfl⟩ := hx
  obtain ⟨b1, b2, b3, b4⟩ := byteI_at hk
  exact ⟨by omega, by omega, by omega⟩
theorem Rep_new (h : AHeap) (n : Int) : Rep ((h.alloc (.map [])).alloc (.cells 68 [.int .i64 n, .int .i64 0, .map h.next])) (h.next + 1) h.next n 0 [] :=
  ⟨by simp, by simp, by simp⟩
theorem fn4_ok (s : ByteArray) (n : Int) (h : AHeap) : Returns Try.prog 4 [.str s, .int .i64 n] h (.bool true) h := by
  refine Returns.pure fn4 (by simp) fun h1 h2 => ⟨by simp [AVal.ok], ?_⟩
  simp [code4]
  by_cases c1 : (100 : Int) < s.size
  · simp [c1]
  by_cases c2 : n < 0
  · simp [c1, c2]
  by_cases c3 : 200 < n
  · simp [c1, c2, c3]
  simp [c1, c2, c3]
  refine (fn11_ok n h (by omega) (by omega)).to ?_
  simp
  have hsub : Sub h ((h.alloc (.map [])).alloc (.cells 68 [.int .i64 n, .int .i64 0, .map h.next])) := Sub.alloc h1 (Sub.alloc h1 (Sub.refl _))
  have O : RepOk n 0 [] := ⟨by omega, by omega, by omega, by simp⟩
  have hw : IntKind.i64.wrap (↑s.size + 1) = ↑s.size + 1 := wrap_i64 (by omega) (by omega)
  by_cases c4 : 1 + (s.size : Int) ≤ n - 0
  · refine (fn12_ok (Rep_new h n) O (by omega) c4).mono fun v h' hn ⟨k1, k2, b, x, k3⟩ => ?_
    subst k1
    have c5 : (s.size : Int) + 1 ≤ n := by omega
    simp [hw, c5]
    refine (fn13_ok k3 0 (by simp; omega)).to ?_
    have hg : getE ([] ++ [⟨2 * 0, 1, strW s, b, x⟩]) 0 = some ⟨2 * 0, 1, strW s, b, x⟩ := by simp [getE]
    have hall : ∀ y ∈ strW s, okW y := okW_strW s
    have ht : ((∀ y ∈ strW s, okW y) : Prop) = True := by simp only [eq_iff_iff, iff_true]; exact hall
    simp only [hg, ht, and_self, if_true, textW_strW]
    simp
    refine (fn14_ok k3).to ?_
    have c6 : (1 : Int) + s.size = s.size + 1 := by omega
    simp [hw, c6]
    refine (fn15_ok k3 0).to ?_
    simp only [hg]
    simp
    refine (fn10_ok _).to ?_
    simp
    have hm := h1
    refine ⟨Nat.le_trans hsub.1 k2.1, fun id o ho => ?_⟩
    have := (h1 id o ho).1
    exact k2.2 id o (by omega) (by omega) (hsub.2 id o ho)
  · refine (fn12_no (Rep_new h n) O (by omega) (by omega)).to ?_
    have c5 : ¬ (s.size : Int) + 1 ≤ n := by omega
    simp [hw, c5]
    refine (fn13_ok (Rep_new h n) 0 (by simp)).to ?_
    simp [getE]
    refine (fn10_ok _).to ?_
    simpa using hsub
end Go.Proofs.Ytbdnopflbnbhnaa.Ab
