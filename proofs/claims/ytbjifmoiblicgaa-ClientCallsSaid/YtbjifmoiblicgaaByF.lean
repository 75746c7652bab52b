/- Numbers of bytes: the walks. -/
import Derived.Test.YtbjifmoiblicgaaByE
set_option linter.unusedVariables false
set_option linter.unusedSimpArgs false
namespace Go.Proofs.Ytbjifmoiblicgaa.Ab
open Go

theorem fn48_ok (b : Nat) (h : AHeap) : Returns Try.prog 48 [bV b] h (.bool (decide (b < 128))) h := by
  refine Returns.val fn48 (by simp) fun h1 h2 => ⟨by simp [AVal.ok], ?_⟩
  simp [code48]
def tab8 : ByteArray := ⟨#[0, 1, 2, 2, 3, 3, 3, 3, 4, 4, 4, 4, 4, 4, 4, 4, 5, 5, 5, 5, 5, 5, 5, 5, 5, 5, 5, 5, 5, 5, 5, 5, 6, 6, 6, 6, 6, 6, 6, 6, 6, 6, 6, 6, 6, 6, 6, 6, 6, 6, 6, 6, 6, 6, 6, 6, 6, 6, 6, 6, 6, 6, 6, 6, 7, 7, 7, 7, 7, 7, 7, 7, 7, 7, 7, 7, 7, 7, 7, 7, 7, 7, 7, 7, 7, 7, 7, 7, 7, 7, 7, 7, 7, 7, 7, 7, 7, 7, 7, 7, 7, 7, 7, 7, 7, 7, 7, 7, 7, 7, 7, 7, 7, 7, 7, 7, 7, 7, 7, 7, 7, 7, 7, 7, 7, 7, 7, 7, 8, 8, 8, 8, 8, 8, 8, 8, 8, 8, 8, 8, 8, 8, 8, 8, 8, 8, 8, 8, 8, 8, 8, 8, 8, 8, 8, 8, 8, 8, 8, 8, 8, 8, 8, 8, 8, 8, 8, 8, 8, 8, 8, 8, 8, 8, 8, 8, 8, 8, 8, 8, 8, 8, 8, 8, 8, 8, 8, 8, 8, 8, 8, 8, 8, 8, 8, 8, 8, 8, 8, 8, 8, 8, 8, 8, 8, 8, 8, 8, 8, 8, 8, 8, 8, 8, 8, 8, 8, 8, 8, 8, 8, 8, 8, 8, 8, 8, 8, 8, 8, 8, 8, 8, 8, 8, 8, 8, 8, 8, 8, 8, 8, 8, 8, 8, 8, 8, 8, 8, 8, 8, 8, 8, 8, 8, 8, 8]⟩
theorem code49_eq : code49 = (.seq (.ops [⟨(some 2), (.move (.con (.int .i64 0))), none⟩])
 (.seq (.ops [⟨(some 3), (.move (.tmp 0)), none⟩,
  ⟨(some 4), (.index (.con (.str tab8)) (.tmp 3)), none⟩,
  ⟨(some 5), (.conv .i64 (.tmp 4)), none⟩,
  ⟨(some 2), (.move (.tmp 5)), none⟩])
 .ret)) := by kernel_rfl
theorem tab8_at (b : Nat) (hb : b < 256) : tab8[b]? = some (UInt8.ofNat (len8 b)) := by
  have key : ∀ b : Fin 256, tab8[(b : Nat)]? = some (UInt8.ofNat (len8 b)) := by decide +kernel
  exact key ⟨b, hb⟩
theorem fn49_ok (b : Nat) (hb : b < 256) (h : AHeap) : Returns Try.prog 49 [bV b] h (.int .i64 (len8 b)) h := by
  refine Returns.val fn49 (by simp) fun h1 h2 => ⟨by simp [AVal.ok], ?_⟩
  have hl : len8 b ≤ 8 := by
    have : ∀ b : Fin 256, len8 b ≤ 8 := by decide +kernel
    exact this ⟨b, hb⟩
  have hw : IntKind.i64.wrap (len8 b : Int) = len8 b := wrap_i64 (by omega) (by omega)
  have hm : (len8 b : Int) % 256 = len8 b := by omega
  rw [code49_eq]
  simp [tab8_at b hb, hw, hm]
theorem fn47_ok (l : List Nat) (v : AVal) (h : AHeap) (hB : IsB h v l) : Returns Try.prog 47 [v, .clo 48 []] h (.int .i64 (match endU l with | some e => (e : Int) | none => -1)) h := by
  refine Returns.val fn47 (by simp) fun h1 h2 => ⟨by simp [AVal.ok], ?_⟩
  simp [AVal.oks, AVal.ok] at h2
  have hlen := hB.len_le h2
  simp only [huge] at hlen
  simp [code47, hB.lenV]
  refine Ev.countV (fun i => upd (upd (upd (upd noEnv 0 v) 1 (.clo 48 [])) 7 (.int .i64 l.length)) 8 (.int .i64 i)) l.length (fun i => ∀ j (hj : j < l.length), j < i → 128 ≤ l[j]) (fun _ => ⟨by simp, ?_⟩) ?_
  · repeat' (first | exact TidyV_none _ _ _ _ | (refine TidyV_upd (by simp [AVal.ok, AVal.oks, huge, big, h2] <;> omega) ?_))
  intro i hi I _
  by_cases hlt : i < l.length
  · obtain ⟨p, p1, p2⟩ := hB.at hlt
    have hw : IntKind.i64.wrap (↑i + 1) = ↑i + 1 := wrap_i64 (by omega) (by omega)
    simp [hlt, p1, p2]
    refine (fn48_ok l[i] h).to ?_
    by_cases hb : l[i] < 128
    · have : endU l = some i := by
        unfold endU
        rw [List.findIdx?_eq_some_iff_getElem]
        exact ⟨hlt, by simpa using hb, fun j hj => by have := I j (by omega) hj; simpa using this⟩
      simp [hb, this]
    · simp [hb, hw]
      intro _
      refine ⟨fun j hj hji => ?_, ?_⟩
      · by_cases he : j = i
        · subst he; omega
        · exact I j hj (by omega)
      · repeat' (first | exact TidyV_none _ _ _ _ | (refine TidyV_upd (by simp [AVal.ok, AVal.oks, huge, big, h2] <;> omega) ?_))
  · have : endU l = none := by
      unfold endU
      rw [List.findIdx?_eq_none_iff]
      intro x hx
      obtain ⟨j, hj, rfl⟩ := List.mem_iff_getElem.1 hx
      have := I j hj (by omega)
      simpa using this
    simp [hlt, this]
end Go.Proofs.Ytbjifmoiblicgaa.Ab
