/- Types normed, types that are one; numbers below 100 shown. -/
import Derived.Test.YtcjlgmknclifmaaDoorTyF
set_option linter.unusedVariables false
set_option linter.unusedSimpArgs false
namespace Go.Proofs.YtcjlgmknclifmaaDoor.Ab
open Go

def norm (t : Ty) : Ty := nrm (vars t) t
theorem fn16_ok (t : Ty) (h : AHeap) (hs : sz t ≤ 100000) : Returns Tryd.prog 16 [tyV t] h (tyV (norm t)) h := by
  refine Returns.val fn16 (by simp) fun h1 h2 => ?_
  simp only [AVal.oks, tyV_ok] at h2
  refine ⟨by rw [tyV_ok]; exact nrm_ok _ _ h2.1, ?_⟩
  have hc := fn13_ok t
  have hr := fn31_ok (vars t) t
  have he := tyV_eq (norm t)
  rw [tyV_eq t] at hc hr ⊢
  simp [code16]
  refine (hc _ hs).to ?_
  simp
  refine (hr _ hs).to ?_
  rw [show nrm (vars t) t = norm t from rfl, he]
  simp
  repeat' (first | exact Sub.refl _ | refine Sub.put_both ?_ | refine Sub.alloc h1 ?_ | refine Sub.put h1 ?_ (by simp) | refine Sub.drop h1 ?_ (by simp))

noncomputable def eqT (a b : Ty) : Bool := @decide (a = b) (Classical.propDecidable _)
theorem eqT_iff (a b : Ty) : eqT a b = true ↔ a = b := by simp [eqT]
theorem eqT_false (a b : Ty) : eqT a b = false ↔ a ≠ b := by simp [eqT]
theorem fn15_ok (a : Ty) : ∀ (b : Ty) (h : AHeap), Returns Tryd.prog 15 [tyV a, tyV b] h (.bool (eqT a b)) h := by
  refine Ty.ind (motive := fun a => ∀ (b : Ty) (h : AHeap), Returns Tryd.prog 15 [tyV a, tyV b] h (.bool (eqT a b)) h) (fun op n ks ih => ?_) a
  rintro ⟨op', n', ks'⟩ h
  refine Returns.val fn15 (by simp) fun h1 h2 => ⟨by simp [AVal.ok], ?_⟩
  simp only [AVal.oks, tyV_ok, TyOk_mk, huge] at h2
  obtain ⟨⟨hop, hlen, hko⟩, ⟨hop', hlen', hko'⟩, -⟩ := h2
  by_cases c1 : op = op'
  rotate_left
  · have : eqT (.mk op n ks) (.mk op' n' ks') = false := by rw [eqT_false]; intro e; cases e; exact c1 rfl
    simp [code15, tyV_mk, c1, this]
    repeat' (first | exact Sub.refl _ | refine Sub.put_both ?_ | refine Sub.alloc h1 ?_ | refine Sub.put h1 ?_ (by simp) | refine Sub.drop h1 ?_ (by simp))
  subst c1
  by_cases c2 : n = n'
  rotate_left
  · have : eqT (.mk op n ks) (.mk op n' ks') = false := by rw [eqT_false]; intro e; cases e; exact c2 rfl
    simp [code15, tyV_mk, c2, this]
    repeat' (first | exact Sub.refl _ | refine Sub.put_both ?_ | refine Sub.alloc h1 ?_ | refine Sub.put h1 ?_ (by simp) | refine Sub.drop h1 ?_ (by simp))
  subst c2
  by_cases c3 : ks.length = ks'.length
  rotate_left
  · have : eqT (.mk op n ks) (.mk op n ks') = false := by rw [eqT_false]; intro e; cases e; exact c3 rfl
    simp [code15, tyV_mk, c3, this]
    repeat' (first | exact Sub.refl _ | refine Sub.put_both ?_ | refine Sub.alloc h1 ?_ | refine Sub.put h1 ?_ (by simp) | refine Sub.drop h1 ?_ (by simp))
  simp [code15, tyV_mk, c3]
  refine Ev.countV (fun i => upd (upd (upd noEnv 2 (.ptr h.next 0)) 3 (.ptr (h.next + 1) 0)) 5 (.int .i64 i)) ks'.length (fun i => ∀ j (hj : j < ks.length) (hj' : j < ks'.length), j < i → ks[j] = ks'[j]) (fun _ => ⟨by simp, ?_⟩) ?_
  · repeat' (first | exact TidyV_none _ _ _ _ | (refine TidyV_upd (by simp [AVal.ok, AVal.oks, huge, big] <;> omega) ?_))
  intro i hi I hok
  by_cases hlt : i < ks'.length
  · have hlt' : i < ks.length := by omega
    have hw : IntKind.i64.wrap (↑i + 1) = ↑i + 1 := wrap_i64 (by omega) (by omega)
    have hc := ih ks[i] (List.getElem_mem hlt') ks'[i]
    rw [tyV_eq, tyV_eq ks'[i]] at hc
    simp [hlt, hlt', c3]
    refine (hc _).to ?_
    by_cases hb : ks[i] = ks'[i]
    · have hb' : eqT ks[i] ks'[i] = true := by rw [eqT_iff]; exact hb
      simp [hb', hw]
      intro _
      refine ⟨fun j hj hj' hji => ?_, ?_⟩
      · by_cases he : j = i
        · subst he; exact hb
        · exact I j (by omega) hj (by omega)
      · repeat' (first | exact TidyV_none _ _ _ _ | (refine TidyV_upd (by simp [AVal.ok, AVal.oks, huge, big, hlen, hlen', hko, hko'] <;> omega) ?_))
    · have hb' : eqT ks[i] ks'[i] = false := by rw [eqT_false]; exact hb
      have : eqT (.mk op n ks) (.mk op n ks') = false := by rw [eqT_false]; intro e; cases e; exact hb rfl
      simp [hb', this]
      repeat' (first | exact Sub.refl _ | refine Sub.put_both ?_ | refine Sub.alloc h1 ?_ | refine Sub.put h1 ?_ (by simp) | refine Sub.drop h1 ?_ (by simp))
  · have : eqT (.mk op n ks) (.mk op n ks') = true := by
      rw [eqT_iff]
      have : ks = ks' := List.ext_getElem c3 fun j h1 h2 => I j h1 h2 (by omega)
      rw [this]
    simp [hlt, c3, this]
    repeat' (first | exact Sub.refl _ | refine Sub.put_both ?_ | refine Sub.alloc h1 ?_ | refine Sub.put h1 ?_ (by simp) | refine Sub.drop h1 ?_ (by simp))
theorem fn47_0 (h : AHeap) : Returns Tryd.prog 47 [.int .i64 0] h (.str ⟨#[48]⟩) h := by
  refine Returns.val fn47 (by simp) fun h1 h2 => ⟨by simp [AVal.ok]; decide, ?_⟩
  have hs : sliceSV (.str ⟨#[48, 49, 50, 51, 52, 53, 54, 55, 56, 57, 97, 98, 99, 100, 101, 102, 103, 104, 105, 106, 107, 108, 109, 110, 111, 112, 113, 114, 115, 116, 117, 118, 119, 120, 121, 122]⟩) (some (.int .i64 0)) (some (.int .i64 1)) = some (.str ⟨#[48]⟩) := by kernel_rfl
  simp [code47, hs]
theorem fn33_0 (h : AHeap) : Returns Tryd.prog 33 [.int .i64 0] h (.str ⟨#[48]⟩) h := by
  refine Returns.val fn33 (by simp) fun h1 h2 => ⟨by simp [AVal.ok]; decide, ?_⟩
  have h46 : ∀ h, Returns Tryd.prog 46 [.int .i64 0, .int .i64 10] h (.str ⟨#[48]⟩) h := fun h => by
    refine Returns.val fn46 (by simp) fun h1 h2 => ⟨by simp [AVal.ok]; decide, ?_⟩
    simp [code46]
    refine (fn47_0 _).to ?_
    simp
  have h44 : ∀ h, Returns Tryd.prog 44 [.int .i64 0] h (.str ⟨#[48]⟩) h := fun h => by
    refine Returns.val fn44 (by simp) fun h1 h2 => ⟨by simp [AVal.ok]; decide, ?_⟩
    simp [code44]
    refine (h46 _).to ?_
    simp
  simp [code33]
  refine (h44 _).to ?_
  simp
end Go.Proofs.YtcjlgmknclifmaaDoor.Ab
