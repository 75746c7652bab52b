/- Any two types: are they one? -/
import Derived.Test.YtcjlgmknclifmaaDoorTyN
set_option linter.unusedVariables false
set_option linter.unusedSimpArgs false
namespace Go.Proofs.YtcjlgmknclifmaaDoor.Ab
open Go

noncomputable def eqTs (a b : List Ty) : Bool := @decide (a = b) (Classical.propDecidable _)
theorem eqTs_iff (a b : List Ty) : eqTs a b = true ↔ a = b := by simp [eqTs]
theorem eqTs_false (a b : List Ty) : eqTs a b = false ↔ a ≠ b := by simp [eqTs]
theorem fn37_ok (c : FuncId) (ks ks' : List Ty) (h : AHeap) (hc : ∀ k ∈ ks, ∀ (k' : Ty) (h : AHeap), Returns Tryd.prog c [tyV k, tyV k'] h (.bool (eqT k k')) h) : Returns Tryd.prog 37 [.vec 3 false (ks.map tyV), .vec 3 false (ks'.map tyV), .clo c []] h (.bool (eqTs ks ks')) h := by
  refine Returns.val fn37 (by simp) fun h1 h2 => ⟨by simp [AVal.ok], ?_⟩
  simp only [AVal.oks, AVal.ok, tys_ok, huge, List.length_map] at h2
  obtain ⟨⟨hlen, hko⟩, ⟨hlen', hko'⟩, -⟩ := h2
  by_cases c3 : ks.length = ks'.length
  rotate_left
  · have : eqTs ks ks' = false := by rw [eqTs_false]; intro e; exact c3 (by rw [e])
    simp [code37, c3, this]
  simp [code37, c3]
  refine Ev.countV (fun i => upd (upd (upd (upd (upd noEnv 1 (.vec 3 false (ks'.map tyV))) 2 (.clo c [])) 15 (.vec 3 false (ks.map tyV))) 16 (.int .i64 ks'.length)) 17 (.int .i64 i)) ks'.length (fun i => ∀ j (hj : j < ks.length) (hj' : j < ks'.length), j < i → ks[j] = ks'[j]) (fun _ => ⟨by simp, ?_⟩) ?_
  · repeat' (first | exact TidyV_none _ _ _ _ | (refine TidyV_upd (by simp [AVal.ok, AVal.oks, huge, big, hlen, hlen', hko, hko', c3] <;> omega) ?_))
  intro i hi I hok
  by_cases hlt : i < ks'.length
  · have hlt' : i < ks.length := by omega
    have hw : IntKind.i64.wrap (↑i + 1) = ↑i + 1 := wrap_i64 (by omega) (by omega)
    have hcc := hc ks[i] (List.getElem_mem hlt') ks'[i]
    rw [tyV_eq, tyV_eq ks'[i]] at hcc
    simp [hlt, hlt', c3]
    refine (hcc _).to ?_
    by_cases hb : ks[i] = ks'[i]
    · have hb' : eqT ks[i] ks'[i] = true := by rw [eqT_iff]; exact hb
      simp [hb', hw]
      intro _
      refine ⟨fun j hj hj' hji => ?_, ?_, ?_⟩
      · by_cases he : j = i
        · subst he; exact hb
        · exact I j (by omega) hj (by omega)
      · repeat' (first | exact Sub.refl _ | refine Sub.put_both ?_ | refine Sub.alloc h1 ?_ | refine Sub.put h1 ?_ (by simp) | refine Sub.drop h1 ?_ (by simp))
      · repeat' (first | exact TidyV_none _ _ _ _ | (refine TidyV_upd (by simp [AVal.ok, AVal.oks, huge, big, hlen, hlen', hko, hko', c3] <;> omega) ?_))
    · have hb' : eqT ks[i] ks'[i] = false := by rw [eqT_false]; exact hb
      have : eqTs ks ks' = false := by rw [eqTs_false]; intro e; subst e; exact hb rfl
      simp [hb', this]
      repeat' (first | exact Sub.refl _ | refine Sub.put_both ?_ | refine Sub.alloc h1 ?_ | refine Sub.put h1 ?_ (by simp) | refine Sub.drop h1 ?_ (by simp))
  · have : eqTs ks ks' = true := by
      rw [eqTs_iff]
      exact List.ext_getElem c3 fun j h1 h2 => I j h1 h2 (by omega)
    simp [hlt, c3, this]
theorem fn24_ok (a : Ty) : ∀ (b : Ty) (h : AHeap), Returns Tryd.prog 24 [tyV a, tyV b] h (.bool (eqT a b)) h := by
  refine Ty.ind (motive := fun a => ∀ (b : Ty) (h : AHeap), Returns Tryd.prog 24 [tyV a, tyV b] h (.bool (eqT a b)) h) (fun op n ks ih => ?_) a
  rintro ⟨op', n', ks'⟩ h
  refine Returns.val fn24 (by simp) fun h1 h2 => ⟨by simp [AVal.ok], ?_⟩
  by_cases c1 : op = op'
  rotate_left
  · have : eqT (.mk op n ks) (.mk op' n' ks') = false := by rw [eqT_false]; intro e; cases e; exact c1 rfl
    simp [code24, tyV_mk, c1, this]
    repeat' (first | exact Sub.refl _ | refine Sub.put_both ?_ | refine Sub.alloc h1 ?_ | refine Sub.put h1 ?_ (by simp) | refine Sub.drop h1 ?_ (by simp))
  subst c1
  by_cases c2 : n = n'
  rotate_left
  · have : eqT (.mk op n ks) (.mk op n' ks') = false := by rw [eqT_false]; intro e; cases e; exact c2 rfl
    simp [code24, tyV_mk, c2, this]
    repeat' (first | exact Sub.refl _ | refine Sub.put_both ?_ | refine Sub.alloc h1 ?_ | refine Sub.put h1 ?_ (by simp) | refine Sub.drop h1 ?_ (by simp))
  subst c2
  have e : eqT (.mk op n ks) (.mk op n ks') = eqTs ks ks' := by
    cases he : eqTs ks ks' with
    | true => rw [eqTs_iff] at he; rw [he, eqT_iff]
    | false => rw [eqTs_false] at he; rw [eqT_false]; intro e; cases e; exact he rfl
  simp [code24, tyV_mk]
  refine (fn37_ok 24 ks ks' _ ih).to ?_
  simp [e]
  repeat' (first | exact Sub.refl _ | refine Sub.put_both ?_ | refine Sub.alloc h1 ?_ | refine Sub.put h1 ?_ (by simp) | refine Sub.drop h1 ?_ (by simp))
theorem allN_dec (t : Ty) : good t = true → inR t → allN (fun n => (dec n).size ≤ 20 ∧ (∀ h, Returns Tryd.prog 33 [.int .i64 n] h (.str (dec n)) h) ∧ ∀ h, Returns Tryd.prog 34 [.int .i64 n] h (.str (dec n)) h) t := by
  refine Ty.ind (motive := fun t => good t = true → inR t → allN (fun n => (dec n).size ≤ 20 ∧ (∀ h, Returns Tryd.prog 33 [.int .i64 n] h (.str (dec n)) h) ∧ ∀ h, Returns Tryd.prog 34 [.int .i64 n] h (.str (dec n)) h) t) (fun op n ks ih => ?_) t
  intro hg hr
  obtain ⟨g1, g2, g3, g4⟩ := good_ops hg
  obtain ⟨r1, r2⟩ := hr
  rw [allMs_mem] at r2
  simp only [allN, allNs_mem]
  refine ⟨fun _ => ?_, fun k hk => ih k hk (g1 k hk) (r2 k hk)⟩
  obtain ⟨k, rfl⟩ : ∃ k : Nat, n = k := ⟨n.toNat, by omega⟩
  exact ⟨dec_size k (by omega), fun h => fn33_ok k (by omega) h, fun h => fn34_ok k (by omega) h⟩
theorem fn7_ok (a b : Ty) (ra : inR a) (rb : inR b) (h : AHeap) : Returns Tryd.prog 7 [tyV a, tyV b] h (.bool true) h := by
  refine Returns.val fn7 (by simp) fun h1 h2 => ⟨by simp [AVal.ok], ?_⟩
  have a8 := fn8_ok a
  have b8 := fn8_ok b
  have a9 := fn9_ok a
  have b9 := fn9_ok b
  have ab24 := fn24_ok a b
  have aa24 := fn24_ok a a
  have ab15 := fn15_ok a b
  have a18 := fn18_ok dec a
  have b18 := fn18_ok dec b
  have eaa : eqT a a = true := by rw [eqT_iff]
  rw [eaa] at aa24
  have ea := tyV_eq a
  have eb := tyV_eq b
  rw [ea] at a8 a9 a18 aa24
  rw [eb] at b8 b9 b18
  rw [ea, eb] at ab24 ab15 ⊢
  simp [code7]
  refine (a8 _).to ?_
  by_cases l1 : 300 < sz a
  · simp [l1]
    repeat' (first | exact Sub.refl _ | refine Sub.put_both ?_ | refine Sub.alloc h1 ?_ | refine Sub.put h1 ?_ (by simp) | refine Sub.drop h1 ?_ (by simp))
  simp [l1]
  refine (b8 _).to ?_
  by_cases l2 : 300 < sz b
  · simp [l2]
    repeat' (first | exact Sub.refl _ | refine Sub.put_both ?_ | refine Sub.alloc h1 ?_ | refine Sub.put h1 ?_ (by simp) | refine Sub.drop h1 ?_ (by simp))
  simp [l2]
  refine (ab24 _).to ?_
  simp
  refine (ab15 _).to ?_
  simp
  refine (aa24 _).to ?_
  simp
  refine (a9 _).to ?_
  cases i1 : isT a
  · simp
    refine (fn11_ok _).to ?_
    simp
    repeat' (first | exact Sub.refl _ | refine Sub.put_both ?_ | refine Sub.alloc h1 ?_ | refine Sub.put h1 ?_ (by simp) | refine Sub.drop h1 ?_ (by simp))
  simp
  refine (b9 _).to ?_
  cases i2 : isT b
  · simp
    refine (fn11_ok _).to ?_
    simp
    repeat' (first | exact Sub.refl _ | refine Sub.put_both ?_ | refine Sub.alloc h1 ?_ | refine Sub.put h1 ?_ (by simp) | refine Sub.drop h1 ?_ (by simp))
  simp
  have ga : good a = true := by simp [isT] at i1; exact i1.2
  have gb : good b = true := by simp [isT] at i2; exact i2.2
  refine (a18 _ (by omega) ga (allN.mono (fun n hn => ⟨hn.1, hn.2.1⟩) a (allN_dec a ga ra))).to ?_
  simp
  refine (b18 _ (by omega) gb (allN.mono (fun n hn => ⟨hn.1, hn.2.1⟩) b (allN_dec b gb rb))).to ?_
  simp
  refine (ab15 _).to ?_
  have hd : decide (showT dec a = showT dec b) = eqT a b := by
    by_cases he : a = b
    · subst he; simp [eaa]
    · have : eqT a b = false := by rw [eqT_false]; exact he
      rw [this]
      simp
      exact fun h => he (show_inj ga gb h)
  simp [hd]
  refine (fn11_ok _).to ?_
  simp
  repeat' (first | exact Sub.refl _ | refine Sub.put_both ?_ | refine Sub.alloc h1 ?_ | refine Sub.put h1 ?_ (by simp) | refine Sub.drop h1 ?_ (by simp))
end Go.Proofs.YtcjlgmknclifmaaDoor.Ab
