/- From the abstract code to the model's. -/
import Derived.Test.YtcjlgmknclifmaaDoorAb13
set_option linter.unusedVariables false
set_option linter.unusedSimpArgs false
namespace Go.Proofs.YtcjlgmknclifmaaDoor.Ab
open Go

section
variable {P : Program} {l : List AOper} {ops : Array Oper}

theorem afree_spec {listed : Array Bool} {i : Nat} {oi : AOper} (hi : l[i]? = some oi) (h : afree l ops listed i = true) :
    ∀ (j : Nat) (oj : AOper) (cj : Oper), l[j]? = some oj → ops[j]? = some cj → j ≠ i → listed.getD j true = false → (∀ e ∈ cj.after, Region.binds .any e = true → e.on ≠ i) → oi.apart oj = true := by
  intro j oj cj hj hcj hne hun hno
  unfold afree at h
  rw [hi] at h
  simp only [List.all_eq_true, List.mem_range] at h
  have h1 := h j (List.getElem?_eq_some_iff.1 hj).1
  simp only [hj, hcj, Bool.or_eq_true, beq_iff_eq, hne, false_or, hun, Bool.false_eq_true] at h1
  rcases h1 with h1 | h1
  · obtain ⟨e, he, hb⟩ := Array.any_eq_true'.1 h1
    simp only [Bool.and_eq_true, beq_iff_eq] at hb
    exact absurd hb.2 (hno e he hb.1)
  · exact h1

theorem adraw_sound (hlo : l.length = ops.size) : ∀ (fuel : Nat) (listed : Array Bool) (p : Pl) (R : List (Nat × AObj)) (K : St → Prop) (s : St), plan l ops fuel listed = some p → adraw P p R K s → TAny P l ops fuel listed R K s := by
  intro fuel
  induction fuel using Nat.strongRecOn with
  | _ fuel ih =>
    intro listed p R K s hp hd
    cases fuel with
    | zero =>
      simp only [plan] at hp
      split at hp
      · rename_i he
        cases hp
        simp only [TAny]
        exact ⟨by simpa using he, hd⟩
      · cases hp
    | succ fuel =>
      have ih' : ∀ (listed : Array Bool) (p : Pl) (R : List (Nat × AObj)) (K : St → Prop) (s : St), plan l ops fuel listed = some p → adraw P p R K s → TAny P l ops fuel listed R K s := ih fuel (by omega)
      simp only [plan] at hp
      split at hp
      · rename_i he
        cases hp
        intro wf
        exact ⟨fun _ => hd, by rw [he]; simp⟩
      · rename_i rs hne
        split at hp
        · rename_i i hfind
          have hmem := List.mem_of_find?_eq_some hfind
          have hcond := List.find?_some hfind
          simp only [Bool.and_eq_true] at hcond
          split at hp <;> cases hp
          rename_i o p' ho hp'
          have hst : o.op.stay = true := by simpa [ho] using hcond.1
          simp only [adraw] at hd
          have fin : ∀ v, stayVal o s = some v → adraw P p' (logOf o R s) K ⟨putd s.ρ o.dst v, s.h⟩ → TAny P l ops (fuel + 1) listed R K s := fun v hv ha =>
            TAny_first ho hst hlo fuel listed R K s (afree_spec ho hcond.2) hmem hv (ih' _ _ _ _ _ hp' ha)
          cases hg : o.guard with
          | none =>
            rw [hg] at hd
            simp only at hd
            split at hd
            · rename_i v hv
              exact fin v (by simp [stayVal, AOper.guardOk, hg, hv]) (by simpa [logOf, AOper.guardOk, hg] using hd)
            · exact hd.elim
          | some gw =>
            obtain ⟨g, want⟩ := gw
            rw [hg] at hd
            simp only at hd
            split at hd
            · rename_i b hb
              cases b with
              | true =>
                have hd1 := hd.1 rfl
                split at hd1
                · rename_i v hv
                  exact fin v (by simp [stayVal, AOper.guardOk, hg, hb, hv]) (by simpa [logOf, AOper.guardOk, hg, hb] using hd1)
                · exact hd1.elim
              | false =>
                exact fin (.tup []) (by simp [stayVal, AOper.guardOk, hg, hb]) (by simpa [logOf, AOper.guardOk, hg, hb] using hd.2 rfl)
            · exact hd.elim
        · have ns_of : ∀ (i : Nat) (o : AOper), l[i]? = some o → nsI l ops i = true → needS l ops i o = true := by
            intro i o ho hn
            simp only [nsI, ho, Bool.and_eq_true] at hn
            exact hn.2
          have alts_sound : ∀ (rs : List Nat) (p : Pl), alts l ops (fun i => plan l ops fuel (listed.setIfInBounds i true)) rs = some p → adraw P p R K s → ∀ k ∈ rs, aopI P l k (fun s' => (nsI l ops k = true → Held R s'.h) ∧ TAny P l ops fuel (listed.setIfInBounds k true) R K s') s := by
            intro rs
            induction rs with
            | nil => intro p hp; simp [alts] at hp
            | cons i r ihr =>
              intro p hp hd k hk
              have one : ∀ (o : AOper) (p' : Pl), l[i]? = some o → plan l ops fuel (listed.setIfInBounds i true) = some p' → aop1 P o (fun s' => (needS l ops i o = true → Held R s'.h) ∧ adraw P p' R K s') s →
                  aopI P l i (fun s' => (nsI l ops i = true → Held R s'.h) ∧ TAny P l ops fuel (listed.setIfInBounds i true) R K s') s := by
                intro o p' ho hp' h
                unfold aopI
                rw [ho]
                exact aop1_mono (fun s' hs' => ⟨fun hn => hs'.1 (ns_of _ _ ho hn), ih' _ _ _ _ _ hp' hs'.2⟩) h
              cases r with
              | nil =>
                simp only [alts] at hp
                split at hp <;> cases hp
                rename_i o p' ho hp'
                simp only [List.mem_singleton] at hk
                subst hk
                exact one o p' ho hp' hd
              | cons j r =>
                simp only [alts] at hp
                split at hp <;> cases hp
                rename_i o p' q ho hp' hq
                simp only [adraw] at hd
                rcases List.mem_cons.1 hk with rfl | hk
                · exact one o p' ho hp' hd.1
                · exact ihr q hq hd.2 k hk
          split at hp
          · rename_i i j hrs
            split at hp
            · cases hp
            · rename_i hij
              split at hp
              · rename_i o q ho hq
                split at hp
                · rename_i hrd
                  split at hp <;> cases hp
                  rename_i p' hp'
                  simp only [adraw] at hd
                  obtain ⟨fuel, rfl⟩ : ∃ f, fuel = f + 1 := ⟨fuel - 1, by omega⟩
                  simp only [Nat.add_sub_cancel] at hp'
                  have ih2 := ih fuel (by omega)
                  intro wf
                  refine ⟨fun he => (by rw [hrs] at he; cases he), fun k hk => ?_⟩
                  rw [hrs] at hk
                  simp only [List.mem_cons, List.not_mem_nil, or_false] at hk
                  rcases hk with rfl | rfl
                  · unfold aopI
                    rw [ho]
                    refine aop1_mono (fun s' hs' => ⟨fun hn => hs'.1 (by rw [ns_of _ _ ho hn]; rfl), fun wf' => ⟨fun he => (by rw [hrd.1] at he; cases he), fun k' hk' => ?_⟩⟩) hd.1
                    rw [hrd.1] at hk'
                    simp only [List.mem_singleton] at hk'
                    subst hk'
                    unfold aopI
                    rw [hq]
                    exact aop1_mono (fun s'' hs'' => ⟨fun hn => hs''.1 (by rw [ns_of _ _ hq hn]; simp), ih2 _ _ _ _ _ hp' hs''.2⟩) hs'.2
                  · unfold aopI
                    rw [hq]
                    refine aop1_mono (fun s' hs' => ⟨fun hn => hs'.1 (by rw [ns_of _ _ hq hn]; simp), fun wf' => ⟨fun he => (by rw [hrd.2] at he; cases he), fun k' hk' => ?_⟩⟩) hd.2
                    rw [hrd.2] at hk'
                    simp only [List.mem_singleton] at hk'
                    subst hk'
                    unfold aopI
                    rw [ho]
                    refine aop1_mono (fun s'' hs'' => ⟨fun hn => hs''.1 (by rw [ns_of _ _ ho hn]; rfl), ?_⟩) hs'.2
                    rw [Array.setIfInBounds_comm _ _ (by intro e; exact hij (.inl e.symm))]
                    exact ih2 _ _ _ _ _ hp' hs''.2
                · rename_i hnrd
                  intro wf
                  refine ⟨fun he => (by rw [hrs] at he; cases he), fun k hk => ?_⟩
                  rw [hrs] at hk
                  exact alts_sound _ _ hp hd k hk
              · cases hp
          · split at hp
            · intro wf
              refine ⟨fun he => (hne he).elim, fun k hk => alts_sound _ _ hp hd k hk⟩
            · cases hp
end

/-! ### one operation in the model -/
def Lift (n : Nat) (m : Map) (F : Nat → Prop) (w : World) (N : Nat) (K : St → Prop) (a' : Act) (w' : World) : Prop :=
  ∃ s' m' F', K s' ∧ N ≤ s'.h.next ∧ Rel s'.h m' F' w' ∧ ARel n m' F' w' s'.ρ a' ∧ Ext m F w m' F' w'

theorem achg_next {op : AOp} {ρ : Nat → AVal} {h h' : AHeap} {c : Prop} {v : AVal} (he : achg op ρ h = some (c, v, h')) : h.next ≤ h'.next := by
  cases op <;> simp only [achg, reduceCtorEq] at he
  case alloc => simp only [Option.some.injEq, Prod.mk.injEq] at he; rw [← he.2.2]; simp [AHeap.alloc]
  case mkmap => simp only [Option.some.injEq, Prod.mk.injEq] at he; rw [← he.2.2]; simp [AHeap.alloc]
  case box => split at he <;> simp only [Option.some.injEq, Prod.mk.injEq, reduceCtorEq] at he; rw [← he.2.2]; simp [AHeap.alloc]
  case bslice => split at he <;> simp only [Option.some.injEq, Prod.mk.injEq, reduceCtorEq] at he; rw [← he.2.2]; simp [AHeap.alloc]
  case mkslice => split at he <;> simp only [Option.some.injEq, Prod.mk.injEq, reduceCtorEq] at he; rw [← he.2.2]; simp [AHeap.alloc]
  case s2b => split at he <;> simp only [Option.some.injEq, Prod.mk.injEq, reduceCtorEq] at he; rw [← he.2.2]; simp [AHeap.alloc]
  case mark =>
    split at he
    · split at he <;> simp only [Option.some.injEq, Prod.mk.injEq, reduceCtorEq] at he
      rw [← he.2.2]; exact Nat.le_refl _
    · cases he
  case store =>
    split at he
    · split at he
      · split at he <;> simp only [Option.some.injEq, Prod.mk.injEq, reduceCtorEq] at he; rw [← he.2.2]; simp [AHeap.put]
      · cases he
    · cases he
  case mapupd =>
    split at he
    · split at he
      · simp only [Option.map_eq_some_iff, Prod.mk.injEq] at he; obtain ⟨_, _, _, _, rfl⟩ := he; simp [AHeap.put]
      · cases he
    · cases he
  case append =>
    split at he
    · split at he
      · split at he
        · simp only [Option.some.injEq, Prod.mk.injEq] at he; rw [← he.2.2]; split <;> simp [AHeap.alloc]
        · split at he <;> simp only [Option.some.injEq, Prod.mk.injEq, reduceCtorEq] at he
          rw [← he.2.2]; split <;> simp [AHeap.alloc]
        · split at he
          · split at he
            · split at he
              · split at he
                · simp only [Option.some.injEq, Prod.mk.injEq] at he; rw [← he.2.2]; simp [AHeap.alloc, AHeap.drop]
                · split at he
                  · simp only [Option.some.injEq, Prod.mk.injEq] at he; rw [← he.2.2]; exact Nat.le_refl _
                  · split at he
                    · split at he <;> simp only [Option.some.injEq, Prod.mk.injEq, reduceCtorEq] at he
                      rw [← he.2.2]; simp [AHeap.put]
                    · simp only [Option.some.injEq, Prod.mk.injEq] at he; rw [← he.2.2]; simp [AHeap.alloc]
              · cases he
            · cases he
          · cases he
        · cases he
      · cases he
    · cases he

theorem run_callFunc {P : Program} {w : World} {f : FuncId} {args : Array Value} (h : isBody P f = true) : (callFunc f args).run P w = .ok (.enter f args) w := by
  unfold isBody at h
  split at h
  · rename_i fn hf
    simp only [Bool.and_eq_true, bne_iff_ne, ne_eq] at h
    unfold callFunc
    simp only [Sem.run_bind, run_program, Result.andThen_ok, hf]
    rw [if_neg (by simpa using h.1), if_neg (by obtain ⟨c, hc⟩ := Option.isSome_iff_exists.1 h.2; simp [hc])]
    rfl
  · cases h

theorem upon_call {P : Program} {o : Oper} {a : Act} {next : Act → World → Prop} {Q : Exit → Act → World → Prop} {w : World} {f : FuncId} {us : List Value} {n : Nat} {m : Map} {F : Nat → Prop} {s : St} {K : St → Prop} {args : List AVal}
    (hd : ∀ t, o.dst = some t → t < n) (R : Rel s.h m F w) (A : ARel n m F w s.ρ a) (hk : ACalls P f args s.h fun v h' => K ⟨putd s.ρ o.dst v, h'⟩) (hu : VRels m F w args us)
    (hn : ∀ a' w', Lift n m F w s.h.next K a' w' → next a' w') : o.upon P a next Q (.ok (.enter f us.toArray) w) := by
  rw [Oper.upon_enter]
  refine (hk.2 m F w us R hu).mono fun e w' hp => ?_
  cases e with
  | panicked c => exact hp.elim
  | outgrown => exact hp.elim
  | returned u =>
    obtain ⟨v, h', m', F', q1, q2, q3, q4, q5⟩ := hp
    exact hn _ _ ⟨⟨putd s.ρ o.dst v, h'⟩, m', F', q2, q1, q3, (A.ext q5).put hd q4, q5⟩

theorem op_ok {P : Program} {n : Nat} {ops : Array Oper} {o : Oper} {ao : AOper} (h0 : rOper P n ops o = some ao) {K : St → Prop} {s : St} {m : Map} {F : Nat → Prop} {w : World} {a : Act} (hk : aop1 P ao K s) (R : Rel s.h m F w) (A : ARel n m F w s.ρ a)
    {next : Act → World → Prop} {Q : Exit → Act → World → Prop} (hn : ∀ a' w', Lift n m F w s.h.next K a' w' → next a' w') :
    if Region.wanted o (yielded ops a.tmps) then o.wp P a w next Q else next (a.put o.dst undef) w := by
  unfold rOper at h0
  split at h0
  · rename_i hdst
    have hd : ∀ t, o.dst = some t → t < n := by
      intro t ht
      rw [ht] at hdst
      simpa using hdst
    have exec : aexec P ((resolveOp P o).getD .bad) o.dst K s → o.wp P a w next Q := by
      cases hop : resolveOp P o with
      | none => intro he; simp [aexec, AOp.stay, aval] at he
      | some op =>
        simp only [Option.getD_some]
        intro he
        unfold Oper.wp
        have generic : (op.stay = true → (∃ v, aval op s.ρ s.h = some v ∧ K ⟨putd s.ρ o.dst v, s.h⟩) → o.upon P a next Q ((execOp a.eval o).run P w)) ∧ ((∃ c v h', achg op s.ρ s.h = some (c, v, h') ∧ c ∧ K ⟨putd s.ρ o.dst v, h'⟩) → o.upon P a next Q ((execOp a.eval o).run P w)) := by
          refine ⟨fun hs ⟨v, hv, hkk⟩ => ?_, fun ⟨c, v, h', hv, hc, hkk⟩ => ?_⟩
          · obtain ⟨u, h1, h2⟩ := stay_ok hop hs R A hv
            rw [h1]
            exact hn _ _ ⟨⟨putd s.ρ o.dst v, s.h⟩, m, F, hkk, Nat.le_refl _, R, A.put hd h2, Ext.refl _ _ _⟩
          · obtain ⟨nx, u, w', m', h1, h2, h3, h4, h5⟩ := chg_ok hop R A hv hc
            rw [h1]
            have fin : next (a.put o.dst u) w' := hn _ _ ⟨⟨putd s.ρ o.dst v, h'⟩, m', F, hkk, achg_next hv, h3, (A.ext h5).put hd h4, h5⟩
            rcases h2 with rfl | ⟨rfl, rfl⟩
            · exact fin
            · exact fin
        by_cases hcall : (∃ f l, op = .call f l) ∨ ∃ x l, op = .callv x l
        · have hcc : ∃ c, o.op = .call c ∧ rCall P c = some op := by
            obtain ⟨dst, oop, ty, pos, after, guard⟩ := o
            cases oop <;> simp only [resolveOp, reduceCtorEq] at hop
            case call c => exact ⟨c, rfl, hop⟩
            all_goals exfalso
            case makeFunc fn first cap =>
              cases fn <;> simp only [reduceCtorEq] at hop
              split at hop
              · simp only [Option.map_eq_some_iff] at hop; obtain ⟨z, _, rfl⟩ := hop; simp at hcall
              · cases hop
            case binOp =>
              unfold rBin at hop
              split at hop
              · split at hop
                · split at hop
                  · cases hop; simp at hcall
                  · cases hop; simp at hcall
                  · split at hop
                    · split at hop
                      · split at hop <;> cases hop; simp at hcall
                      · cases hop
                    · cases hop
                  · split at hop <;> cases hop; simp at hcall
                · cases hop; simp at hcall
              · cases hop
            case convert =>
              unfold rConv at hop
              split at hop
              · cases hop; simp at hcall
              · cases hop; simp at hcall
              · split at hop <;> cases hop; simp at hcall
              · split at hop <;> cases hop; simp at hcall
              · split at hop <;> cases hop; simp at hcall
              · cases hop
            all_goals (repeat' (split at hop))
            all_goals first
              | (cases hop; done)
              | (cases hop; simp at hcall; done)
              | (simp only [Option.map_eq_some_iff] at hop; obtain ⟨z, _, rfl⟩ := hop; simp at hcall; done)
          obtain ⟨c, hoc, hrc⟩ := hcc
          rcases hcall with ⟨f, l, rfl⟩ | ⟨x, l, rfl⟩
          · unfold rCall at hrc
            split at hrc
            · rename_i f' hcal
              split at hrc
              · rename_i hbody
                simp only [Option.map_eq_some_iff, AOp.call.injEq] at hrc
                obtain ⟨l', hl, rfl, rfl⟩ := hrc
                have hr := rOpds_sound A hl
                have hrun : (execOp a.eval o).run P w = .ok (.enter f' (c.args.toList.map a.eval).toArray) w := by
                  have e1 : c.args.map a.eval = (c.args.toList.map a.eval).toArray := by apply Array.ext'; simp
                  simp only [execOp, hoc, resolve, hcal, Act.eval, Deferred.ofValue, Sem.run_bind, Sem.run_pure, Result.andThen_ok, invoke, e1]
                  rw [show (#[] ++ (List.map a.eval c.args.toList).toArray ++ #[] : Array Value) = (List.map a.eval c.args.toList).toArray from by simp]
                  exact run_callFunc hbody
                rw [hrun]
                exact upon_call hd R A he hr hn
              · cases hrc
            · split at hrc <;> cases hrc
            · split at hrc
              · split at hrc <;> cases hrc
              · cases hrc
            · split at hrc
              · split at hrc
                · split at hrc
                  · split at hrc <;> cases hrc
                  · cases hrc
                · split at hrc
                  · split at hrc <;> cases hrc
                  · cases hrc
                · cases hrc
              · cases hrc
            · simp only [Option.map_eq_some_iff, reduceCtorEq, and_false, exists_false] at hrc
            · simp only [Option.map_eq_some_iff, reduceCtorEq, and_false, exists_false] at hrc
            · cases hrc
          · unfold rCall at hrc
            split at hrc
            · split at hrc
              · simp only [Option.map_eq_some_iff, reduceCtorEq, and_false, exists_false] at hrc
              · cases hrc
            · rename_i X hnf hcal
              split at hrc
              · rename_i x' l' hx hl
                simp only [Option.some.injEq, AOp.callv.injEq] at hrc
                obtain ⟨rfl, rfl⟩ := hrc
                have hr := rOpds_sound A hl
                have hxr := rOpd_sound A hx
                simp only [aexec] at he
                split at he
                · rename_i f cs hf
                  rw [hf] at hxr
                  simp only [VRel] at hxr
                  obtain ⟨us, hus, hX⟩ := hxr
                  have hrun : (execOp a.eval o).run P w = .ok (.enter f (c.args.toList.map a.eval ++ us).toArray) w := by
                    have e1 : c.args.map a.eval = (c.args.toList.map a.eval).toArray := by apply Array.ext'; simp
                    simp only [execOp, hoc, resolve, hcal, hX, Deferred.ofValue, Sem.run_bind, Sem.run_pure, Result.andThen_ok, invoke, e1]
                    rw [show (#[] ++ (List.map a.eval c.args.toList).toArray ++ us.toArray : Array Value) = (List.map a.eval c.args.toList ++ us).toArray from by simp]
                    exact run_callFunc he.1
                  rw [hrun]
                  exact upon_call hd R A he (hr.append hus) hn
                · exact he.elim
              · cases hrc
            · split at hrc
              · split at hrc <;> cases hrc
              · cases hrc
            · split at hrc
              · split at hrc
                · split at hrc
                  · split at hrc <;> cases hrc
                  · cases hrc
                · split at hrc
                  · split at hrc <;> cases hrc
                  · cases hrc
                · cases hrc
              · cases hrc
            · simp only [Option.map_eq_some_iff, reduceCtorEq, and_false, exists_false] at hrc
            · simp only [Option.map_eq_some_iff, reduceCtorEq, and_false, exists_false] at hrc
            · cases hrc
        · cases op <;> simp only [aexec, AOp.stay, if_true, Bool.false_eq_true, if_false] at he
          case call f l => exact absurd (.inl ⟨f, l, rfl⟩) hcall
          case callv x l => exact absurd (.inr ⟨x, l, rfl⟩) hcall
          all_goals
            split at he
            · first
                | exact generic.1 rfl ⟨_, by assumption, he⟩
                | exact generic.2 ⟨_, _, _, by assumption, he⟩
            · exact he.elim
    have skip : K ⟨putd s.ρ o.dst (.tup []), s.h⟩ → next (a.put o.dst undef) w := fun hkk =>
      hn _ _ ⟨⟨putd s.ρ o.dst (.tup []), s.h⟩, m, F, hkk, Nat.le_refl _, R, A.put hd (by simp only [VRel, VRels]; exact ⟨[], rfl, rfl⟩), Ext.refl _ _ _⟩
    split at h0
    · rename_i hg
      cases h0
      simp only [aop1] at hk
      rw [if_pos (by simp [Region.wanted, hg])]
      exact exec hk
    · rename_i j want hg
      split at h0 <;> cases h0
      rename_i t ht
      simp only [aop1] at hk
      split at hk
      · rename_i b hb
        have hw : Region.wanted o (yielded ops a.tmps) = b := by
          have hab := A.rel t
          unfold guardV at hb
          split at hb
          · rename_i b0 hb0
            cases hb
            rw [hb0] at hab
            simp only [VRel] at hab
            have hy : yielded ops a.tmps j = some b0 := by
              unfold yielded
              rw [ht]
              simp only [Option.bind_some]
              have : a.tmps[t]? = some (.bool b0) := by
                rw [Array.getD_eq_getD_getElem?] at hab
                cases hq : a.tmps[t]? with
                | none => rw [hq] at hab; simp [undef] at hab
                | some v => rw [hq] at hab; simp at hab; rw [hab]
              rw [this]
            simp only [Region.wanted, hg, hy]
            cases b0 <;> cases want <;> rfl
          · rename_i hb0
            cases hb
            rw [hb0] at hab
            simp only [VRel, VRels] at hab
            obtain ⟨us, rfl, hab⟩ := hab
            have hy : yielded ops a.tmps j = none := by
              unfold yielded
              rw [ht]
              simp only [Option.bind_some]
              rw [Array.getD_eq_getD_getElem?] at hab
              cases hq : a.tmps[t]? with
              | none => rfl
              | some v => rw [hq] at hab; simp at hab; rw [hab]
            simp only [Region.wanted, hg, hy]
            cases want <;> rfl
          · cases hb
        rw [hw]
        cases b with
        | true => simp only [if_true]; exact exec (hk.1 rfl)
        | false => simp only [Bool.false_eq_true, if_false]; exact skip (hk.2 rfl)
      · exact hk.elim
  · cases h0
end Go.Proofs.YtcjlgmknclifmaaDoor.Ab
