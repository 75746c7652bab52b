/- All operations that leave memory alone. -/
import Derived.Test.YtcjlgmknclifmaaDoorAb8
set_option linter.unusedVariables false
set_option linter.unusedSimpArgs false
namespace Go.Proofs.YtcjlgmknclifmaaDoor.Ab
open Go
section
variable {P : Program} {w : World} {m : Map} {F : Nat → Prop} {h : AHeap}

theorem run_v {s : Sem Value} {v : Value} {w' : World} (hs : s.run P w = .ok v w') : (do pure (Next.value (← s)) : Sem Next).run P w = .ok (.value v) w' := by
  simp only [Sem.run_bind, hs, Result.andThen_ok, Sem.run_pure]

theorem minmax2_sound {mx : Bool} {x y r : AVal} {u v : Value} (hx : VRel m F w x u) (hy : VRel m F w y v) (hr : minmax2 mx x y = some r) : ∃ z, (if mx then Builtin.max2 u v else Builtin.min2 u v).run P w = .ok z w ∧ VRel m F w r z := by
  unfold minmax2 at hr
  split at hr
  · simp only [VRel] at hx hy
    subst hx; subst hy
    split at hr
    · simp only [Option.some.injEq] at hr
      subst hr
      rename_i k a _ b _
      cases mx
      · exact ⟨.int k (if b < a then b else a), by simp [Builtin.min2], by simp only [VRel]; rfl⟩
      · exact ⟨.int k (if b > a then b else a), by simp [Builtin.max2], by simp only [VRel]; rfl⟩
    · cases hr
  · cases hr
theorem minmaxV_fold {mx : Bool} : ∀ {xs : List AVal} {vs : List Value} {x r : AVal} {u : Value}, VRels m F w xs vs → VRel m F w x u → xs.foldl (fun o y => o.bind fun a => minmax2 mx a y) (some x) = some r →
    ∃ z, (vs.foldlM (fun a b => if mx then Builtin.max2 a b else Builtin.min2 a b) u : Sem Value).run P w = .ok z w ∧ VRel m F w r z
  | [], vs, x, r, u, h1, h2, h3 => by
    simp only [VRels] at h1; subst h1
    simp only [List.foldl_nil, Option.some.injEq] at h3; subst h3
    exact ⟨u, by simp, h2⟩
  | y :: xs, vs, x, r, u, h1, h2, h3 => by
    simp only [VRels] at h1
    obtain ⟨v, vs', k1, k2, rfl⟩ := h1
    simp only [List.foldl_cons, Option.bind_some] at h3
    cases hz : minmax2 mx x y with
    | none =>
      rw [hz] at h3
      have : ∀ l : List AVal, l.foldl (fun o y => o.bind fun a => minmax2 mx a y) (none : Option AVal) = none := by intro l; induction l <;> simp_all
      rw [this] at h3; cases h3
    | some z =>
      rw [hz] at h3
      obtain ⟨zv, g1, g2⟩ := minmax2_sound (P := P) h2 k1 hz
      obtain ⟨q, g3, g4⟩ := minmaxV_fold k2 g2 h3
      refine ⟨q, ?_, g4⟩
      simp only [List.foldlM_cons, Sem.run_bind, g1, Result.andThen_ok, g3]

theorem aval_call_none {c : Call} {ao : AOp} (h0 : rCall P c = some ao) (hs : ao.stay = true) : (∃ k x t y, ao = .len k x ∧ c.callee = .builtin .len ∧ c.argTypes.toList = [t] ∧ rOpds c.args.toList = some [x] ∧ eqK P t = some k ∧ (k = .str ∨ k = .slice ∨ k = .map) ∧ y = ()) ∨ (∃ mx l, ao = .minmax mx l ∧ c.callee = .builtin (if mx then .max else .min) ∧ rOpds c.args.toList = some l) := by
  unfold rCall at h0
  split at h0
  · split at h0
    · simp only [Option.map_eq_some_iff] at h0; obtain ⟨l, _, rfl⟩ := h0; simp [AOp.stay] at hs
    · cases h0
  · split at h0 <;> cases h0; simp [AOp.stay] at hs
  · rename_i hc
    split at h0
    · rename_i ht ha
      split at h0 <;> cases h0 <;> rename_i hk <;> exact .inl ⟨_, _, _, (), rfl, hc, ht, ha, hk, by simp, rfl⟩
    · cases h0
  · split at h0
    · split at h0
      · split at h0
        · split at h0 <;> cases h0; simp [AOp.stay] at hs
        · cases h0
      · split at h0
        · split at h0 <;> cases h0; simp [AOp.stay] at hs
        · cases h0
      · cases h0
    · cases h0
  · rename_i hc
    simp only [Option.map_eq_some_iff] at h0; obtain ⟨l, hl, rfl⟩ := h0
    exact .inr ⟨false, l, rfl, hc, hl⟩
  · rename_i hc
    simp only [Option.map_eq_some_iff] at h0; obtain ⟨l, hl, rfl⟩ := h0
    exact .inr ⟨true, l, rfl, hc, hl⟩
  · cases h0

theorem eqv_run {op : BinOp} {t : TypeId} {k : EqK} {x y : AVal} {r : Bool} {u v : Value} (hop : op = .eql ∨ op = .neq) (hk : k ≠ .int ∧ k ≠ .str) (hx : VRel m F w x u) (hy : VRel m F w y v) (h : eq1 k x y = some r)
    (heq : (Op.equal t u v).run P w = .ok r w) : (binOp op t u v).run P w = .ok (.bool (if decide (op = .neq) then !r else r)) w := by
  unfold eq1 at h
  split at h <;> try cases h
  all_goals simp only [VRel] at hx hy
  all_goals (try (obtain ⟨A, c, vs, h1, rfl, _⟩ := hx)) <;> (try (obtain ⟨b, o, A, c, _, rfl, _⟩ := hx)) <;> (try (obtain ⟨b, o, u, _, _, rfl, _⟩ := hx)) <;> (try (obtain ⟨b, o, _, rfl⟩ := hx)) <;> (try (obtain ⟨b, _, rfl⟩ := hx)) <;> (try (obtain ⟨rfl, _⟩ := hx)) <;> (try (obtain ⟨rfl, _⟩ := hy)) <;> (try subst hx) <;> (try subst hy)
  all_goals first
    | (exfalso; first | exact hk.1 rfl | exact hk.2 rfl)
    | (rcases hop with rfl | rfl <;> simp only [binOp, Sem.run_bind, heq, Result.andThen_ok, Sem.run_pure] <;> simp)

theorem eqAny {d l c : Nat} {t e : TypeId} {A : Option Addr} (ht : P.underlying t = some (.slice e)) : ∃ r, (Op.equalIn (d + 1) t (.slice A l c) (.slice none 0 0)).run P w = .ok r w := by
  cases A <;> exact ⟨_, by simp [Op.equalIn, run_und ht]; rfl⟩
theorem eqvV_cases {neg : Bool} {k : EqK} {x y r : AVal} (h : eqvV neg k x y = some r) : (∃ e b, k = .slice ∧ x = .vec e b [] ∧ y = .nils ∧ r = .anyb) ∨ ∃ b, eq1 k x y = some b ∧ r = .bool (if neg then !b else b) := by
  unfold eqvV at h
  split at h
  · cases h; exact .inl ⟨_, _, rfl, rfl, rfl, rfl⟩
  · simp only [Option.map_eq_some_iff] at h
    obtain ⟨b, h1, h2⟩ := h
    exact .inr ⟨b, h1, h2.symm⟩

theorem len_sound (R : Rel h m F w) {t : TypeId} {k : EqK} {x r : AVal} {u : Value} (hx : VRel m F w x u) (hk : eqK P t = some k)
    (hr : lenV h k x = some r) (tt : TypeId) : ∃ q, (Builtin.len_ #[t] tt #[u]).run P w = .ok q w ∧ VRel m F w r q := by
  have ht := eqK_inv hk
  unfold lenV at hr
  split at hr
  · cases hr
    simp only [VRel] at hx; obtain ⟨rfl, _⟩ := hx
    simp only at ht
    exact ⟨_, by simp [Builtin.len_, run_und ht, goInt]; rfl, by simp only [VRel]⟩
  · cases hr
    simp only [VRel] at hx; subst hx
    simp only at ht
    obtain ⟨e, e', ht⟩ := ht
    exact ⟨_, by simp [Builtin.len_, run_und ht, goInt]; rfl, by simp only [VRel]⟩
  · rename_i id
    simp only [VRel] at hx; obtain ⟨b, hm, rfl⟩ := hx
    simp only at ht
    obtain ⟨e, e', ht⟩ := ht
    split at hr
    · rename_i es hid
      cases hr
      obtain ⟨b', o', hm', hF, hO⟩ := R.live id _ hid
      rw [hm] at hm'; cases hm'
      cases hO with
      | map hb hl hc =>
        rename_i E clock
        refine ⟨.int .i64 E.size, ?_, by simp only [VRel, hl]⟩
        unfold Builtin.len_
        simp [run_und ht, run_getMap hb, goInt]
    · cases hr
  · simp only at ht
    obtain ⟨e, ht⟩ := ht
    simp only [Option.map_eq_some_iff] at hr
    obtain ⟨n, hn, rfl⟩ := hr
    have : ∃ A c, u = .slice A n c := by
      unfold slLen at hn
      split at hn <;> cases hn <;> simp only [VRel] at hx
      · exact ⟨none, 0, hx⟩
      · obtain ⟨A, c, vs, h1, rfl, _⟩ := hx; exact ⟨A, c, by rw [h1.length]⟩
      · obtain ⟨b, o, A, c, _, rfl, _⟩ := hx; exact ⟨some A, c, rfl⟩
    obtain ⟨A, c, rfl⟩ := this
    exact ⟨.int .i64 n, by simp [Builtin.len_, run_und ht, goInt], by simp only [VRel]⟩
  · cases hr

theorem stay_ok {o : Oper} {ao : AOp} {n : Nat} {ρ : Nat → AVal} {a : Act} {x : AVal} (h0 : resolveOp P o = some ao) (hs : ao.stay = true) (R : Rel h m F w) (A : ARel n m F w ρ a) (hv : aval ao ρ h = some x) :
    ∃ v, (execOp a.eval o).run P w = .ok (.value v) w ∧ VRel m F w x v := by
  obtain ⟨dst, op, ty, pos, after, guard⟩ := o
  cases op <;> simp only [resolveOp, reduceCtorEq] at h0
  case move y =>
    simp only [Option.map_eq_some_iff] at h0; obtain ⟨z, hz, rfl⟩ := h0
    simp only [aval, Option.some.injEq] at hv; subst hv
    exact ⟨_, rfl, rOpd_sound A hz⟩
  case assign y =>
    simp only [Option.map_eq_some_iff] at h0; obtain ⟨z, hz, rfl⟩ := h0
    simp only [aval, Option.some.injEq] at hv; subst hv
    exact ⟨_, rfl, rOpd_sound A hz⟩
  case pick c p q =>
    split at h0 <;> cases h0
    rename_i c' p' q' hc hp hq
    simp only [aval] at hv
    split at hv
    · rename_i t ht
      simp only [Option.some.injEq] at hv
      have hcr := rOpd_sound A hc
      rw [ht] at hcr
      simp only [VRel] at hcr
      refine ⟨if t then a.eval p else a.eval q, ?_, ?_⟩
      · simp only [execOp, hcr, asBool, Sem.run_bind, Sem.run_pure, Result.andThen_ok]
      · subst hv
        cases t
        · exact rOpd_sound A hq
        · exact rOpd_sound A hp
    · cases hv
  case load t y =>
    split at h0 <;> cases h0
    rename_i k y' hk hy
    obtain ⟨v, h1, h2⟩ := loadV_sound R hk (rOpd_sound A hy) (by simpa only [aval] using hv)
    exact ⟨v, by simp only [execOp]; exact run_v h1, h2⟩
  case nilCheck y =>
    simp only [Option.map_eq_some_iff] at h0; obtain ⟨z, hz, rfl⟩ := h0
    have hr := rOpd_sound A hz
    simp only [aval] at hv
    split at hv
    all_goals first
      | cases hv
      | skip
    all_goals (rename_i he; rw [he] at hr; refine ⟨_, ?_, hr⟩; simp only [VRel] at hr)
    · obtain ⟨b, o, _, hu⟩ := hr; simp only [execOp, hu, Sem.run_pure]
    · obtain ⟨b, o, u, _, _, hu, _⟩ := hr; simp only [execOp, hu, Sem.run_pure]
    · obtain ⟨us, _, hu⟩ := hr; simp only [execOp, hu, Sem.run_pure]
  case binOp op t p q t' =>
    unfold rBin at h0
    split at h0
    · rename_i p' q' hp hq
      have hpr := rOpd_sound A hp
      have hqr := rOpd_sound A hq
      split at h0
      · rename_i hop
        split at h0
        · cases h0
          obtain ⟨v, h1, h2⟩ := binop_sound (P := P) (t := t) (X := p) (Y := q) hpr hqr (by simpa only [aval] using hv)
          exact ⟨v, by simp only [execOp]; exact run_v h1, h2⟩
        · cases h0
          obtain ⟨v, h1, h2⟩ := binop_sound (P := P) (t := t) (X := p) (Y := q) hpr hqr (by simpa only [aval] using hv)
          exact ⟨v, by simp only [execOp]; exact run_v h1, h2⟩
        · rename_i fs ht
          split at h0
          · rename_i hst
            split at h0
            · rename_i ks i hks hi
              split at h0 <;> cases h0
              rename_i hlen
              simp only [aval] at hv
              split at hv
              · rename_i xs ys hxs hys
                simp only [Option.map_eq_some_iff] at hv
                obtain ⟨b, hb, rfl⟩ := hv
                rw [hxs] at hpr; rw [hys] at hqr
                simp only [VRel] at hpr hqr
                obtain ⟨us, hu1, hu2⟩ := hpr
                obtain ⟨vs, hv1, hv2⟩ := hqr
                have lk : ∀ (ks : List EqK) (xs ys : List AVal) (b : Bool), eqAll ks xs ys = some b → xs.length = ks.length ∧ ys.length = ks.length := by
                  intro ks
                  induction ks with
                  | nil => intro xs ys b h; cases xs <;> cases ys <;> simp_all [eqAll]
                  | cons k ks ih =>
                    intro xs ys b h
                    cases xs <;> cases ys <;> simp only [eqAll, reduceCtorEq] at h
                    split at h <;> cases h
                    rename_i h1 h2
                    have := ih _ _ _ h2
                    simp [this]
                have hl := lk ks xs ys b hb
                have hfields : P.fieldsOf t = fs := by simp [Program.fieldsOf, ht]
                have hpl := plainK_sound (P := P) (w := w) (m := m) (F := F) (d := 9998) fs.toList 0 ks hks xs ys us vs b (by have := hu1.length; omega) (by have := hv1.length; omega) (by simpa using hu1) (by simpa using hv1) hb
                have heq : (Op.equal t (a.eval p) (a.eval q)).run P w = .ok b w := by
                  unfold Op.equal Op.maxDepth
                  rw [hu2, hv2, run_equalIn_struct w 9999 t us.toArray vs.toArray (by rw [hfields]; exact ht) hst.1, hfields]
                  exact hpl
                have hg : (eqGuard op t p q (a.eval p) (a.eval q)).run P w = .ok () w := by rw [hu2, hv2]; exact run_eqGuard_agg hst.2
                refine ⟨.bool (if decide (op = .neq) then !b else b), ?_, by simp only [VRel]⟩
                simp only [execOp]
                apply run_v
                simp only [Sem.run_bind, hg, Result.andThen_ok]
                rcases hop with rfl | rfl
                · rw [hu2, hv2] at *
                  simp only [binOp, Sem.run_bind, heq, Result.andThen_ok, Sem.run_pure]
                  simp
                · rw [hu2, hv2] at *
                  simp only [binOp, Sem.run_bind, heq, Result.andThen_ok, Sem.run_pure]
                  simp
              · cases hv
            · cases h0
          · cases h0
        · split at h0 <;> cases h0
          rename_i f1 f2 f3 _ k hk
          simp only [aval] at hv
          rcases eqvV_cases hv with ⟨e, bf, rfl, e1, e2, rfl⟩ | ⟨b, hb, rfl⟩
          · rw [e1] at hpr; rw [e2] at hqr
            simp only [VRel] at hpr hqr
            obtain ⟨A', c', vs', _, hu, _⟩ := hpr
            obtain ⟨et, ht⟩ := eqK_inv hk
            have hg : (eqGuard op t p q (a.eval p) (a.eval q)).run P w = .ok () w := by
              rw [hu, hqr]
              rcases hop with rfl | rfl <;> simp [eqGuard]
            obtain ⟨r, heq⟩ : ∃ r, (Op.equal t (a.eval p) (a.eval q)).run P w = .ok r w := by
              rw [hu, hqr]
              unfold Op.equal Op.maxDepth
              exact eqAny ht
            refine ⟨.bool (if decide (op = .neq) then !r else r), ?_, by simp only [VRel]; exact ⟨_, rfl⟩⟩
            simp only [execOp]
            apply run_v
            simp only [Sem.run_bind, hg, Result.andThen_ok]
            rw [hu, hqr] at heq ⊢
            rcases hop with rfl | rfl <;> simp only [binOp, Sem.run_bind, heq, Result.andThen_ok, Sem.run_pure] <;> simp
          have heq : (Op.equal t (a.eval p) (a.eval q)).run P w = .ok b w := by
            unfold Op.equal Op.maxDepth
            exact eq1_sound hk hpr hqr hb
          have hg : (eqGuard op t p q (a.eval p) (a.eval q)).run P w = .ok () w := eqGuard_run hpr hqr hb
          refine ⟨.bool (if decide (op = .neq) then !b else b), ?_, by simp only [VRel]⟩
          simp only [execOp]
          apply run_v
          simp only [Sem.run_bind, hg, Result.andThen_ok]
          refine eqv_run hop ⟨fun e => ?_, fun e => ?_⟩ hpr hqr hb heq
          · subst e
            obtain ⟨i, hi⟩ := eqK_inv hk
            exact f1 _ hi
          · subst e
            exact f2 (eqK_inv hk)
      · cases h0
        obtain ⟨v, h1, h2⟩ := binop_sound (P := P) (t := t) (X := p) (Y := q) hpr hqr (by simpa only [aval] using hv)
        exact ⟨v, by simp only [execOp]; exact run_v h1, h2⟩
    · cases h0
  case unOp op t y =>
    split at h0
    · rename_i hop
      simp only [Option.map_eq_some_iff] at h0; obtain ⟨z, hz, rfl⟩ := h0
      have hr := rOpd_sound A hz
      simp only [aval] at hv
      unfold unop at hv
      split at hv
      · rename_i k q he
        cases hv
        rw [he] at hr; simp only [VRel] at hr
        exact ⟨_, by simp only [execOp]; apply run_v; rw [hr]; rfl, by simp only [VRel]⟩
      · rename_i b he
        cases hv
        rw [he] at hr; simp only [VRel] at hr
        exact ⟨_, by simp only [execOp]; apply run_v; rw [hr]; rfl, by simp only [VRel]⟩
      · cases hv
    · cases h0
  case convert src dst y =>
    unfold rConv at h0
    split at h0
    · rename_i z q k hz hs1 hd1
      cases h0
      have hr := rOpd_sound A hz
      simp only [aval] at hv
      split at hv
      · rename_i kk q he
        cases hv
        rw [he] at hr; simp only [VRel] at hr
        refine ⟨.int k (k.wrap q), ?_, by simp only [VRel]⟩
        simp only [execOp]; apply run_v; rw [hr]
        unfold convert
        simp [run_und hs1, run_und hd1, Conv.intToInt]
      · cases hv
    · rename_i z hz hs1 hd1
      cases h0
      have hr := rOpd_sound A hz
      simp only [aval] at hv
      split at hv
      · rename_i s he
        cases hv
        rw [he] at hr
        refine ⟨.string s, ?_, by rw [← (show a.eval y = .string s from by simp only [VRel] at hr; exact hr.1)]; exact hr⟩
        simp only [VRel] at hr
        simp only [execOp]; apply run_v; rw [hr.1]
        unfold convert
        simp [run_und hs1, run_und hd1]
      · cases hv
    · rename_i z e hz hs1 hd1
      split at h0
      · rename_i he
        cases h0
        have hr := rOpd_sound A hz
        have he' : P.underlying e = some (.int .u8) := by
          revert he
          cases P.underlying e with
          | none => simp
          | some d =>
            cases d <;> simp
            try (rename_i k; cases k <;> simp)
        obtain ⟨v, h1, h2⟩ := b2s_sound (P := P) R hs1 he' hd1 hr (by simpa only [aval] using hv)
        exact ⟨v, by simp only [execOp]; exact run_v h1, h2⟩
      · cases h0
    · split at h0 <;> cases h0
      simp [AOp.stay] at hs
    · split at h0 <;> cases h0
      simp [AOp.stay] at hs
    · cases h0
  case makeFunc fn first cap =>
    cases fn <;> simp only [reduceCtorEq] at h0
    split at h0
    · rename_i f hf
      simp only [Option.map_eq_some_iff] at h0; obtain ⟨l, hl, rfl⟩ := h0
      simp only [aval, Option.some.injEq] at hv; subst hv
      have hr := rOpds_sound A hl
      refine ⟨.func (.func f) #[] (cap.map a.eval), ?_, ?_⟩
      · have : first = #[] := Array.eq_empty_of_size_eq_zero hf.1
        subst this
        simp only [execOp, Instr.makeFunc]
        exact run_v (by simp)
      · simp only [VRel]
        exact ⟨cap.toList.map a.eval, hr, by congr 1; apply Array.ext'; simp⟩
    · cases h0
  case makeInterface t y =>
    split at h0 <;> cases h0
    rename_i d z hnd hd hz
    simp only [aval, Option.some.injEq] at hv; subst hv
    refine ⟨.iface t (a.eval y), ?_, by simp only [VRel]; exact ⟨_, rOpd_sound A hz, rfl⟩⟩
    simp only [execOp]; apply run_v
    unfold Instr.makeInterface
    simp only [Sem.run_bind, run_und hd, Result.andThen_ok]
    cases d <;> first | rfl | exact absurd hd (by simpa using hnd _)
  case typeAssert y xt t ok =>
    split at h0 <;> cases h0
    rename_i d z q hnd hd hz hq
    have hr := rOpd_sound A hz
    obtain ⟨zv, hzr, hzv⟩ := zeroA_sound (w := w) (m := m) (F := F) hq
    have tupd : ∀ (x : AVal) (v : Value) (b : Bool), VRel m F w x v → VRel m F w (.tup [x, .bool b]) (.tuple #[v, .bool b]) := by
      intro x v b hx
      simp only [VRel, VRels]
      exact ⟨_, ⟨v, _, hx, ⟨.bool b, [], rfl, rfl, rfl⟩, rfl⟩, rfl⟩
    have hni : ∀ ms, d ≠ .interface ms := hnd
    simp only [aval] at hv
    split at hv
    · rename_i t' x' he
      rw [he] at hr; simp only [VRel] at hr
      obtain ⟨u, hu, hu2⟩ := hr
      split at hv
      · rename_i htt
        cases hv
        refine ⟨if ok then .tuple #[u, .bool true] else u, ?_, ?_⟩
        · simp only [execOp]; apply run_v; rw [hu2]
          unfold Instr.typeAssert
          simp only [Sem.run_bind, run_und hd, Result.andThen_ok]
          cases d <;> first | (exact absurd rfl (hni _)) | simp [htt]
        · cases ok
          · exact hu
          · exact tupd _ _ _ hu
      · rename_i htt
        split at hv <;> cases hv
        rename_i hok
        subst hok
        refine ⟨.tuple #[zv, .bool false], ?_, tupd _ _ _ hzv⟩
        simp only [execOp]; apply run_v; rw [hu2]
        unfold Instr.typeAssert
        simp only [Sem.run_bind, run_und hd, Result.andThen_ok]
        cases d <;> first | (exact absurd rfl (hni _)) | simp [htt, hzr]
    · rename_i he
      rw [he] at hr; simp only [VRel] at hr
      split at hv <;> cases hv
      rename_i hok
      subst hok
      refine ⟨.tuple #[zv, .bool false], ?_, tupd _ _ _ hzv⟩
      simp only [execOp]; apply run_v; rw [hr]
      unfold Instr.typeAssert
      simp only [Sem.run_bind, run_und hd, Result.andThen_ok]
      cases d <;> first | (exact absurd rfl (hni _)) | simp [hzr]
    · cases hv
  case field t y f =>
    split at h0
    · rename_i fs z ht hz
      split at h0
      · rename_i fl hf
        simp only [Option.map_eq_some_iff] at h0; obtain ⟨n', hn, rfl⟩ := h0
        obtain ⟨v, h1, h2⟩ := fieldV_sound (w := w) ht hf hn (rOpd_sound A hz) (by simpa only [aval] using hv)
        exact ⟨v, by simp only [execOp]; exact run_v h1, h2⟩
      · cases h0
    · cases h0
  case fieldAddr t y f =>
    split at h0
    · rename_i fs z ht hz
      split at h0
      · rename_i fl hf
        split at h0
        · rename_i i hi
          split at h0
          · rename_i hne
            simp only [Option.map_eq_some_iff] at h0; obtain ⟨n', hn, rfl⟩ := h0
            obtain ⟨v, h1, h2⟩ := faddrV_sound (w := w) ht hf hi hne hn (rOpd_sound A hz) (by simpa only [aval] using hv)
            exact ⟨v, by simp only [execOp]; exact run_v h1, h2⟩
          · cases h0
        · cases h0
      · cases h0
    · cases h0
  case indexAddr t y i =>
    split at h0
    · rename_i e y' i' ht hy hi
      split at h0
      · rename_i inf hinf
        split at h0 <;> cases h0
        rename_i hne
        obtain ⟨v, h1, h2⟩ := iaddrV_sound (w := w) ht hinf hne (rOpd_sound A hy) (rOpd_sound A hi) (by simpa only [aval] using hv)
        exact ⟨v, by simp only [execOp]; exact run_v h1, h2⟩
      · cases h0
    · cases h0
  case index t y i =>
    split at h0 <;> cases h0
    rename_i y' i' ht hy hi
    obtain ⟨v, h1, h2⟩ := indexV_sound (P := P) ht (rOpd_sound A hy) (rOpd_sound A hi) (by simpa only [aval] using hv)
    exact ⟨v, by simp only [execOp]; exact run_v h1, h2⟩
  case slice t y lo hi mx =>
    split at h0
    · rename_i y' lo' hi' ht hy hlo hhi hmx
      cases h0
      simp only [aval] at hv
      have hr := rOpd_sound A hy
      obtain ⟨L, e1⟩ : ∃ L, intOf' (lo'.map (ev ρ)) = some L := by
        cases e : intOf' (lo'.map (ev ρ)) with
        | none => simp [sliceSV, e] at hv
        | some L => exact ⟨L, rfl⟩
      obtain ⟨H, e2⟩ : ∃ L, intOf' (hi'.map (ev ρ)) = some L := by
        cases e : intOf' (hi'.map (ev ρ)) with
        | none => simp [sliceSV, e1, e] at hv
        | some L => exact ⟨L, rfl⟩
      have hm : mx = none := by
        cases mx with
        | none => rfl
        | some q => simp only [rOpt, Option.map_eq_some_iff, reduceCtorEq, and_false, exists_false] at hmx
      subst hm
      obtain ⟨v, h1, h2⟩ := sliceS_sound (P := P) (w := w) (m := m) (F := F) ht hr e1 e2 (OV.of A hlo e1) (OV.of A hhi e2) hv
      exact ⟨v, by simp only [execOp]; exact run_v h1, h2⟩
    · rename_i e y' lo' hi' mx' ht hy hlo hhi hmx
      split at h0
      · rename_i inf hinf
        split at h0 <;> cases h0
        rename_i hne
        simp only [aval] at hv
        have hr := rOpd_sound A hy
        obtain ⟨L, e1⟩ : ∃ L, intOf' (lo'.map (ev ρ)) = some L := by
          cases e : intOf' (lo'.map (ev ρ)) with
          | none => simp [sliceV, e] at hv
          | some L => exact ⟨L, rfl⟩
        obtain ⟨H, e2⟩ : ∃ L, intOf' (hi'.map (ev ρ)) = some L := by
          cases e : intOf' (hi'.map (ev ρ)) with
          | none => simp [sliceV, e1, e] at hv
          | some L => exact ⟨L, rfl⟩
        obtain ⟨M, e3⟩ : ∃ L, intOf' (mx'.map (ev ρ)) = some L := by
          cases e : intOf' (mx'.map (ev ρ)) with
          | none => simp [sliceV, e1, e2, e] at hv
          | some L => exact ⟨L, rfl⟩
        obtain ⟨v, h1, h2⟩ := sliceV_sound (P := P) ht hinf hr e1 e2 e3 (OV.of A hlo e1) (OV.of A hhi e2) (OV.of A hmx e3) (by
          intro hq
          cases mx with
          | none => cases hq
          | some q =>
            simp only [rOpt, Option.map_eq_some_iff] at hmx
            obtain ⟨q', _, rfl⟩ := hmx
            have := hne.2 rfl
            cases hi with
            | none => simp only [rOpt, Option.some.injEq] at hhi; subst hhi; cases this
            | some _ => rfl) hv
        exact ⟨v, by simp only [execOp]; exact run_v h1, h2⟩
      · cases h0
    · cases h0
  case extract y i =>
    simp only [Option.map_eq_some_iff] at h0; obtain ⟨z, hz, rfl⟩ := h0
    have hr := rOpd_sound A hz
    simp only [aval] at hv
    split at hv
    · rename_i vs he
      rw [he] at hr; simp only [VRel] at hr
      obtain ⟨us, hu, hu2⟩ := hr
      obtain ⟨v, h1, h2⟩ := hu.get hv
      refine ⟨v, ?_, h2⟩
      simp only [execOp]; apply run_v; rw [hu2]
      simp [Instr.extract, h1]
    · cases hv
  case lookup t y k ok =>
    split at h0
    · rename_i kt e y' k' ht hy hk
      split at h0
      · rename_i kk z hkt hz
        cases h0
        obtain ⟨v, h1, h2⟩ := lookup_sound R ht hkt (st := false) ⟨kk, rfl⟩ hz (ok := ok) (rOpd_sound A hy) (rOpd_sound A hk) (by simpa only [aval] using hv)
        exact ⟨v, by simp only [execOp]; exact run_v h1, h2⟩
      · rename_i z hkt hz
        cases h0
        obtain ⟨v, h1, h2⟩ := lookup_sound R ht hkt (st := true) rfl hz (ok := ok) (rOpd_sound A hy) (rOpd_sound A hk) (by simpa only [aval] using hv)
        exact ⟨v, by simp only [execOp]; exact run_v h1, h2⟩
      · cases h0
    · cases h0
  case build t parts =>
    split at h0
    · rename_i fs z ht hz
      split at h0
      · cases h0
      · rename_i hall
        simp only [Option.map_eq_some_iff] at h0; obtain ⟨ps, hps, rfl⟩ := h0
        obtain ⟨zv, hzr, hzv⟩ := zeroCs_sound (w := w) (m := m) (F := F) hz
        simp only [aval, Option.map_eq_some_iff] at hv
        obtain ⟨r, hr, rfl⟩ := hv
        obtain ⟨rs, g1, g2, g3⟩ := fill_sound A parts.toList ps z zv.cells.toList r hps hzv hr
        refine ⟨.agg rs, ?_, by simp only [VRel]; exact ⟨rs.toList, g2, by simp⟩⟩
        simp only [execOp]; apply run_v
        unfold Instr.build
        have hpl : (fs.mapM (fun f => do pure (f.offset, ← sizeOf f.type)) : Sem (Array (Nat × Nat))).run P w = .ok (fs.map fun f => (f.offset, ((P.info? f.type).map (·.size)).getD 0)) w := by
          have : ∀ l : List Field, (l.all fun f => (P.info? f.type).isSome) = true → (l.mapM (fun f => do pure (f.offset, ← sizeOf f.type)) : Sem (List (Nat × Nat))).run P w = .ok (l.map fun f => (f.offset, ((P.info? f.type).map (·.size)).getD 0)) w := by
            intro l
            induction l with
            | nil => intro _; simp
            | cons f l ih =>
              intro hl
              simp only [List.all_cons, Bool.and_eq_true] at hl
              obtain ⟨i, hi⟩ := Option.isSome_iff_exists.1 hl.1
              simp only [List.mapM_cons, Sem.run_bind, run_sz hi, Result.andThen_ok, Sem.run_pure, ih hl.2, List.map_cons, hi, Option.map_some, Option.getD_some]
          rw [Array.mapM_eq_mapM_toList, Sem.run_map, this fs.toList (by simpa only [Bool.not_eq_true', Bool.not_eq_false] using hall)]
          simp only [Result.andThen_ok]
          congr 1
          apply Array.ext'
          simp
        simp only [Sem.run_bind, hzr, Result.andThen_ok, run_und ht, hpl]
        have hplace : (fun (i : Nat) => (fs.map fun f => (f.offset, ((P.info? f.type).map (·.size)).getD 0))[i]?) = (fun (i : Nat) => match (fs[i]? : Option Field) with | some f => (P.info? f.type).map fun (inf : TypeInfo) => (f.offset, inf.size) | none => none) := by
          funext i
          rw [Array.getElem?_map]
          cases hfi : fs[i]? with
          | none => rfl
          | some f =>
            have hmem : f ∈ fs.toList := by
              rw [← Array.getElem?_toList] at hfi
              exact List.mem_of_getElem? hfi
            have : ((P.info? f.type).isSome) = true := by
              simp only [Bool.not_eq_true', Bool.not_eq_false, List.all_eq_true] at hall
              exact hall f hmem
            obtain ⟨inf, hinf⟩ := Option.isSome_iff_exists.1 this
            simp [hinf]
        simp only [Array.toArray_toList] at g1
        have this : (parts.map fun (i, x) => (i, a.eval x)).toList = parts.toList.map (fun p => (p.1, a.eval p.2)) := by simp
        have g1' : Instr.fill (fun (i : Nat) => (fs.map fun f => (f.offset, ((P.info? f.type).map (·.size)).getD 0))[i]?) zv.cells (parts.map fun (i, x) => (i, a.eval x)).toList = some rs := by
          rw [hplace, this]; exact g1
        rw [g1']
        rfl
    · cases h0
  case call c =>
    rcases aval_call_none h0 hs with ⟨k, x', t, y, rfl, hc, ht, ha, hk, hkk, _⟩ | ⟨mx, l, rfl, hc, ha⟩
    · have hr := rOpds_sound A ha
      simp only [List.map_cons, List.map_nil, VRels] at hr
      obtain ⟨u, us, hu, rfl, hus⟩ := hr
      obtain ⟨v, h1, h2⟩ := len_sound R (t := t) hu hk (by simpa only [aval] using hv) ty
      refine ⟨v, ?_, h2⟩
      have e1 : c.args.map a.eval = #[u] := by apply Array.ext'; simpa using hus
      have e2 : c.argTypes = #[t] := by apply Array.ext'; simpa using ht
      simp only [execOp, resolve, hc, Sem.run_bind, Sem.run_pure, Result.andThen_ok, invoke, builtin, e1, e2]
      simp only [h1, Result.andThen_ok]
    · have hr := rOpds_sound A ha
      simp only [aval] at hv
      unfold minmaxV at hv
      split at hv
      · cases hv
      · rename_i x0 xs he
        rw [he] at hr
        simp only [VRels] at hr
        obtain ⟨u, us, hu, hus, hue⟩ := hr
        obtain ⟨z, g1, g2⟩ := minmaxV_fold (P := P) hus hu hv
        refine ⟨z, ?_, g2⟩
        have e1 : (c.args.map a.eval).toList = u :: us := by simpa using hue
        simp only [execOp, resolve, hc, Sem.run_bind, Sem.run_pure, Result.andThen_ok, invoke]
        cases mx
        · simp only [builtin, Bool.false_eq_true, if_false, Sem.run_bind, Builtin.min_, e1] at g1 ⊢
          simp only [g1, Result.andThen_ok, Sem.run_pure]
        · simp only [builtin, if_true, Sem.run_bind, Builtin.max_, e1] at g1 ⊢
          simp only [g1, Result.andThen_ok, Sem.run_pure]
  case alloc t =>
    exfalso
    split at h0
    · split at h0 <;> cases h0; simp [AOp.stay] at hs
    · cases h0
  case box t y =>
    exfalso
    split at h0 <;> cases h0; simp [AOp.stay] at hs
  case buildSlice t l ps =>
    exfalso
    split at h0
    · split at h0
      · split at h0
        · simp only [Option.map_eq_some_iff] at h0; obtain ⟨z, hz, rfl⟩ := h0; simp [AOp.stay] at hs
        · cases h0
      · cases h0
    · cases h0
  case makeSlice t l c =>
    exfalso
    split at h0
    · split at h0
      · split at h0 <;> cases h0; simp [AOp.stay] at hs
      · cases h0
    · cases h0
  case store t y z =>
    exfalso
    split at h0 <;> cases h0; simp [AOp.stay] at hs
  case makeMap t r =>
    exfalso
    split at h0 <;> cases h0; simp [AOp.stay] at hs
  case mapUpdate t y k v =>
    exfalso
    split at h0
    · split at h0 <;> cases h0 <;> simp [AOp.stay] at hs
    · cases h0
  case insert t y k v =>
    exfalso
    split at h0
    · split at h0 <;> cases h0 <;> simp [AOp.stay] at hs
    · cases h0
end
end Go.Proofs.YtcjlgmknclifmaaDoor.Ab
