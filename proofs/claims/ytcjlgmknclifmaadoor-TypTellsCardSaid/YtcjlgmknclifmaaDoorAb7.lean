/- Each operation that leaves memory alone does in the model what it does here (3), and all together. -/
import Derived.Test.YtcjlgmknclifmaaDoorAb6
set_option linter.unusedVariables false
set_option linter.unusedSimpArgs false
namespace Go.Proofs.YtcjlgmknclifmaaDoor.Ab
open Go
section
variable {P : Program} {w : World} {m : Map} {F : Nat → Prop} {h : AHeap}

/-! ### slices of slices -/
inductive OV : Option Value → Option Int → Prop
  | no : OV none none
  | yes (k : IntKind) (n : Int) : OV (some (.int k n)) (some n)
theorem OV.of {n : Nat} {ρ : Nat → AVal} {a : Act} (A : ARel n m F w ρ a) {x : Option Operand} {y : Option Opd} (hx : rOpt x = some y) {l : Option Int} (hl : intOf' (y.map (ev ρ)) = some l) : OV (x.map a.eval) l := by
  cases x with
  | none => simp only [rOpt] at hx; cases hx; simp only [Option.map_none, intOf'] at hl; cases hl; exact .no
  | some x =>
    simp only [rOpt, Option.map_eq_some_iff] at hx
    obtain ⟨z, hz, rfl⟩ := hx
    have hr := rOpd_sound A hz
    simp only [Option.map_some] at hl ⊢
    unfold intOf' at hl
    split at hl
    · rename_i he; cases he
    · rename_i k n he
      cases hl
      cases he' : ev ρ z <;> rw [he'] at he hr <;> simp only [Option.some.injEq, reduceCtorEq] at he
      cases he
      simp only [VRel] at hr
      rw [hr]
      exact .yes _ _
    · cases hl
theorem run_bounds {isS : Bool} {len cap : Nat} {lo hi mx : Option Value} {l h' m' : Option Int} (h1 : OV lo l) (h2 : OV hi h') (h3 : OV mx m') (hmx : mx.isSome → hi.isSome)
    (b0 : 0 ≤ l.getD 0) (b1 : l.getD 0 ≤ h'.getD len) (b2 : h'.getD len ≤ m'.getD cap) (b3 : m'.getD cap ≤ cap) :
    (Instr.sliceBounds isS len cap lo hi mx).run P w = .ok ((l.getD 0).toNat, (h'.getD len).toNat, (m'.getD cap).toNat) w := by
  cases h1 <;> cases h2 <;> cases h3 <;> simp only [Option.getD_none, Option.getD_some, Option.isSome_some, Option.isSome_none, Bool.false_eq_true, imp_false, not_true_eq_false] at *
  all_goals
    unfold Instr.sliceBounds
    simp only [Sem.run_bind, Sem.run_pure, Result.andThen_ok]
    repeat (rw [run_sliceBound _ _ _ _ _ (by omega) (by omega)]; simp only [Result.andThen_ok])
    all_goals (try simp)

theorem sliceV_sound {t e : TypeId} {i : TypeInfo} (ht : P.underlying t = some (.slice e)) (hi : P.info? e = some i) {x r : AVal} {u : Value} (hx : VRel m F w x u) {lo hi' mx : Option Value} {l h' m' : Option Int} {L H M : Option AVal}
    (e1 : intOf' L = some l) (e2 : intOf' H = some h') (e3 : intOf' M = some m') (o1 : OV lo l) (o2 : OV hi' h') (o3 : OV mx m') (hmx : mx.isSome → hi'.isSome) (hr : sliceV i.size x L H M = some r) :
    ∃ v, (Instr.sliceAt t u lo hi' mx).run P w = .ok v w ∧ VRel m F w r v := by
  have hel : P.elem t = e := by simp [Program.elem, ht]
  have ht' : P.underlying t = some (.slice (P.elem t)) := by rw [hel]; exact ht
  unfold sliceV at hr
  simp only [e1, e2, e3] at hr
  have run : ∀ (A : Option Addr) (len cap : Nat), 0 ≤ l.getD 0 → l.getD 0 ≤ h'.getD len → h'.getD len ≤ m'.getD cap → m'.getD cap ≤ cap →
      (Instr.sliceAt t (.slice A len cap) lo hi' mx).run P w = .ok (.slice (if (m'.getD cap).toNat = (l.getD 0).toNat then A else A.map (·.add ((l.getD 0).toNat * i.size))) ((h'.getD len).toNat - (l.getD 0).toNat) ((m'.getD cap).toNat - (l.getD 0).toNat)) w := by
    intro A len cap b0 b1 b2 b3
    rw [run_sliceAt_slice _ _ _ _ _ _ ht', run_slice_any _ _ _ _ _ ht', run_bounds o1 o2 o3 hmx b0 b1 b2 b3, hel]
    simp only [Result.andThen_ok, run_sz hi]
    rfl
  cases x <;> simp only [reduceCtorEq] at hr
  case nils =>
    split at hr <;> cases hr
    rename_i hz
    simp only [VRel] at hx; subst hx
    obtain ⟨z1, z2, z3⟩ := hz
    have k2 : h'.getD ((0 : Nat) : Int) = 0 := by simpa using z2
    have k3 : m'.getD ((0 : Nat) : Int) = 0 := by simpa using z3
    refine ⟨_, run none 0 0 (by omega) (by omega) (by omega) (by omega), ?_⟩
    simp only [VRel, z1, k2, k3]
    simp
  case vec e' full xs =>
    simp only [VRel] at hx
    obtain ⟨A, c, vs, h1, rfl, h3, h4, h5, hvec⟩ := hx
    have hlen := h1.length
    split at hr
    · rename_i hb
      obtain ⟨rfl, b0, b1, b2, b3⟩ := hb
      have c2 : h'.getD (vs.length : Int) = h'.getD (xs.length : Int) := by rw [hlen]
      have cm : h'.getD (vs.length : Int) ≤ m'.getD (c : Int) ∧ m'.getD (c : Int) ≤ (c : Int) := by
        cases m' with
        | none => simp only [Option.getD_none] at b2 ⊢; omega
        | some q => simp only [Option.getD_some] at b2 b3 ⊢; omega
      have hrun := run A vs.length c b0 (by omega) cm.1 cm.2
      refine ⟨_, hrun, ?_⟩
      generalize hl0 : (l.getD 0).toNat = l0 at *
      generalize hh0 : (h'.getD (vs.length : Int)).toNat = h0 at *
      generalize hm0 : (m'.getD (c : Int)).toNat = m0 at *
      have hh0' : (h'.getD (xs.length : Int)).toNat = h0 := by rw [← c2]; exact hh0
      rw [hh0'] at hr
      have hle : l0 ≤ h0 := by omega
      have hle2 : h0 ≤ vs.length := by
        have : h'.getD (xs.length : Int) ≤ m'.getD (xs.length : Int) := b2
        omega
      have hlm : h0 ≤ m0 := by omega
      have hlen' : ((vs.take h0).drop l0).length = h0 - l0 := by simp; omega
      have mk : ∀ full', (full' = true → m0 - l0 = h0 - l0) → VRel m F w (.vec i.size full' ((xs.take h0).drop l0)) (.slice (if m0 = l0 then A else A.map (·.add (l0 * i.size))) (h0 - l0) (m0 - l0)) := by
        intro full' hf
        simp only [VRel]
        refine ⟨_, m0 - l0, (vs.take h0).drop l0, (h1.take h0).drop l0, by rw [hlen'], by rw [hlen']; omega, by rw [hlen']; omega, fun e => by rw [hlen']; exact hf e, fun y hy => hvec.1 y (List.mem_of_mem_take (List.mem_of_mem_drop hy)), fun hne => ?_⟩
        have hpos : l0 < h0 := by
          have := List.length_pos_iff.2 hne
          omega
        obtain ⟨b, o, rfl, hF, hcell⟩ := hvec.2 (by intro e; subst e; simp at hle2; omega)
        refine ⟨b, o + l0 * i.size, by rw [if_neg (by omega)]; simp [add_plain], hF, fun k y hk j c' hj => ?_⟩
        rw [List.getElem?_drop, List.getElem?_take] at hk
        split at hk
        · have := hcell (l0 + k) y hk j c' hj
          rwa [Nat.add_mul, ← Nat.add_assoc] at this
        · cases hk
      cases m' with
      | none =>
        simp only [Option.getD_none] at hm0 b2
        cases full with
        | false => simp only at hr; cases hr; exact mk false (by simp)
        | true =>
          simp only at hr; cases hr
          have hc := h5 rfl
          refine mk _ (fun hd => ?_)
          simp only [decide_eq_true_eq] at hd
          omega
      | some q =>
        simp only [Option.getD_some] at hm0 b2 b3 cm
        simp only at hr
        split at hr
        · rename_i hq
          cases hr
          simp only [Option.getD_some] at hq
          exact mk true (fun _ => by omega)
        · cases hr
          exact mk false (by simp)
    · cases hr
  case sl e' id off len cap =>
    simp only [VRel] at hx
    obtain ⟨b, o, A, c, hm, rfl, h3, hA, hcap, hsz, hbig⟩ := hx
    have main : e' = i.size → 0 ≤ l.getD 0 → l.getD 0 ≤ h'.getD (len : Int) → h'.getD (len : Int) ≤ len → h'.getD (len : Int) ≤ m'.getD (c : Int) → m'.getD (c : Int) ≤ c →
        ∀ cap', (∀ k, cap' = some k → (m'.getD (c : Int)).toNat - (l.getD 0).toNat = k) →
        ∃ v, (Instr.sliceAt t (.slice (some A) len c) lo hi' mx).run P w = .ok v w ∧ VRel m F w (.sl e' id (off + (l.getD 0).toNat * e') ((h'.getD (len : Int)).toNat - (l.getD 0).toNat) cap') v := by
      rintro rfl b0 b1 b2 b3 b4 cap' hcap'
      refine ⟨_, run (some A) len c b0 b1 b3 b4, ?_⟩
      generalize hl0 : (l.getD 0).toNat = l0 at *
      generalize hh0 : (h'.getD (len : Int)).toNat = h0 at *
      generalize hm0 : (m'.getD (c : Int)).toNat = m0 at *
      simp only [VRel]
      refine ⟨b, o, if m0 = l0 then A else A.add (l0 * i.size), m0 - l0, hm, ?_, by omega, fun hp => ?_, hcap', fun hp => ?_, by omega⟩
      · split <;> rfl
      · rw [if_neg (by omega), hA (by omega), add_plain]
        simp only [Addr.mk.injEq, and_true, true_and]
        omega
      · obtain ⟨C, t', fr, g1, g2⟩ := hsz (by omega)
        refine ⟨C, t', fr, g1, Nat.le_trans ?_ g2⟩
        have : (l0 + (m0 - l0)) * i.size ≤ c * i.size := Nat.mul_le_mul_right _ (by omega)
        rw [Nat.add_mul] at this
        omega
    cases m' with
    | none =>
      simp only at hr
      split at hr <;> cases hr
      rename_i hb
      refine main hb.1 hb.2.1 hb.2.2.1 hb.2.2.2 (by simp only [Option.getD_none]; omega) (by simp) _ (fun k hk => ?_)
      simp only [Option.map_eq_some_iff] at hk
      obtain ⟨k', hk', rfl⟩ := hk
      have := hcap k' hk'
      simp only [Option.getD_none]
      omega
    | some q =>
      simp only at hr
      split at hr <;> cases hr
      rename_i hb
      refine main hb.1 hb.2.1 hb.2.2.1 (by omega) hb.2.2.2.1 (by simp only [Option.getD_some]; omega) _ (fun k hk => ?_)
      cases hk
      simp

theorem sliceS_sound {t : TypeId} (ht : P.underlying t = some .string) {x r : AVal} {u : Value} (hx : VRel m F w x u) {lo hi' : Option Value} {l h' : Option Int} {L H : Option AVal}
    (e1 : intOf' L = some l) (e2 : intOf' H = some h') (o1 : OV lo l) (o2 : OV hi' h') (hr : sliceSV x L H = some r) :
    ∃ v, (Instr.sliceAt t u lo hi' none).run P w = .ok v w ∧ VRel m F w r v := by
  unfold sliceSV at hr
  simp only [e1, e2] at hr
  split at hr
  · rename_i l0 h0 s q1 q2
    cases q1; cases q2
    simp only [VRel] at hx
    obtain ⟨rfl, hbig⟩ := hx
    split at hr
    · rename_i hb
      simp only [Option.some.injEq] at hr
      subst hr
      refine ⟨.string (s.extract (l.getD 0).toNat (h'.getD s.size).toNat), ?_, ?_⟩
      · rw [run_sliceAt_string _ _ _ _ _ _ ht]
        unfold Instr.slice
        simp only [Sem.run_bind, run_und ht, Result.andThen_ok, Option.isSome_none, Bool.false_eq_true, if_false]
        rw [run_bounds o1 o2 .no (by simp) hb.1 hb.2.1 (by simpa using hb.2.2) (by simp)]
        simp
      · simp only [VRel]
        exact ⟨trivial, by rw [ByteArray.size_extract]; omega⟩
    · cases hr
  · cases hr
end
end Go.Proofs.YtcjlgmknclifmaaDoor.Ab
