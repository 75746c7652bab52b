/- Each operation that leaves memory alone does in the model what it does here. -/
import Derived.Test.YtcjlgmknclifmaaDoorAb4
set_option linter.unusedVariables false
set_option linter.unusedSimpArgs false
namespace Go.Proofs.YtcjlgmknclifmaaDoor.Ab
open Go
section
variable {P : Program} {w : World} {m : Map} {F : Nat → Prop}

/-- The model's value of a number, a bool. -/
def pv : AVal → Value
  | .int k n => .int k n
  | .bool b => .bool b
  | .str s => .string s
  | _ => undef
theorem arith_sound {op : BinOp} {t : TypeId} {k : IntKind} {x y : Int} {r : AVal} (h : arith op k x y = some r) : (binOp op t (.int k x) (.int k y)).run P w = .ok (pv r) w ∧ VRel m F w r (pv r) := by
  cases op <;> simp only [arith, reduceCtorEq] at h
  case quo =>
    split at h <;> cases h
    rename_i hy
    exact ⟨by simp [binOp, Op.intDiv, hy, pv], by simp only [VRel, pv]⟩
  case rem =>
    split at h <;> cases h
    rename_i hy
    exact ⟨by simp [binOp, Op.intDiv, hy, pv], by simp only [VRel, pv]⟩
  all_goals
    cases h; exact ⟨by simp [binOp, Op.intArith, Op.intBits, Op.intCmp, pv], by simp only [VRel, pv]⟩
theorem shiftI_sound {op : BinOp} {t : TypeId} {k k' : IntKind} {x y : Int} {r : AVal} (h : shiftI op k x y = some r) : (binOp op t (.int k x) (.int k' y)).run P w = .ok (pv r) w ∧ VRel m F w r (pv r) := by
  unfold shiftI at h
  split at h
  · cases h
  · rename_i hy
    cases op <;> simp only [reduceCtorEq] at h
    all_goals cases h; exact ⟨by simp [binOp, Op.shift, hy, pv], by simp only [VRel, pv]⟩
theorem strop_sound {op : BinOp} {t : TypeId} {x y : ByteArray} {r : AVal} (h : strop op x y = some r) : (binOp op t (.string x) (.string y)).run P w = .ok (pv r) w ∧ VRel m F w r (pv r) := by
  cases op <;> simp only [strop, reduceCtorEq] at h
  case add =>
    split at h <;> cases h
    rename_i hs
    have hs' : x.size + y.size ≤ 140737488355328 := hs
    refine ⟨by simp only [binOp, Op.stringOp]; rw [if_neg (by simp [IntKind.max, IntKind.signed, IntKind.bits]; omega)]; rfl, ?_⟩
    simp only [VRel, pv]
    exact ⟨trivial, by rw [ByteArray.size_append]; exact big_huge hs⟩
  all_goals
    cases h; exact ⟨by simp only [binOp, Op.stringOp, Sem.run_pure, pv], by simp only [VRel, pv]⟩

theorem run_guard_int {op : BinOp} {t : TypeId} {x y : Operand} {k k' : IntKind} {a b : Int} : (eqGuard op t x y (.int k a) (.int k' b)).run P w = .ok () w := by
  cases op <;> simp [eqGuard]
theorem run_guard_str {op : BinOp} {t : TypeId} {x y : Operand} {a b : ByteArray} : (eqGuard op t x y (.string a) (.string b)).run P w = .ok () w := by
  cases op <;> simp [eqGuard]

theorem binop_sound {op : BinOp} {t : TypeId} {X Y : Operand} {x y r : AVal} {u v : Value} (hx : VRel m F w x u) (hy : VRel m F w y v) (h : binop op x y = some r) :
    ∃ z, (do eqGuard op t X Y u v; binOp op t u v : Sem Value).run P w = .ok z w ∧ VRel m F w r z := by
  unfold binop at h
  split at h
  · rename_i k a k' b
    simp only [VRel] at hx hy
    subst hx; subst hy
    simp only [Sem.run_bind, run_guard_int, Result.andThen_ok]
    split at h
    · exact ⟨_, shiftI_sound h⟩
    · split at h
      · rename_i hk; subst hk; exact ⟨_, arith_sound h⟩
      · cases h
  · simp only [VRel] at hx hy
    obtain ⟨rfl, _⟩ := hx; obtain ⟨rfl, _⟩ := hy
    simp only [Sem.run_bind, run_guard_str, Result.andThen_ok]
    exact ⟨_, strop_sound h⟩
  · cases h

theorem sl_not_nil {e : Nat} {A : Option Addr} {vs : List Value} (h : VecAt F w e A vs) (hne : vs ≠ []) : ∃ a, A = some a := by
  obtain ⟨b, o, rfl, _⟩ := h.2 hne
  exact ⟨_, rfl⟩
theorem vrels_ne {xs : List AVal} {vs : List Value} (h : VRels m F w xs vs) (hx : xs.isEmpty = false) : vs ≠ [] := by
  intro e
  subst e
  have := h.length
  simp at this
  obtain rfl := List.eq_nil_of_length_eq_zero this.symm
  simp at hx

/-- What a kind of equality says of a type. -/
theorem eqK_inv {t : TypeId} {k : EqK} (h : eqK P t = some k) : match k with
    | .bool => P.underlying t = some .bool
    | .int => ∃ i, P.underlying t = some (.int i)
    | .str => P.underlying t = some .string
    | .slice => ∃ e, P.underlying t = some (.slice e)
    | .map => ∃ a b, P.underlying t = some (.map a b)
    | .func => ∃ a b c, P.underlying t = some (.func a b c)
    | .ptr => ∃ e, P.underlying t = some (.pointer e) := by
  unfold eqK at h
  split at h <;> cases h <;> simp only <;> first | assumption | exact ⟨_, ‹_›⟩ | exact ⟨_, _, ‹_›⟩ | exact ⟨_, _, _, ‹_›⟩

theorem eq1_sound {d : Nat} {t : TypeId} {k : EqK} {x y : AVal} {r : Bool} {u v : Value} (hk : eqK P t = some k) (hx : VRel m F w x u) (hy : VRel m F w y v) (h : eq1 k x y = some r) :
    (Op.equalIn (d + 1) t u v).run P w = .ok r w := by
  have ht := eqK_inv hk
  cases k <;> simp only at ht
  case bool =>
    unfold eq1 at h
    split at h <;> simp only [reduceCtorEq] at * <;> try cases h
    simp only [VRel] at hx hy; subst hx; subst hy
    simp [Op.equalIn, run_und ht]
  case int =>
    obtain ⟨i, ht⟩ := ht
    unfold eq1 at h
    split at h <;> simp only [reduceCtorEq] at * <;> try cases h
    simp only [VRel] at hx hy; subst hx; subst hy
    split at h <;> cases h
    rename_i hkk; subst hkk
    simp [Op.equalIn, run_und ht]
  case str =>
    unfold eq1 at h
    split at h <;> simp only [reduceCtorEq] at * <;> try cases h
    simp only [VRel] at hx hy; obtain ⟨rfl, _⟩ := hx; obtain ⟨rfl, _⟩ := hy
    exact run_equalIn_string w d t _ _ ht
  case slice =>
    obtain ⟨e, ht⟩ := ht
    unfold eq1 at h
    split at h <;> simp only [reduceCtorEq] at * <;> try cases h
    · simp only [VRel] at hx hy; subst hx; subst hy
      simp [Op.equalIn, run_und ht]
    · split at h <;> cases h
      rename_i hne
      simp only [VRel] at hx hy
      obtain ⟨A, c, vs, h1, rfl, _, _, _, h5⟩ := hx
      obtain ⟨a, rfl⟩ := sl_not_nil h5 (vrels_ne h1 (by simpa using hne))
      subst hy
      simp [Op.equalIn, run_und ht]
    · simp only [VRel] at hx hy
      obtain ⟨b, o, A, c, _, rfl, _⟩ := hx
      subst hy
      simp [Op.equalIn, run_und ht]
  case map =>
    obtain ⟨a, b, ht⟩ := ht
    unfold eq1 at h
    split at h <;> simp only [reduceCtorEq] at * <;> try cases h
    · simp only [VRel] at hx hy; subst hx; subst hy
      simp [Op.equalIn, run_und ht]
    · simp only [VRel] at hx hy; obtain ⟨b, _, rfl⟩ := hx; subst hy
      simp [Op.equalIn, run_und ht]
  case func =>
    obtain ⟨a, b, c, ht⟩ := ht
    unfold eq1 at h
    split at h <;> simp only [reduceCtorEq] at * <;> try cases h
    · simp only [VRel] at hx hy; subst hx; subst hy
      simp [Op.equalIn, run_und ht]
    · simp only [VRel] at hx hy; obtain ⟨us, _, rfl⟩ := hx; subst hy
      simp [Op.equalIn, run_und ht]
  case ptr =>
    obtain ⟨e, ht⟩ := ht
    unfold eq1 at h
    split at h <;> simp only [reduceCtorEq] at * <;> try cases h
    · simp only [VRel] at hx hy; subst hx; subst hy
      simp [Op.equalIn, run_und ht]
    · simp only [VRel] at hx hy; obtain ⟨b, o, _, rfl⟩ := hx; subst hy
      simp [Op.equalIn, run_und ht]
    · simp only [VRel] at hx hy; obtain ⟨b, o, u, _, _, rfl, _⟩ := hx; subst hy
      simp [Op.equalIn, run_und ht]

theorem eqGuard_run {op : BinOp} {t : TypeId} {X Y : Operand} {k : EqK} {x y : AVal} {r : Bool} {u v : Value} (hx : VRel m F w x u) (hy : VRel m F w y v) (h : eq1 k x y = some r) :
    (eqGuard op t X Y u v).run P w = .ok () w := by
  unfold eq1 at h
  split at h <;> try cases h
  all_goals simp only [VRel] at hx hy
  all_goals (try (obtain ⟨A, c, vs, h1, rfl, _⟩ := hx)) <;> (try (obtain ⟨b, o, A, c, _, rfl, _⟩ := hx)) <;> (try (obtain ⟨b, o, u, _, _, rfl, _⟩ := hx)) <;> (try (obtain ⟨b, o, _, rfl⟩ := hx)) <;> (try (obtain ⟨b, _, rfl⟩ := hx)) <;> (try (obtain ⟨rfl, _⟩ := hx)) <;> (try (obtain ⟨rfl, _⟩ := hy)) <;> (try subst hx) <;> (try subst hy)
  all_goals (cases op <;> simp [eqGuard])

theorem plainK_sound {d : Nat} : ∀ (fs : List Field) (off : Nat) (ks : List EqK), plainK P off fs = some ks → ∀ (xs ys : List AVal) (us vs : List Value) (r : Bool), off + ks.length = us.length → off + ks.length = vs.length →
    VRels m F w xs (us.drop off) → VRels m F w ys (vs.drop off) → eqAll ks xs ys = some r → (Op.eqFields (d + 1) us.toArray vs.toArray fs).run P w = .ok r w
  | [], off, ks, h, xs, ys, us, vs, r, hu, hv, hx, hy, he => by
    simp only [plainK] at h
    cases h
    have e1 : us.drop off = [] := by apply List.drop_eq_nil_of_le; simp at hu; omega
    have e2 : vs.drop off = [] := by apply List.drop_eq_nil_of_le; simp at hv; omega
    rw [e1] at hx; rw [e2] at hy
    have l1 := hx.length; have l2 := hy.length
    simp at l1 l2
    obtain rfl := List.eq_nil_of_length_eq_zero l1.symm
    obtain rfl := List.eq_nil_of_length_eq_zero l2.symm
    simp only [eqAll] at he
    cases he
    simp [Op.eqFields]
  | f :: fs, off, ks, h, xs, ys, us, vs, r, hu, hv, hx, hy, he => by
    simp only [plainK] at h
    split at h
    · rename_i hn
      split at h
      · rename_i k ks' h1 h2
        split at h
        · rename_i hk
          cases h
          simp only [List.length_cons] at hu hv
          have lu : off < us.length := by omega
          have lv : off < vs.length := by omega
          rw [List.drop_eq_getElem_cons lu] at hx
          rw [List.drop_eq_getElem_cons lv] at hy
          cases xs with
          | nil => simp only [VRels, reduceCtorEq] at hx
          | cons x xs =>
            cases ys with
            | nil => simp only [VRels, reduceCtorEq] at hy
            | cons y ys =>
              simp only [VRels, List.cons.injEq] at hx hy
              obtain ⟨u, us', hx1, hx2, hxe1, hxe2⟩ := hx
              obtain ⟨v, vs', hy1, hy2, hye1, hye2⟩ := hy
              subst hxe1; subst hxe2; subst hye1; subst hye2
              simp only [eqAll] at he
              split at he
              · rename_i a b ha hb
                cases he
                have hag : (isAgg f.type).run P w = .ok false w := by
                  have := eqK_inv h1
                  rcases hk with rfl | rfl | rfl <;> simp only at this
                  · rw [run_isAgg this]
                  · obtain ⟨i, this⟩ := this; rw [run_isAgg this]
                  · rw [run_isAgg this]
                have hp1 : (part f.type us.toArray f.offset).run P w = .ok us[off] w := by
                  unfold part
                  simp only [Sem.run_bind, hag, Result.andThen_ok, Bool.false_eq_true, if_false, hn.2]
                  simp [lu]
                have hp2 : (part f.type vs.toArray f.offset).run P w = .ok vs[off] w := by
                  unfold part
                  simp only [Sem.run_bind, hag, Result.andThen_ok, Bool.false_eq_true, if_false, hn.2]
                  simp [lv]
                have hrec := plainK_sound (d := d) fs (off + 1) ks' h2 xs ys us vs b (by omega) (by omega) hx2 hy2 hb
                simp only [Op.eqFields, hn.1, ne_eq, not_false_eq_true, if_true, Sem.run_bind, hp1, hp2, Result.andThen_ok, eq1_sound h1 hx1 hy1 ha, Sem.run_ite]
                cases a
                · simp
                · simp [hrec]
              · cases he
        · cases h
      · cases h
    · cases h

theorem run_eqGuard_agg {op : BinOp} {t : TypeId} {X Y : Operand} {a b : Array Value} (h : P.eqGuardType P.depth t = false) : (eqGuard op t X Y (.agg a) (.agg b)).run P w = .ok () w := by
  cases op <;> simp [eqGuard, h]
end
end Go.Proofs.YtcjlgmknclifmaaDoor.Ab
