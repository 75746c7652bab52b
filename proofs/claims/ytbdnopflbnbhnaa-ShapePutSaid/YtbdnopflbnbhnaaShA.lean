/- Graphs by value. -/
import Derived.Test.YtbdnopflbnbhnaaAb17
import Derived.Test.YtbdnopflbnbhnaaCodeA
set_option linter.unusedVariables false
set_option linter.unusedSimpArgs false
namespace Go.Proofs.Ytbdnopflbnbhnaa.Ab
open Go

structure Ref where
  imm : Bool
  n : Int
  deriving DecidableEq
structure Block where
  tag : Int
  str : ByteArray
  kids : List Ref
  deriving DecidableEq
structure Graph where
  root : Ref
  blocks : List Block
  deriving DecidableEq
@[simp] def refV (r : Ref) : AVal := .agg [.bool r.imm, .int .i64 r.n]
@[simp] def blockV (b : Block) : AVal := .agg [.int .i64 b.tag, .str b.str, .vec 2 false (b.kids.map refV)]
@[simp] def graphV (g : Graph) : AVal := .agg [.bool g.root.imm, .int .i64 g.root.n, .vec 3 false (g.blocks.map blockV)]

theorem ref_eq (a b : Ref) : eqAll [.bool, .int] [.bool a.imm, .int .i64 a.n] [.bool b.imm, .int .i64 b.n] = some (decide (a = b)) := by
  rw [eqAll_cons (eq1_bool _ _) (eqAll_cons (eq1_int _ _ _) eqAll_nil)]
  cases a; cases b
  simp only [Option.some.injEq, Ref.mk.injEq, Bool.and_true]
  rw [Bool.eq_iff_iff]; simp

theorem fn32_ok (a b : Ref) (h : AHeap) : Returns Try.prog 32 [refV a, refV b] h (.bool (decide (a = b))) h := by
  refine Returns.pure fn32 (by simp) fun h1 h2 => ⟨by simp [AVal.ok], ?_⟩
  have e : decide (a = b) = (a.imm == b.imm && decide (a.n = b.n)) := by cases a; cases b; rw [Bool.eq_iff_iff]; simp
  simp [code32]
  refine Br2.mk (fun c => ?_) (fun c => ?_) <;> simp [c, e, Sub.alloc h1]
theorem refs_ok {n : Nat} (l : List Ref) : AVal.oks n (l.map refV) := by rw [oks_iff]; simp [AVal.ok, AVal.oks]
theorem fn31_ok (a b : List Ref) (h : AHeap) : Returns Try.prog 31 [.vec 2 false (a.map refV), .vec 2 false (b.map refV)] h (.bool (decide (a = b))) h := by
  refine Returns.pure fn31 (by simp) fun h1 h2 => ⟨by simp [AVal.ok], ?_⟩
  simp [AVal.oks, AVal.ok, refs_ok, huge] at h2
  simp [code31]
  by_cases hl : a.length = b.length
  case neg =>
    have : a ≠ b := fun e => hl (by rw [e])
    simp [hl, this]
  simp [hl]
  have ho : ∀ l : List Ref, AVal.oks h.next (l.map refV) := fun l => refs_ok l
  refine Ev.count (fun i => upd (upd (upd (upd (upd noEnv 0 (.vec 2 false (a.map refV))) 1 (.vec 2 false (b.map refV))) 4 (.bool false)) 12 (.int .i64 b.length)) 13 (.int .i64 i)) b.length (fun i => ∀ j, j < i → a[j]? = b[j]?) (fun _ => ⟨by simp, ?_⟩) ?_
  · repeat' (first | exact TidyR_none _ _ | (refine TidyR_upd (by simp [AVal.ok, ho, huge, h2]) ?_))
  intro i hi I _
  by_cases hlt : i < b.length
  case neg =>
    have : a = b := by
      refine List.ext_getElem? fun j => ?_
      by_cases hj : j < i
      · exact I j hj
      · rw [List.getElem?_eq_none (by omega), List.getElem?_eq_none (by omega)]
    simp [hlt, this]
  have hla : i < a.length := by omega
  have hw : IntKind.i64.wrap (↑i + 1) = ↑i + 1 := wrap_i64 (by omega) (by omega)
  by_cases he : a[i] = b[i]
  · simp [hlt, hla, ref_eq, he, hw]
    intro _
    refine ⟨fun j hj => ?_, ?_⟩
    · by_cases hji : j = i
      · subst hji; simp [hla, hlt, he]
      · exact I j (by omega)
    · repeat' (first | exact TidyR_none _ _ | (refine TidyR_upd (by simp [AVal.ok, ho, huge, h2]) ?_))
  · have : a ≠ b := fun e => he (by subst e; rfl)
    simp [hlt, hla, ref_eq, he, this]
theorem fn30_ok (x y : Block) (h : AHeap) : Returns Try.prog 30 [blockV x, blockV y] h (.bool (decide (x = y))) h := by
  refine Returns.pure fn30 (by simp) fun h1 h2 => ⟨by simp [AVal.ok], ?_⟩
  have e : (x = y) = (x.tag = y.tag ∧ x.str = y.str ∧ x.kids = y.kids) := by cases x; cases y; simp
  simp [code30]
  by_cases c1 : x.tag = y.tag <;> by_cases c2 : x.str = y.str <;> simp [c1, c2, e, Sub.alloc h1]
  refine (fn31_ok x.kids y.kids _).to ?_
  simp [Sub.alloc h1]
theorem fn29_ok (a b : List Block) (h : AHeap) : Returns Try.prog 29 [.vec 3 false (a.map blockV), .vec 3 false (b.map blockV), .clo 30 []] h (.bool (decide (a = b))) h := by
  refine Returns.pure fn29 (by simp) fun h1 h2 => ⟨by simp [AVal.ok], ?_⟩
  simp [AVal.oks, AVal.ok, huge] at h2
  simp [code29]
  by_cases hl : a.length = b.length
  case neg =>
    have : a ≠ b := fun e => hl (by rw [e])
    simp [hl, this]
  simp [hl]
  refine Ev.count (fun i => upd (upd (upd (upd (upd (upd (upd noEnv 0 (.vec 3 false (a.map blockV))) 1 (.vec 3 false (b.map blockV))) 2 (.clo 30 [])) 6 (.bool false)) 15 (.vec 3 false (a.map blockV))) 16 (.int .i64 b.length)) 17 (.int .i64 i)) b.length (fun i => ∀ j, j < i → a[j]? = b[j]?) (fun _ => ⟨by simp, ?_⟩) ?_
  · repeat' (first | exact TidyR_none _ _ | (refine TidyR_upd (by simp [AVal.ok, AVal.oks, huge, h2]) ?_))
  intro i hi I _
  by_cases hlt : i < b.length
  case neg =>
    have : a = b := by
      refine List.ext_getElem? fun j => ?_
      by_cases hj : j < i
      · exact I j hj
      · rw [List.getElem?_eq_none (by omega), List.getElem?_eq_none (by omega)]
    simp [hlt, this]
  have hla : i < a.length := by omega
  have hw : IntKind.i64.wrap (↑i + 1) = ↑i + 1 := wrap_i64 (by omega) (by omega)
  simp [hlt, hla]
  refine (fn30_ok a[i] b[i] _).to ?_
  by_cases he : a[i] = b[i]
  · simp [he, hw]
    intro _
    refine ⟨fun j hj => ?_, ?_, ?_⟩
    · by_cases hji : j = i
      · subst hji; simp [hla, hlt, he]
      · exact I j (by omega)
    · repeat' (first | exact Sub.refl _ | refine Sub.alloc h1 ?_ | refine Sub.put h1 ?_ (by simp))
    · repeat' (first | exact TidyR_none _ _ | (refine TidyR_upd (by simp [AVal.ok, AVal.oks, huge, h2]) ?_))
  · have : a ≠ b := fun e => he (by subst e; rfl)
    simp [he, this]
    repeat' (first | exact Sub.refl _ | refine Sub.alloc h1 ?_ | refine Sub.put h1 ?_ (by simp))
theorem fn8_ok (a b : Graph) (h : AHeap) : Returns Try.prog 8 [graphV a, graphV b] h (.bool (decide (a = b))) h := by
  refine Returns.pure fn8 (by simp) fun h1 h2 => ⟨by simp [AVal.ok], ?_⟩
  have e : (a = b) = (a.root = b.root ∧ a.blocks = b.blocks) := by cases a; cases b; simp
  simp [code8, ref_eq]
  by_cases c1 : a.root = b.root <;> simp [c1, e, Sub.alloc h1]
  refine (fn29_ok a.blocks b.blocks _).to ?_
  simp [Sub.alloc h1]
end Go.Proofs.Ytbdnopflbnbhnaa.Ab
