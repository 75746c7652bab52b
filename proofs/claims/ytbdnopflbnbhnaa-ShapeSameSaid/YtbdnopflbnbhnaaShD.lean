/- Proved: for every input the law ShapeSame returns true, and each argument reads as it did; there are no further conditions. -/
import Derived.Test.YtbdnopflbnbhnaaRows
import Derived.Test.YtbdnopflbnbhnaaShC
import Derived.Test.YtbdnopflbnbhnaaAb18
set_option linter.unusedVariables false
set_option linter.unusedSimpArgs false
namespace Go.Proofs.Ytbdnopflbnbhnaa.Ab
open Go Go.ChangeShapes Go.WideShapes Go.ChangeAt Go.RowKit

def i64Has (n : Int) : Prop := -9223372036854775808 ≤ n ∧ n ≤ 9223372036854775807
theorem i64Has_of {n : Int} (h : IntKind.i64.min ≤ n ∧ n ≤ IntKind.i64.max) : i64Has n := by
  simpa [i64Has, IntKind.min, IntKind.max, IntKind.signed, IntKind.bits] using h
def Ref.has (r : Ref) : Prop := i64Has r.n
def Block.has (b : Block) : Prop := i64Has b.tag ∧ ∀ r ∈ b.kids, r.has
def Graph.has (g : Graph) : Prop := g.root.has ∧ ∀ b ∈ g.blocks, b.has
theorem opens_int64 : Opens Try.prog 2 Int (fun n => [.int .i64 n]) i64Has := (Opens.int Try.underlying2).as id (fun _ => rfl) fun _ h => i64Has_of h
theorem opens_int : Opens Try.prog 3 Int (fun n => [.int .i64 n]) i64Has := (Opens.int Try.underlying3).as id (fun _ => rfl) fun _ h => i64Has_of h
theorem opens_ref : Opens Try.prog 23 Ref (fun r => [.bool r.imm, .int .i64 r.n]) Ref.has :=
  (Opens.struct Try.underlying23 (by kernel_rfl) (.cons (Opens.bool Try.underlying4) (.cons opens_int64 .nil))).as (fun p => ⟨p.1, p.2.1⟩) (fun _ => rfl) fun _ h => h.2.1
theorem opens_kids : Opens Try.prog 58 (List Ref) (fun l => [.vec 2 false (l.map refV)]) (fun l => ∀ r ∈ l, r.has) :=
  Opens.sliceS Try.underlying58 (by kernel_rfl) (by decide) opens_ref
theorem opens_block : Opens Try.prog 60 Block (fun b => [.int .i64 b.tag, .str b.str, .vec 2 false (b.kids.map refV)]) Block.has :=
  (Opens.struct Try.underlying60 (by kernel_rfl) (.cons opens_int (.cons (Opens.str Try.underlying9) (.cons opens_kids .nil)))).as (fun p => ⟨p.1, p.2.1, p.2.2.1⟩) (fun _ => rfl) fun _ h => ⟨h.1, h.2.2.1⟩
theorem opens_blocks : Opens Try.prog 24 (List Block) (fun l => [.vec 3 false (l.map blockV)]) (fun l => ∀ r ∈ l, r.has) :=
  Opens.sliceS Try.underlying24 (by kernel_rfl) (by decide) opens_block
theorem opens_graph : Opens Try.prog 26 Graph (fun g => [.bool g.root.imm, .int .i64 g.root.n, .vec 3 false (g.blocks.map blockV)]) Graph.has :=
  (Opens.struct Try.underlying26 (by kernel_rfl) (.cons opens_ref (.cons opens_blocks .nil))).as (fun p => ⟨p.1, p.2.1⟩) (fun _ => rfl) fun _ h => ⟨h.1, h.2.1⟩
theorem own : ownKnob Try.prog.godebug = none := by kernel_rfl

set_option maxRecDepth 100000 in
theorem contract_same (H : Type) (enc : TypeId × Value → H) (W : World) (base : Nat) (args : Array Value) (ds gs : List (DataW H)) (before : List MemPlace)
    (hval : ∀ (j : Nat) t v, Try.f3.params[j]? = some t → args[j]? = some v → Value.okWide Try.prog W .any base t v)
    (hW : DataW.Whole enc Try.prog Try.f3.params.toList Rows.shapeSameSpec.vars false W args.toList ds gs before) :
    Calls Try.prog 3 args W fun e W' => ∃ v, e = .returned v ∧ Rows.shapeSameSpec.post enc Try.prog Try.f3 false true false false W args v W' := by
  have hW' := hW
  obtain ⟨p, q, hA0, hV, rfl, hfz, hnd⟩ := hW
  have hA : DataW.TrodAll enc Try.prog W 0 (fun _ => true) true Try.f3.params.toList args.toList ds p := hA0
  rw [Try.params3] at hA hval
  obtain ⟨v0, vs0, d0, ds0, p0, q0, hargs, rfl, rfl, h0, r0⟩ := trodAll_cons hA
  obtain ⟨v1, vs1, d1, ds1, p1, q1, rfl, rfl, rfl, h1, r1⟩ := trodAll_cons r0
  obtain ⟨rfl, rfl, rfl⟩ := trodAll_nil r1
  obtain rfl : args = #[v0, v1] := by cases args; simp_all
  obtain ⟨rfl, rfl⟩ := trodVars_none hV
  obtain ⟨C0, e0, _⟩ := okWide_struct Try.underlying26 (hval 0 26 v0 rfl rfl)
  obtain ⟨C1, e1, _⟩ := okWide_struct Try.underlying26 (hval 1 26 v1 rfl rfl)
  obtain ⟨a, ia, va⟩ := opens_graph.argS e0 h0
  obtain ⟨b, ib, vb⟩ := opens_graph.argS e1 h1
  refine ((fn3_ok a b noHeap).2 noMap (oldB W) W [v0, v1] (Rel_none W) (by simp only [VRels]; exact ⟨_, _, va, ⟨_, _, vb, rfl, rfl⟩, rfl⟩)).mono fun e W' hp => ?_
  cases e <;> first | exact hp.elim | skip
  obtain ⟨v, h', m', F', _, ⟨rfl, rfl⟩, _, hr, he⟩ := hp
  simp only [VRel] at hr
  subst hr
  exact ⟨_, rfl, post_of_true (tb := 4) hW' rfl rfl (by kernel_rfl) (by kernel_rfl) (by kernel_rfl) (by kernel_rfl) Try.underlying4 he⟩

set_option maxRecDepth 100000 in
theorem lifted_same (os : Os) (started : os.Started) (H : Type) (enc : TypeId × Value → H) :
    ReturnsInHanded {} Try.checked os 3 .any (Rows.shapeSameRow.pre enc Try.prog Try.f3 (OpenSpec.ofChange Rows.shapeSameSpec)) (Rows.shapeSameSpec.post enc Try.prog Try.f3 false true false false) := by
  refine returnsInHanded_of_change (C := Try.checked) (s := Rows.shapeSameSpec) own started (by kernel_rfl) Try.func3
    (ChangeSpec.witness6 (enc := enc) (C := Try.checked) (s := Rows.shapeSameSpec) false ⟨#[], #[.agg #[.bool false, .int .i64 0, .slice none 0 0], .agg #[.bool false, .int .i64 0, .slice none 0 0]], []⟩ 8 (by kernel_rfl) (by kernel_rfl) (by kernel_rfl) (by kernel_rfl)) ?_
  intro W base args ds gs before hval hW _ _
  exact contract_same H enc W base args ds gs before hval hW

theorem shapeSame : Rows.ShapeSameSaid :=
  OpenClaim.holds_of_wide 3 Try.f3 rfl rfl rfl rfl rfl rfl rfl ⟨rfl, rfl, rfl, rfl, rfl⟩ rfl rfl rfl rfl rfl (by kernel_rfl) Try.func3 (by kernel_rfl)
    (of_decide_eq_true (by kernel_rfl)) (by unfold Func.isWrapper; first | (rw [if_pos (by decide +kernel)]; kernel_rfl) | (rw [if_neg (by decide +kernel)]; exact ⟨rfl, rfl⟩))
    (fun os started H enc _ => lifted_same os started H enc)
end Go.Proofs.Ytbdnopflbnbhnaa.Ab
