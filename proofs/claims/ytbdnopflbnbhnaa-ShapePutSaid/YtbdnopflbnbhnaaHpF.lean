/- Proved: for every input the law ShapePut returns true, and each argument reads as it did; there are no further conditions. -/
import Derived.Test.YtbdnopflbnbhnaaRows
import Derived.Test.YtbdnopflbnbhnaaHpE
import Derived.Test.YtbdnopflbnbhnaaAb18
set_option linter.unusedVariables false
set_option linter.unusedSimpArgs false
namespace Go.Proofs.Ytbdnopflbnbhnaa.Ab
open Go Go.ChangeShapes Go.WideShapes Go.ChangeAt Go.RowKit

theorem ownPut : ownKnob Try.prog.godebug = none := by kernel_rfl
theorem putInt : Opens Try.prog 3 Int (fun n => [.int .i64 n]) (fun n => IntKind.i64.min ≤ n ∧ n ≤ IntKind.i64.max) := Opens.int Try.underlying3
theorem putStr : Opens Try.prog 9 ByteArray (fun n => [.str n]) (fun _ => True) := Opens.str Try.underlying9

set_option maxRecDepth 100000 in
theorem contract_put (H : Type) (enc : TypeId × Value → H) (W : World) (base : Nat) (args : Array Value) (ds gs : List (DataW H)) (before : List MemPlace)
    (hval : ∀ (j : Nat) t v, Try.f4.params[j]? = some t → args[j]? = some v → Value.okWide Try.prog W .any base t v)
    (hW : DataW.Whole enc Try.prog Try.f4.params.toList Rows.shapePutSpec.vars false W args.toList ds gs before) :
    Calls Try.prog 4 args W fun e W' => ∃ v, e = .returned v ∧ Rows.shapePutSpec.post enc Try.prog Try.f4 false true false false W args v W' := by
  have hW' := hW
  obtain ⟨p, q, hA0, hV, rfl, hfz, hnd⟩ := hW
  have hA : DataW.TrodAll enc Try.prog W 0 (fun _ => true) true Try.f4.params.toList args.toList ds p := hA0
  rw [Try.params4] at hA hval
  obtain ⟨v0, vs0, d0, ds0, p0, q0, hargs, rfl, rfl, h0, r0⟩ := trodAll_cons hA
  obtain ⟨v1, vs1, d1, ds1, p1, q1, rfl, rfl, rfl, h1, r1⟩ := trodAll_cons r0
  obtain ⟨rfl, rfl, rfl⟩ := trodAll_nil r1
  obtain rfl : args = #[v0, v1] := by cases args; simp_all
  obtain ⟨rfl, rfl⟩ := trodVars_none hV
  obtain ⟨C0, e0⟩ := okWide_string Try.underlying9 (hval 0 9 v0 rfl rfl)
  obtain ⟨C1, e1⟩ := okWide_int Try.underlying3 (hval 1 3 v1 rfl rfl)
  obtain ⟨a, ia, va⟩ := putStr.arg1 (by rw [e0]; rfl) h0
  obtain ⟨b, ib, vb⟩ := putInt.arg1 (by rw [e1]; rfl) h1
  refine ((fn4_ok a b noHeap).2 noMap (oldB W) W [v0, v1] (Rel_none W) (by simp only [VRels]; exact ⟨_, _, va, ⟨_, _, vb, rfl, rfl⟩, rfl⟩)).mono fun e W' hp => ?_
  cases e <;> first | exact hp.elim | skip
  obtain ⟨v, h', m', F', _, ⟨rfl, rfl⟩, _, hr, he⟩ := hp
  simp only [VRel] at hr
  subst hr
  exact ⟨_, rfl, post_of_true (tb := 4) hW' rfl rfl (by kernel_rfl) (by kernel_rfl) (by kernel_rfl) (by kernel_rfl) Try.underlying4 he⟩

set_option maxRecDepth 100000 in
theorem lifted_put (os : Os) (started : os.Started) (H : Type) (enc : TypeId × Value → H) :
    ReturnsInHanded {} Try.checked os 4 .any (Rows.shapePutRow.pre enc Try.prog Try.f4 (OpenSpec.ofChange Rows.shapePutSpec)) (Rows.shapePutSpec.post enc Try.prog Try.f4 false true false false) := by
  refine returnsInHanded_of_change (C := Try.checked) (s := Rows.shapePutSpec) ownPut started (by kernel_rfl) Try.func4
    (ChangeSpec.witness6 (enc := enc) (C := Try.checked) (s := Rows.shapePutSpec) false ⟨#[], #[.string ⟨#[]⟩, .int .i64 0], []⟩ 8 (by kernel_rfl) (by kernel_rfl) (by kernel_rfl) (by kernel_rfl)) ?_
  intro W base args ds gs before hval hW _ _
  exact contract_put H enc W base args ds gs before hval hW

theorem shapePut : Rows.ShapePutSaid :=
  OpenClaim.holds_of_wide 4 Try.f4 rfl rfl rfl rfl rfl rfl rfl ⟨rfl, rfl, rfl, rfl, rfl⟩ rfl rfl rfl rfl rfl (by kernel_rfl) Try.func4 (by kernel_rfl)
    (of_decide_eq_true (by kernel_rfl)) (by unfold Func.isWrapper; first | (rw [if_pos (by decide +kernel)]; kernel_rfl) | (rw [if_neg (by decide +kernel)]; exact ⟨rfl, rfl⟩))
    (fun os started H enc _ => lifted_put os started H enc)
end Go.Proofs.Ytbdnopflbnbhnaa.Ab
