/- Proved: for every input the law ClientCalls returns true, and each argument reads as it did; there are no further conditions. -/
import Derived.Test.YtbjifmoiblicgaaRows
import Derived.Test.YtbjifmoiblicgaaClE
import Derived.Test.YtbjifmoiblicgaaAb23
set_option linter.unusedVariables false
set_option linter.unusedSimpArgs false
namespace Go.Proofs.Ytbjifmoiblicgaa.Ab
open Go Go.ChangeShapes Go.WideShapes Go.ChangeAt Go.RowKit

theorem ownClientCalls : ownKnob Try.prog.godebug = none := by kernel_rfl
set_option maxRecDepth 100000 in
theorem contractClientCalls (H : Type) (enc : TypeId × Value → H) (W : World) (base : Nat) (args : Array Value) (ds gs : List (DataW H)) (before : List MemPlace)
    (hval : ∀ (j : Nat) t v, Try.f6.params[j]? = some t → args[j]? = some v → Value.okWide Try.prog W .any base t v)
    (hW : DataW.Whole enc Try.prog Try.f6.params.toList Rows.clientCallsSpec.vars false W args.toList ds gs before) :
    Calls Try.prog 6 args W fun e W' => ∃ v, e = .returned v ∧ Rows.clientCallsSpec.post enc Try.prog Try.f6 false true false false W args v W' := by
  have hW' := hW
  obtain ⟨p, q, hA0, hV, rfl, hfz, hnd⟩ := hW
  have hA : DataW.TrodAll enc Try.prog W 0 (fun _ => true) true Try.f6.params.toList args.toList ds p := hA0
  rw [Try.params6] at hA hval
  obtain ⟨v0, vs0, d0, ds0, p0, q0, hargs, rfl, rfl, h0, r0⟩ := trodAll_cons hA
  obtain ⟨rfl, rfl, rfl⟩ := trodAll_nil r0
  obtain rfl : args = #[v0] := by cases args; simp_all
  obtain ⟨rfl, rfl⟩ := trodVars_none hV
  obtain ⟨s0, l0, c0, e0⟩ := okWide_slice Try.underlying50 (hval 0 50 v0 rfl rfl)
  obtain ⟨a0, i0, w0⟩ := (Opens.slice1 Try.underlying50 (by kernel_rfl) (Opens.bool Try.underlying4) (fun _ => rfl)).arg1 (by rw [e0]; rfl) h0
  refine ((fn6_ok a0 noHeap).2 noMap (oldB W) W [v0] (Rel_none W) (by simp only [VRels]; exact ⟨_, _, w0, rfl, rfl⟩)).mono fun e W' hp => ?_
  cases e <;> first | exact hp.elim | skip
  obtain ⟨v, h', m', F', _, ⟨rfl, rfl⟩, _, hr, he⟩ := hp
  simp only [VRel] at hr
  subst hr
  exact ⟨_, rfl, post_of_true (tb := 4) hW' rfl rfl (by kernel_rfl) (by kernel_rfl) (by kernel_rfl) (by kernel_rfl) Try.underlying4 he⟩

set_option maxRecDepth 100000 in
theorem liftedClientCalls (os : Os) (started : os.Started) (H : Type) (enc : TypeId × Value → H) :
    ReturnsInHanded {} Try.checked os 6 .any (Rows.clientCallsRow.pre enc Try.prog Try.f6 (OpenSpec.ofChange Rows.clientCallsSpec)) (Rows.clientCallsSpec.post enc Try.prog Try.f6 false true false false) := by
  refine returnsInHanded_of_change (C := Try.checked) (s := Rows.clientCallsSpec) ownClientCalls started (by kernel_rfl) Try.func6
    (ChangeSpec.witness6 (enc := enc) (C := Try.checked) (s := Rows.clientCallsSpec) false ⟨#[], #[.slice none 0 0], []⟩ 8 (by kernel_rfl) (by kernel_rfl) (by kernel_rfl) (by kernel_rfl)) ?_
  intro W base args ds gs before hval hW _ _
  exact contractClientCalls H enc W base args ds gs before hval hW

theorem clientCalls : Rows.ClientCallsSaid :=
  OpenClaim.holds_of_wide 6 Try.f6 rfl rfl rfl rfl rfl rfl rfl ⟨rfl, rfl, rfl, rfl, rfl⟩ rfl rfl rfl rfl rfl (by kernel_rfl) Try.func6 (by kernel_rfl)
    (of_decide_eq_true (by kernel_rfl)) (by unfold Func.isWrapper; first | (rw [if_pos (by decide +kernel)]; kernel_rfl) | (rw [if_neg (by decide +kernel)]; exact ⟨rfl, rfl⟩))
    (fun os started H enc _ => liftedClientCalls os started H enc)
end Go.Proofs.Ytbjifmoiblicgaa.Ab
