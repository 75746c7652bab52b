/- Proved: for every input the law ClientPlays returns true, and each argument reads as it did; there are no further conditions. -/
import Derived.Test.YtbjifmoiblicgaaRows
import Derived.Test.YtbjifmoiblicgaaOpA
import Derived.Test.YtbjifmoiblicgaaAb23
set_option linter.unusedVariables false
set_option linter.unusedSimpArgs false
namespace Go.Proofs.Ytbjifmoiblicgaa.Ab
open Go Go.ChangeShapes Go.WideShapes Go.ChangeAt Go.RowKit

theorem ownClientPlays : ownKnob Try.prog.godebug = none := by kernel_rfl
set_option maxRecDepth 100000 in
theorem contractClientPlays (H : Type) (enc : TypeId × Value → H) (W : World) (base : Nat) (args : Array Value) (ds gs : List (DataW H)) (before : List MemPlace)
    (hval : ∀ (j : Nat) t v, Try.f5.params[j]? = some t → args[j]? = some v → Value.okWide Try.prog W .any base t v)
    (hW : DataW.Whole enc Try.prog Try.f5.params.toList Rows.clientPlaysSpec.vars false W args.toList ds gs before) :
    Calls Try.prog 5 args W fun e W' => ∃ v, e = .returned v ∧ Rows.clientPlaysSpec.post enc Try.prog Try.f5 false true false false W args v W' := by
  have hW' := hW
  obtain ⟨p, q, hA0, hV, rfl, hfz, hnd⟩ := hW
  have hA : DataW.TrodAll enc Try.prog W 0 (fun _ => true) true Try.f5.params.toList args.toList ds p := hA0
  rw [Try.params5] at hA hval
  obtain ⟨v0, vs0, d0, ds0, p0, q0, hargs, rfl, rfl, h0, r0⟩ := trodAll_cons hA
  obtain ⟨v1, vs1, d1, ds1, p1, q1, rfl, rfl, rfl, h1, r1⟩ := trodAll_cons r0
  obtain ⟨rfl, rfl, rfl⟩ := trodAll_nil r1
  obtain rfl : args = #[v0, v1] := by cases args; simp_all
  obtain ⟨rfl, rfl⟩ := trodVars_none hV
  obtain ⟨C0, e0⟩ := okWide_int Try.underlying25 (hval 0 25 v0 rfl rfl)
  obtain ⟨a0, i0, w0⟩ := (Opens.u64 Try.underlying25).arg1 (by rw [e0]; rfl) h0
  obtain ⟨s1, l1, c1, e1⟩ := okWide_slice Try.underlying42 (hval 1 42 v1 rfl rfl)
  obtain ⟨a1, i1, w1⟩ := (opens_acts).arg1 (by rw [e1]; rfl) h1
  refine ((fn5_ok a0 a1 noHeap i0 i1).2 noMap (oldB W) W [v0, v1] (Rel_none W) (by simp only [VRels]; exact ⟨_, _, w0, ⟨_, _, w1, rfl, rfl⟩, rfl⟩)).mono fun e W' hp => ?_
  cases e <;> first | exact hp.elim | skip
  obtain ⟨v, h', m', F', _, ⟨rfl, rfl⟩, _, hr, he⟩ := hp
  simp only [VRel] at hr
  subst hr
  exact ⟨_, rfl, post_of_true (tb := 4) hW' rfl rfl (by kernel_rfl) (by kernel_rfl) (by kernel_rfl) (by kernel_rfl) Try.underlying4 he⟩

set_option maxRecDepth 100000 in
theorem liftedClientPlays (os : Os) (started : os.Started) (H : Type) (enc : TypeId × Value → H) :
    ReturnsInHanded {} Try.checked os 5 .any (Rows.clientPlaysRow.pre enc Try.prog Try.f5 (OpenSpec.ofChange Rows.clientPlaysSpec)) (Rows.clientPlaysSpec.post enc Try.prog Try.f5 false true false false) := by
  refine returnsInHanded_of_change (C := Try.checked) (s := Rows.clientPlaysSpec) ownClientPlays started (by kernel_rfl) Try.func5
    (ChangeSpec.witness6 (enc := enc) (C := Try.checked) (s := Rows.clientPlaysSpec) false ⟨#[], #[.int .u64 0, .slice none 0 0], []⟩ 8 (by kernel_rfl) (by kernel_rfl) (by kernel_rfl) (by kernel_rfl)) ?_
  intro W base args ds gs before hval hW _ _
  exact contractClientPlays H enc W base args ds gs before hval hW

theorem clientPlays : Rows.ClientPlaysSaid :=
  OpenClaim.holds_of_wide 5 Try.f5 rfl rfl rfl rfl rfl rfl rfl ⟨rfl, rfl, rfl, rfl, rfl⟩ rfl rfl rfl rfl rfl (by kernel_rfl) Try.func5 (by kernel_rfl)
    (of_decide_eq_true (by kernel_rfl)) (by unfold Func.isWrapper; first | (rw [if_pos (by decide +kernel)]; kernel_rfl) | (rw [if_neg (by decide +kernel)]; exact ⟨rfl, rfl⟩))
    (fun os started H enc _ => liftedClientPlays os started H enc)
end Go.Proofs.Ytbjifmoiblicgaa.Ab
