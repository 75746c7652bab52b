/- Scripts, as they come in. -/
import Derived.Test.YtbjifmoiblicgaaPlA
import Derived.Test.YtbjifmoiblicgaaAb23
set_option linter.unusedVariables false
set_option linter.unusedSimpArgs false
namespace Go.Proofs.Ytbjifmoiblicgaa.Ab
open Go Go.ChangeShapes Go.WideShapes Go.ChangeAt Go.RowKit

theorem opens_call : Opens Try.prog 31 Cl (fun c => [.int .i64 c.epoch, .int .i64 c.seq]) (fun _ => True) :=
  (Opens.struct Try.underlying31 (by kernel_rfl) (.cons (Opens.i64 Try.underlying3) (.cons (Opens.i64 Try.underlying3) .nil))).as (fun p => ⟨p.1, p.2.1⟩) (fun _ => rfl) fun _ _ => trivial
theorem opens_act : Opens Try.prog 47 Act (fun a => [.int .i64 a.kind, .int .i64 a.call.epoch, .int .i64 a.call.seq, .int .u8 a.err, .vec 1 false (bVs a.b)]) Act.has :=
  (Opens.struct Try.underlying47 (by kernel_rfl) (.cons (Opens.i64 Try.underlying3) (.cons opens_call (.cons (Opens.u8 Try.underlying5) (.cons (Opens.bytes Try.underlying22 (by kernel_rfl) Try.underlying5) .nil))))).as
    (fun p => ⟨p.1, p.2.1, p.2.2.1, p.2.2.2.1⟩) (fun _ => rfl) fun _ h => ⟨h.2.2.1, h.2.2.2.1⟩
theorem opens_acts : Opens Try.prog 42 (List Act) (fun l => [.vec 5 false (l.map actV)]) (fun l => ∀ a ∈ l, a.has) :=
  Opens.sliceS Try.underlying42 (by kernel_rfl) (by decide) opens_act
end Go.Proofs.Ytbjifmoiblicgaa.Ab
