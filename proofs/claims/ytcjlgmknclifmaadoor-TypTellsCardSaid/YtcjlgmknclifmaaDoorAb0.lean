/- What the program's laid tables are: the powers of ten. -/
import Derived.Orders
import Derived.Tactics
import Derived.KernelRfl
import Derived.Laws.Sem
import Derived.Lib.ItoaNum
import Derived.Lib.LaidTab
import Derived.Test.YtcjlgmknclifmaaDoorProg
namespace Go.Proofs.YtcjlgmknclifmaaDoor.Ab
open Go

theorem pow10At : Tryd.prog.globalNamed "internal/strconv.uint64pow10" = some 0 := by kernel_rfl
def tabBlocks : List Nat := [0]
def TabP (w : World) : Prop := Lib.TabIs Tryd.prog w "internal/strconv.uint64pow10" .u64 Lib.pow10Tab
theorem TabP_ext {w w' : World} (h : ∀ b ∈ tabBlocks, w'.heap[b]? = w.heap[b]?) (ht : TabP w) : TabP w' := by
  have h0 := h 0 (by simp [tabBlocks])
  unfold TabP Lib.TabIs World.var? at ht ⊢
  rw [pow10At] at ht ⊢
  simp only [Option.bind_some] at ht ⊢
  rw [h0]; exact ht
end Go.Proofs.YtcjlgmknclifmaaDoor.Ab
