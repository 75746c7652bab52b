/- What the rows' laid tables give. -/
import Derived.Test.YtcjlgmknclifmaaDoorRows
import Derived.Test.YtcjlgmknclifmaaDoorAb26
set_option linter.unusedVariables false
set_option linter.unusedSimpArgs false
namespace Go.Proofs.YtcjlgmknclifmaaDoor.Ab
open Go

theorem pow10Type : (Tryd.prog.globals[0]?).map (·.type) = some 58 := by kernel_rfl
theorem cells51 : Tryd.prog.cellsOf 51 = 1 := by kernel_rfl
theorem cells58 : Tryd.prog.cellsOf 58 = 20 := by kernel_rfl
theorem pow10Data : Rows.laid_internal_strconv_uint64pow10 (H := Unit) = Lib.tabData .u64 Lib.pow10Tab := by kernel_rfl
theorem tabs_of {W : World} (h : laidMet Tryd.prog Rows.typTellsRow.laid W) : Tabs (oldB W) W := by
  obtain ⟨ps, ⟨g1, t1, cs1, fuel1, p1, q1, hg1, ht1, hvar1, hd1, h2, _⟩, _⟩ := h
  obtain ⟨g2, t2, cs2, fuel2, p2, q2, hg2, ht2, hvar2, hd2, h3, _⟩ := h2
  obtain ⟨g3, t3, cs3, fuel3, p3, q3, hg3, ht3, hvar3, hd3, h4, _⟩ := h3
  obtain rfl := Option.some.inj (pow10At.symm.trans hg3)
  obtain rfl := Option.some.inj (pow10Type.symm.trans ht3)
  rw [pow10Data] at hd3
  have hT : TabP W := by
    unfold TabP Lib.TabIs
    rw [hvar3, ← Lib.cells_of_tab Tryd.underlying58 Tryd.underlying51 cells51 cells58 hd3]
  refine ⟨fun b hb => ?_, hT⟩
  simp [tabBlocks] at hb
  subst hb
  unfold World.var? at hvar3
  rw [pow10At] at hvar3
  simp only [Option.bind_some] at hvar3
  show 0 < W.heap.size
  rcases Nat.eq_zero_or_pos W.heap.size with h0 | h0
  · rw [Array.getElem?_eq_none (by omega)] at hvar3
    simp at hvar3
  · exact h0
end Go.Proofs.YtcjlgmknclifmaaDoor.Ab
