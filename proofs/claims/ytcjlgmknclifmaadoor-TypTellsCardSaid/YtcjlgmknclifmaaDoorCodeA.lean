/- The abstract codes of functions of the program, printed by mkcode.py. -/
import Derived.Test.YtcjlgmknclifmaaDoorAb20
import Derived.Test.YtcjlgmknclifmaaDoorProg
namespace Go.Proofs.YtcjlgmknclifmaaDoor.Ab
open Go
set_option maxRecDepth 100000

/-- emissary/typ.size -/
def code27 : ACode :=
 (.seq (.ops [⟨(some 2), (.box 24 3 (.tmp 0)), none⟩,
  ⟨(some 4), (.move (.con (.int .i64 0))), none⟩])
 (.seq (.ops [⟨(some 5), (.move (.con (.int .i64 1))), none⟩])
 (.seq (.seq (.ops [⟨(some 8), (.faddr 2 none (.tmp 2)), none⟩,
  ⟨(some 9), (.load none (.tmp 8)), none⟩,
  ⟨(some 10), (.len .slice (.tmp 9)), none⟩,
  ⟨(some 11), (.move (.con (.int .i64 0))), none⟩])
 (.block 0 (.loop (.seq (.ops [⟨(some 12), (.bin .lss (.tmp 11) (.tmp 10)), none⟩])
 (.seq (.cond (.tmp 12)
 .skip
 (.exit 0))
 (.seq (.block 1 (.seq (.ops [⟨(some 13), (.iaddr 3 (.tmp 9) (.tmp 11)), none⟩,
  ⟨(some 14), (.load (some 3) (.tmp 13)), none⟩,
  ⟨(some 7), (.alloc 24 [(.str ⟨#[]⟩), (.int .i64 0), .nils]), none⟩,
  ⟨none, (.store 3 (.tmp 7) (.tmp 14)), none⟩])
 (.seq (.seq (.ops [⟨(some 15), (.move (.tmp 5)), none⟩,
  ⟨(some 16), (.move (.tmp 1)), none⟩,
  ⟨(some 17), (.bin .geq (.tmp 15) (.tmp 16)), none⟩])
 (.cond (.tmp 17)
 (.exit 0)
 .skip))
 (.ops [⟨(some 18), (.move (.tmp 5)), none⟩,
  ⟨(some 19), (.load (some 3) (.tmp 7)), none⟩,
  ⟨(some 20), (.move (.tmp 1)), none⟩,
  ⟨(some 21), (.move (.tmp 5)), none⟩,
  ⟨(some 22), (.bin .sub (.tmp 20) (.tmp 21)), none⟩,
  ⟨(some 23), (.call 27 [(.tmp 19), (.tmp 22)]), none⟩,
  ⟨(some 24), (.bin .add (.tmp 18) (.tmp 23)), none⟩,
  ⟨(some 5), (.move (.tmp 24)), none⟩]))))
 (.ops [⟨(some 25), (.bin .add (.tmp 11) (.con (.int .i64 1))), none⟩,
  ⟨(some 11), (.move (.tmp 25)), none⟩])))))))
 (.seq (.ops [⟨(some 26), (.move (.tmp 5)), none⟩,
  ⟨(some 4), (.move (.tmp 26)), none⟩])
 .ret))))
theorem fn27 : fnCode Tryd.prog 27 = some (27, code27, [.tmp 4]) := by kernel_rfl

/-- emissary/emissaryref8.Size -/
def code25 : ACode :=
 (.seq (.ops [⟨(some 2), (.box 24 3 (.tmp 0)), none⟩,
  ⟨(some 4), (.move (.con (.int .i64 0))), none⟩])
 (.seq (.ops [⟨(some 5), (.move (.con (.int .i64 1))), none⟩])
 (.seq (.seq (.ops [⟨(some 6), (.move (.con (.int .i64 0))), none⟩])
 (.block 0 (.loop (.seq (.seq (.ops [⟨(some 7), (.move (.tmp 6)), none⟩,
  ⟨(some 8), (.faddr 2 none (.tmp 2)), none⟩,
  ⟨(some 9), (.load none (.tmp 8)), none⟩,
  ⟨(some 10), (.len .slice (.tmp 9)), none⟩,
  ⟨(some 11), (.bin .lss (.tmp 7) (.tmp 10)), none⟩,
  ⟨(some 12), (.move (.tmp 11)), none⟩,
  ⟨(some 13), (.move (.tmp 5)), some (12, true)⟩,
  ⟨(some 14), (.move (.tmp 1)), some (12, true)⟩,
  ⟨(some 15), (.bin .lss (.tmp 13) (.tmp 14)), some (12, true)⟩,
  ⟨(some 16), (.pick (.tmp 12) (.tmp 15) (.con (.bool false))), none⟩])
 (.cond (.tmp 16)
 .skip
 (.exit 0)))
 (.seq (.block 1 (.ops [⟨(some 19), (.move (.tmp 5)), none⟩,
  ⟨(some 20), (.faddr 2 none (.tmp 2)), none⟩,
  ⟨(some 21), (.load none (.tmp 20)), none⟩,
  ⟨(some 22), (.move (.tmp 6)), none⟩,
  ⟨(some 23), (.iaddr 3 (.tmp 21) (.tmp 22)), none⟩,
  ⟨(some 24), (.load (some 3) (.tmp 23)), none⟩,
  ⟨(some 25), (.move (.tmp 1)), none⟩,
  ⟨(some 26), (.move (.tmp 5)), none⟩,
  ⟨(some 27), (.bin .sub (.tmp 25) (.tmp 26)), none⟩,
  ⟨(some 28), (.call 25 [(.tmp 24), (.tmp 27)]), none⟩,
  ⟨(some 29), (.bin .add (.tmp 19) (.tmp 28)), none⟩,
  ⟨(some 5), (.move (.tmp 29)), none⟩]))
 (.ops [⟨(some 17), (.move (.tmp 6)), none⟩,
  ⟨(some 18), (.bin .add (.tmp 17) (.con (.int .i64 1))), none⟩,
  ⟨(some 6), (.move (.tmp 18)), none⟩]))))))
 (.seq (.ops [⟨(some 30), (.move (.tmp 5)), none⟩,
  ⟨(some 4), (.move (.tmp 30)), none⟩])
 .ret))))
theorem fn25 : fnCode Tryd.prog 25 = some (31, code25, [.tmp 4]) := by kernel_rfl

/-- emissary/typ.kids -/
def code39 : ACode :=
 (.seq (.ops [⟨(some 2), (.move (.con (.int .i64 0))), none⟩])
 (.seq (.seq (.ops [⟨(some 3), (.move (.tmp 0)), none⟩])
 (.block 0 (.seq (.seq (.ops [⟨(some 5), (.bin .eql (.tmp 3) (.con (.str ⟨#[105, 110, 116]⟩))), none⟩,
  ⟨(some 4), (.move (.tmp 5)), none⟩])
 (.cond (.tmp 4)
 .skip
 (.seq (.ops [⟨(some 6), (.bin .eql (.tmp 3) (.con (.str ⟨#[98, 111, 111, 108]⟩))), none⟩,
  ⟨(some 4), (.move (.tmp 6)), none⟩])
 (.cond (.tmp 4)
 .skip
 (.seq (.ops [⟨(some 7), (.bin .eql (.tmp 3) (.con (.str ⟨#[117, 110, 105, 116]⟩))), none⟩,
  ⟨(some 4), (.move (.tmp 7)), none⟩])
 (.cond (.tmp 4)
 .skip
 (.seq (.ops [⟨(some 8), (.bin .eql (.tmp 3) (.con (.str ⟨#[115, 116, 114, 105, 110, 103]⟩))), none⟩,
  ⟨(some 4), (.move (.tmp 8)), none⟩])
 (.cond (.tmp 4)
 .skip
 (.seq (.ops [⟨(some 9), (.bin .eql (.tmp 3) (.con (.str ⟨#[99, 101, 108, 108]⟩))), none⟩,
  ⟨(some 4), (.move (.tmp 9)), none⟩])
 (.cond (.tmp 4)
 .skip
 (.ops [⟨(some 10), (.bin .eql (.tmp 3) (.con (.str ⟨#[118, 97, 114]⟩))), none⟩,
  ⟨(some 4), (.move (.tmp 10)), none⟩])))))))))))
 (.cond (.tmp 4)
 (.seq (.ops [⟨(some 2), (.move (.con (.int .i64 0))), none⟩])
 .ret)
 (.seq (.seq (.ops [⟨(some 12), (.bin .eql (.tmp 3) (.con (.str ⟨#[108, 105, 115, 116]⟩))), none⟩,
  ⟨(some 11), (.move (.tmp 12)), none⟩])
 (.cond (.tmp 11)
 .skip
 (.ops [⟨(some 13), (.bin .eql (.tmp 3) (.con (.str ⟨#[114, 101, 102]⟩))), none⟩,
  ⟨(some 11), (.move (.tmp 13)), none⟩])))
 (.cond (.tmp 11)
 (.seq (.ops [⟨(some 2), (.move (.con (.int .i64 1))), none⟩])
 .ret)
 (.seq (.seq (.ops [⟨(some 15), (.bin .eql (.tmp 3) (.con (.str ⟨#[112, 97, 105, 114]⟩))), none⟩,
  ⟨(some 14), (.move (.tmp 15)), none⟩])
 (.cond (.tmp 14)
 .skip
 (.ops [⟨(some 16), (.bin .eql (.tmp 3) (.con (.str ⟨#[102, 117, 110]⟩))), none⟩,
  ⟨(some 14), (.move (.tmp 16)), none⟩])))
 (.cond (.tmp 14)
 (.seq (.ops [⟨(some 2), (.move (.con (.int .i64 2))), none⟩])
 .ret)
 .skip))))))))
 (.seq (.ops [⟨(some 2), (.move (.con (.int .i64 (-1)))), none⟩])
 .ret)))
theorem fn39 : fnCode Tryd.prog 39 = some (17, code39, [.tmp 2]) := by kernel_rfl

/-- emissary/emissaryref8.Kids -/
def code38 : ACode :=
 (.seq (.ops [⟨(some 2), (.move (.con (.int .i64 0))), none⟩])
 (.seq (.seq (.ops [⟨(some 3), (.move (.tmp 0)), none⟩])
 (.block 0 (.seq (.seq (.ops [⟨(some 5), (.bin .eql (.tmp 3) (.con (.str ⟨#[105, 110, 116]⟩))), none⟩,
  ⟨(some 4), (.move (.tmp 5)), none⟩])
 (.cond (.tmp 4)
 .skip
 (.seq (.ops [⟨(some 6), (.bin .eql (.tmp 3) (.con (.str ⟨#[98, 111, 111, 108]⟩))), none⟩,
  ⟨(some 4), (.move (.tmp 6)), none⟩])
 (.cond (.tmp 4)
 .skip
 (.seq (.ops [⟨(some 7), (.bin .eql (.tmp 3) (.con (.str ⟨#[117, 110, 105, 116]⟩))), none⟩,
  ⟨(some 4), (.move (.tmp 7)), none⟩])
 (.cond (.tmp 4)
 .skip
 (.seq (.ops [⟨(some 8), (.bin .eql (.tmp 3) (.con (.str ⟨#[115, 116, 114, 105, 110, 103]⟩))), none⟩,
  ⟨(some 4), (.move (.tmp 8)), none⟩])
 (.cond (.tmp 4)
 .skip
 (.seq (.ops [⟨(some 9), (.bin .eql (.tmp 3) (.con (.str ⟨#[99, 101, 108, 108]⟩))), none⟩,
  ⟨(some 4), (.move (.tmp 9)), none⟩])
 (.cond (.tmp 4)
 .skip
 (.ops [⟨(some 10), (.bin .eql (.tmp 3) (.con (.str ⟨#[118, 97, 114]⟩))), none⟩,
  ⟨(some 4), (.move (.tmp 10)), none⟩])))))))))))
 (.cond (.tmp 4)
 (.seq (.ops [⟨(some 2), (.move (.con (.int .i64 0))), none⟩])
 .ret)
 (.seq (.seq (.ops [⟨(some 12), (.bin .eql (.tmp 3) (.con (.str ⟨#[108, 105, 115, 116]⟩))), none⟩,
  ⟨(some 11), (.move (.tmp 12)), none⟩])
 (.cond (.tmp 11)
 .skip
 (.ops [⟨(some 13), (.bin .eql (.tmp 3) (.con (.str ⟨#[114, 101, 102]⟩))), none⟩,
  ⟨(some 11), (.move (.tmp 13)), none⟩])))
 (.cond (.tmp 11)
 (.seq (.ops [⟨(some 2), (.move (.con (.int .i64 1))), none⟩])
 .ret)
 (.seq (.seq (.ops [⟨(some 15), (.bin .eql (.tmp 3) (.con (.str ⟨#[112, 97, 105, 114]⟩))), none⟩,
  ⟨(some 14), (.move (.tmp 15)), none⟩])
 (.cond (.tmp 14)
 .skip
 (.ops [⟨(some 16), (.bin .eql (.tmp 3) (.con (.str ⟨#[102, 117, 110]⟩))), none⟩,
  ⟨(some 14), (.move (.tmp 16)), none⟩])))
 (.cond (.tmp 14)
 (.seq (.ops [⟨(some 2), (.move (.con (.int .i64 2))), none⟩])
 .ret)
 .skip))))))))
 (.seq (.ops [⟨(some 2), (.move (.con (.int .i64 (-1)))), none⟩])
 .ret)))
theorem fn38 : fnCode Tryd.prog 38 = some (17, code38, [.tmp 2]) := by kernel_rfl

/-- emissary/typ.is -/
def code28 : ACode :=
 (.seq (.ops [⟨(some 1), (.box 24 3 (.tmp 0)), none⟩,
  ⟨(some 2), (.move (.con (.bool false))), none⟩])
 (.seq (.seq (.draw (.take ⟨(some 3), (.faddr 2 none (.tmp 1)), none⟩
  (.take ⟨(some 4), (.load none (.tmp 3)), none⟩
  (.take ⟨(some 5), (.len .slice (.tmp 4)), none⟩
  (.take ⟨(some 6), (.faddr 0 none (.tmp 1)), none⟩
  (.take ⟨(some 7), (.load none (.tmp 6)), none⟩
  (.only ⟨(some 8), (.call 39 [(.tmp 7)]), none⟩ true
  (.take ⟨(some 9), (.bin .neq (.tmp 5) (.tmp 8)), none⟩
  (.take ⟨(some 10), (.move (.tmp 9)), none⟩
  (.take ⟨(some 11), (.faddr 1 none (.tmp 1)), some (10, false)⟩
  (.take ⟨(some 12), (.load none (.tmp 11)), some (10, false)⟩
  (.take ⟨(some 13), (.bin .lss (.tmp 12) (.con (.int .i64 0))), some (10, false)⟩
  (.take ⟨(some 14), (.pick (.tmp 10) (.con (.bool true)) (.tmp 13)), none⟩
  (.take ⟨(some 15), (.move (.tmp 14)), none⟩
  (.take ⟨(some 16), (.faddr 0 none (.tmp 1)), some (15, false)⟩
  (.take ⟨(some 17), (.load none (.tmp 16)), some (15, false)⟩
  (.take ⟨(some 18), (.bin .neq (.tmp 17) (.con (.str ⟨#[118, 97, 114]⟩))), some (15, false)⟩
  (.take ⟨(some 19), (.move (.tmp 18)), some (15, false)⟩
  (.take ⟨(some 20), (.faddr 1 none (.tmp 1)), some (19, true)⟩
  (.take ⟨(some 21), (.load none (.tmp 20)), some (19, true)⟩
  (.take ⟨(some 22), (.bin .neq (.tmp 21) (.con (.int .i64 0))), some (19, true)⟩
  (.take ⟨(some 23), (.pick (.tmp 19) (.tmp 22) (.con (.bool false))), some (15, false)⟩
  (.take ⟨(some 24), (.pick (.tmp 15) (.con (.bool true)) (.tmp 23)), none⟩
  .nil)))))))))))))))))))))))
 (.cond (.tmp 24)
 (.seq (.ops [⟨(some 2), (.move (.con (.bool false))), none⟩])
 .ret)
 .skip))
 (.seq (.ops [⟨(some 25), (.faddr 2 none (.tmp 1)), none⟩,
  ⟨(some 26), (.load none (.tmp 25)), none⟩,
  ⟨(some 27), (.call 35 [(.tmp 26), (.con (.clo 40 []))]), none⟩,
  ⟨(some 28), (.un .not (.tmp 27)), none⟩,
  ⟨(some 2), (.move (.tmp 28)), none⟩])
 .ret)))
theorem fn28 : fnCode Tryd.prog 28 = some (29, code28, [.tmp 2]) := by kernel_rfl

/-- slices.ContainsFunc[[]emissary/api.Type,emissary/api.Type] -/
def code35 : ACode :=
 (.seq (.ops [⟨(some 4), (.move (.con (.bool false))), none⟩])
 (.seq (.ops [⟨(some 5), (.move (.tmp 0)), none⟩,
  ⟨(some 6), (.move (.tmp 1)), none⟩,
  ⟨(some 7), (.call 45 [(.tmp 5), (.tmp 6)]), none⟩,
  ⟨(some 8), (.bin .geq (.tmp 7) (.con (.int .i64 0))), none⟩,
  ⟨(some 4), (.move (.tmp 8)), none⟩])
 .ret))
theorem fn35 : fnCode Tryd.prog 35 = some (9, code35, [.tmp 4]) := by kernel_rfl

/-- slices.IndexFunc[[]emissary/api.Type,emissary/api.Type] -/
def code45 : ACode :=
 (.seq (.ops [⟨(some 4), (.move (.con (.int .i64 0))), none⟩])
 (.seq (.seq (.ops [⟨(some 6), (.move (.tmp 0)), none⟩,
  ⟨(some 7), (.len .slice (.tmp 6)), none⟩,
  ⟨(some 8), (.move (.con (.int .i64 0))), none⟩])
 (.block 0 (.loop (.seq (.ops [⟨(some 9), (.bin .lss (.tmp 8) (.tmp 7)), none⟩])
 (.seq (.cond (.tmp 9)
 .skip
 (.exit 0))
 (.seq (.block 1 (.seq (.ops [⟨(some 10), (.move (.tmp 8)), none⟩,
  ⟨(some 5), (.move (.tmp 10)), none⟩])
 (.seq (.ops [⟨(some 11), (.move (.tmp 1)), none⟩,
  ⟨(some 12), (.move (.tmp 0)), none⟩,
  ⟨(some 13), (.move (.tmp 5)), none⟩,
  ⟨(some 14), (.iaddr 3 (.tmp 12) (.tmp 13)), none⟩,
  ⟨(some 15), (.load (some 3) (.tmp 14)), none⟩,
  ⟨(some 16), (.callv (.tmp 11) [(.tmp 15)]), none⟩])
 (.cond (.tmp 16)
 (.seq (.ops [⟨(some 17), (.move (.tmp 5)), none⟩,
  ⟨(some 4), (.move (.tmp 17)), none⟩])
 .ret)
 .skip))))
 (.ops [⟨(some 18), (.bin .add (.tmp 8) (.con (.int .i64 1))), none⟩,
  ⟨(some 8), (.move (.tmp 18)), none⟩])))))))
 (.seq (.ops [⟨(some 4), (.move (.con (.int .i64 (-1)))), none⟩])
 .ret)))
theorem fn45 : fnCode Tryd.prog 45 = some (19, code45, [.tmp 4]) := by kernel_rfl

/-- emissary/typ.is$1 -/
def code40 : ACode :=
 (.seq (.ops [⟨(some 1), (.box 24 3 (.tmp 0)), none⟩,
  ⟨(some 2), (.move (.con (.bool false))), none⟩])
 (.seq (.ops [⟨(some 3), (.load (some 3) (.tmp 1)), none⟩,
  ⟨(some 4), (.call 28 [(.tmp 3)]), none⟩,
  ⟨(some 5), (.un .not (.tmp 4)), none⟩,
  ⟨(some 2), (.move (.tmp 5)), none⟩])
 .ret))
theorem fn40 : fnCode Tryd.prog 40 = some (6, code40, [.tmp 2]) := by kernel_rfl

/-- emissary/emissaryref8.each -/
def code26 : ACode :=
 (.seq (.ops [⟨(some 1), (.box 24 3 (.tmp 0)), none⟩,
  ⟨(some 2), (.move (.con (.bool false))), none⟩])
 (.seq (.seq (.draw (.take ⟨(some 4), (.faddr 0 none (.tmp 1)), none⟩
  (.take ⟨(some 5), (.load none (.tmp 4)), none⟩
  (.take ⟨(some 7), (.faddr 2 none (.tmp 1)), none⟩
  (.take ⟨(some 8), (.load none (.tmp 7)), none⟩
  (.take ⟨(some 9), (.len .slice (.tmp 8)), none⟩
  (.only ⟨(some 6), (.call 38 [(.tmp 5)]), none⟩ true
  (.take ⟨(some 10), (.bin .neq (.tmp 6) (.tmp 9)), none⟩
  (.take ⟨(some 11), (.move (.tmp 10)), none⟩
  (.take ⟨(some 12), (.faddr 1 none (.tmp 1)), some (11, false)⟩
  (.take ⟨(some 13), (.load none (.tmp 12)), some (11, false)⟩
  (.take ⟨(some 14), (.bin .lss (.tmp 13) (.con (.int .i64 0))), some (11, false)⟩
  (.take ⟨(some 15), (.pick (.tmp 11) (.con (.bool true)) (.tmp 14)), none⟩
  (.take ⟨(some 16), (.move (.tmp 15)), none⟩
  (.take ⟨(some 17), (.faddr 0 none (.tmp 1)), some (16, false)⟩
  (.take ⟨(some 18), (.load none (.tmp 17)), some (16, false)⟩
  (.take ⟨(some 19), (.bin .neq (.tmp 18) (.con (.str ⟨#[118, 97, 114]⟩))), some (16, false)⟩
  (.take ⟨(some 20), (.move (.tmp 19)), some (16, false)⟩
  (.take ⟨(some 21), (.faddr 1 none (.tmp 1)), some (20, true)⟩
  (.take ⟨(some 22), (.load none (.tmp 21)), some (20, true)⟩
  (.take ⟨(some 23), (.bin .neq (.tmp 22) (.con (.int .i64 0))), some (20, true)⟩
  (.take ⟨(some 24), (.pick (.tmp 20) (.tmp 23) (.con (.bool false))), some (16, false)⟩
  (.take ⟨(some 25), (.pick (.tmp 16) (.con (.bool true)) (.tmp 24)), none⟩
  .nil)))))))))))))))))))))))
 (.cond (.tmp 25)
 (.seq (.ops [⟨(some 2), (.move (.con (.bool false))), none⟩])
 .ret)
 .skip))
 (.seq (.seq (.ops [⟨(some 3), (.move (.con (.int .i64 0))), none⟩])
 (.block 0 (.loop (.seq (.seq (.ops [⟨(some 26), (.move (.tmp 3)), none⟩,
  ⟨(some 27), (.faddr 2 none (.tmp 1)), none⟩,
  ⟨(some 28), (.load none (.tmp 27)), none⟩,
  ⟨(some 29), (.len .slice (.tmp 28)), none⟩,
  ⟨(some 30), (.bin .lss (.tmp 26) (.tmp 29)), none⟩])
 (.cond (.tmp 30)
 .skip
 (.exit 0)))
 (.seq (.block 1 (.seq (.ops [⟨(some 33), (.faddr 2 none (.tmp 1)), none⟩,
  ⟨(some 34), (.load none (.tmp 33)), none⟩,
  ⟨(some 35), (.move (.tmp 3)), none⟩,
  ⟨(some 36), (.iaddr 3 (.tmp 34) (.tmp 35)), none⟩,
  ⟨(some 37), (.load (some 3) (.tmp 36)), none⟩,
  ⟨(some 38), (.call 26 [(.tmp 37)]), none⟩,
  ⟨(some 39), (.un .not (.tmp 38)), none⟩])
 (.cond (.tmp 39)
 (.seq (.ops [⟨(some 2), (.move (.con (.bool false))), none⟩])
 .ret)
 .skip)))
 (.ops [⟨(some 31), (.move (.tmp 3)), none⟩,
  ⟨(some 32), (.bin .add (.tmp 31) (.con (.int .i64 1))), none⟩,
  ⟨(some 3), (.move (.tmp 32)), none⟩]))))))
 (.seq (.ops [⟨(some 2), (.move (.con (.bool true))), none⟩])
 .ret))))
theorem fn26 : fnCode Tryd.prog 26 = some (40, code26, [.tmp 2]) := by kernel_rfl

/-- emissary/emissaryref8.Is -/
def code9 : ACode :=
 (.seq (.ops [⟨(some 1), (.box 24 3 (.tmp 0)), none⟩,
  ⟨(some 2), (.move (.con (.bool false))), none⟩])
 (.seq (.ops [⟨(some 3), (.load (some 3) (.tmp 1)), none⟩,
  ⟨(some 4), (.call 25 [(.tmp 3), (.con (.int .i64 2001))]), none⟩,
  ⟨(some 5), (.bin .leq (.tmp 4) (.con (.int .i64 2000))), none⟩,
  ⟨(some 6), (.move (.tmp 5)), none⟩,
  ⟨(some 7), (.load (some 3) (.tmp 1)), some (6, true)⟩,
  ⟨(some 8), (.call 26 [(.tmp 7)]), some (6, true)⟩,
  ⟨(some 9), (.pick (.tmp 6) (.tmp 8) (.con (.bool false))), none⟩,
  ⟨(some 2), (.move (.tmp 9)), none⟩])
 .ret))
theorem fn9 : fnCode Tryd.prog 9 = some (10, code9, [.tmp 2]) := by kernel_rfl

/-- emissary/typ.Is -/
def code10 : ACode :=
 (.seq (.ops [⟨(some 1), (.box 24 3 (.tmp 0)), none⟩,
  ⟨(some 2), (.move (.con (.bool false))), none⟩])
 (.seq (.ops [⟨(some 3), (.load (some 3) (.tmp 1)), none⟩,
  ⟨(some 4), (.call 27 [(.tmp 3), (.con (.int .i64 2001))]), none⟩,
  ⟨(some 5), (.bin .leq (.tmp 4) (.con (.int .i64 2000))), none⟩,
  ⟨(some 6), (.move (.tmp 5)), none⟩,
  ⟨(some 7), (.load (some 3) (.tmp 1)), some (6, true)⟩,
  ⟨(some 8), (.call 28 [(.tmp 7)]), some (6, true)⟩,
  ⟨(some 9), (.pick (.tmp 6) (.tmp 8) (.con (.bool false))), none⟩,
  ⟨(some 2), (.move (.tmp 9)), none⟩])
 .ret))
theorem fn10 : fnCode Tryd.prog 10 = some (10, code10, [.tmp 2]) := by kernel_rfl

/-- emissary/emissarylaw8.long -/
def code8 : ACode :=
 (.seq (.ops [⟨(some 1), (.box 24 3 (.tmp 0)), none⟩,
  ⟨(some 2), (.move (.con (.bool false))), none⟩])
 (.seq (.ops [⟨(some 3), (.load (some 3) (.tmp 1)), none⟩,
  ⟨(some 4), (.call 25 [(.tmp 3), (.con (.int .i64 301))]), none⟩,
  ⟨(some 5), (.bin .gtr (.tmp 4) (.con (.int .i64 300))), none⟩,
  ⟨(some 2), (.move (.tmp 5)), none⟩])
 .ret))
theorem fn8 : fnCode Tryd.prog 8 = some (6, code8, [.tmp 2]) := by kernel_rfl

/-- slices.Contains[[]int,int] -/
def code41 : ACode :=
 (.seq (.ops [⟨(some 4), (.move (.con (.bool false))), none⟩])
 (.seq (.ops [⟨(some 5), (.move (.tmp 0)), none⟩,
  ⟨(some 6), (.move (.tmp 1)), none⟩,
  ⟨(some 7), (.call 43 [(.tmp 5), (.tmp 6)]), none⟩,
  ⟨(some 8), (.bin .geq (.tmp 7) (.con (.int .i64 0))), none⟩,
  ⟨(some 4), (.move (.tmp 8)), none⟩])
 .ret))
theorem fn41 : fnCode Tryd.prog 41 = some (9, code41, [.tmp 4]) := by kernel_rfl

/-- slices.Index[[]int,int] -/
def code43 : ACode :=
 (.seq (.ops [⟨(some 4), (.move (.con (.int .i64 0))), none⟩])
 (.seq (.seq (.ops [⟨(some 6), (.move (.tmp 0)), none⟩,
  ⟨(some 7), (.len .slice (.tmp 6)), none⟩,
  ⟨(some 8), (.move (.con (.int .i64 0))), none⟩])
 (.block 0 (.loop (.seq (.ops [⟨(some 9), (.bin .lss (.tmp 8) (.tmp 7)), none⟩])
 (.seq (.cond (.tmp 9)
 .skip
 (.exit 0))
 (.seq (.block 1 (.seq (.ops [⟨(some 10), (.move (.tmp 8)), none⟩,
  ⟨(some 5), (.move (.tmp 10)), none⟩])
 (.seq (.ops [⟨(some 11), (.move (.tmp 1)), none⟩,
  ⟨(some 12), (.move (.tmp 0)), none⟩,
  ⟨(some 13), (.move (.tmp 5)), none⟩,
  ⟨(some 14), (.iaddr 1 (.tmp 12) (.tmp 13)), none⟩,
  ⟨(some 15), (.load none (.tmp 14)), none⟩,
  ⟨(some 16), (.bin .eql (.tmp 11) (.tmp 15)), none⟩])
 (.cond (.tmp 16)
 (.seq (.ops [⟨(some 17), (.move (.tmp 5)), none⟩,
  ⟨(some 4), (.move (.tmp 17)), none⟩])
 .ret)
 .skip))))
 (.ops [⟨(some 18), (.bin .add (.tmp 8) (.con (.int .i64 1))), none⟩,
  ⟨(some 8), (.move (.tmp 18)), none⟩])))))))
 (.seq (.ops [⟨(some 4), (.move (.con (.int .i64 (-1)))), none⟩])
 .ret)))
theorem fn43 : fnCode Tryd.prog 43 = some (19, code43, [.tmp 4]) := by kernel_rfl

/-- emissary/emissaryref8.Has -/
def code42 : ACode :=
 (.seq (.ops [⟨(some 4), (.move (.con (.bool false))), none⟩])
 (.seq (.seq (.ops [⟨(some 5), (.move (.con (.int .i64 0))), none⟩])
 (.block 0 (.loop (.seq (.seq (.ops [⟨(some 6), (.move (.tmp 5)), none⟩,
  ⟨(some 7), (.move (.tmp 0)), none⟩,
  ⟨(some 8), (.len .slice (.tmp 7)), none⟩,
  ⟨(some 9), (.bin .lss (.tmp 6) (.tmp 8)), none⟩])
 (.cond (.tmp 9)
 .skip
 (.exit 0)))
 (.seq (.block 1 (.seq (.ops [⟨(some 12), (.move (.tmp 0)), none⟩,
  ⟨(some 13), (.move (.tmp 5)), none⟩,
  ⟨(some 14), (.iaddr 1 (.tmp 12) (.tmp 13)), none⟩,
  ⟨(some 15), (.load none (.tmp 14)), none⟩,
  ⟨(some 16), (.move (.tmp 1)), none⟩,
  ⟨(some 17), (.bin .eql (.tmp 15) (.tmp 16)), none⟩])
 (.cond (.tmp 17)
 (.seq (.ops [⟨(some 4), (.move (.con (.bool true))), none⟩])
 .ret)
 .skip)))
 (.ops [⟨(some 10), (.move (.tmp 5)), none⟩,
  ⟨(some 11), (.bin .add (.tmp 10) (.con (.int .i64 1))), none⟩,
  ⟨(some 5), (.move (.tmp 11)), none⟩]))))))
 (.seq (.ops [⟨(some 4), (.move (.con (.bool false))), none⟩])
 .ret)))
theorem fn42 : fnCode Tryd.prog 42 = some (18, code42, [.tmp 4]) := by kernel_rfl

/-- emissary/typ.adds -/
def code29 : ACode :=
 (.seq (.ops [⟨(some 3), (.box 24 3 (.tmp 1)), none⟩,
  ⟨(some 4), (.move (.con .nils)), none⟩])
 (.seq (.seq (.ops [⟨(some 7), (.faddr 0 none (.tmp 3)), none⟩,
  ⟨(some 8), (.load none (.tmp 7)), none⟩,
  ⟨(some 9), (.bin .eql (.tmp 8) (.con (.str ⟨#[118, 97, 114]⟩))), none⟩,
  ⟨(some 10), (.move (.tmp 9)), none⟩,
  ⟨(some 11), (.move (.tmp 0)), some (10, true)⟩,
  ⟨(some 12), (.faddr 1 none (.tmp 3)), some (10, true)⟩,
  ⟨(some 13), (.load none (.tmp 12)), some (10, true)⟩,
  ⟨(some 14), (.call 41 [(.tmp 11), (.tmp 13)]), some (10, true)⟩,
  ⟨(some 15), (.un .not (.tmp 14)), some (10, true)⟩,
  ⟨(some 16), (.pick (.tmp 10) (.tmp 15) (.con (.bool false))), none⟩])
 (.cond (.tmp 16)
 (.ops [⟨(some 17), (.move (.tmp 0)), none⟩,
  ⟨(some 18), (.faddr 1 none (.tmp 3)), none⟩,
  ⟨(some 19), (.load none (.tmp 18)), none⟩,
  ⟨(some 20), (.bslice 3 1 1 [(.int .i64 0)] [(0, 1, (.tmp 19))]), none⟩,
  ⟨(some 21), (.append 3 1 8 (.tmp 17) (.tmp 20)), none⟩,
  ⟨(some 0), (.move (.tmp 21)), none⟩])
 .skip))
 (.seq (.seq (.ops [⟨(some 22), (.faddr 2 none (.tmp 3)), none⟩,
  ⟨(some 23), (.load none (.tmp 22)), none⟩,
  ⟨(some 24), (.len .slice (.tmp 23)), none⟩,
  ⟨(some 25), (.move (.con (.int .i64 0))), none⟩])
 (.block 0 (.loop (.seq (.ops [⟨(some 26), (.bin .lss (.tmp 25) (.tmp 24)), none⟩])
 (.seq (.cond (.tmp 26)
 .skip
 (.exit 0))
 (.seq (.block 1 (.seq (.ops [⟨(some 27), (.iaddr 3 (.tmp 23) (.tmp 25)), none⟩,
  ⟨(some 28), (.load (some 3) (.tmp 27)), none⟩,
  ⟨(some 6), (.alloc 24 [(.str ⟨#[]⟩), (.int .i64 0), .nils]), none⟩,
  ⟨none, (.store 3 (.tmp 6) (.tmp 28)), none⟩])
 (.ops [⟨(some 29), (.move (.tmp 0)), none⟩,
  ⟨(some 30), (.load (some 3) (.tmp 6)), none⟩,
  ⟨(some 31), (.call 29 [(.tmp 29), (.tmp 30)]), none⟩,
  ⟨(some 0), (.move (.tmp 31)), none⟩])))
 (.ops [⟨(some 32), (.bin .add (.tmp 25) (.con (.int .i64 1))), none⟩,
  ⟨(some 25), (.move (.tmp 32)), none⟩])))))))
 (.seq (.ops [⟨(some 33), (.move (.tmp 0)), none⟩,
  ⟨(some 4), (.move (.tmp 33)), none⟩])
 .ret))))
theorem fn29 : fnCode Tryd.prog 29 = some (34, code29, [.tmp 4]) := by kernel_rfl

/-- emissary/typ.Vars -/
def code13 : ACode :=
 (.seq (.ops [⟨(some 1), (.box 24 3 (.tmp 0)), none⟩,
  ⟨(some 2), (.move (.con .nils)), none⟩])
 (.seq (.ops [⟨(some 3), (.load (some 3) (.tmp 1)), none⟩,
  ⟨(some 4), (.call 29 [(.con .nils), (.tmp 3)]), none⟩,
  ⟨(some 2), (.move (.tmp 4)), none⟩])
 .ret))
theorem fn13 : fnCode Tryd.prog 13 = some (5, code13, [.tmp 2]) := by kernel_rfl

/-- emissary/emissaryref8.vars -/
def code30 : ACode :=
 (.seq (.ops [⟨(some 2), (.box 24 3 (.tmp 0)), none⟩,
  ⟨(some 4), (.move (.con .nils)), none⟩])
 (.seq (.seq (.ops [⟨(some 6), (.faddr 0 none (.tmp 2)), none⟩,
  ⟨(some 7), (.load none (.tmp 6)), none⟩,
  ⟨(some 8), (.bin .eql (.tmp 7) (.con (.str ⟨#[118, 97, 114]⟩))), none⟩,
  ⟨(some 9), (.move (.tmp 8)), none⟩,
  ⟨(some 10), (.move (.tmp 1)), some (9, true)⟩,
  ⟨(some 11), (.faddr 1 none (.tmp 2)), some (9, true)⟩,
  ⟨(some 12), (.load none (.tmp 11)), some (9, true)⟩,
  ⟨(some 13), (.call 42 [(.tmp 10), (.tmp 12)]), some (9, true)⟩,
  ⟨(some 14), (.un .not (.tmp 13)), some (9, true)⟩,
  ⟨(some 15), (.pick (.tmp 9) (.tmp 14) (.con (.bool false))), none⟩])
 (.cond (.tmp 15)
 (.ops [⟨(some 16), (.move (.tmp 1)), none⟩,
  ⟨(some 17), (.faddr 1 none (.tmp 2)), none⟩,
  ⟨(some 18), (.load none (.tmp 17)), none⟩,
  ⟨(some 19), (.bslice 3 1 1 [(.int .i64 0)] [(0, 1, (.tmp 18))]), none⟩,
  ⟨(some 20), (.append 3 1 8 (.tmp 16) (.tmp 19)), none⟩,
  ⟨(some 1), (.move (.tmp 20)), none⟩])
 .skip))
 (.seq (.seq (.ops [⟨(some 5), (.move (.con (.int .i64 0))), none⟩])
 (.block 0 (.loop (.seq (.seq (.ops [⟨(some 21), (.move (.tmp 5)), none⟩,
  ⟨(some 22), (.faddr 2 none (.tmp 2)), none⟩,
  ⟨(some 23), (.load none (.tmp 22)), none⟩,
  ⟨(some 24), (.len .slice (.tmp 23)), none⟩,
  ⟨(some 25), (.bin .lss (.tmp 21) (.tmp 24)), none⟩])
 (.cond (.tmp 25)
 .skip
 (.exit 0)))
 (.seq (.block 1 (.ops [⟨(some 28), (.faddr 2 none (.tmp 2)), none⟩,
  ⟨(some 29), (.load none (.tmp 28)), none⟩,
  ⟨(some 30), (.move (.tmp 5)), none⟩,
  ⟨(some 31), (.iaddr 3 (.tmp 29) (.tmp 30)), none⟩,
  ⟨(some 32), (.load (some 3) (.tmp 31)), none⟩,
  ⟨(some 33), (.move (.tmp 1)), none⟩,
  ⟨(some 34), (.call 30 [(.tmp 32), (.tmp 33)]), none⟩,
  ⟨(some 1), (.move (.tmp 34)), none⟩]))
 (.ops [⟨(some 26), (.move (.tmp 5)), none⟩,
  ⟨(some 27), (.bin .add (.tmp 26) (.con (.int .i64 1))), none⟩,
  ⟨(some 5), (.move (.tmp 27)), none⟩]))))))
 (.seq (.ops [⟨(some 35), (.move (.tmp 1)), none⟩,
  ⟨(some 4), (.move (.tmp 35)), none⟩])
 .ret))))
theorem fn30 : fnCode Tryd.prog 30 = some (36, code30, [.tmp 4]) := by kernel_rfl

/-- emissary/emissaryref8.Vars -/
def code14 : ACode :=
 (.seq (.ops [⟨(some 1), (.box 24 3 (.tmp 0)), none⟩,
  ⟨(some 2), (.move (.con .nils)), none⟩])
 (.seq (.ops [⟨(some 3), (.load (some 3) (.tmp 1)), none⟩,
  ⟨(some 4), (.call 30 [(.tmp 3), (.con .nils)]), none⟩,
  ⟨(some 2), (.move (.tmp 4)), none⟩])
 .ret))
theorem fn14 : fnCode Tryd.prog 14 = some (5, code14, [.tmp 2]) := by kernel_rfl

/-- emissary/typ.renamed -/
def code31 : ACode :=
 (.seq (.ops [⟨(some 2), (.box 24 3 (.tmp 0)), none⟩,
  ⟨(some 4), (.alloc 24 [(.str ⟨#[]⟩), (.int .i64 0), .nils]), none⟩])
 (.seq (.seq (.ops [⟨(some 8), (.faddr 0 none (.tmp 2)), none⟩,
  ⟨(some 9), (.load none (.tmp 8)), none⟩,
  ⟨(some 10), (.bin .eql (.tmp 9) (.con (.str ⟨#[118, 97, 114]⟩))), none⟩])
 (.cond (.tmp 10)
 (.seq (.ops [⟨(some 11), (.move (.tmp 1)), none⟩,
  ⟨(some 12), (.faddr 1 none (.tmp 2)), none⟩,
  ⟨(some 13), (.load none (.tmp 12)), none⟩,
  ⟨(some 14), (.call 43 [(.tmp 11), (.tmp 13)]), none⟩,
  ⟨(some 15), (.build [(.str ⟨#[]⟩), (.int .i64 0), .nils] [(0, 1, (.con (.str ⟨#[118, 97, 114]⟩))), (1, 1, (.tmp 14))]), none⟩,
  ⟨none, (.store 3 (.tmp 4) (.tmp 15)), none⟩])
 .ret)
 .skip))
 (.seq (.ops [⟨(some 16), (.faddr 0 none (.tmp 2)), none⟩,
  ⟨(some 17), (.load none (.tmp 16)), none⟩,
  ⟨(some 18), (.faddr 1 none (.tmp 2)), none⟩,
  ⟨(some 19), (.load none (.tmp 18)), none⟩,
  ⟨(some 20), (.build [(.str ⟨#[]⟩), (.int .i64 0), .nils] [(0, 1, (.tmp 17)), (1, 1, (.tmp 19))]), none⟩,
  ⟨(some 5), (.alloc 24 [(.str ⟨#[]⟩), (.int .i64 0), .nils]), none⟩,
  ⟨none, (.store 3 (.tmp 5) (.tmp 20)), none⟩])
 (.seq (.seq (.ops [⟨(some 21), (.faddr 2 none (.tmp 2)), none⟩,
  ⟨(some 22), (.load none (.tmp 21)), none⟩,
  ⟨(some 23), (.len .slice (.tmp 22)), none⟩,
  ⟨(some 24), (.move (.con (.int .i64 0))), none⟩])
 (.block 0 (.loop (.seq (.ops [⟨(some 25), (.bin .lss (.tmp 24) (.tmp 23)), none⟩])
 (.seq (.cond (.tmp 25)
 .skip
 (.exit 0))
 (.seq (.block 1 (.seq (.ops [⟨(some 26), (.iaddr 3 (.tmp 22) (.tmp 24)), none⟩,
  ⟨(some 27), (.load (some 3) (.tmp 26)), none⟩,
  ⟨(some 7), (.alloc 24 [(.str ⟨#[]⟩), (.int .i64 0), .nils]), none⟩,
  ⟨none, (.store 3 (.tmp 7) (.tmp 27)), none⟩])
 (.draw (.take ⟨(some 28), (.faddr 2 none (.tmp 5)), none⟩
  (.take ⟨(some 29), (.load none (.tmp 28)), none⟩
  (.take ⟨(some 30), (.load (some 3) (.tmp 7)), none⟩
  (.take ⟨(some 31), (.move (.tmp 1)), none⟩
  (.only ⟨(some 32), (.call 31 [(.tmp 30), (.tmp 31)]), none⟩ true
  (.only ⟨(some 33), (.bslice 24 3 1 [(.str ⟨#[]⟩), (.int .i64 0), .nils] [(0, 3, (.tmp 32))]), none⟩ false
  (.only ⟨(some 34), (.append 24 3 48 (.tmp 29) (.tmp 33)), none⟩ true
  (.take ⟨(some 35), (.faddr 2 none (.tmp 5)), none⟩
  (.only ⟨none, (.store 1 (.tmp 35) (.tmp 34)), none⟩ false
  .nil))))))))))))
 (.ops [⟨(some 36), (.bin .add (.tmp 24) (.con (.int .i64 1))), none⟩,
  ⟨(some 24), (.move (.tmp 36)), none⟩])))))))
 (.seq (.ops [⟨(some 37), (.load (some 3) (.tmp 5)), none⟩,
  ⟨none, (.store 3 (.tmp 4) (.tmp 37)), none⟩])
 .ret)))))
theorem fn31 : fnCode Tryd.prog 31 = some (38, code31, [.cell 4 (some 3)]) := by kernel_rfl

/-- emissary/typ.Norm -/
def code16 : ACode :=
 (.seq (.ops [⟨(some 1), (.box 24 3 (.tmp 0)), none⟩,
  ⟨(some 2), (.alloc 24 [(.str ⟨#[]⟩), (.int .i64 0), .nils]), none⟩])
 (.seq (.draw (.take ⟨(some 3), (.load (some 3) (.tmp 1)), none⟩
  (.take ⟨(some 4), (.load (some 3) (.tmp 1)), none⟩
  (.only ⟨(some 5), (.call 13 [(.tmp 4)]), none⟩ true
  (.only ⟨(some 6), (.call 31 [(.tmp 3), (.tmp 5)]), none⟩ true
  (.only ⟨none, (.store 3 (.tmp 2) (.tmp 6)), none⟩ false
  .nil))))))
 .ret))
theorem fn16 : fnCode Tryd.prog 16 = some (7, code16, [.cell 2 (some 3)]) := by kernel_rfl

/-- emissary/emissaryref8.Var -/
def code22 : ACode :=
 (.seq (.ops [⟨(some 2), (.alloc 24 [(.str ⟨#[]⟩), (.int .i64 0), .nils]), none⟩])
 (.seq (.ops [⟨(some 3), (.move (.tmp 0)), none⟩,
  ⟨(some 4), (.build [(.str ⟨#[]⟩), (.int .i64 0), .nils] [(0, 1, (.con (.str ⟨#[118, 97, 114]⟩))), (1, 1, (.tmp 3))]), none⟩,
  ⟨none, (.store 3 (.tmp 2) (.tmp 4)), none⟩])
 .ret))
theorem fn22 : fnCode Tryd.prog 22 = some (5, code22, [.cell 2 (some 3)]) := by kernel_rfl

/-- emissary/emissaryref8.Put -/
def code32 : ACode :=
 (.seq (.ops [⟨(some 3), (.box 24 3 (.tmp 0)), none⟩,
  ⟨(some 6), (.alloc 24 [(.str ⟨#[]⟩), (.int .i64 0), .nils]), none⟩])
 (.seq (.seq (.ops [⟨(some 10), (.faddr 0 none (.tmp 3)), none⟩,
  ⟨(some 11), (.load none (.tmp 10)), none⟩,
  ⟨(some 12), (.bin .eql (.tmp 11) (.con (.str ⟨#[118, 97, 114]⟩))), none⟩])
 (.cond (.tmp 12)
 (.seq (.seq (.ops [⟨(some 7), (.move (.con (.int .i64 0))), none⟩])
 (.block 0 (.loop (.seq (.seq (.ops [⟨(some 13), (.move (.tmp 7)), none⟩,
  ⟨(some 14), (.move (.tmp 1)), none⟩,
  ⟨(some 15), (.len .slice (.tmp 14)), none⟩,
  ⟨(some 16), (.bin .lss (.tmp 13) (.tmp 15)), none⟩])
 (.cond (.tmp 16)
 .skip
 (.exit 0)))
 (.seq (.block 1 (.seq (.draw (.take ⟨(some 19), (.move (.tmp 1)), none⟩
  (.take ⟨(some 20), (.move (.tmp 7)), none⟩
  (.take ⟨(some 21), (.iaddr 1 (.tmp 19) (.tmp 20)), none⟩
  (.take ⟨(some 22), (.load none (.tmp 21)), none⟩
  (.take ⟨(some 23), (.faddr 1 none (.tmp 3)), none⟩
  (.take ⟨(some 24), (.load none (.tmp 23)), none⟩
  (.take ⟨(some 25), (.bin .eql (.tmp 22) (.tmp 24)), none⟩
  .nil))))))))
 (.cond (.tmp 25)
 (.seq (.ops [⟨(some 26), (.move (.tmp 2)), none⟩,
  ⟨(some 27), (.move (.tmp 7)), none⟩,
  ⟨(some 28), (.iaddr 3 (.tmp 26) (.tmp 27)), none⟩,
  ⟨(some 29), (.load (some 3) (.tmp 28)), none⟩,
  ⟨none, (.store 3 (.tmp 6) (.tmp 29)), none⟩])
 .ret)
 .skip)))
 (.ops [⟨(some 17), (.move (.tmp 7)), none⟩,
  ⟨(some 18), (.bin .add (.tmp 17) (.con (.int .i64 1))), none⟩,
  ⟨(some 7), (.move (.tmp 18)), none⟩]))))))
 (.seq (.ops [⟨(some 30), (.load (some 3) (.tmp 3)), none⟩,
  ⟨none, (.store 3 (.tmp 6) (.tmp 30)), none⟩])
 .ret))
 .skip))
 (.seq (.ops [⟨(some 31), (.faddr 0 none (.tmp 3)), none⟩,
  ⟨(some 32), (.load none (.tmp 31)), none⟩,
  ⟨(some 33), (.faddr 1 none (.tmp 3)), none⟩,
  ⟨(some 34), (.load none (.tmp 33)), none⟩,
  ⟨(some 35), (.build [(.str ⟨#[]⟩), (.int .i64 0), .nils] [(0, 1, (.tmp 32)), (1, 1, (.tmp 34))]), none⟩,
  ⟨(some 8), (.alloc 24 [(.str ⟨#[]⟩), (.int .i64 0), .nils]), none⟩,
  ⟨none, (.store 3 (.tmp 8) (.tmp 35)), none⟩])
 (.seq (.seq (.ops [⟨(some 9), (.move (.con (.int .i64 0))), none⟩])
 (.block 2 (.loop (.seq (.seq (.ops [⟨(some 36), (.move (.tmp 9)), none⟩,
  ⟨(some 37), (.faddr 2 none (.tmp 3)), none⟩,
  ⟨(some 38), (.load none (.tmp 37)), none⟩,
  ⟨(some 39), (.len .slice (.tmp 38)), none⟩,
  ⟨(some 40), (.bin .lss (.tmp 36) (.tmp 39)), none⟩])
 (.cond (.tmp 40)
 .skip
 (.exit 2)))
 (.seq (.block 3 (.draw (.take ⟨(some 43), (.faddr 2 none (.tmp 8)), none⟩
  (.take ⟨(some 44), (.load none (.tmp 43)), none⟩
  (.take ⟨(some 45), (.faddr 2 none (.tmp 3)), none⟩
  (.take ⟨(some 46), (.load none (.tmp 45)), none⟩
  (.take ⟨(some 47), (.move (.tmp 9)), none⟩
  (.take ⟨(some 48), (.iaddr 3 (.tmp 46) (.tmp 47)), none⟩
  (.take ⟨(some 49), (.load (some 3) (.tmp 48)), none⟩
  (.take ⟨(some 50), (.move (.tmp 1)), none⟩
  (.take ⟨(some 51), (.move (.tmp 2)), none⟩
  (.only ⟨(some 52), (.call 32 [(.tmp 49), (.tmp 50), (.tmp 51)]), none⟩ true
  (.only ⟨(some 53), (.bslice 24 3 1 [(.str ⟨#[]⟩), (.int .i64 0), .nils] [(0, 3, (.tmp 52))]), none⟩ false
  (.only ⟨(some 54), (.append 24 3 48 (.tmp 44) (.tmp 53)), none⟩ true
  (.take ⟨(some 55), (.faddr 2 none (.tmp 8)), none⟩
  (.only ⟨none, (.store 1 (.tmp 55) (.tmp 54)), none⟩ false
  .nil))))))))))))))))
 (.ops [⟨(some 41), (.move (.tmp 9)), none⟩,
  ⟨(some 42), (.bin .add (.tmp 41) (.con (.int .i64 1))), none⟩,
  ⟨(some 9), (.move (.tmp 42)), none⟩]))))))
 (.seq (.ops [⟨(some 56), (.load (some 3) (.tmp 8)), none⟩,
  ⟨none, (.store 3 (.tmp 6) (.tmp 56)), none⟩])
 .ret)))))
theorem fn32 : fnCode Tryd.prog 32 = some (57, code32, [.cell 6 (some 3)]) := by kernel_rfl

/-- emissary/emissaryref8.Norm -/
def code17 : ACode :=
 (.seq (.ops [⟨(some 1), (.box 24 3 (.tmp 0)), none⟩,
  ⟨(some 2), (.alloc 24 [(.str ⟨#[]⟩), (.int .i64 0), .nils]), none⟩])
 (.seq (.ops [⟨(some 6), (.load (some 3) (.tmp 1)), none⟩,
  ⟨(some 7), (.call 14 [(.tmp 6)]), none⟩,
  ⟨(some 3), (.move (.tmp 7)), none⟩])
 (.seq (.ops [⟨(some 4), (.move (.con .nils)), none⟩])
 (.seq (.seq (.ops [⟨(some 5), (.move (.con (.int .i64 0))), none⟩])
 (.block 0 (.loop (.seq (.seq (.ops [⟨(some 8), (.move (.tmp 5)), none⟩,
  ⟨(some 9), (.move (.tmp 3)), none⟩,
  ⟨(some 10), (.len .slice (.tmp 9)), none⟩,
  ⟨(some 11), (.bin .lss (.tmp 8) (.tmp 10)), none⟩])
 (.cond (.tmp 11)
 .skip
 (.exit 0)))
 (.seq (.block 1 (.ops [⟨(some 14), (.move (.tmp 4)), none⟩,
  ⟨(some 15), (.move (.tmp 5)), none⟩,
  ⟨(some 16), (.call 22 [(.tmp 15)]), none⟩,
  ⟨(some 17), (.bslice 24 3 1 [(.str ⟨#[]⟩), (.int .i64 0), .nils] [(0, 3, (.tmp 16))]), none⟩,
  ⟨(some 18), (.append 24 3 48 (.tmp 14) (.tmp 17)), none⟩,
  ⟨(some 4), (.move (.tmp 18)), none⟩]))
 (.ops [⟨(some 12), (.move (.tmp 5)), none⟩,
  ⟨(some 13), (.bin .add (.tmp 12) (.con (.int .i64 1))), none⟩,
  ⟨(some 5), (.move (.tmp 13)), none⟩]))))))
 (.seq (.ops [⟨(some 19), (.load (some 3) (.tmp 1)), none⟩,
  ⟨(some 20), (.move (.tmp 3)), none⟩,
  ⟨(some 21), (.move (.tmp 4)), none⟩,
  ⟨(some 22), (.call 32 [(.tmp 19), (.tmp 20), (.tmp 21)]), none⟩,
  ⟨none, (.store 3 (.tmp 2) (.tmp 22)), none⟩])
 .ret)))))
theorem fn17 : fnCode Tryd.prog 17 = some (23, code17, [.cell 2 (some 3)]) := by kernel_rfl

/-- emissary/emissaryref8.Same -/
def code15 : ACode :=
 (.seq (.ops [⟨(some 2), (.box 24 3 (.tmp 0)), none⟩,
  ⟨(some 3), (.box 24 3 (.tmp 1)), none⟩,
  ⟨(some 4), (.move (.con (.bool false))), none⟩])
 (.seq (.seq (.ops [⟨(some 6), (.faddr 0 none (.tmp 2)), none⟩,
  ⟨(some 7), (.load none (.tmp 6)), none⟩,
  ⟨(some 8), (.faddr 0 none (.tmp 3)), none⟩,
  ⟨(some 9), (.load none (.tmp 8)), none⟩,
  ⟨(some 10), (.bin .neq (.tmp 7) (.tmp 9)), none⟩,
  ⟨(some 11), (.move (.tmp 10)), none⟩,
  ⟨(some 12), (.faddr 1 none (.tmp 2)), some (11, false)⟩,
  ⟨(some 13), (.load none (.tmp 12)), some (11, false)⟩,
  ⟨(some 14), (.faddr 1 none (.tmp 3)), some (11, false)⟩,
  ⟨(some 15), (.load none (.tmp 14)), some (11, false)⟩,
  ⟨(some 16), (.bin .neq (.tmp 13) (.tmp 15)), some (11, false)⟩,
  ⟨(some 17), (.pick (.tmp 11) (.con (.bool true)) (.tmp 16)), none⟩,
  ⟨(some 18), (.move (.tmp 17)), none⟩,
  ⟨(some 19), (.faddr 2 none (.tmp 2)), some (18, false)⟩,
  ⟨(some 20), (.load none (.tmp 19)), some (18, false)⟩,
  ⟨(some 21), (.len .slice (.tmp 20)), some (18, false)⟩,
  ⟨(some 22), (.faddr 2 none (.tmp 3)), some (18, false)⟩,
  ⟨(some 23), (.load none (.tmp 22)), some (18, false)⟩,
  ⟨(some 24), (.len .slice (.tmp 23)), some (18, false)⟩,
  ⟨(some 25), (.bin .neq (.tmp 21) (.tmp 24)), some (18, false)⟩,
  ⟨(some 26), (.pick (.tmp 18) (.con (.bool true)) (.tmp 25)), none⟩])
 (.cond (.tmp 26)
 (.seq (.ops [⟨(some 4), (.move (.con (.bool false))), none⟩])
 .ret)
 .skip))
 (.seq (.seq (.ops [⟨(some 5), (.move (.con (.int .i64 0))), none⟩])
 (.block 0 (.loop (.seq (.seq (.ops [⟨(some 27), (.move (.tmp 5)), none⟩,
  ⟨(some 28), (.faddr 2 none (.tmp 2)), none⟩,
  ⟨(some 29), (.load none (.tmp 28)), none⟩,
  ⟨(some 30), (.len .slice (.tmp 29)), none⟩,
  ⟨(some 31), (.bin .lss (.tmp 27) (.tmp 30)), none⟩])
 (.cond (.tmp 31)
 .skip
 (.exit 0)))
 (.seq (.block 1 (.seq (.draw (.take ⟨(some 34), (.faddr 2 none (.tmp 2)), none⟩
  (.take ⟨(some 35), (.load none (.tmp 34)), none⟩
  (.take ⟨(some 36), (.move (.tmp 5)), none⟩
  (.take ⟨(some 37), (.iaddr 3 (.tmp 35) (.tmp 36)), none⟩
  (.take ⟨(some 38), (.load (some 3) (.tmp 37)), none⟩
  (.take ⟨(some 39), (.faddr 2 none (.tmp 3)), none⟩
  (.take ⟨(some 40), (.load none (.tmp 39)), none⟩
  (.take ⟨(some 41), (.move (.tmp 5)), none⟩
  (.take ⟨(some 42), (.iaddr 3 (.tmp 40) (.tmp 41)), none⟩
  (.take ⟨(some 43), (.load (some 3) (.tmp 42)), none⟩
  (.only ⟨(some 44), (.call 15 [(.tmp 38), (.tmp 43)]), none⟩ true
  (.take ⟨(some 45), (.un .not (.tmp 44)), none⟩
  .nil)))))))))))))
 (.cond (.tmp 45)
 (.seq (.ops [⟨(some 4), (.move (.con (.bool false))), none⟩])
 .ret)
 .skip)))
 (.ops [⟨(some 32), (.move (.tmp 5)), none⟩,
  ⟨(some 33), (.bin .add (.tmp 32) (.con (.int .i64 1))), none⟩,
  ⟨(some 5), (.move (.tmp 33)), none⟩]))))))
 (.seq (.ops [⟨(some 4), (.move (.con (.bool true))), none⟩])
 .ret))))
theorem fn15 : fnCode Tryd.prog 15 = some (46, code15, [.tmp 4]) := by kernel_rfl

/-- emissary/typ.Same -/
def code24 : ACode :=
 (.seq (.ops [⟨(some 2), (.box 24 3 (.tmp 0)), none⟩,
  ⟨(some 3), (.box 24 3 (.tmp 1)), none⟩,
  ⟨(some 4), (.move (.con (.bool false))), none⟩])
 (.seq (.ops [⟨(some 5), (.faddr 0 none (.tmp 2)), none⟩,
  ⟨(some 6), (.load none (.tmp 5)), none⟩,
  ⟨(some 7), (.faddr 0 none (.tmp 3)), none⟩,
  ⟨(some 8), (.load none (.tmp 7)), none⟩,
  ⟨(some 9), (.bin .eql (.tmp 6) (.tmp 8)), none⟩,
  ⟨(some 10), (.move (.tmp 9)), none⟩,
  ⟨(some 11), (.faddr 1 none (.tmp 2)), some (10, true)⟩,
  ⟨(some 12), (.load none (.tmp 11)), some (10, true)⟩,
  ⟨(some 13), (.faddr 1 none (.tmp 3)), some (10, true)⟩,
  ⟨(some 14), (.load none (.tmp 13)), some (10, true)⟩,
  ⟨(some 15), (.bin .eql (.tmp 12) (.tmp 14)), some (10, true)⟩,
  ⟨(some 16), (.pick (.tmp 10) (.tmp 15) (.con (.bool false))), none⟩,
  ⟨(some 17), (.move (.tmp 16)), none⟩,
  ⟨(some 18), (.faddr 2 none (.tmp 2)), some (17, true)⟩,
  ⟨(some 19), (.load none (.tmp 18)), some (17, true)⟩,
  ⟨(some 20), (.faddr 2 none (.tmp 3)), some (17, true)⟩,
  ⟨(some 21), (.load none (.tmp 20)), some (17, true)⟩,
  ⟨(some 22), (.call 37 [(.tmp 19), (.tmp 21), (.con (.clo 24 []))]), some (17, true)⟩,
  ⟨(some 23), (.pick (.tmp 17) (.tmp 22) (.con (.bool false))), none⟩,
  ⟨(some 4), (.move (.tmp 23)), none⟩])
 .ret))
theorem fn24 : fnCode Tryd.prog 24 = some (24, code24, [.tmp 4]) := by kernel_rfl

/-- slices.EqualFunc[[]emissary/api.Type,[]emissary/api.Type,emissary/api.Type,emissary/api.Type] -/
def code37 : ACode :=
 (.seq (.ops [⟨(some 6), (.move (.con (.bool false))), none⟩])
 (.seq (.seq (.ops [⟨(some 10), (.move (.tmp 0)), none⟩,
  ⟨(some 11), (.len .slice (.tmp 10)), none⟩,
  ⟨(some 12), (.move (.tmp 1)), none⟩,
  ⟨(some 13), (.len .slice (.tmp 12)), none⟩,
  ⟨(some 14), (.bin .neq (.tmp 11) (.tmp 13)), none⟩])
 (.cond (.tmp 14)
 (.seq (.ops [⟨(some 6), (.move (.con (.bool false))), none⟩])
 .ret)
 .skip))
 (.seq (.seq (.ops [⟨(some 15), (.move (.tmp 0)), none⟩,
  ⟨(some 16), (.len .slice (.tmp 15)), none⟩,
  ⟨(some 17), (.move (.con (.int .i64 0))), none⟩])
 (.block 0 (.loop (.seq (.ops [⟨(some 18), (.bin .lss (.tmp 17) (.tmp 16)), none⟩])
 (.seq (.cond (.tmp 18)
 .skip
 (.exit 0))
 (.seq (.block 1 (.seq (.ops [⟨(some 19), (.move (.tmp 17)), none⟩,
  ⟨(some 20), (.iaddr 3 (.tmp 15) (.tmp 17)), none⟩,
  ⟨(some 21), (.load (some 3) (.tmp 20)), none⟩,
  ⟨(some 8), (.alloc 24 [(.str ⟨#[]⟩), (.int .i64 0), .nils]), none⟩,
  ⟨(some 7), (.move (.tmp 19)), none⟩,
  ⟨none, (.store 3 (.tmp 8) (.tmp 21)), none⟩])
 (.seq (.ops [⟨(some 22), (.move (.tmp 1)), none⟩,
  ⟨(some 23), (.move (.tmp 7)), none⟩,
  ⟨(some 24), (.iaddr 3 (.tmp 22) (.tmp 23)), none⟩,
  ⟨(some 25), (.load (some 3) (.tmp 24)), none⟩,
  ⟨(some 9), (.alloc 24 [(.str ⟨#[]⟩), (.int .i64 0), .nils]), none⟩,
  ⟨none, (.store 3 (.tmp 9) (.tmp 25)), none⟩])
 (.seq (.ops [⟨(some 26), (.move (.tmp 2)), none⟩,
  ⟨(some 27), (.load (some 3) (.tmp 8)), none⟩,
  ⟨(some 28), (.load (some 3) (.tmp 9)), none⟩,
  ⟨(some 29), (.callv (.tmp 26) [(.tmp 27), (.tmp 28)]), none⟩,
  ⟨(some 30), (.un .not (.tmp 29)), none⟩])
 (.cond (.tmp 30)
 (.seq (.ops [⟨(some 6), (.move (.con (.bool false))), none⟩])
 .ret)
 .skip)))))
 (.ops [⟨(some 31), (.bin .add (.tmp 17) (.con (.int .i64 1))), none⟩,
  ⟨(some 17), (.move (.tmp 31)), none⟩])))))))
 (.seq (.ops [⟨(some 6), (.move (.con (.bool true))), none⟩])
 .ret))))
theorem fn37 : fnCode Tryd.prog 37 = some (32, code37, [.tmp 6]) := by kernel_rfl

/-- emissary/typ.Sent -/
def code20 : ACode :=
 (.seq (.ops [⟨(some 1), (.box 24 3 (.tmp 0)), none⟩,
  ⟨(some 2), (.move (.con (.bool false))), none⟩])
 (.seq (.ops [⟨(some 3), (.faddr 0 none (.tmp 1)), none⟩,
  ⟨(some 4), (.load none (.tmp 3)), none⟩,
  ⟨(some 5), (.bin .neq (.tmp 4) (.con (.str ⟨#[118, 97, 114]⟩))), none⟩,
  ⟨(some 6), (.move (.tmp 5)), none⟩,
  ⟨(some 7), (.faddr 0 none (.tmp 1)), some (6, true)⟩,
  ⟨(some 8), (.load none (.tmp 7)), some (6, true)⟩,
  ⟨(some 9), (.bin .neq (.tmp 8) (.con (.str ⟨#[102, 117, 110]⟩))), some (6, true)⟩,
  ⟨(some 10), (.pick (.tmp 6) (.tmp 9) (.con (.bool false))), none⟩,
  ⟨(some 11), (.move (.tmp 10)), none⟩,
  ⟨(some 12), (.faddr 2 none (.tmp 1)), some (11, true)⟩,
  ⟨(some 13), (.load none (.tmp 12)), some (11, true)⟩,
  ⟨(some 14), (.call 35 [(.tmp 13), (.con (.clo 36 []))]), some (11, true)⟩,
  ⟨(some 15), (.un .not (.tmp 14)), some (11, true)⟩,
  ⟨(some 16), (.pick (.tmp 11) (.tmp 15) (.con (.bool false))), none⟩,
  ⟨(some 2), (.move (.tmp 16)), none⟩])
 .ret))
theorem fn20 : fnCode Tryd.prog 20 = some (17, code20, [.tmp 2]) := by kernel_rfl

/-- emissary/typ.Sent$1 -/
def code36 : ACode :=
 (.seq (.ops [⟨(some 1), (.box 24 3 (.tmp 0)), none⟩,
  ⟨(some 2), (.move (.con (.bool false))), none⟩])
 (.seq (.ops [⟨(some 3), (.load (some 3) (.tmp 1)), none⟩,
  ⟨(some 4), (.call 20 [(.tmp 3)]), none⟩,
  ⟨(some 5), (.un .not (.tmp 4)), none⟩,
  ⟨(some 2), (.move (.tmp 5)), none⟩])
 .ret))
theorem fn36 : fnCode Tryd.prog 36 = some (6, code36, [.tmp 2]) := by kernel_rfl

/-- emissary/emissaryref8.Sent -/
def code21 : ACode :=
 (.seq (.ops [⟨(some 1), (.box 24 3 (.tmp 0)), none⟩,
  ⟨(some 2), (.move (.con (.bool false))), none⟩])
 (.seq (.seq (.ops [⟨(some 4), (.faddr 0 none (.tmp 1)), none⟩,
  ⟨(some 5), (.load none (.tmp 4)), none⟩,
  ⟨(some 6), (.bin .eql (.tmp 5) (.con (.str ⟨#[118, 97, 114]⟩))), none⟩,
  ⟨(some 7), (.move (.tmp 6)), none⟩,
  ⟨(some 8), (.faddr 0 none (.tmp 1)), some (7, false)⟩,
  ⟨(some 9), (.load none (.tmp 8)), some (7, false)⟩,
  ⟨(some 10), (.bin .eql (.tmp 9) (.con (.str ⟨#[102, 117, 110]⟩))), some (7, false)⟩,
  ⟨(some 11), (.pick (.tmp 7) (.con (.bool true)) (.tmp 10)), none⟩])
 (.cond (.tmp 11)
 (.seq (.ops [⟨(some 2), (.move (.con (.bool false))), none⟩])
 .ret)
 .skip))
 (.seq (.seq (.ops [⟨(some 3), (.move (.con (.int .i64 0))), none⟩])
 (.block 0 (.loop (.seq (.seq (.ops [⟨(some 12), (.move (.tmp 3)), none⟩,
  ⟨(some 13), (.faddr 2 none (.tmp 1)), none⟩,
  ⟨(some 14), (.load none (.tmp 13)), none⟩,
  ⟨(some 15), (.len .slice (.tmp 14)), none⟩,
  ⟨(some 16), (.bin .lss (.tmp 12) (.tmp 15)), none⟩])
 (.cond (.tmp 16)
 .skip
 (.exit 0)))
 (.seq (.block 1 (.seq (.ops [⟨(some 19), (.faddr 2 none (.tmp 1)), none⟩,
  ⟨(some 20), (.load none (.tmp 19)), none⟩,
  ⟨(some 21), (.move (.tmp 3)), none⟩,
  ⟨(some 22), (.iaddr 3 (.tmp 20) (.tmp 21)), none⟩,
  ⟨(some 23), (.load (some 3) (.tmp 22)), none⟩,
  ⟨(some 24), (.call 21 [(.tmp 23)]), none⟩,
  ⟨(some 25), (.un .not (.tmp 24)), none⟩])
 (.cond (.tmp 25)
 (.seq (.ops [⟨(some 2), (.move (.con (.bool false))), none⟩])
 .ret)
 .skip)))
 (.ops [⟨(some 17), (.move (.tmp 3)), none⟩,
  ⟨(some 18), (.bin .add (.tmp 17) (.con (.int .i64 1))), none⟩,
  ⟨(some 3), (.move (.tmp 18)), none⟩]))))))
 (.seq (.ops [⟨(some 2), (.move (.con (.bool true))), none⟩])
 .ret))))
theorem fn21 : fnCode Tryd.prog 21 = some (26, code21, [.tmp 2]) := by kernel_rfl

/-- emissary/emissaryref8.T -/
def code23 : ACode :=
 (.seq (.ops [⟨(some 4), (.alloc 24 [(.str ⟨#[]⟩), (.int .i64 0), .nils]), none⟩])
 (.seq (.ops [⟨(some 5), (.move (.tmp 0)), none⟩,
  ⟨(some 6), (.move (.tmp 1)), none⟩,
  ⟨(some 7), (.build [(.str ⟨#[]⟩), (.int .i64 0), .nils] [(0, 1, (.tmp 5)), (2, 1, (.tmp 6))]), none⟩,
  ⟨none, (.store 3 (.tmp 4) (.tmp 7)), none⟩])
 .ret))
theorem fn23 : fnCode Tryd.prog 23 = some (8, code23, [.cell 4 (some 3)]) := by kernel_rfl

/-- emissary/emissarylaw8.ints -/
def code12 : ACode :=
 (.seq (.ops [⟨(some 4), (.move (.con (.bool false))), none⟩])
 (.seq (.seq (.ops [⟨(some 6), (.move (.tmp 0)), none⟩,
  ⟨(some 7), (.len .slice (.tmp 6)), none⟩,
  ⟨(some 8), (.move (.tmp 1)), none⟩,
  ⟨(some 9), (.len .slice (.tmp 8)), none⟩,
  ⟨(some 10), (.bin .neq (.tmp 7) (.tmp 9)), none⟩])
 (.cond (.tmp 10)
 (.seq (.ops [⟨(some 4), (.move (.con (.bool false))), none⟩])
 .ret)
 .skip))
 (.seq (.seq (.ops [⟨(some 5), (.move (.con (.int .i64 0))), none⟩])
 (.block 0 (.loop (.seq (.seq (.ops [⟨(some 11), (.move (.tmp 5)), none⟩,
  ⟨(some 12), (.move (.tmp 0)), none⟩,
  ⟨(some 13), (.len .slice (.tmp 12)), none⟩,
  ⟨(some 14), (.bin .lss (.tmp 11) (.tmp 13)), none⟩])
 (.cond (.tmp 14)
 .skip
 (.exit 0)))
 (.seq (.block 1 (.seq (.draw (.take ⟨(some 17), (.move (.tmp 0)), none⟩
  (.take ⟨(some 18), (.move (.tmp 5)), none⟩
  (.take ⟨(some 19), (.iaddr 1 (.tmp 17) (.tmp 18)), none⟩
  (.take ⟨(some 20), (.load none (.tmp 19)), none⟩
  (.take ⟨(some 21), (.move (.tmp 1)), none⟩
  (.take ⟨(some 22), (.move (.tmp 5)), none⟩
  (.take ⟨(some 23), (.iaddr 1 (.tmp 21) (.tmp 22)), none⟩
  (.take ⟨(some 24), (.load none (.tmp 23)), none⟩
  (.take ⟨(some 25), (.bin .neq (.tmp 20) (.tmp 24)), none⟩
  .nil))))))))))
 (.cond (.tmp 25)
 (.seq (.ops [⟨(some 4), (.move (.con (.bool false))), none⟩])
 .ret)
 .skip)))
 (.ops [⟨(some 15), (.move (.tmp 5)), none⟩,
  ⟨(some 16), (.bin .add (.tmp 15) (.con (.int .i64 1))), none⟩,
  ⟨(some 5), (.move (.tmp 16)), none⟩]))))))
 (.seq (.ops [⟨(some 4), (.move (.con (.bool true))), none⟩])
 .ret))))
theorem fn12 : fnCode Tryd.prog 12 = some (26, code12, [.tmp 4]) := by kernel_rfl

/-- strconv.Itoa -/
def code33 : ACode :=
 (.seq (.ops [⟨(some 2), (.move (.con (.str ⟨#[]⟩))), none⟩])
 (.seq (.ops [⟨(some 3), (.move (.tmp 0)), none⟩,
  ⟨(some 4), (.call 44 [(.tmp 3)]), none⟩,
  ⟨(some 2), (.move (.tmp 4)), none⟩])
 .ret))
theorem fn33 : fnCode Tryd.prog 33 = some (5, code33, [.tmp 2]) := by kernel_rfl

/-- internal/strconv.Itoa -/
def code44 : ACode :=
 (.seq (.ops [⟨(some 2), (.move (.con (.str ⟨#[]⟩))), none⟩])
 (.seq (.ops [⟨(some 3), (.move (.tmp 0)), none⟩,
  ⟨(some 4), (.call 46 [(.tmp 3), (.con (.int .i64 10))]), none⟩,
  ⟨(some 2), (.move (.tmp 4)), none⟩])
 .ret))
theorem fn44 : fnCode Tryd.prog 44 = some (5, code44, [.tmp 2]) := by kernel_rfl

/-- internal/strconv.FormatInt -/
def code46 : ACode :=
 (.seq (.ops [⟨(some 4), (.move (.con (.str ⟨#[]⟩))), none⟩])
 (.seq (.seq (.ops [⟨(some 10), (.move (.tmp 1)), none⟩,
  ⟨(some 11), (.bin .eql (.tmp 10) (.con (.int .i64 10))), none⟩])
 (.cond (.tmp 11)
 (.seq (.seq (.ops [⟨(some 12), (.move (.tmp 0)), none⟩,
  ⟨(some 13), (.bin .leq (.con (.int .i64 0)) (.tmp 12)), none⟩,
  ⟨(some 14), (.move (.tmp 13)), none⟩,
  ⟨(some 15), (.move (.tmp 0)), some (14, true)⟩,
  ⟨(some 16), (.bin .lss (.tmp 15) (.con (.int .i64 100))), some (14, true)⟩,
  ⟨(some 17), (.pick (.tmp 14) (.tmp 16) (.con (.bool false))), none⟩])
 (.cond (.tmp 17)
 (.seq (.ops [⟨(some 18), (.move (.tmp 0)), none⟩,
  ⟨(some 19), (.call 47 [(.tmp 18)]), none⟩,
  ⟨(some 4), (.move (.tmp 19)), none⟩])
 .ret)
 .skip))
 (.seq (.ops [⟨(some 5), (.alloc 50 [(.int .u8 0), (.int .u8 0), (.int .u8 0), (.int .u8 0), (.int .u8 0), (.int .u8 0), (.int .u8 0), (.int .u8 0), (.int .u8 0), (.int .u8 0), (.int .u8 0), (.int .u8 0), (.int .u8 0), (.int .u8 0), (.int .u8 0), (.int .u8 0), (.int .u8 0), (.int .u8 0), (.int .u8 0), (.int .u8 0), (.int .u8 0), (.int .u8 0), (.int .u8 0), (.int .u8 0)]), none⟩])
 (.seq (.ops [⟨(some 20), (.move (.tmp 0)), none⟩,
  ⟨(some 21), (.conv .u64 (.tmp 20)), none⟩,
  ⟨(some 6), (.move (.tmp 21)), none⟩])
 (.seq (.seq (.ops [⟨(some 22), (.move (.tmp 0)), none⟩,
  ⟨(some 23), (.bin .lss (.tmp 22) (.con (.int .i64 0))), none⟩])
 (.cond (.tmp 23)
 (.ops [⟨(some 24), (.move (.tmp 6)), none⟩,
  ⟨(some 25), (.un .neg (.tmp 24)), none⟩,
  ⟨(some 6), (.move (.tmp 25)), none⟩])
 .skip))
 (.seq (.ops [⟨(some 26), (.move (.tmp 6)), none⟩,
  ⟨(some 27), (.call 48 [(.tmp 26)]), none⟩,
  ⟨(some 7), (.move (.tmp 27)), none⟩])
 (.seq (.ops [⟨(some 28), (.move (.tmp 7)), none⟩,
  ⟨(some 29), (.bin .add (.con (.int .i64 1)) (.tmp 28)), none⟩,
  ⟨(some 30), .bad, none⟩,
  ⟨(some 31), (.move (.tmp 6)), none⟩,
  ⟨(some 32), (.call 49 [(.tmp 30), (.tmp 31)]), none⟩])
 (.seq (.seq (.ops [⟨(some 33), (.move (.tmp 0)), none⟩,
  ⟨(some 34), (.bin .lss (.tmp 33) (.con (.int .i64 0))), none⟩])
 (.cond (.tmp 34)
 (.seq (.ops [⟨(some 35), .bad, none⟩,
  ⟨none, (.store 1 (.tmp 35) (.con (.int .u8 45))), none⟩])
 (.seq (.ops [⟨(some 36), (.move (.tmp 7)), none⟩,
  ⟨(some 37), (.bin .add (.con (.int .i64 1)) (.tmp 36)), none⟩,
  ⟨(some 38), .bad, none⟩,
  ⟨(some 39), (.b2s (.tmp 38)), none⟩,
  ⟨(some 4), (.move (.tmp 39)), none⟩])
 .ret))
 .skip))
 (.seq (.ops [⟨(some 40), (.move (.tmp 7)), none⟩,
  ⟨(some 41), (.bin .add (.con (.int .i64 1)) (.tmp 40)), none⟩,
  ⟨(some 42), .bad, none⟩,
  ⟨(some 43), (.b2s (.tmp 42)), none⟩,
  ⟨(some 4), (.move (.tmp 43)), none⟩])
 .ret))))))))
 .skip))
 (.seq (.ops [⟨(some 45), (.move (.tmp 0)), none⟩,
  ⟨(some 46), (.conv .u64 (.tmp 45)), none⟩,
  ⟨(some 47), (.move (.tmp 1)), none⟩,
  ⟨(some 48), (.move (.tmp 0)), none⟩,
  ⟨(some 49), (.bin .lss (.tmp 48) (.con (.int .i64 0))), none⟩,
  ⟨(some 50), (.call 50 [(.con .nils), (.tmp 46), (.tmp 47), (.tmp 49), (.con (.bool false))]), none⟩,
  ⟨(some 44), (.move (.tmp 50)), none⟩,
  ⟨(some 51), (.extract 0 (.tmp 44)), none⟩,
  ⟨(some 52), (.extract 1 (.tmp 44)), none⟩,
  ⟨(some 8), (.move (.tmp 51)), none⟩,
  ⟨(some 9), (.move (.tmp 52)), none⟩])
 (.seq (.ops [⟨(some 53), (.move (.tmp 9)), none⟩,
  ⟨(some 4), (.move (.tmp 53)), none⟩])
 .ret))))
theorem fn46 : fnCode Tryd.prog 46 = some (54, code46, [.tmp 4]) := by kernel_rfl

/-- internal/strconv.small -/
def code47 : ACode :=
 (.seq (.ops [⟨(some 2), (.move (.con (.str ⟨#[]⟩))), none⟩])
 (.seq (.seq (.ops [⟨(some 3), (.move (.tmp 0)), none⟩,
  ⟨(some 4), (.bin .lss (.tmp 3) (.con (.int .i64 10))), none⟩])
 (.cond (.tmp 4)
 (.seq (.ops [⟨(some 5), (.move (.tmp 0)), none⟩,
  ⟨(some 6), (.move (.tmp 0)), none⟩,
  ⟨(some 7), (.bin .add (.tmp 6) (.con (.int .i64 1))), none⟩,
  ⟨(some 8), (.sliceS (.con (.str ⟨#[48, 49, 50, 51, 52, 53, 54, 55, 56, 57, 97, 98, 99, 100, 101, 102, 103, 104, 105, 106, 107, 108, 109, 110, 111, 112, 113, 114, 115, 116, 117, 118, 119, 120, 121, 122]⟩)) (some (.tmp 5)) (some (.tmp 7))), none⟩,
  ⟨(some 2), (.move (.tmp 8)), none⟩])
 .ret)
 .skip))
 (.seq (.ops [⟨(some 9), (.move (.tmp 0)), none⟩,
  ⟨(some 10), (.bin .mul (.tmp 9) (.con (.int .i64 2))), none⟩,
  ⟨(some 11), (.move (.tmp 0)), none⟩,
  ⟨(some 12), (.bin .mul (.tmp 11) (.con (.int .i64 2))), none⟩,
  ⟨(some 13), (.bin .add (.tmp 12) (.con (.int .i64 2))), none⟩,
  ⟨(some 14), (.sliceS (.con (.str ⟨#[48, 48, 48, 49, 48, 50, 48, 51, 48, 52, 48, 53, 48, 54, 48, 55, 48, 56, 48, 57, 49, 48, 49, 49, 49, 50, 49, 51, 49, 52, 49, 53, 49, 54, 49, 55, 49, 56, 49, 57, 50, 48, 50, 49, 50, 50, 50, 51, 50, 52, 50, 53, 50, 54, 50, 55, 50, 56, 50, 57, 51, 48, 51, 49, 51, 50, 51, 51, 51, 52, 51, 53, 51, 54, 51, 55, 51, 56, 51, 57, 52, 48, 52, 49, 52, 50, 52, 51, 52, 52, 52, 53, 52, 54, 52, 55, 52, 56, 52, 57, 53, 48, 53, 49, 53, 50, 53, 51, 53, 52, 53, 53, 53, 54, 53, 55, 53, 56, 53, 57, 54, 48, 54, 49, 54, 50, 54, 51, 54, 52, 54, 53, 54, 54, 54, 55, 54, 56, 54, 57, 55, 48, 55, 49, 55, 50, 55, 51, 55, 52, 55, 53, 55, 54, 55, 55, 55, 56, 55, 57, 56, 48, 56, 49, 56, 50, 56, 51, 56, 52, 56, 53, 56, 54, 56, 55, 56, 56, 56, 57, 57, 48, 57, 49, 57, 50, 57, 51, 57, 52, 57, 53, 57, 54, 57, 55, 57, 56, 57, 57]⟩)) (some (.tmp 10)) (some (.tmp 13))), none⟩,
  ⟨(some 2), (.move (.tmp 14)), none⟩])
 .ret)))
theorem fn47 : fnCode Tryd.prog 47 = some (15, code47, [.tmp 2]) := by kernel_rfl

/-- emissary/typ.Show -/
def code18 : ACode :=
 (.seq (.ops [⟨(some 1), (.box 24 3 (.tmp 0)), none⟩,
  ⟨(some 2), (.move (.con (.str ⟨#[]⟩))), none⟩])
 (.seq (.seq (.ops [⟨(some 3), (.faddr 0 none (.tmp 1)), none⟩,
  ⟨(some 4), (.load none (.tmp 3)), none⟩])
 (.block 0 (.seq (.seq (.ops [⟨(some 6), (.bin .eql (.tmp 4) (.con (.str ⟨#[108, 105, 115, 116]⟩))), none⟩,
  ⟨(some 5), (.move (.tmp 6)), none⟩])
 (.cond (.tmp 5)
 .skip
 (.ops [⟨(some 7), (.bin .eql (.tmp 4) (.con (.str ⟨#[114, 101, 102]⟩))), none⟩,
  ⟨(some 5), (.move (.tmp 7)), none⟩])))
 (.cond (.tmp 5)
 (.seq (.draw (.take ⟨(some 8), (.faddr 2 none (.tmp 1)), none⟩
  (.take ⟨(some 9), (.load none (.tmp 8)), none⟩
  (.take ⟨(some 10), (.iaddr 3 (.tmp 9) (.con (.int .i64 0))), none⟩
  (.take ⟨(some 11), (.load (some 3) (.tmp 10)), none⟩
  (.take ⟨(some 14), (.faddr 0 none (.tmp 1)), none⟩
  (.take ⟨(some 15), (.load none (.tmp 14)), none⟩
  (.only ⟨(some 12), (.call 18 [(.tmp 11)]), none⟩ true
  (.take ⟨(some 13), (.bin .add (.tmp 12) (.con (.str ⟨#[32]⟩))), none⟩
  (.take ⟨(some 16), (.bin .add (.tmp 13) (.tmp 15)), none⟩
  (.take ⟨(some 2), (.move (.tmp 16)), none⟩
  .nil)))))))))))
 .ret)
 (.seq (.ops [⟨(some 18), (.bin .eql (.tmp 4) (.con (.str ⟨#[112, 97, 105, 114]⟩))), none⟩,
  ⟨(some 17), (.move (.tmp 18)), none⟩])
 (.cond (.tmp 17)
 (.seq (.draw (.take ⟨(some 19), (.faddr 2 none (.tmp 1)), none⟩
  (.take ⟨(some 20), (.load none (.tmp 19)), none⟩
  (.take ⟨(some 21), (.iaddr 3 (.tmp 20) (.con (.int .i64 0))), none⟩
  (.take ⟨(some 22), (.load (some 3) (.tmp 21)), none⟩
  (.take ⟨(some 26), (.faddr 2 none (.tmp 1)), none⟩
  (.take ⟨(some 27), (.load none (.tmp 26)), none⟩
  (.take ⟨(some 28), (.iaddr 3 (.tmp 27) (.con (.int .i64 1))), none⟩
  (.take ⟨(some 29), (.load (some 3) (.tmp 28)), none⟩
  (.only ⟨(some 23), (.call 18 [(.tmp 22)]), none⟩ true
  (.take ⟨(some 24), (.bin .add (.con (.str ⟨#[40]⟩)) (.tmp 23)), none⟩
  (.take ⟨(some 25), (.bin .add (.tmp 24) (.con (.str ⟨#[32, 42, 32]⟩))), none⟩
  (.only ⟨(some 30), (.call 18 [(.tmp 29)]), none⟩ true
  (.take ⟨(some 31), (.bin .add (.tmp 25) (.tmp 30)), none⟩
  (.take ⟨(some 32), (.bin .add (.tmp 31) (.con (.str ⟨#[41]⟩))), none⟩
  (.take ⟨(some 2), (.move (.tmp 32)), none⟩
  .nil))))))))))))))))
 .ret)
 (.seq (.ops [⟨(some 34), (.bin .eql (.tmp 4) (.con (.str ⟨#[102, 117, 110]⟩))), none⟩,
  ⟨(some 33), (.move (.tmp 34)), none⟩])
 (.cond (.tmp 33)
 (.seq (.draw (.take ⟨(some 35), (.faddr 2 none (.tmp 1)), none⟩
  (.take ⟨(some 36), (.load none (.tmp 35)), none⟩
  (.take ⟨(some 37), (.iaddr 3 (.tmp 36) (.con (.int .i64 0))), none⟩
  (.take ⟨(some 38), (.load (some 3) (.tmp 37)), none⟩
  (.take ⟨(some 42), (.faddr 2 none (.tmp 1)), none⟩
  (.take ⟨(some 43), (.load none (.tmp 42)), none⟩
  (.take ⟨(some 44), (.iaddr 3 (.tmp 43) (.con (.int .i64 1))), none⟩
  (.take ⟨(some 45), (.load (some 3) (.tmp 44)), none⟩
  (.only ⟨(some 39), (.call 18 [(.tmp 38)]), none⟩ true
  (.take ⟨(some 40), (.bin .add (.con (.str ⟨#[40]⟩)) (.tmp 39)), none⟩
  (.take ⟨(some 41), (.bin .add (.tmp 40) (.con (.str ⟨#[32, 45, 62, 32]⟩))), none⟩
  (.only ⟨(some 46), (.call 18 [(.tmp 45)]), none⟩ true
  (.take ⟨(some 47), (.bin .add (.tmp 41) (.tmp 46)), none⟩
  (.take ⟨(some 48), (.bin .add (.tmp 47) (.con (.str ⟨#[41]⟩))), none⟩
  (.take ⟨(some 2), (.move (.tmp 48)), none⟩
  .nil))))))))))))))))
 .ret)
 (.seq (.ops [⟨(some 50), (.bin .eql (.tmp 4) (.con (.str ⟨#[118, 97, 114]⟩))), none⟩,
  ⟨(some 49), (.move (.tmp 50)), none⟩])
 (.cond (.tmp 49)
 (.seq (.ops [⟨(some 51), (.faddr 1 none (.tmp 1)), none⟩,
  ⟨(some 52), (.load none (.tmp 51)), none⟩,
  ⟨(some 53), (.call 33 [(.tmp 52)]), none⟩,
  ⟨(some 54), (.bin .add (.con (.str ⟨#[39]⟩)) (.tmp 53)), none⟩,
  ⟨(some 2), (.move (.tmp 54)), none⟩])
 .ret)
 .skip))))))))))
 (.seq (.ops [⟨(some 55), (.faddr 0 none (.tmp 1)), none⟩,
  ⟨(some 56), (.load none (.tmp 55)), none⟩,
  ⟨(some 2), (.move (.tmp 56)), none⟩])
 .ret)))
theorem fn18 : fnCode Tryd.prog 18 = some (57, code18, [.tmp 2]) := by kernel_rfl

/-- emissary/emissaryref8.Show -/
def code19 : ACode :=
 (.seq (.ops [⟨(some 1), (.box 24 3 (.tmp 0)), none⟩,
  ⟨(some 2), (.move (.con (.str ⟨#[]⟩))), none⟩])
 (.seq (.seq (.ops [⟨(some 3), (.faddr 0 none (.tmp 1)), none⟩,
  ⟨(some 4), (.load none (.tmp 3)), none⟩])
 (.block 0 (.seq (.seq (.ops [⟨(some 6), (.bin .eql (.tmp 4) (.con (.str ⟨#[108, 105, 115, 116]⟩))), none⟩,
  ⟨(some 5), (.move (.tmp 6)), none⟩])
 (.cond (.tmp 5)
 .skip
 (.ops [⟨(some 7), (.bin .eql (.tmp 4) (.con (.str ⟨#[114, 101, 102]⟩))), none⟩,
  ⟨(some 5), (.move (.tmp 7)), none⟩])))
 (.cond (.tmp 5)
 (.seq (.draw (.take ⟨(some 8), (.faddr 2 none (.tmp 1)), none⟩
  (.take ⟨(some 9), (.load none (.tmp 8)), none⟩
  (.take ⟨(some 10), (.iaddr 3 (.tmp 9) (.con (.int .i64 0))), none⟩
  (.take ⟨(some 11), (.load (some 3) (.tmp 10)), none⟩
  (.take ⟨(some 14), (.faddr 0 none (.tmp 1)), none⟩
  (.take ⟨(some 15), (.load none (.tmp 14)), none⟩
  (.only ⟨(some 12), (.call 19 [(.tmp 11)]), none⟩ true
  (.take ⟨(some 13), (.bin .add (.tmp 12) (.con (.str ⟨#[32]⟩))), none⟩
  (.take ⟨(some 16), (.bin .add (.tmp 13) (.tmp 15)), none⟩
  (.take ⟨(some 2), (.move (.tmp 16)), none⟩
  .nil)))))))))))
 .ret)
 (.seq (.ops [⟨(some 18), (.bin .eql (.tmp 4) (.con (.str ⟨#[112, 97, 105, 114]⟩))), none⟩,
  ⟨(some 17), (.move (.tmp 18)), none⟩])
 (.cond (.tmp 17)
 (.seq (.draw (.take ⟨(some 19), (.faddr 2 none (.tmp 1)), none⟩
  (.take ⟨(some 20), (.load none (.tmp 19)), none⟩
  (.take ⟨(some 21), (.iaddr 3 (.tmp 20) (.con (.int .i64 0))), none⟩
  (.take ⟨(some 22), (.load (some 3) (.tmp 21)), none⟩
  (.take ⟨(some 26), (.faddr 2 none (.tmp 1)), none⟩
  (.take ⟨(some 27), (.load none (.tmp 26)), none⟩
  (.take ⟨(some 28), (.iaddr 3 (.tmp 27) (.con (.int .i64 1))), none⟩
  (.take ⟨(some 29), (.load (some 3) (.tmp 28)), none⟩
  (.only ⟨(some 23), (.call 19 [(.tmp 22)]), none⟩ true
  (.take ⟨(some 24), (.bin .add (.con (.str ⟨#[40]⟩)) (.tmp 23)), none⟩
  (.take ⟨(some 25), (.bin .add (.tmp 24) (.con (.str ⟨#[32, 42, 32]⟩))), none⟩
  (.only ⟨(some 30), (.call 19 [(.tmp 29)]), none⟩ true
  (.take ⟨(some 31), (.bin .add (.tmp 25) (.tmp 30)), none⟩
  (.take ⟨(some 32), (.bin .add (.tmp 31) (.con (.str ⟨#[41]⟩))), none⟩
  (.take ⟨(some 2), (.move (.tmp 32)), none⟩
  .nil))))))))))))))))
 .ret)
 (.seq (.ops [⟨(some 34), (.bin .eql (.tmp 4) (.con (.str ⟨#[102, 117, 110]⟩))), none⟩,
  ⟨(some 33), (.move (.tmp 34)), none⟩])
 (.cond (.tmp 33)
 (.seq (.draw (.take ⟨(some 35), (.faddr 2 none (.tmp 1)), none⟩
  (.take ⟨(some 36), (.load none (.tmp 35)), none⟩
  (.take ⟨(some 37), (.iaddr 3 (.tmp 36) (.con (.int .i64 0))), none⟩
  (.take ⟨(some 38), (.load (some 3) (.tmp 37)), none⟩
  (.take ⟨(some 42), (.faddr 2 none (.tmp 1)), none⟩
  (.take ⟨(some 43), (.load none (.tmp 42)), none⟩
  (.take ⟨(some 44), (.iaddr 3 (.tmp 43) (.con (.int .i64 1))), none⟩
  (.take ⟨(some 45), (.load (some 3) (.tmp 44)), none⟩
  (.only ⟨(some 39), (.call 19 [(.tmp 38)]), none⟩ true
  (.take ⟨(some 40), (.bin .add (.con (.str ⟨#[40]⟩)) (.tmp 39)), none⟩
  (.take ⟨(some 41), (.bin .add (.tmp 40) (.con (.str ⟨#[32, 45, 62, 32]⟩))), none⟩
  (.only ⟨(some 46), (.call 19 [(.tmp 45)]), none⟩ true
  (.take ⟨(some 47), (.bin .add (.tmp 41) (.tmp 46)), none⟩
  (.take ⟨(some 48), (.bin .add (.tmp 47) (.con (.str ⟨#[41]⟩))), none⟩
  (.take ⟨(some 2), (.move (.tmp 48)), none⟩
  .nil))))))))))))))))
 .ret)
 (.seq (.ops [⟨(some 50), (.bin .eql (.tmp 4) (.con (.str ⟨#[118, 97, 114]⟩))), none⟩,
  ⟨(some 49), (.move (.tmp 50)), none⟩])
 (.cond (.tmp 49)
 (.seq (.ops [⟨(some 51), (.faddr 1 none (.tmp 1)), none⟩,
  ⟨(some 52), (.load none (.tmp 51)), none⟩,
  ⟨(some 53), (.call 34 [(.tmp 52)]), none⟩,
  ⟨(some 54), (.bin .add (.con (.str ⟨#[39]⟩)) (.tmp 53)), none⟩,
  ⟨(some 2), (.move (.tmp 54)), none⟩])
 .ret)
 .skip))))))))))
 (.seq (.ops [⟨(some 55), (.faddr 0 none (.tmp 1)), none⟩,
  ⟨(some 56), (.load none (.tmp 55)), none⟩,
  ⟨(some 2), (.move (.tmp 56)), none⟩])
 .ret)))
theorem fn19 : fnCode Tryd.prog 19 = some (57, code19, [.tmp 2]) := by kernel_rfl

/-- emissary/emissaryref8.digits -/
def code34 : ACode :=
 (.seq (.ops [⟨(some 2), (.move (.con (.str ⟨#[]⟩))), none⟩])
 (.seq (.ops [⟨(some 4), (.move (.tmp 0)), none⟩,
  ⟨(some 5), (.bin .rem (.tmp 4) (.con (.int .i64 10))), none⟩,
  ⟨(some 6), (.bin .add (.con (.int .i64 48)) (.tmp 5)), none⟩,
  ⟨(some 7), (.conv .u8 (.tmp 6)), none⟩,
  ⟨(some 8), (.bslice 5 1 1 [(.int .u8 0)] [(0, 1, (.tmp 7))]), none⟩,
  ⟨(some 9), (.b2s (.tmp 8)), none⟩,
  ⟨(some 3), (.move (.tmp 9)), none⟩])
 (.seq (.seq (.ops [⟨(some 10), (.move (.tmp 0)), none⟩,
  ⟨(some 11), (.bin .geq (.tmp 10) (.con (.int .i64 10))), none⟩])
 (.cond (.tmp 11)
 (.seq (.ops [⟨(some 12), (.move (.tmp 0)), none⟩,
  ⟨(some 13), (.bin .quo (.tmp 12) (.con (.int .i64 10))), none⟩,
  ⟨(some 14), (.call 34 [(.tmp 13)]), none⟩,
  ⟨(some 15), (.move (.tmp 3)), none⟩,
  ⟨(some 16), (.bin .add (.tmp 14) (.tmp 15)), none⟩,
  ⟨(some 2), (.move (.tmp 16)), none⟩])
 .ret)
 .skip))
 (.seq (.ops [⟨(some 17), (.move (.tmp 3)), none⟩,
  ⟨(some 2), (.move (.tmp 17)), none⟩])
 .ret))))
theorem fn34 : fnCode Tryd.prog 34 = some (18, code34, [.tmp 2]) := by kernel_rfl

/-- emissary/emissarylaw8.known -/
def code11 : ACode :=
 (.seq (.ops [⟨(some 0), (.move (.con (.bool false))), none⟩])
 (.seq (.ops [⟨(some 2), (.call 23 [(.con (.str ⟨#[105, 110, 116]⟩)), (.con .nils)]), none⟩,
  ⟨(some 3), (.call 22 [(.con (.int .i64 3))]), none⟩,
  ⟨(some 4), (.bslice 24 3 2 [(.str ⟨#[]⟩), (.int .i64 0), .nils, (.str ⟨#[]⟩), (.int .i64 0), .nils] [(0, 3, (.tmp 2)), (3, 3, (.tmp 3))]), none⟩,
  ⟨(some 5), (.call 23 [(.con (.str ⟨#[112, 97, 105, 114]⟩)), (.tmp 4)]), none⟩,
  ⟨(some 6), (.bslice 24 3 1 [(.str ⟨#[]⟩), (.int .i64 0), .nils] [(0, 3, (.tmp 5))]), none⟩,
  ⟨(some 7), (.call 23 [(.con (.str ⟨#[108, 105, 115, 116]⟩)), (.tmp 6)]), none⟩,
  ⟨(some 1), (.alloc 24 [(.str ⟨#[]⟩), (.int .i64 0), .nils]), none⟩,
  ⟨none, (.store 3 (.tmp 1) (.tmp 7)), none⟩])
 (.seq (.ops [⟨(some 8), (.load (some 3) (.tmp 1)), none⟩,
  ⟨(some 9), (.call 10 [(.tmp 8)]), none⟩,
  ⟨(some 10), (.move (.tmp 9)), none⟩,
  ⟨(some 11), (.load (some 3) (.tmp 1)), some (10, true)⟩,
  ⟨(some 12), (.call 16 [(.tmp 11)]), some (10, true)⟩,
  ⟨(some 13), (.call 18 [(.tmp 12)]), some (10, true)⟩,
  ⟨(some 14), (.bin .eql (.tmp 13) (.con (.str ⟨#[40, 105, 110, 116, 32, 42, 32, 39, 48, 41, 32, 108, 105, 115, 116]⟩))), some (10, true)⟩,
  ⟨(some 15), (.pick (.tmp 10) (.tmp 14) (.con (.bool false))), none⟩,
  ⟨(some 16), (.move (.tmp 15)), none⟩,
  ⟨(some 17), (.load (some 3) (.tmp 1)), some (16, true)⟩,
  ⟨(some 18), (.call 20 [(.tmp 17)]), some (16, true)⟩,
  ⟨(some 19), (.un .not (.tmp 18)), some (16, true)⟩,
  ⟨(some 20), (.pick (.tmp 16) (.tmp 19) (.con (.bool false))), none⟩,
  ⟨(some 0), (.move (.tmp 20)), none⟩])
 .ret)))
theorem fn11 : fnCode Tryd.prog 11 = some (21, code11, [.tmp 0]) := by kernel_rfl

/-- emissary/emissarylaw8.TypNorm -/
def code4 : ACode :=
 (.seq (.ops [⟨(some 1), (.box 24 3 (.tmp 0)), none⟩,
  ⟨(some 2), (.move (.con (.bool false))), none⟩])
 (.seq (.seq (.ops [⟨(some 6), (.load (some 3) (.tmp 1)), none⟩,
  ⟨(some 7), (.call 8 [(.tmp 6)]), none⟩,
  ⟨(some 8), (.move (.tmp 7)), none⟩,
  ⟨(some 9), (.load (some 3) (.tmp 1)), some (8, false)⟩,
  ⟨(some 10), (.call 9 [(.tmp 9)]), some (8, false)⟩,
  ⟨(some 11), (.un .not (.tmp 10)), some (8, false)⟩,
  ⟨(some 12), (.pick (.tmp 8) (.con (.bool true)) (.tmp 11)), none⟩])
 (.cond (.tmp 12)
 (.seq (.ops [⟨(some 2), (.move (.con (.bool true))), none⟩])
 .ret)
 .skip))
 (.seq (.ops [⟨(some 13), (.load (some 3) (.tmp 1)), none⟩,
  ⟨(some 14), (.call 16 [(.tmp 13)]), none⟩,
  ⟨(some 3), (.alloc 24 [(.str ⟨#[]⟩), (.int .i64 0), .nils]), none⟩,
  ⟨none, (.store 3 (.tmp 3) (.tmp 14)), none⟩])
 (.seq (.ops [⟨(some 15), (.load (some 3) (.tmp 3)), none⟩,
  ⟨(some 16), (.call 13 [(.tmp 15)]), none⟩,
  ⟨(some 4), (.move (.tmp 16)), none⟩])
 (.seq (.seq (.ops [⟨(some 5), (.move (.con (.int .i64 0))), none⟩])
 (.block 0 (.loop (.seq (.seq (.ops [⟨(some 17), (.move (.tmp 5)), none⟩,
  ⟨(some 18), (.move (.tmp 4)), none⟩,
  ⟨(some 19), (.len .slice (.tmp 18)), none⟩,
  ⟨(some 20), (.bin .lss (.tmp 17) (.tmp 19)), none⟩])
 (.cond (.tmp 20)
 .skip
 (.exit 0)))
 (.seq (.block 1 (.seq (.ops [⟨(some 23), (.move (.tmp 4)), none⟩,
  ⟨(some 24), (.move (.tmp 5)), none⟩,
  ⟨(some 25), (.iaddr 1 (.tmp 23) (.tmp 24)), none⟩,
  ⟨(some 26), (.load none (.tmp 25)), none⟩,
  ⟨(some 27), (.move (.tmp 5)), none⟩,
  ⟨(some 28), (.bin .neq (.tmp 26) (.tmp 27)), none⟩])
 (.cond (.tmp 28)
 (.seq (.ops [⟨(some 2), (.move (.con (.bool false))), none⟩])
 .ret)
 .skip)))
 (.ops [⟨(some 21), (.move (.tmp 5)), none⟩,
  ⟨(some 22), (.bin .add (.tmp 21) (.con (.int .i64 1))), none⟩,
  ⟨(some 5), (.move (.tmp 22)), none⟩]))))))
 (.seq (.draw (.take ⟨(some 29), (.load (some 3) (.tmp 3)), none⟩
  (.take ⟨(some 31), (.load (some 3) (.tmp 3)), none⟩
  (.only ⟨(some 30), (.call 16 [(.tmp 29)]), none⟩ true
  (.only ⟨(some 32), (.call 15 [(.tmp 30), (.tmp 31)]), none⟩ true
  (.take ⟨(some 33), (.move (.tmp 32)), none⟩
  (.take ⟨(some 34), (.move (.tmp 4)), some (33, true)⟩
  (.take ⟨(some 35), (.len .slice (.tmp 34)), some (33, true)⟩
  (.take ⟨(some 36), (.load (some 3) (.tmp 1)), some (33, true)⟩
  (.only ⟨(some 37), (.call 13 [(.tmp 36)]), some (33, true)⟩ true
  (.take ⟨(some 38), (.len .slice (.tmp 37)), some (33, true)⟩
  (.take ⟨(some 39), (.bin .eql (.tmp 35) (.tmp 38)), some (33, true)⟩
  (.take ⟨(some 40), (.pick (.tmp 33) (.tmp 39) (.con (.bool false))), none⟩
  (.take ⟨(some 41), (.move (.tmp 40)), none⟩
  (.only ⟨(some 42), (.call 11 []), some (41, true)⟩ true
  (.take ⟨(some 43), (.pick (.tmp 41) (.tmp 42) (.con (.bool false))), none⟩
  (.take ⟨(some 2), (.move (.tmp 43)), none⟩
  .nil)))))))))))))))))
 .ret))))))
theorem fn4 : fnCode Tryd.prog 4 = some (44, code4, [.tmp 2]) := by kernel_rfl

/-- emissary/emissarylaw8.TypOdd -/
def code5 : ACode :=
 (.seq (.ops [⟨(some 2), (.move (.con (.bool false))), none⟩])
 (.seq (.ops [⟨(some 5), (.build [(.str ⟨#[]⟩), (.int .i64 0), .nils] [(0, 1, (.con (.str ⟨#[105, 110, 116]⟩)))]), none⟩,
  ⟨(some 3), (.alloc 24 [(.str ⟨#[]⟩), (.int .i64 0), .nils]), none⟩,
  ⟨none, (.store 3 (.tmp 3) (.tmp 5)), none⟩])
 (.seq (.ops [⟨(some 6), (.build [(.str ⟨#[]⟩), (.int .i64 0), .nils] []), none⟩,
  ⟨(some 7), (.build [(.str ⟨#[]⟩), (.int .i64 0), .nils] [(0, 1, (.con (.str ⟨#[108, 105, 115, 116]⟩)))]), none⟩,
  ⟨(some 8), (.build [(.str ⟨#[]⟩), (.int .i64 0), .nils] [(0, 1, (.con (.str ⟨#[105, 110, 116]⟩))), (1, 1, (.con (.int .i64 1)))]), none⟩,
  ⟨(some 9), (.build [(.str ⟨#[]⟩), (.int .i64 0), .nils] [(0, 1, (.con (.str ⟨#[118, 97, 114]⟩))), (1, 1, (.con (.int .i64 (-1))))]), none⟩,
  ⟨(some 10), (.load (some 3) (.tmp 3)), none⟩,
  ⟨(some 11), (.bslice 24 3 1 [(.str ⟨#[]⟩), (.int .i64 0), .nils] [(0, 3, (.tmp 10))]), none⟩,
  ⟨(some 12), (.build [(.str ⟨#[]⟩), (.int .i64 0), .nils] [(0, 1, (.con (.str ⟨#[112, 97, 105, 114]⟩))), (2, 1, (.tmp 11))]), none⟩,
  ⟨(some 13), (.load (some 3) (.tmp 3)), none⟩,
  ⟨(some 14), (.load (some 3) (.tmp 3)), none⟩,
  ⟨(some 15), (.load (some 3) (.tmp 3)), none⟩,
  ⟨(some 16), (.bslice 24 3 3 [(.str ⟨#[]⟩), (.int .i64 0), .nils, (.str ⟨#[]⟩), (.int .i64 0), .nils, (.str ⟨#[]⟩), (.int .i64 0), .nils] [(0, 3, (.tmp 13)), (3, 3, (.tmp 14)), (6, 3, (.tmp 15))]), none⟩,
  ⟨(some 17), (.build [(.str ⟨#[]⟩), (.int .i64 0), .nils] [(0, 1, (.con (.str ⟨#[102, 117, 110]⟩))), (2, 1, (.tmp 16))]), none⟩,
  ⟨(some 18), (.load (some 3) (.tmp 3)), none⟩,
  ⟨(some 19), (.bslice 24 3 1 [(.str ⟨#[]⟩), (.int .i64 0), .nils] [(0, 3, (.tmp 18))]), none⟩,
  ⟨(some 20), (.build [(.str ⟨#[]⟩), (.int .i64 0), .nils] [(0, 1, (.con (.str ⟨#[114, 101, 102]⟩))), (1, 1, (.con (.int .i64 2))), (2, 1, (.tmp 19))]), none⟩,
  ⟨(some 21), (.build [(.str ⟨#[]⟩), (.int .i64 0), .nils] [(0, 1, (.con (.str ⟨#[115, 101, 116]⟩)))]), none⟩,
  ⟨(some 22), (.bslice 24 3 1 [(.str ⟨#[]⟩), (.int .i64 0), .nils] [(0, 3, (.tmp 21))]), none⟩,
  ⟨(some 23), (.build [(.str ⟨#[]⟩), (.int .i64 0), .nils] [(0, 1, (.con (.str ⟨#[108, 105, 115, 116]⟩))), (2, 1, (.tmp 22))]), none⟩,
  ⟨(some 24), (.load (some 3) (.tmp 3)), none⟩,
  ⟨(some 25), (.bslice 24 3 1 [(.str ⟨#[]⟩), (.int .i64 0), .nils] [(0, 3, (.tmp 24))]), none⟩,
  ⟨(some 26), (.build [(.str ⟨#[]⟩), (.int .i64 0), .nils] [(0, 1, (.con (.str ⟨#[99, 101, 108, 108]⟩))), (2, 1, (.tmp 25))]), none⟩,
  ⟨(some 27), (.bslice 24 3 9 [(.str ⟨#[]⟩), (.int .i64 0), .nils, (.str ⟨#[]⟩), (.int .i64 0), .nils, (.str ⟨#[]⟩), (.int .i64 0), .nils, (.str ⟨#[]⟩), (.int .i64 0), .nils, (.str ⟨#[]⟩), (.int .i64 0), .nils, (.str ⟨#[]⟩), (.int .i64 0), .nils, (.str ⟨#[]⟩), (.int .i64 0), .nils, (.str ⟨#[]⟩), (.int .i64 0), .nils, (.str ⟨#[]⟩), (.int .i64 0), .nils] [(0, 3, (.tmp 6)), (3, 3, (.tmp 7)), (6, 3, (.tmp 8)), (9, 3, (.tmp 9)), (12, 3, (.tmp 12)), (15, 3, (.tmp 17)), (18, 3, (.tmp 20)), (21, 3, (.tmp 23)), (24, 3, (.tmp 26))]), none⟩,
  ⟨(some 4), (.move (.tmp 27)), none⟩])
 (.seq (.seq (.ops [⟨(some 28), (.move (.tmp 0)), none⟩,
  ⟨(some 29), (.bin .lss (.tmp 28) (.con (.int .i64 0))), none⟩,
  ⟨(some 30), (.move (.tmp 29)), none⟩,
  ⟨(some 31), (.move (.tmp 0)), some (30, false)⟩,
  ⟨(some 32), (.move (.tmp 4)), some (30, false)⟩,
  ⟨(some 33), (.len .slice (.tmp 32)), some (30, false)⟩,
  ⟨(some 34), (.bin .geq (.tmp 31) (.tmp 33)), some (30, false)⟩,
  ⟨(some 35), (.pick (.tmp 30) (.con (.bool true)) (.tmp 34)), none⟩])
 (.cond (.tmp 35)
 (.seq (.ops [⟨(some 2), (.move (.con (.bool true))), none⟩])
 .ret)
 .skip))
 (.seq (.ops [⟨(some 36), (.move (.tmp 4)), none⟩,
  ⟨(some 37), (.move (.tmp 0)), none⟩,
  ⟨(some 38), (.iaddr 3 (.tmp 36) (.tmp 37)), none⟩,
  ⟨(some 39), (.load (some 3) (.tmp 38)), none⟩,
  ⟨(some 40), (.call 10 [(.tmp 39)]), none⟩,
  ⟨(some 41), (.un .not (.tmp 40)), none⟩,
  ⟨(some 42), (.move (.tmp 41)), none⟩,
  ⟨(some 43), (.load (some 3) (.tmp 3)), some (42, true)⟩,
  ⟨(some 44), (.call 10 [(.tmp 43)]), some (42, true)⟩,
  ⟨(some 45), (.pick (.tmp 42) (.tmp 44) (.con (.bool false))), none⟩,
  ⟨(some 46), (.move (.tmp 45)), none⟩,
  ⟨(some 47), (.call 22 [(.con (.int .i64 1099511627776))]), some (46, true)⟩,
  ⟨(some 48), (.call 10 [(.tmp 47)]), some (46, true)⟩,
  ⟨(some 49), (.pick (.tmp 46) (.tmp 48) (.con (.bool false))), none⟩,
  ⟨(some 50), (.move (.tmp 49)), none⟩,
  ⟨(some 51), (.call 11 []), some (50, true)⟩,
  ⟨(some 52), (.pick (.tmp 50) (.tmp 51) (.con (.bool false))), none⟩,
  ⟨(some 2), (.move (.tmp 52)), none⟩])
 .ret)))))
theorem fn5 : fnCode Tryd.prog 5 = some (53, code5, [.tmp 2]) := by kernel_rfl

/-- emissary/emissarylaw8.TypSent -/
def code6 : ACode :=
 (.seq (.ops [⟨(some 2), (.box 24 3 (.tmp 0)), none⟩,
  ⟨(some 3), (.box 24 3 (.tmp 1)), none⟩,
  ⟨(some 4), (.move (.con (.bool false))), none⟩])
 (.seq (.seq (.ops [⟨(some 7), (.load (some 3) (.tmp 2)), none⟩,
  ⟨(some 8), (.call 8 [(.tmp 7)]), none⟩,
  ⟨(some 9), (.move (.tmp 8)), none⟩,
  ⟨(some 10), (.load (some 3) (.tmp 3)), some (9, false)⟩,
  ⟨(some 11), (.call 8 [(.tmp 10)]), some (9, false)⟩,
  ⟨(some 12), (.pick (.tmp 9) (.con (.bool true)) (.tmp 11)), none⟩,
  ⟨(some 13), (.move (.tmp 12)), none⟩,
  ⟨(some 14), (.load (some 3) (.tmp 2)), some (13, false)⟩,
  ⟨(some 15), (.call 9 [(.tmp 14)]), some (13, false)⟩,
  ⟨(some 16), (.un .not (.tmp 15)), some (13, false)⟩,
  ⟨(some 17), (.pick (.tmp 13) (.con (.bool true)) (.tmp 16)), none⟩,
  ⟨(some 18), (.move (.tmp 17)), none⟩,
  ⟨(some 19), (.load (some 3) (.tmp 3)), some (18, false)⟩,
  ⟨(some 20), (.call 9 [(.tmp 19)]), some (18, false)⟩,
  ⟨(some 21), (.un .not (.tmp 20)), some (18, false)⟩,
  ⟨(some 22), (.pick (.tmp 18) (.con (.bool true)) (.tmp 21)), none⟩])
 (.cond (.tmp 22)
 (.seq (.ops [⟨(some 4), (.move (.con (.bool true))), none⟩])
 .ret)
 .skip))
 (.seq (.draw (.take ⟨(some 23), (.load (some 3) (.tmp 2)), none⟩
  (.take ⟨(some 25), (.load (some 3) (.tmp 3)), none⟩
  (.only ⟨(some 24), (.call 20 [(.tmp 23)]), none⟩ true
  (.only ⟨(some 26), (.call 20 [(.tmp 25)]), none⟩ true
  (.take ⟨(some 5), (.move (.tmp 24)), none⟩
  (.take ⟨(some 6), (.move (.tmp 26)), none⟩
  .nil)))))))
 (.seq (.ops [⟨(some 27), (.load (some 3) (.tmp 2)), none⟩,
  ⟨(some 28), (.load (some 3) (.tmp 3)), none⟩,
  ⟨(some 29), (.bslice 24 3 2 [(.str ⟨#[]⟩), (.int .i64 0), .nils, (.str ⟨#[]⟩), (.int .i64 0), .nils] [(0, 3, (.tmp 27)), (3, 3, (.tmp 28))]), none⟩,
  ⟨(some 30), (.call 23 [(.con (.str ⟨#[112, 97, 105, 114]⟩)), (.tmp 29)]), none⟩,
  ⟨(some 31), (.call 20 [(.tmp 30)]), none⟩,
  ⟨(some 32), (.move (.tmp 5)), none⟩,
  ⟨(some 33), (.move (.tmp 32)), none⟩,
  ⟨(some 34), (.move (.tmp 6)), some (33, true)⟩,
  ⟨(some 35), (.pick (.tmp 33) (.tmp 34) (.con (.bool false))), none⟩,
  ⟨(some 36), (.eqv false .bool (.tmp 31) (.tmp 35)), none⟩,
  ⟨(some 37), (.move (.tmp 36)), none⟩,
  ⟨(some 38), (.load (some 3) (.tmp 2)), some (37, true)⟩,
  ⟨(some 39), (.bslice 24 3 1 [(.str ⟨#[]⟩), (.int .i64 0), .nils] [(0, 3, (.tmp 38))]), some (37, true)⟩,
  ⟨(some 40), (.call 23 [(.con (.str ⟨#[108, 105, 115, 116]⟩)), (.tmp 39)]), some (37, true)⟩,
  ⟨(some 41), (.call 20 [(.tmp 40)]), some (37, true)⟩,
  ⟨(some 42), (.move (.tmp 5)), some (37, true)⟩,
  ⟨(some 43), (.eqv false .bool (.tmp 41) (.tmp 42)), some (37, true)⟩,
  ⟨(some 44), (.pick (.tmp 37) (.tmp 43) (.con (.bool false))), none⟩,
  ⟨(some 45), (.move (.tmp 44)), none⟩,
  ⟨(some 46), (.load (some 3) (.tmp 3)), some (45, true)⟩,
  ⟨(some 47), (.bslice 24 3 1 [(.str ⟨#[]⟩), (.int .i64 0), .nils] [(0, 3, (.tmp 46))]), some (45, true)⟩,
  ⟨(some 48), (.call 23 [(.con (.str ⟨#[114, 101, 102]⟩)), (.tmp 47)]), some (45, true)⟩,
  ⟨(some 49), (.call 20 [(.tmp 48)]), some (45, true)⟩,
  ⟨(some 50), (.move (.tmp 6)), some (45, true)⟩,
  ⟨(some 51), (.eqv false .bool (.tmp 49) (.tmp 50)), some (45, true)⟩,
  ⟨(some 52), (.pick (.tmp 45) (.tmp 51) (.con (.bool false))), none⟩,
  ⟨(some 53), (.move (.tmp 52)), none⟩,
  ⟨(some 54), (.load (some 3) (.tmp 2)), some (53, true)⟩,
  ⟨(some 55), (.load (some 3) (.tmp 3)), some (53, true)⟩,
  ⟨(some 56), (.bslice 24 3 2 [(.str ⟨#[]⟩), (.int .i64 0), .nils, (.str ⟨#[]⟩), (.int .i64 0), .nils] [(0, 3, (.tmp 54)), (3, 3, (.tmp 55))]), some (53, true)⟩,
  ⟨(some 57), (.call 23 [(.con (.str ⟨#[102, 117, 110]⟩)), (.tmp 56)]), some (53, true)⟩,
  ⟨(some 58), (.call 20 [(.tmp 57)]), some (53, true)⟩,
  ⟨(some 59), (.un .not (.tmp 58)), some (53, true)⟩,
  ⟨(some 60), (.pick (.tmp 53) (.tmp 59) (.con (.bool false))), none⟩,
  ⟨(some 61), (.move (.tmp 60)), none⟩,
  ⟨(some 62), (.call 11 []), some (61, true)⟩,
  ⟨(some 63), (.pick (.tmp 61) (.tmp 62) (.con (.bool false))), none⟩,
  ⟨(some 4), (.move (.tmp 63)), none⟩])
 .ret))))
theorem fn6 : fnCode Tryd.prog 6 = some (64, code6, [.tmp 4]) := by kernel_rfl

/-- emissary/emissarylaw8.TypTells -/
def code3 : ACode :=
 (.seq (.ops [⟨(some 1), (.box 24 3 (.tmp 0)), none⟩,
  ⟨(some 2), (.move (.con (.bool false))), none⟩])
 (.seq (.seq (.ops [⟨(some 3), (.load (some 3) (.tmp 1)), none⟩,
  ⟨(some 4), (.call 8 [(.tmp 3)]), none⟩])
 (.cond (.tmp 4)
 (.seq (.ops [⟨(some 2), (.move (.con (.bool true))), none⟩])
 .ret)
 .skip))
 (.seq (.seq (.ops [⟨(some 5), (.load (some 3) (.tmp 1)), none⟩,
  ⟨(some 6), (.call 9 [(.tmp 5)]), none⟩,
  ⟨(some 7), (.un .not (.tmp 6)), none⟩])
 (.cond (.tmp 7)
 (.seq (.ops [⟨(some 8), (.load (some 3) (.tmp 1)), none⟩,
  ⟨(some 9), (.call 10 [(.tmp 8)]), none⟩,
  ⟨(some 10), (.un .not (.tmp 9)), none⟩,
  ⟨(some 11), (.move (.tmp 10)), none⟩,
  ⟨(some 12), (.call 11 []), some (11, true)⟩,
  ⟨(some 13), (.pick (.tmp 11) (.tmp 12) (.con (.bool false))), none⟩,
  ⟨(some 2), (.move (.tmp 13)), none⟩])
 .ret)
 .skip))
 (.seq (.draw (.take ⟨(some 14), (.load (some 3) (.tmp 1)), none⟩
  (.only ⟨(some 15), (.call 10 [(.tmp 14)]), none⟩ true
  (.take ⟨(some 16), (.move (.tmp 15)), none⟩
  (.take ⟨(some 17), (.load (some 3) (.tmp 1)), some (16, true)⟩
  (.take ⟨(some 19), (.load (some 3) (.tmp 1)), some (16, true)⟩
  (.only ⟨(some 18), (.call 13 [(.tmp 17)]), some (16, true)⟩ true
  (.only ⟨(some 20), (.call 14 [(.tmp 19)]), some (16, true)⟩ true
  (.only ⟨(some 21), (.call 12 [(.tmp 18), (.tmp 20)]), some (16, true)⟩ true
  (.take ⟨(some 22), (.pick (.tmp 16) (.tmp 21) (.con (.bool false))), none⟩
  (.take ⟨(some 23), (.move (.tmp 22)), none⟩
  (.take ⟨(some 24), (.load (some 3) (.tmp 1)), some (23, true)⟩
  (.take ⟨(some 26), (.load (some 3) (.tmp 1)), some (23, true)⟩
  (.only ⟨(some 25), (.call 16 [(.tmp 24)]), some (23, true)⟩ true
  (.only ⟨(some 27), (.call 17 [(.tmp 26)]), some (23, true)⟩ true
  (.only ⟨(some 28), (.call 15 [(.tmp 25), (.tmp 27)]), some (23, true)⟩ true
  (.take ⟨(some 29), (.pick (.tmp 23) (.tmp 28) (.con (.bool false))), none⟩
  (.take ⟨(some 30), (.move (.tmp 29)), none⟩
  (.take ⟨(some 31), (.load (some 3) (.tmp 1)), some (30, true)⟩
  (.take ⟨(some 33), (.load (some 3) (.tmp 1)), some (30, true)⟩
  (.only ⟨(some 32), (.call 18 [(.tmp 31)]), some (30, true)⟩ true
  (.only ⟨(some 34), (.call 19 [(.tmp 33)]), some (30, true)⟩ true
  (.take ⟨(some 35), (.bin .eql (.tmp 32) (.tmp 34)), some (30, true)⟩
  (.take ⟨(some 36), (.pick (.tmp 30) (.tmp 35) (.con (.bool false))), none⟩
  (.take ⟨(some 37), (.move (.tmp 36)), none⟩
  (.take ⟨(some 38), (.load (some 3) (.tmp 1)), some (37, true)⟩
  (.take ⟨(some 40), (.load (some 3) (.tmp 1)), some (37, true)⟩
  (.only ⟨(some 39), (.call 20 [(.tmp 38)]), some (37, true)⟩ true
  (.only ⟨(some 41), (.call 21 [(.tmp 40)]), some (37, true)⟩ true
  (.take ⟨(some 42), (.eqv false .bool (.tmp 39) (.tmp 41)), some (37, true)⟩
  (.take ⟨(some 43), (.pick (.tmp 37) (.tmp 42) (.con (.bool false))), none⟩
  (.take ⟨(some 44), (.move (.tmp 43)), none⟩
  (.only ⟨(some 45), (.call 11 []), some (44, true)⟩ true
  (.take ⟨(some 46), (.pick (.tmp 44) (.tmp 45) (.con (.bool false))), none⟩
  (.take ⟨(some 2), (.move (.tmp 46)), none⟩
  .nil)))))))))))))))))))))))))))))))))))
 .ret))))
theorem fn3 : fnCode Tryd.prog 3 = some (47, code3, [.tmp 2]) := by kernel_rfl

/-- emissary/emissarylaw8.TypSame -/
def code7 : ACode :=
 (.seq (.ops [⟨(some 2), (.box 24 3 (.tmp 0)), none⟩,
  ⟨(some 3), (.box 24 3 (.tmp 1)), none⟩,
  ⟨(some 4), (.move (.con (.bool false))), none⟩])
 (.seq (.seq (.ops [⟨(some 5), (.load (some 3) (.tmp 2)), none⟩,
  ⟨(some 6), (.call 8 [(.tmp 5)]), none⟩,
  ⟨(some 7), (.move (.tmp 6)), none⟩,
  ⟨(some 8), (.load (some 3) (.tmp 3)), some (7, false)⟩,
  ⟨(some 9), (.call 8 [(.tmp 8)]), some (7, false)⟩,
  ⟨(some 10), (.pick (.tmp 7) (.con (.bool true)) (.tmp 9)), none⟩])
 (.cond (.tmp 10)
 (.seq (.ops [⟨(some 4), (.move (.con (.bool true))), none⟩])
 .ret)
 .skip))
 (.seq (.seq (.draw (.take ⟨(some 11), (.load (some 3) (.tmp 2)), none⟩
  (.take ⟨(some 12), (.load (some 3) (.tmp 3)), none⟩
  (.take ⟨(some 14), (.load (some 3) (.tmp 2)), none⟩
  (.take ⟨(some 15), (.load (some 3) (.tmp 3)), none⟩
  (.only ⟨(some 13), (.call 24 [(.tmp 11), (.tmp 12)]), none⟩ true
  (.only ⟨(some 16), (.call 15 [(.tmp 14), (.tmp 15)]), none⟩ true
  (.take ⟨(some 17), (.eqv true .bool (.tmp 13) (.tmp 16)), none⟩
  (.take ⟨(some 18), (.move (.tmp 17)), none⟩
  (.take ⟨(some 19), (.load (some 3) (.tmp 2)), some (18, false)⟩
  (.take ⟨(some 20), (.load (some 3) (.tmp 2)), some (18, false)⟩
  (.only ⟨(some 21), (.call 24 [(.tmp 19), (.tmp 20)]), some (18, false)⟩ true
  (.take ⟨(some 22), (.un .not (.tmp 21)), some (18, false)⟩
  (.take ⟨(some 23), (.pick (.tmp 18) (.con (.bool true)) (.tmp 22)), none⟩
  .nil))))))))))))))
 (.cond (.tmp 23)
 (.seq (.ops [⟨(some 4), (.move (.con (.bool false))), none⟩])
 .ret)
 .skip))
 (.seq (.draw (.take ⟨(some 24), (.load (some 3) (.tmp 2)), none⟩
  (.only ⟨(some 25), (.call 9 [(.tmp 24)]), none⟩ true
  (.take ⟨(some 26), (.un .not (.tmp 25)), none⟩
  (.take ⟨(some 27), (.move (.tmp 26)), none⟩
  (.take ⟨(some 28), (.load (some 3) (.tmp 3)), some (27, false)⟩
  (.only ⟨(some 29), (.call 9 [(.tmp 28)]), some (27, false)⟩ true
  (.take ⟨(some 30), (.un .not (.tmp 29)), some (27, false)⟩
  (.take ⟨(some 31), (.pick (.tmp 27) (.con (.bool true)) (.tmp 30)), none⟩
  (.take ⟨(some 32), (.move (.tmp 31)), none⟩
  (.take ⟨(some 33), (.load (some 3) (.tmp 2)), some (32, false)⟩
  (.take ⟨(some 35), (.load (some 3) (.tmp 3)), some (32, false)⟩
  (.take ⟨(some 38), (.load (some 3) (.tmp 2)), some (32, false)⟩
  (.take ⟨(some 39), (.load (some 3) (.tmp 3)), some (32, false)⟩
  (.only ⟨(some 34), (.call 18 [(.tmp 33)]), some (32, false)⟩ true
  (.only ⟨(some 36), (.call 18 [(.tmp 35)]), some (32, false)⟩ true
  (.take ⟨(some 37), (.bin .eql (.tmp 34) (.tmp 36)), some (32, false)⟩
  (.only ⟨(some 40), (.call 15 [(.tmp 38), (.tmp 39)]), some (32, false)⟩ true
  (.take ⟨(some 41), (.eqv false .bool (.tmp 37) (.tmp 40)), some (32, false)⟩
  (.take ⟨(some 42), (.pick (.tmp 32) (.con (.bool true)) (.tmp 41)), none⟩
  (.take ⟨(some 43), (.move (.tmp 42)), none⟩
  (.only ⟨(some 44), (.call 11 []), some (43, true)⟩ true
  (.take ⟨(some 45), (.pick (.tmp 43) (.tmp 44) (.con (.bool false))), none⟩
  (.take ⟨(some 4), (.move (.tmp 45)), none⟩
  .nil))))))))))))))))))))))))
 .ret))))
theorem fn7 : fnCode Tryd.prog 7 = some (46, code7, [.tmp 4]) := by kernel_rfl

end Go.Proofs.YtcjlgmknclifmaaDoor.Ab
