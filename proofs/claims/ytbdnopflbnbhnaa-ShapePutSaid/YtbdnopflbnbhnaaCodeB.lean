/- The abstract codes of functions of the program, printed by mkcode.py. -/
import Derived.Test.YtbdnopflbnbhnaaAb19
import Derived.Test.YtbdnopflbnbhnaaProg
namespace Go.Proofs.Ytbdnopflbnbhnaa.Ab
open Go
set_option maxRecDepth 100000

/-- emissary/emissarylaw18.ShapePut -/
def code4 : ACode :=
 (.seq (.ops [⟨(some 4), (.move (.con (.bool false))), none⟩])
 (.seq (.seq (.ops [⟨(some 10), (.move (.tmp 0)), none⟩,
  ⟨(some 11), (.len .str (.tmp 10)), none⟩,
  ⟨(some 12), (.bin .gtr (.tmp 11) (.con (.int .i64 100))), none⟩,
  ⟨(some 13), (.move (.tmp 12)), none⟩,
  ⟨(some 14), (.move (.tmp 1)), some (13, false)⟩,
  ⟨(some 15), (.bin .lss (.tmp 14) (.con (.int .i64 0))), some (13, false)⟩,
  ⟨(some 16), (.pick (.tmp 13) (.con (.bool true)) (.tmp 15)), none⟩,
  ⟨(some 17), (.move (.tmp 16)), none⟩,
  ⟨(some 18), (.move (.tmp 1)), some (17, false)⟩,
  ⟨(some 19), (.bin .gtr (.tmp 18) (.con (.int .i64 200))), some (17, false)⟩,
  ⟨(some 20), (.pick (.tmp 17) (.con (.bool true)) (.tmp 19)), none⟩])
 (.cond (.tmp 20)
 (.seq (.ops [⟨(some 4), (.move (.con (.bool true))), none⟩])
 .ret)
 .skip))
 (.seq (.ops [⟨(some 21), (.move (.tmp 1)), none⟩,
  ⟨(some 22), (.call 11 [(.tmp 21)]), none⟩,
  ⟨(some 5), (.move (.tmp 22)), none⟩])
 (.seq (.ops [⟨(some 24), (.move (.tmp 5)), none⟩,
  ⟨(some 25), (.move (.tmp 0)), none⟩,
  ⟨(some 26), (.call 12 [(.tmp 24), (.tmp 25)]), none⟩,
  ⟨(some 23), (.move (.tmp 26)), none⟩,
  ⟨(some 27), (.extract 0 (.tmp 23)), none⟩,
  ⟨(some 28), (.extract 1 (.tmp 23)), none⟩,
  ⟨(some 6), (.move (.tmp 27)), none⟩,
  ⟨(some 7), (.move (.tmp 28)), none⟩])
 (.seq (.seq (.ops [⟨(some 29), (.move (.tmp 7)), none⟩,
  ⟨(some 30), (.move (.tmp 0)), none⟩,
  ⟨(some 31), (.len .str (.tmp 30)), none⟩,
  ⟨(some 32), (.bin .add (.tmp 31) (.con (.int .i64 1))), none⟩,
  ⟨(some 33), (.move (.tmp 1)), none⟩,
  ⟨(some 34), (.bin .leq (.tmp 32) (.tmp 33)), none⟩,
  ⟨(some 35), (.eqv true .bool (.tmp 29) (.tmp 34)), none⟩])
 (.cond (.tmp 35)
 (.seq (.ops [⟨(some 4), (.move (.con (.bool false))), none⟩])
 .ret)
 .skip))
 (.seq (.ops [⟨(some 37), (.move (.tmp 5)), none⟩,
  ⟨(some 38), (.move (.tmp 6)), none⟩,
  ⟨(some 39), (.call 13 [(.tmp 37), (.tmp 38)]), none⟩,
  ⟨(some 36), (.move (.tmp 39)), none⟩,
  ⟨(some 40), (.extract 0 (.tmp 36)), none⟩,
  ⟨(some 41), (.extract 1 (.tmp 36)), none⟩,
  ⟨(some 8), (.move (.tmp 40)), none⟩,
  ⟨(some 9), (.move (.tmp 41)), none⟩])
 (.seq (.ops [⟨(some 42), (.move (.tmp 7)), none⟩,
  ⟨(some 43), (.un .not (.tmp 42)), none⟩,
  ⟨(some 44), (.move (.tmp 43)), none⟩,
  ⟨(some 45), (.move (.tmp 9)), some (44, false)⟩,
  ⟨(some 46), (.move (.tmp 45)), some (44, false)⟩,
  ⟨(some 47), (.move (.tmp 8)), some (46, true)⟩,
  ⟨(some 48), (.move (.tmp 0)), some (46, true)⟩,
  ⟨(some 49), (.bin .eql (.tmp 47) (.tmp 48)), some (46, true)⟩,
  ⟨(some 50), (.pick (.tmp 46) (.tmp 49) (.con (.bool false))), some (44, false)⟩,
  ⟨(some 51), (.move (.tmp 50)), some (44, false)⟩,
  ⟨(some 52), (.move (.tmp 5)), some (51, true)⟩,
  ⟨(some 53), (.call 14 [(.tmp 52)]), some (51, true)⟩,
  ⟨(some 54), (.move (.tmp 0)), some (51, true)⟩,
  ⟨(some 55), (.len .str (.tmp 54)), some (51, true)⟩,
  ⟨(some 56), (.bin .add (.tmp 55) (.con (.int .i64 1))), some (51, true)⟩,
  ⟨(some 57), (.bin .eql (.tmp 53) (.tmp 56)), some (51, true)⟩,
  ⟨(some 58), (.pick (.tmp 51) (.tmp 57) (.con (.bool false))), some (44, false)⟩,
  ⟨(some 59), (.move (.tmp 58)), some (44, false)⟩,
  ⟨(some 60), (.move (.tmp 5)), some (59, true)⟩,
  ⟨(some 61), (.move (.tmp 6)), some (59, true)⟩,
  ⟨(some 62), (.call 15 [(.tmp 60), (.tmp 61)]), some (59, true)⟩,
  ⟨(some 63), (.bin .eql (.tmp 62) (.con (.int .i64 1))), some (59, true)⟩,
  ⟨(some 64), (.pick (.tmp 59) (.tmp 63) (.con (.bool false))), some (44, false)⟩,
  ⟨(some 65), (.pick (.tmp 44) (.con (.bool true)) (.tmp 64)), none⟩,
  ⟨(some 66), (.move (.tmp 65)), none⟩,
  ⟨(some 67), (.call 10 []), some (66, true)⟩,
  ⟨(some 68), (.pick (.tmp 66) (.tmp 67) (.con (.bool false))), none⟩,
  ⟨(some 4), (.move (.tmp 68)), none⟩])
 .ret)))))))
theorem fn4 : fnCode Try.prog 4 = some (69, code4, [.tmp 4]) := by kernel_rfl

/-- emissary/shape.Put -/
def code12 : ACode :=
 (.seq (.ops [⟨(some 4), (.move (.con (.int .i64 0))), none⟩,
  ⟨(some 5), (.move (.con (.bool false))), none⟩])
 (.seq (.ops [⟨(some 8), (.move (.tmp 1)), none⟩,
  ⟨(some 9), (.len .str (.tmp 8)), none⟩,
  ⟨(some 10), (.mkslice 32 1 8 [(.int .i64 0)] (.tmp 9) (.tmp 9)), none⟩,
  ⟨(some 6), (.move (.tmp 10)), none⟩])
 (.seq (.seq (.ops [⟨(some 11), (.move (.tmp 6)), none⟩,
  ⟨(some 12), (.len .slice (.tmp 11)), none⟩,
  ⟨(some 13), (.move (.con (.int .i64 0))), none⟩])
 (.block 0 (.loop (.seq (.ops [⟨(some 14), (.bin .lss (.tmp 13) (.tmp 12)), none⟩])
 (.seq (.cond (.tmp 14)
 .skip
 (.exit 0))
 (.seq (.block 1 (.seq (.ops [⟨(some 15), (.move (.tmp 13)), none⟩,
  ⟨(some 7), (.move (.tmp 15)), none⟩])
 (.ops [⟨(some 16), (.move (.tmp 6)), none⟩,
  ⟨(some 17), (.move (.tmp 7)), none⟩,
  ⟨(some 18), (.move (.tmp 1)), none⟩,
  ⟨(some 19), (.move (.tmp 7)), none⟩,
  ⟨(some 20), (.index (.tmp 18) (.tmp 19)), none⟩,
  ⟨(some 21), (.conv .i64 (.tmp 20)), none⟩,
  ⟨(some 22), (.call 33 [(.tmp 21)]), none⟩,
  ⟨(some 23), (.iaddr 1 (.tmp 16) (.tmp 17)), none⟩,
  ⟨none, (.store 1 (.tmp 23) (.tmp 22)), none⟩])))
 (.ops [⟨(some 24), (.bin .add (.tmp 13) (.con (.int .i64 1))), none⟩,
  ⟨(some 13), (.move (.tmp 24)), none⟩])))))))
 (.seq (.ops [⟨(some 25), (.move (.tmp 0)), none⟩,
  ⟨(some 26), (.move (.tmp 6)), none⟩,
  ⟨(some 27), (.call 34 [(.tmp 25), (.con (.int .i64 1)), (.tmp 26)]), none⟩,
  ⟨(some 28), (.extract 0 (.tmp 27)), none⟩,
  ⟨(some 29), (.extract 1 (.tmp 27)), none⟩,
  ⟨(some 4), (.move (.tmp 28)), none⟩,
  ⟨(some 5), (.move (.tmp 29)), none⟩])
 .ret))))
theorem fn12 : fnCode Try.prog 12 = some (30, code12, [.tmp 4, .tmp 5]) := by kernel_rfl

/-- emissary/shape.Text -/
def code13 : ACode :=
 (.seq (.ops [⟨(some 4), (.move (.con (.str ⟨#[]⟩))), none⟩,
  ⟨(some 5), (.move (.con (.bool false))), none⟩])
 (.seq (.seq (.ops [⟨(some 11), (.move (.tmp 0)), none⟩,
  ⟨(some 12), (.move (.tmp 1)), none⟩,
  ⟨(some 13), (.call 15 [(.tmp 11), (.tmp 12)]), none⟩,
  ⟨(some 14), (.bin .neq (.tmp 13) (.con (.int .i64 1))), none⟩])
 (.cond (.tmp 14)
 (.seq (.ops [⟨(some 4), (.move (.con (.str ⟨#[]⟩))), none⟩,
  ⟨(some 5), (.move (.con (.bool false))), none⟩])
 .ret)
 .skip))
 (.seq (.ops [⟨(some 15), (.move (.tmp 0)), none⟩,
  ⟨(some 16), (.move (.tmp 1)), none⟩,
  ⟨(some 17), (.call 25 [(.tmp 15), (.tmp 16)]), none⟩,
  ⟨(some 18), (.mkslice 5 1 1 [(.int .u8 0)] (.tmp 17) (.tmp 17)), none⟩,
  ⟨(some 6), (.move (.tmp 18)), none⟩])
 (.seq (.seq (.ops [⟨(some 19), (.move (.tmp 6)), none⟩,
  ⟨(some 20), (.len .slice (.tmp 19)), none⟩,
  ⟨(some 21), (.move (.con (.int .i64 0))), none⟩])
 (.block 0 (.loop (.seq (.ops [⟨(some 22), (.bin .lss (.tmp 21) (.tmp 20)), none⟩])
 (.seq (.cond (.tmp 22)
 .skip
 (.exit 0))
 (.seq (.block 1 (.seq (.ops [⟨(some 23), (.move (.tmp 21)), none⟩,
  ⟨(some 7), (.move (.tmp 23)), none⟩])
 (.seq (.ops [⟨(some 25), (.move (.tmp 0)), none⟩,
  ⟨(some 26), (.move (.tmp 1)), none⟩,
  ⟨(some 27), (.move (.tmp 7)), none⟩,
  ⟨(some 28), (.call 27 [(.tmp 25), (.tmp 26), (.tmp 27)]), none⟩,
  ⟨(some 24), (.move (.tmp 28)), none⟩,
  ⟨(some 29), (.extract 0 (.tmp 24)), none⟩,
  ⟨(some 30), (.extract 1 (.tmp 24)), none⟩,
  ⟨(some 8), (.move (.tmp 29)), none⟩,
  ⟨(some 9), (.move (.tmp 30)), none⟩])
 (.seq (.seq (.ops [⟨(some 31), (.move (.tmp 8)), none⟩,
  ⟨(some 32), (.call 35 [(.tmp 31)]), none⟩,
  ⟨(some 10), (.move (.tmp 32)), none⟩])
 (.seq (.ops [⟨(some 33), (.move (.tmp 8)), none⟩,
  ⟨(some 34), (.call 36 [(.tmp 33)]), none⟩,
  ⟨(some 35), (.un .not (.tmp 34)), none⟩,
  ⟨(some 36), (.move (.tmp 35)), none⟩,
  ⟨(some 37), (.move (.tmp 10)), some (36, false)⟩,
  ⟨(some 38), (.bin .lss (.tmp 37) (.con (.int .i64 0))), some (36, false)⟩,
  ⟨(some 39), (.pick (.tmp 36) (.con (.bool true)) (.tmp 38)), none⟩,
  ⟨(some 40), (.move (.tmp 39)), none⟩,
  ⟨(some 41), (.move (.tmp 10)), some (40, false)⟩,
  ⟨(some 42), (.bin .geq (.tmp 41) (.con (.int .i64 256))), some (40, false)⟩,
  ⟨(some 43), (.pick (.tmp 40) (.con (.bool true)) (.tmp 42)), none⟩])
 (.cond (.tmp 43)
 (.seq (.ops [⟨(some 4), (.move (.con (.str ⟨#[]⟩))), none⟩,
  ⟨(some 5), (.move (.con (.bool false))), none⟩])
 .ret)
 .skip)))
 (.ops [⟨(some 44), (.move (.tmp 6)), none⟩,
  ⟨(some 45), (.move (.tmp 7)), none⟩,
  ⟨(some 46), (.move (.tmp 8)), none⟩,
  ⟨(some 47), (.call 35 [(.tmp 46)]), none⟩,
  ⟨(some 48), (.conv .u8 (.tmp 47)), none⟩,
  ⟨(some 49), (.iaddr 1 (.tmp 44) (.tmp 45)), none⟩,
  ⟨none, (.store 1 (.tmp 49) (.tmp 48)), none⟩])))))
 (.ops [⟨(some 50), (.bin .add (.tmp 21) (.con (.int .i64 1))), none⟩,
  ⟨(some 21), (.move (.tmp 50)), none⟩])))))))
 (.seq (.ops [⟨(some 51), (.move (.tmp 6)), none⟩,
  ⟨(some 52), (.b2s (.tmp 51)), none⟩,
  ⟨(some 4), (.move (.tmp 52)), none⟩,
  ⟨(some 5), (.move (.con (.bool true))), none⟩])
 .ret)))))
theorem fn13 : fnCode Try.prog 13 = some (53, code13, [.tmp 4, .tmp 5]) := by kernel_rfl

/-- (*emissary/heap.Heap).Used -/
def code14 : ACode :=
 (.seq (.ops [⟨(some 2), (.move (.con (.int .i64 0))), none⟩])
 (.seq (.seq (.ops [⟨(some 3), (.move (.tmp 0)), none⟩,
  ⟨(some 4), (.eqv false .ptr (.tmp 3) (.con .nilp)), none⟩])
 (.cond (.tmp 4)
 (.seq (.ops [⟨(some 2), (.move (.con (.int .i64 0))), none⟩])
 .ret)
 .skip))
 (.seq (.ops [⟨(some 5), (.move (.tmp 0)), none⟩,
  ⟨(some 6), (.nilc (.tmp 5)), none⟩,
  ⟨(some 7), (.faddr 1 none (.tmp 6)), none⟩,
  ⟨(some 8), (.load none (.tmp 7)), none⟩,
  ⟨(some 2), (.move (.tmp 8)), none⟩])
 .ret)))
theorem fn14 : fnCode Try.prog 14 = some (9, code14, [.tmp 2]) := by kernel_rfl

/-- (*emissary/heap.Heap).Tag -/
def code15 : ACode :=
 (.seq (.ops [⟨(some 4), (.move (.con (.int .i64 0))), none⟩])
 (.seq (.seq (.ops [⟨(some 6), (.move (.tmp 0)), none⟩,
  ⟨(some 7), (.move (.tmp 1)), none⟩,
  ⟨(some 8), (.call 37 [(.tmp 6), (.tmp 7)]), none⟩,
  ⟨(some 5), (.move (.tmp 8)), none⟩])
 (.seq (.ops [⟨(some 9), (.move (.tmp 5)), none⟩,
  ⟨(some 10), (.eqv true .ptr (.tmp 9) (.con .nilp)), none⟩])
 (.cond (.tmp 10)
 (.seq (.ops [⟨(some 11), (.move (.tmp 5)), none⟩,
  ⟨(some 12), (.nilc (.tmp 11)), none⟩,
  ⟨(some 13), (.faddr 0 none (.tmp 12)), none⟩,
  ⟨(some 14), (.load none (.tmp 13)), none⟩,
  ⟨(some 4), (.move (.tmp 14)), none⟩])
 .ret)
 .skip)))
 (.seq (.ops [⟨(some 4), (.move (.con (.int .i64 0))), none⟩])
 .ret)))
theorem fn15 : fnCode Try.prog 15 = some (15, code15, [.tmp 4]) := by kernel_rfl

/-- (*emissary/heap.Heap).Len -/
def code25 : ACode :=
 (.seq (.ops [⟨(some 4), (.move (.con (.int .i64 0))), none⟩])
 (.seq (.seq (.ops [⟨(some 6), (.move (.tmp 0)), none⟩,
  ⟨(some 7), (.move (.tmp 1)), none⟩,
  ⟨(some 8), (.call 37 [(.tmp 6), (.tmp 7)]), none⟩,
  ⟨(some 5), (.move (.tmp 8)), none⟩])
 (.seq (.ops [⟨(some 9), (.move (.tmp 5)), none⟩,
  ⟨(some 10), (.eqv true .ptr (.tmp 9) (.con .nilp)), none⟩])
 (.cond (.tmp 10)
 (.seq (.ops [⟨(some 11), (.move (.tmp 5)), none⟩,
  ⟨(some 12), (.nilc (.tmp 11)), none⟩,
  ⟨(some 13), (.faddr 1 none (.tmp 12)), none⟩,
  ⟨(some 14), (.load none (.tmp 13)), none⟩,
  ⟨(some 15), (.len .slice (.tmp 14)), none⟩,
  ⟨(some 4), (.move (.tmp 15)), none⟩])
 .ret)
 .skip)))
 (.seq (.ops [⟨(some 4), (.move (.con (.int .i64 0))), none⟩])
 .ret)))
theorem fn25 : fnCode Try.prog 25 = some (16, code25, [.tmp 4]) := by kernel_rfl

/-- (*emissary/heap.Heap).Field -/
def code27 : ACode :=
 (.seq (.ops [⟨(some 6), (.move (.con (.int .i64 0))), none⟩,
  ⟨(some 7), (.move (.con (.bool false))), none⟩])
 (.seq (.seq (.ops [⟨(some 8), (.move (.tmp 2)), none⟩,
  ⟨(some 9), (.bin .lss (.tmp 8) (.con (.int .i64 0))), none⟩,
  ⟨(some 10), (.move (.tmp 9)), none⟩,
  ⟨(some 11), (.move (.tmp 2)), some (10, false)⟩,
  ⟨(some 12), (.move (.tmp 0)), some (10, false)⟩,
  ⟨(some 13), (.move (.tmp 1)), some (10, false)⟩,
  ⟨(some 14), (.call 25 [(.tmp 12), (.tmp 13)]), some (10, false)⟩,
  ⟨(some 15), (.bin .geq (.tmp 11) (.tmp 14)), some (10, false)⟩,
  ⟨(some 16), (.pick (.tmp 10) (.con (.bool true)) (.tmp 15)), none⟩])
 (.cond (.tmp 16)
 (.seq (.ops [⟨(some 6), (.move (.con (.int .i64 0))), none⟩,
  ⟨(some 7), (.move (.con (.bool false))), none⟩])
 .ret)
 .skip))
 (.seq (.ops [⟨(some 17), (.move (.tmp 0)), none⟩,
  ⟨(some 18), (.move (.tmp 1)), none⟩,
  ⟨(some 19), (.call 37 [(.tmp 17), (.tmp 18)]), none⟩,
  ⟨(some 20), (.nilc (.tmp 19)), none⟩,
  ⟨(some 21), (.faddr 1 none (.tmp 20)), none⟩,
  ⟨(some 22), (.load none (.tmp 21)), none⟩,
  ⟨(some 23), (.move (.tmp 2)), none⟩,
  ⟨(some 24), (.iaddr 1 (.tmp 22) (.tmp 23)), none⟩,
  ⟨(some 25), (.load none (.tmp 24)), none⟩,
  ⟨(some 6), (.move (.tmp 25)), none⟩,
  ⟨(some 7), (.move (.con (.bool true))), none⟩])
 .ret)))
theorem fn27 : fnCode Try.prog 27 = some (26, code27, [.tmp 6, .tmp 7]) := by kernel_rfl

/-- (*emissary/heap.Heap).Alloc -/
def code34 : ACode :=
 (.seq (.ops [⟨(some 6), (.move (.con (.int .i64 0))), none⟩,
  ⟨(some 7), (.move (.con (.bool false))), none⟩])
 (.seq (.seq (.draw [.take ⟨(some 9), (.move (.tmp 0)), none⟩,
  .take ⟨(some 10), (.eqv false .ptr (.tmp 9) (.con .nilp)), none⟩,
  .take ⟨(some 11), (.move (.tmp 10)), none⟩,
  .take ⟨(some 12), (.move (.tmp 1)), some (11, false)⟩,
  .take ⟨(some 13), (.bin .lss (.tmp 12) (.con (.int .i64 1))), some (11, false)⟩,
  .take ⟨(some 14), (.pick (.tmp 11) (.con (.bool true)) (.tmp 13)), none⟩,
  .take ⟨(some 15), (.move (.tmp 14)), none⟩,
  .take ⟨(some 16), (.move (.tmp 1)), some (15, false)⟩,
  .take ⟨(some 17), (.bin .gtr (.tmp 16) (.con (.int .i64 8))), some (15, false)⟩,
  .take ⟨(some 18), (.pick (.tmp 15) (.con (.bool true)) (.tmp 17)), none⟩,
  .take ⟨(some 19), (.move (.tmp 18)), none⟩,
  .take ⟨(some 20), (.move (.tmp 0)), some (19, false)⟩,
  .take ⟨(some 21), (.nilc (.tmp 20)), some (19, false)⟩,
  .take ⟨(some 22), (.faddr 0 none (.tmp 21)), some (19, false)⟩,
  .take ⟨(some 23), (.load none (.tmp 22)), some (19, false)⟩,
  .take ⟨(some 24), (.move (.tmp 0)), some (19, false)⟩,
  .take ⟨(some 25), (.nilc (.tmp 24)), some (19, false)⟩,
  .take ⟨(some 26), (.faddr 1 none (.tmp 25)), some (19, false)⟩,
  .take ⟨(some 27), (.load none (.tmp 26)), some (19, false)⟩,
  .take ⟨(some 28), (.bin .sub (.tmp 23) (.tmp 27)), some (19, false)⟩,
  .take ⟨(some 29), (.move (.tmp 2)), some (19, false)⟩,
  .take ⟨(some 30), (.len .slice (.tmp 29)), some (19, false)⟩,
  .take ⟨(some 31), (.bin .add (.con (.int .i64 1)) (.tmp 30)), some (19, false)⟩,
  .take ⟨(some 32), (.bin .lss (.tmp 28) (.tmp 31)), some (19, false)⟩,
  .take ⟨(some 33), (.pick (.tmp 19) (.con (.bool true)) (.tmp 32)), none⟩])
 (.cond (.tmp 33)
 (.seq (.ops [⟨(some 6), (.move (.con (.int .i64 0))), none⟩,
  ⟨(some 7), (.move (.con (.bool false))), none⟩])
 .ret)
 .skip))
 (.seq (.ops [⟨(some 34), (.move (.tmp 0)), none⟩,
  ⟨(some 35), (.nilc (.tmp 34)), none⟩,
  ⟨(some 36), (.faddr 1 none (.tmp 35)), none⟩,
  ⟨(some 37), (.load none (.tmp 36)), none⟩,
  ⟨(some 38), (.bin .mul (.con (.int .i64 2)) (.tmp 37)), none⟩,
  ⟨(some 8), (.move (.tmp 38)), none⟩])
 (.seq (.draw [.take ⟨(some 39), (.move (.tmp 0)), none⟩,
  .take ⟨(some 40), (.nilc (.tmp 39)), none⟩,
  .take ⟨(some 41), (.faddr 2 none (.tmp 40)), none⟩,
  .take ⟨(some 42), (.load none (.tmp 41)), none⟩,
  .take ⟨(some 43), (.move (.tmp 8)), none⟩,
  .take ⟨(some 44), (.move (.tmp 1)), none⟩,
  .take ⟨(some 45), (.move (.tmp 2)), none⟩,
  .only ⟨(some 46), (.call 53 [(.tmp 45)]), none⟩ true,
  .take ⟨(some 47), (.build [(.int .i64 0), .nils] [(0, 1, (.tmp 44)), (1, 1, (.tmp 46))]), none⟩,
  .only ⟨(some 48), (.box 76 2 (.tmp 47)), none⟩ false,
  .only ⟨none, (.mapupd false (.tmp 42) (.tmp 43) (.tmp 48)), none⟩ false])
 (.seq (.ops [⟨(some 49), (.move (.tmp 0)), none⟩,
  ⟨(some 50), (.nilc (.tmp 49)), none⟩,
  ⟨(some 51), (.faddr 1 none (.tmp 50)), none⟩,
  ⟨(some 52), (.load none (.tmp 51)), none⟩,
  ⟨(some 53), (.move (.tmp 2)), none⟩,
  ⟨(some 54), (.len .slice (.tmp 53)), none⟩,
  ⟨(some 55), (.bin .add (.con (.int .i64 1)) (.tmp 54)), none⟩,
  ⟨(some 56), (.bin .add (.tmp 52) (.tmp 55)), none⟩,
  ⟨(some 57), (.nilc (.tmp 49)), none⟩,
  ⟨(some 58), (.faddr 1 none (.tmp 57)), none⟩,
  ⟨none, (.store 1 (.tmp 58) (.tmp 56)), none⟩])
 (.seq (.ops [⟨(some 59), (.move (.tmp 8)), none⟩,
  ⟨(some 6), (.move (.tmp 59)), none⟩,
  ⟨(some 7), (.move (.con (.bool true))), none⟩])
 .ret))))))
theorem fn34 : fnCode Try.prog 34 = some (60, code34, [.tmp 6, .tmp 7]) := by kernel_rfl

/-- (*emissary/heap.Heap).at -/
def code37 : ACode :=
 (.seq (.ops [⟨(some 4), (.move (.con .nilp)), none⟩])
 (.seq (.seq (.ops [⟨(some 5), (.move (.tmp 0)), none⟩,
  ⟨(some 6), (.eqv false .ptr (.tmp 5) (.con .nilp)), none⟩])
 (.cond (.tmp 6)
 (.seq (.ops [⟨(some 4), (.move (.con .nilp)), none⟩])
 .ret)
 .skip))
 (.seq (.ops [⟨(some 7), (.move (.tmp 0)), none⟩,
  ⟨(some 8), (.nilc (.tmp 7)), none⟩,
  ⟨(some 9), (.faddr 2 none (.tmp 8)), none⟩,
  ⟨(some 10), (.load none (.tmp 9)), none⟩,
  ⟨(some 11), (.move (.tmp 1)), none⟩,
  ⟨(some 12), (.lookup false false .nilp (.tmp 10) (.tmp 11)), none⟩,
  ⟨(some 4), (.move (.tmp 12)), none⟩])
 .ret)))
theorem fn37 : fnCode Try.prog 37 = some (13, code37, [.tmp 4]) := by kernel_rfl

/-- (*emissary/heap.Heap).Size -/
def code39 : ACode :=
 (.seq (.ops [⟨(some 2), (.move (.con (.int .i64 0))), none⟩])
 (.seq (.seq (.ops [⟨(some 3), (.move (.tmp 0)), none⟩,
  ⟨(some 4), (.eqv false .ptr (.tmp 3) (.con .nilp)), none⟩])
 (.cond (.tmp 4)
 (.seq (.ops [⟨(some 2), (.move (.con (.int .i64 0))), none⟩])
 .ret)
 .skip))
 (.seq (.ops [⟨(some 5), (.move (.tmp 0)), none⟩,
  ⟨(some 6), (.nilc (.tmp 5)), none⟩,
  ⟨(some 7), (.faddr 0 none (.tmp 6)), none⟩,
  ⟨(some 8), (.load none (.tmp 7)), none⟩,
  ⟨(some 2), (.move (.tmp 8)), none⟩])
 .ret)))
theorem fn39 : fnCode Try.prog 39 = some (9, code39, [.tmp 2]) := by kernel_rfl

/-- (*emissary/heap.Heap).Set -/
def code43 : ACode :=
 (.seq (.ops [⟨(some 8), (.move (.con (.bool false))), none⟩])
 (.seq (.seq (.ops [⟨(some 9), (.move (.tmp 2)), none⟩,
  ⟨(some 10), (.bin .lss (.tmp 9) (.con (.int .i64 0))), none⟩,
  ⟨(some 11), (.move (.tmp 10)), none⟩,
  ⟨(some 12), (.move (.tmp 2)), some (11, false)⟩,
  ⟨(some 13), (.move (.tmp 0)), some (11, false)⟩,
  ⟨(some 14), (.move (.tmp 1)), some (11, false)⟩,
  ⟨(some 15), (.call 25 [(.tmp 13), (.tmp 14)]), some (11, false)⟩,
  ⟨(some 16), (.bin .geq (.tmp 12) (.tmp 15)), some (11, false)⟩,
  ⟨(some 17), (.pick (.tmp 11) (.con (.bool true)) (.tmp 16)), none⟩])
 (.cond (.tmp 17)
 (.seq (.ops [⟨(some 8), (.move (.con (.bool false))), none⟩])
 .ret)
 .skip))
 (.seq (.ops [⟨(some 18), (.move (.tmp 0)), none⟩,
  ⟨(some 19), (.move (.tmp 1)), none⟩,
  ⟨(some 20), (.call 37 [(.tmp 18), (.tmp 19)]), none⟩,
  ⟨(some 21), (.nilc (.tmp 20)), none⟩,
  ⟨(some 22), (.faddr 1 none (.tmp 21)), none⟩,
  ⟨(some 23), (.load none (.tmp 22)), none⟩,
  ⟨(some 24), (.move (.tmp 2)), none⟩,
  ⟨(some 25), (.move (.tmp 3)), none⟩,
  ⟨(some 26), (.iaddr 1 (.tmp 23) (.tmp 24)), none⟩,
  ⟨none, (.store 1 (.tmp 26) (.tmp 25)), none⟩])
 (.seq (.ops [⟨(some 8), (.move (.con (.bool true))), none⟩])
 .ret))))
theorem fn43 : fnCode Try.prog 43 = some (27, code43, [.tmp 8]) := by kernel_rfl

/-- slices.Clone[[]emissary/api.W,emissary/api.W] -/
def code53 : ACode :=
 (.seq (.ops [⟨(some 2), (.move (.con .nils)), none⟩])
 (.seq (.seq (.ops [⟨(some 3), (.move (.tmp 0)), none⟩,
  ⟨(some 4), (.eqv false .slice (.tmp 3) (.con .nils)), none⟩])
 (.cond (.tmp 4)
 (.seq (.ops [⟨(some 2), (.move (.con .nils)), none⟩])
 .ret)
 .skip))
 (.seq (.ops [⟨(some 5), (.bslice 32 1 0 [] []), none⟩,
  ⟨(some 6), (.move (.tmp 0)), none⟩,
  ⟨(some 7), (.append 32 1 8 (.tmp 5) (.tmp 6)), none⟩,
  ⟨(some 2), (.move (.tmp 7)), none⟩])
 .ret)))
theorem fn53 : fnCode Try.prog 53 = some (8, code53, [.tmp 2]) := by kernel_rfl

end Go.Proofs.Ytbdnopflbnbhnaa.Ab
