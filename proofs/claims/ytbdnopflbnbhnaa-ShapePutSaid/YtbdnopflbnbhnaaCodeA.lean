/- The abstract codes of functions of the program, printed by mkcode.py. -/
import Derived.Test.YtbdnopflbnbhnaaAb16
import Derived.Test.YtbdnopflbnbhnaaProg
namespace Go.Proofs.Ytbdnopflbnbhnaa.Ab
open Go
set_option maxRecDepth 100000

/-- emissary/emissarylaw18.ShapeSame -/
def code3 : ACode :=
 (.seq (.ops [⟨(some 2), (.box 26 3 (.tmp 0)), none⟩,
  ⟨(some 3), (.box 26 3 (.tmp 1)), none⟩,
  ⟨(some 4), (.move (.con (.bool false))), none⟩])
 (.seq (.seq (.ops [⟨(some 5), (.load (some 3) (.tmp 2)), none⟩,
  ⟨(some 6), (.call 7 [(.tmp 5)]), none⟩,
  ⟨(some 7), (.move (.tmp 6)), none⟩,
  ⟨(some 8), (.load (some 3) (.tmp 3)), some (7, false)⟩,
  ⟨(some 9), (.call 7 [(.tmp 8)]), some (7, false)⟩,
  ⟨(some 10), (.pick (.tmp 7) (.con (.bool true)) (.tmp 9)), none⟩])
 (.cond (.tmp 10)
 (.seq (.ops [⟨(some 4), (.move (.con (.bool true))), none⟩])
 .ret)
 .skip))
 (.seq (.draw [.take ⟨(some 11), (.load (some 3) (.tmp 2)), none⟩,
  .take ⟨(some 12), (.load (some 3) (.tmp 3)), none⟩,
  .take ⟨(some 14), (.load (some 3) (.tmp 2)), none⟩,
  .take ⟨(some 15), (.load (some 3) (.tmp 3)), none⟩,
  .only ⟨(some 13), (.call 8 [(.tmp 11), (.tmp 12)]), none⟩ true,
  .only ⟨(some 16), (.call 9 [(.tmp 14), (.tmp 15)]), none⟩ true,
  .take ⟨(some 17), (.eqv false .bool (.tmp 13) (.tmp 16)), none⟩,
  .take ⟨(some 18), (.move (.tmp 17)), none⟩,
  .take ⟨(some 19), (.load (some 3) (.tmp 2)), some (18, true)⟩,
  .take ⟨(some 20), (.load (some 3) (.tmp 2)), some (18, true)⟩,
  .only ⟨(some 21), (.call 8 [(.tmp 19), (.tmp 20)]), some (18, true)⟩ true,
  .take ⟨(some 22), (.pick (.tmp 18) (.tmp 21) (.con (.bool false))), none⟩,
  .take ⟨(some 23), (.move (.tmp 22)), none⟩,
  .only ⟨(some 24), (.call 10 []), some (23, true)⟩ true,
  .take ⟨(some 25), (.pick (.tmp 23) (.tmp 24) (.con (.bool false))), none⟩,
  .take ⟨(some 4), (.move (.tmp 25)), none⟩])
 .ret)))
theorem fn3 : fnCode Try.prog 3 = some (26, code3, [.tmp 4]) := by kernel_rfl

/-- emissary/emissarylaw18.long -/
def code7 : ACode :=
 (.seq (.ops [⟨(some 1), (.box 26 3 (.tmp 0)), none⟩,
  ⟨(some 2), (.move (.con (.bool false))), none⟩])
 (.seq (.seq (.ops [⟨(some 3), (.move (.con (.int .i64 0))), none⟩])
 (.block 0 (.loop (.seq (.seq (.ops [⟨(some 4), (.move (.tmp 3)), none⟩,
  ⟨(some 5), (.faddr 2 none (.tmp 1)), none⟩,
  ⟨(some 6), (.load none (.tmp 5)), none⟩,
  ⟨(some 7), (.len .slice (.tmp 6)), none⟩,
  ⟨(some 8), (.bin .lss (.tmp 4) (.tmp 7)), none⟩,
  ⟨(some 9), (.move (.tmp 8)), none⟩,
  ⟨(some 10), (.move (.tmp 3)), some (9, true)⟩,
  ⟨(some 11), (.bin .lss (.tmp 10) (.con (.int .i64 100))), some (9, true)⟩,
  ⟨(some 12), (.pick (.tmp 9) (.tmp 11) (.con (.bool false))), none⟩])
 (.cond (.tmp 12)
 .skip
 (.exit 0)))
 (.seq (.block 1 (.seq (.ops [⟨(some 15), (.faddr 2 none (.tmp 1)), none⟩,
  ⟨(some 16), (.load none (.tmp 15)), none⟩,
  ⟨(some 17), (.move (.tmp 3)), none⟩,
  ⟨(some 18), (.iaddr 3 (.tmp 16) (.tmp 17)), none⟩,
  ⟨(some 19), (.faddr 1 none (.tmp 18)), none⟩,
  ⟨(some 20), (.load none (.tmp 19)), none⟩,
  ⟨(some 21), (.len .str (.tmp 20)), none⟩,
  ⟨(some 22), (.bin .gtr (.tmp 21) (.con (.int .i64 100))), none⟩,
  ⟨(some 23), (.move (.tmp 22)), none⟩,
  ⟨(some 24), (.faddr 2 none (.tmp 1)), some (23, false)⟩,
  ⟨(some 25), (.load none (.tmp 24)), some (23, false)⟩,
  ⟨(some 26), (.move (.tmp 3)), some (23, false)⟩,
  ⟨(some 27), (.iaddr 3 (.tmp 25) (.tmp 26)), some (23, false)⟩,
  ⟨(some 28), (.faddr 2 none (.tmp 27)), some (23, false)⟩,
  ⟨(some 29), (.load none (.tmp 28)), some (23, false)⟩,
  ⟨(some 30), (.len .slice (.tmp 29)), some (23, false)⟩,
  ⟨(some 31), (.bin .gtr (.tmp 30) (.con (.int .i64 10))), some (23, false)⟩,
  ⟨(some 32), (.pick (.tmp 23) (.con (.bool true)) (.tmp 31)), none⟩])
 (.cond (.tmp 32)
 (.seq (.ops [⟨(some 2), (.move (.con (.bool true))), none⟩])
 .ret)
 .skip)))
 (.ops [⟨(some 13), (.move (.tmp 3)), none⟩,
  ⟨(some 14), (.bin .add (.tmp 13) (.con (.int .i64 1))), none⟩,
  ⟨(some 3), (.move (.tmp 14)), none⟩]))))))
 (.seq (.ops [⟨(some 33), (.faddr 2 none (.tmp 1)), none⟩,
  ⟨(some 34), (.load none (.tmp 33)), none⟩,
  ⟨(some 35), (.len .slice (.tmp 34)), none⟩,
  ⟨(some 36), (.bin .gtr (.tmp 35) (.con (.int .i64 80))), none⟩,
  ⟨(some 2), (.move (.tmp 36)), none⟩])
 .ret)))
theorem fn7 : fnCode Try.prog 7 = some (37, code7, [.tmp 2]) := by kernel_rfl

/-- emissary/shape.Same -/
def code8 : ACode :=
 (.seq (.ops [⟨(some 2), (.box 26 3 (.tmp 0)), none⟩,
  ⟨(some 3), (.box 26 3 (.tmp 1)), none⟩,
  ⟨(some 4), (.move (.con (.bool false))), none⟩])
 (.seq (.ops [⟨(some 5), (.faddr 0 (some 2) (.tmp 2)), none⟩,
  ⟨(some 6), (.load (some 2) (.tmp 5)), none⟩,
  ⟨(some 7), (.faddr 0 (some 2) (.tmp 3)), none⟩,
  ⟨(some 8), (.load (some 2) (.tmp 7)), none⟩,
  ⟨(some 9), (.eqs false [.bool, .int] (.tmp 6) (.tmp 8)), none⟩,
  ⟨(some 10), (.move (.tmp 9)), none⟩,
  ⟨(some 11), (.faddr 2 none (.tmp 2)), some (10, true)⟩,
  ⟨(some 12), (.load none (.tmp 11)), some (10, true)⟩,
  ⟨(some 13), (.faddr 2 none (.tmp 3)), some (10, true)⟩,
  ⟨(some 14), (.load none (.tmp 13)), some (10, true)⟩,
  ⟨(some 15), (.call 29 [(.tmp 12), (.tmp 14), (.con (.clo 30 []))]), some (10, true)⟩,
  ⟨(some 16), (.pick (.tmp 10) (.tmp 15) (.con (.bool false))), none⟩,
  ⟨(some 4), (.move (.tmp 16)), none⟩])
 .ret))
theorem fn8 : fnCode Try.prog 8 = some (17, code8, [.tmp 4]) := by kernel_rfl

/-- emissary/emissaryref18.Same -/
def code9 : ACode :=
 (.seq (.ops [⟨(some 2), (.box 26 3 (.tmp 0)), none⟩,
  ⟨(some 3), (.box 26 3 (.tmp 1)), none⟩,
  ⟨(some 4), (.move (.con (.bool false))), none⟩])
 (.seq (.seq (.ops [⟨(some 9), (.faddr 0 (some 2) (.tmp 2)), none⟩,
  ⟨(some 10), (.load (some 2) (.tmp 9)), none⟩,
  ⟨(some 11), (.faddr 0 (some 2) (.tmp 3)), none⟩,
  ⟨(some 12), (.load (some 2) (.tmp 11)), none⟩,
  ⟨(some 13), (.call 32 [(.tmp 10), (.tmp 12)]), none⟩,
  ⟨(some 14), (.un .not (.tmp 13)), none⟩,
  ⟨(some 15), (.move (.tmp 14)), none⟩,
  ⟨(some 16), (.faddr 2 none (.tmp 2)), some (15, false)⟩,
  ⟨(some 17), (.load none (.tmp 16)), some (15, false)⟩,
  ⟨(some 18), (.len .slice (.tmp 17)), some (15, false)⟩,
  ⟨(some 19), (.faddr 2 none (.tmp 3)), some (15, false)⟩,
  ⟨(some 20), (.load none (.tmp 19)), some (15, false)⟩,
  ⟨(some 21), (.len .slice (.tmp 20)), some (15, false)⟩,
  ⟨(some 22), (.bin .neq (.tmp 18) (.tmp 21)), some (15, false)⟩,
  ⟨(some 23), (.pick (.tmp 15) (.con (.bool true)) (.tmp 22)), none⟩])
 (.cond (.tmp 23)
 (.seq (.ops [⟨(some 4), (.move (.con (.bool false))), none⟩])
 .ret)
 .skip))
 (.seq (.seq (.ops [⟨(some 5), (.move (.con (.int .i64 0))), none⟩])
 (.block 0 (.loop (.seq (.seq (.ops [⟨(some 24), (.move (.tmp 5)), none⟩,
  ⟨(some 25), (.faddr 2 none (.tmp 2)), none⟩,
  ⟨(some 26), (.load none (.tmp 25)), none⟩,
  ⟨(some 27), (.len .slice (.tmp 26)), none⟩,
  ⟨(some 28), (.bin .lss (.tmp 24) (.tmp 27)), none⟩])
 (.cond (.tmp 28)
 .skip
 (.exit 0)))
 (.seq (.block 1 (.seq (.draw [.take ⟨(some 31), (.faddr 2 none (.tmp 2)), none⟩,
  .take ⟨(some 32), (.load none (.tmp 31)), none⟩,
  .take ⟨(some 33), (.move (.tmp 5)), none⟩,
  .take ⟨(some 34), (.iaddr 3 (.tmp 32) (.tmp 33)), none⟩,
  .take ⟨(some 35), (.load (some 3) (.tmp 34)), none⟩,
  .take ⟨(some 36), (.faddr 2 none (.tmp 3)), none⟩,
  .take ⟨(some 37), (.load none (.tmp 36)), none⟩,
  .take ⟨(some 38), (.move (.tmp 5)), none⟩,
  .take ⟨(some 39), (.iaddr 3 (.tmp 37) (.tmp 38)), none⟩,
  .take ⟨(some 40), (.load (some 3) (.tmp 39)), none⟩,
  .both ⟨(some 6), (.alloc 60 [(.int .i64 0), (.str ⟨#[]⟩), .nils]), none⟩ ⟨(some 7), (.alloc 60 [(.int .i64 0), (.str ⟨#[]⟩), .nils]), none⟩ false,
  .only ⟨none, (.store 3 (.tmp 6) (.tmp 35)), none⟩ true,
  .only ⟨none, (.store 3 (.tmp 7) (.tmp 40)), none⟩ false])
 (.seq (.seq (.ops [⟨(some 41), (.faddr 0 none (.tmp 6)), none⟩,
  ⟨(some 42), (.load none (.tmp 41)), none⟩,
  ⟨(some 43), (.faddr 0 none (.tmp 7)), none⟩,
  ⟨(some 44), (.load none (.tmp 43)), none⟩,
  ⟨(some 45), (.bin .neq (.tmp 42) (.tmp 44)), none⟩,
  ⟨(some 46), (.move (.tmp 45)), none⟩,
  ⟨(some 47), (.faddr 1 none (.tmp 6)), some (46, false)⟩,
  ⟨(some 48), (.load none (.tmp 47)), some (46, false)⟩,
  ⟨(some 49), (.faddr 1 none (.tmp 7)), some (46, false)⟩,
  ⟨(some 50), (.load none (.tmp 49)), some (46, false)⟩,
  ⟨(some 51), (.bin .neq (.tmp 48) (.tmp 50)), some (46, false)⟩,
  ⟨(some 52), (.pick (.tmp 46) (.con (.bool true)) (.tmp 51)), none⟩,
  ⟨(some 53), (.move (.tmp 52)), none⟩,
  ⟨(some 54), (.faddr 2 none (.tmp 6)), some (53, false)⟩,
  ⟨(some 55), (.load none (.tmp 54)), some (53, false)⟩,
  ⟨(some 56), (.len .slice (.tmp 55)), some (53, false)⟩,
  ⟨(some 57), (.faddr 2 none (.tmp 7)), some (53, false)⟩,
  ⟨(some 58), (.load none (.tmp 57)), some (53, false)⟩,
  ⟨(some 59), (.len .slice (.tmp 58)), some (53, false)⟩,
  ⟨(some 60), (.bin .neq (.tmp 56) (.tmp 59)), some (53, false)⟩,
  ⟨(some 61), (.pick (.tmp 53) (.con (.bool true)) (.tmp 60)), none⟩])
 (.cond (.tmp 61)
 (.seq (.ops [⟨(some 4), (.move (.con (.bool false))), none⟩])
 .ret)
 .skip))
 (.seq (.ops [⟨(some 8), (.move (.con (.int .i64 0))), none⟩])
 (.block 2 (.loop (.seq (.seq (.ops [⟨(some 62), (.move (.tmp 8)), none⟩,
  ⟨(some 63), (.faddr 2 none (.tmp 6)), none⟩,
  ⟨(some 64), (.load none (.tmp 63)), none⟩,
  ⟨(some 65), (.len .slice (.tmp 64)), none⟩,
  ⟨(some 66), (.bin .lss (.tmp 62) (.tmp 65)), none⟩])
 (.cond (.tmp 66)
 .skip
 (.exit 2)))
 (.seq (.block 3 (.seq (.draw [.take ⟨(some 69), (.faddr 2 none (.tmp 6)), none⟩,
  .take ⟨(some 70), (.load none (.tmp 69)), none⟩,
  .take ⟨(some 71), (.move (.tmp 8)), none⟩,
  .take ⟨(some 72), (.iaddr 2 (.tmp 70) (.tmp 71)), none⟩,
  .take ⟨(some 73), (.load (some 2) (.tmp 72)), none⟩,
  .take ⟨(some 74), (.faddr 2 none (.tmp 7)), none⟩,
  .take ⟨(some 75), (.load none (.tmp 74)), none⟩,
  .take ⟨(some 76), (.move (.tmp 8)), none⟩,
  .take ⟨(some 77), (.iaddr 2 (.tmp 75) (.tmp 76)), none⟩,
  .take ⟨(some 78), (.load (some 2) (.tmp 77)), none⟩,
  .only ⟨(some 79), (.call 32 [(.tmp 73), (.tmp 78)]), none⟩ true,
  .take ⟨(some 80), (.un .not (.tmp 79)), none⟩])
 (.cond (.tmp 80)
 (.seq (.ops [⟨(some 4), (.move (.con (.bool false))), none⟩])
 .ret)
 .skip)))
 (.ops [⟨(some 67), (.move (.tmp 8)), none⟩,
  ⟨(some 68), (.bin .add (.tmp 67) (.con (.int .i64 1))), none⟩,
  ⟨(some 8), (.move (.tmp 68)), none⟩])))))))))
 (.ops [⟨(some 29), (.move (.tmp 5)), none⟩,
  ⟨(some 30), (.bin .add (.tmp 29) (.con (.int .i64 1))), none⟩,
  ⟨(some 5), (.move (.tmp 30)), none⟩]))))))
 (.seq (.ops [⟨(some 4), (.move (.con (.bool true))), none⟩])
 .ret))))
theorem fn9 : fnCode Try.prog 9 = some (81, code9, [.tmp 4]) := by kernel_rfl

/-- emissary/emissarylaw18.known -/
def code10 : ACode :=
 (.seq (.ops [⟨(some 0), (.move (.con (.bool false))), none⟩])
 (.seq (.ops [⟨(some 4), (.call 11 [(.con (.int .i64 9))]), none⟩,
  ⟨(some 1), (.move (.tmp 4)), none⟩])
 (.seq (.ops [⟨(some 6), (.move (.tmp 1)), none⟩,
  ⟨(some 7), (.call 33 [(.con (.int .i64 3))]), none⟩,
  ⟨(some 8), (.call 22 [(.tmp 6), (.tmp 7)]), none⟩,
  ⟨(some 5), (.move (.tmp 8)), none⟩,
  ⟨(some 9), (.extract 0 (.tmp 5)), none⟩,
  ⟨(some 10), (.extract 1 (.tmp 5)), none⟩,
  ⟨(some 2), (.alloc 26 [(.bool false), (.int .i64 0), .nils]), none⟩,
  ⟨none, (.store 3 (.tmp 2) (.tmp 9)), none⟩,
  ⟨(some 3), (.move (.tmp 10)), none⟩])
 (.seq (.ops [⟨(some 11), (.move (.tmp 3)), none⟩,
  ⟨(some 12), (.bin .eql (.tmp 11) (.con (.int .i64 0))), none⟩,
  ⟨(some 13), (.move (.tmp 12)), none⟩,
  ⟨(some 14), (.faddr 0 (some 2) (.tmp 2)), some (13, true)⟩,
  ⟨(some 15), (.load (some 2) (.tmp 14)), some (13, true)⟩,
  ⟨(some 16), (.build [(.bool false), (.int .i64 0)] [(0, 1, (.con (.bool true))), (1, 1, (.con (.int .i64 3)))]), some (13, true)⟩,
  ⟨(some 17), (.eqs false [.bool, .int] (.tmp 15) (.tmp 16)), some (13, true)⟩,
  ⟨(some 18), (.pick (.tmp 13) (.tmp 17) (.con (.bool false))), none⟩,
  ⟨(some 19), (.move (.tmp 18)), none⟩,
  ⟨(some 20), (.faddr 2 none (.tmp 2)), some (19, true)⟩,
  ⟨(some 21), (.load none (.tmp 20)), some (19, true)⟩,
  ⟨(some 22), (.len .slice (.tmp 21)), some (19, true)⟩,
  ⟨(some 23), (.bin .eql (.tmp 22) (.con (.int .i64 0))), some (19, true)⟩,
  ⟨(some 24), (.pick (.tmp 19) (.tmp 23) (.con (.bool false))), none⟩,
  ⟨(some 0), (.move (.tmp 24)), none⟩])
 .ret))))
theorem fn10 : fnCode Try.prog 10 = some (25, code10, [.tmp 0]) := by kernel_rfl

/-- emissary/heap.New -/
def code11 : ACode :=
 (.seq (.ops [⟨(some 2), (.move (.con .nilp)), none⟩])
 (.seq (.seq (.ops [⟨(some 3), (.move (.tmp 0)), none⟩,
  ⟨(some 4), (.bin .lss (.tmp 3) (.con (.int .i64 0))), none⟩,
  ⟨(some 5), (.move (.tmp 4)), none⟩,
  ⟨(some 6), (.move (.tmp 0)), some (5, false)⟩,
  ⟨(some 7), (.bin .gtr (.tmp 6) (.con (.int .i64 20000))), some (5, false)⟩,
  ⟨(some 8), (.pick (.tmp 5) (.con (.bool true)) (.tmp 7)), none⟩])
 (.cond (.tmp 8)
 (.seq (.ops [⟨(some 2), (.move (.con .nilp)), none⟩])
 .ret)
 .skip))
 (.seq (.ops [⟨(some 9), (.move (.tmp 0)), none⟩,
  ⟨(some 10), .mkmap, none⟩,
  ⟨(some 11), (.build [(.int .i64 0), (.int .i64 0), .nilm] [(0, 1, (.tmp 9)), (2, 1, (.tmp 10))]), none⟩,
  ⟨(some 12), (.box 68 3 (.tmp 11)), none⟩,
  ⟨(some 2), (.move (.tmp 12)), none⟩])
 .ret)))
theorem fn11 : fnCode Try.prog 11 = some (13, code11, [.tmp 2]) := by kernel_rfl

/-- emissary/shape.Of -/
def code22 : ACode :=
 (.seq (.ops [⟨(some 4), (.alloc 26 [(.bool false), (.int .i64 0), .nils]), none⟩,
  ⟨(some 5), (.move (.con (.int .i64 0))), none⟩])
 (.seq (.ops [⟨(some 8), (.move (.tmp 0)), none⟩,
  ⟨(some 9), .mkmap, none⟩,
  ⟨(some 10), (.build [.nilp, .nilm, .nils, (.bool false)] [(0, 1, (.tmp 8)), (1, 1, (.tmp 9))]), none⟩,
  ⟨(some 11), (.box 98 4 (.tmp 10)), none⟩,
  ⟨(some 6), (.move (.tmp 11)), none⟩])
 (.seq (.ops [⟨(some 12), (.move (.tmp 6)), none⟩,
  ⟨(some 13), (.move (.tmp 1)), none⟩,
  ⟨(some 14), (.call 51 [(.tmp 12), (.tmp 13)]), none⟩,
  ⟨(some 7), (.alloc 23 [(.bool false), (.int .i64 0)]), none⟩,
  ⟨none, (.store 2 (.tmp 7) (.tmp 14)), none⟩])
 (.seq (.block 0 (.seq (.ops [⟨(some 16), (.move (.tmp 6)), none⟩,
  ⟨(some 17), (.nilc (.tmp 16)), none⟩,
  ⟨(some 18), (.faddr 3 none (.tmp 17)), none⟩,
  ⟨(some 19), (.load none (.tmp 18)), none⟩,
  ⟨(some 15), (.move (.tmp 19)), none⟩])
 (.cond (.tmp 15)
 (.seq (.ops [⟨(some 20), (.build [(.bool false), (.int .i64 0), .nils] []), none⟩,
  ⟨none, (.store 3 (.tmp 4) (.tmp 20)), none⟩,
  ⟨(some 5), (.move (.con (.int .i64 1))), none⟩])
 .ret)
 (.seq (.ops [⟨(some 22), (.move (.tmp 6)), none⟩,
  ⟨(some 23), (.nilc (.tmp 22)), none⟩,
  ⟨(some 24), (.faddr 2 none (.tmp 23)), none⟩,
  ⟨(some 25), (.load none (.tmp 24)), none⟩,
  ⟨(some 26), (.len .slice (.tmp 25)), none⟩,
  ⟨(some 27), (.bin .gtr (.tmp 26) (.con (.int .i64 2000))), none⟩,
  ⟨(some 21), (.move (.tmp 27)), none⟩])
 (.cond (.tmp 21)
 (.seq (.ops [⟨(some 28), (.build [(.bool false), (.int .i64 0), .nils] []), none⟩,
  ⟨none, (.store 3 (.tmp 4) (.tmp 28)), none⟩,
  ⟨(some 5), (.move (.con (.int .i64 7))), none⟩])
 .ret)
 .skip)))))
 (.seq (.draw [.take ⟨(some 29), (.load (some 2) (.tmp 7)), none⟩,
  .take ⟨(some 30), (.move (.tmp 6)), none⟩,
  .take ⟨(some 31), (.nilc (.tmp 30)), none⟩,
  .take ⟨(some 32), (.faddr 2 none (.tmp 31)), none⟩,
  .take ⟨(some 33), (.load none (.tmp 32)), none⟩,
  .take ⟨(some 34), (.build [(.bool false), (.int .i64 0), .nils] [(0, 2, (.tmp 29)), (2, 1, (.tmp 33))]), none⟩,
  .only ⟨none, (.store 3 (.tmp 4) (.tmp 34)), none⟩ false,
  .take ⟨(some 5), (.move (.con (.int .i64 0))), none⟩])
 .ret)))))
theorem fn22 : fnCode Try.prog 22 = some (35, code22, [.cell 4 (some 3), .tmp 5]) := by kernel_rfl

/-- slices.EqualFunc[[]emissary/api.Block,[]emissary/api.Block,emissary/api.Block,emissary/api.Block] -/
def code29 : ACode :=
 (.seq (.ops [⟨(some 6), (.move (.con (.bool false))), none⟩])
 (.seq (.seq (.ops [⟨(some 10), (.move (.tmp 0)), none⟩,
  ⟨(some 11), (.len .slice (.tmp 10)), none⟩,
  ⟨(some 12), (.move (.tmp 1)), none⟩,
  ⟨(some 13), (.len .slice (.tmp 12)), none⟩,
  ⟨(some 14), (.bin .neq (.tmp 11) (.tmp 13)), none⟩])
 (.cond (.tmp 14)
 (.seq (.ops [⟨(some 6), (.move (.con (.bool false))), none⟩])
 .ret)
 .skip))
 (.seq (.seq (.ops [⟨(some 15), (.move (.tmp 0)), none⟩,
  ⟨(some 16), (.len .slice (.tmp 15)), none⟩,
  ⟨(some 17), (.move (.con (.int .i64 0))), none⟩])
 (.block 0 (.loop (.seq (.ops [⟨(some 18), (.bin .lss (.tmp 17) (.tmp 16)), none⟩])
 (.seq (.cond (.tmp 18)
 .skip
 (.exit 0))
 (.seq (.block 1 (.seq (.ops [⟨(some 19), (.move (.tmp 17)), none⟩,
  ⟨(some 20), (.iaddr 3 (.tmp 15) (.tmp 17)), none⟩,
  ⟨(some 21), (.load (some 3) (.tmp 20)), none⟩,
  ⟨(some 8), (.alloc 60 [(.int .i64 0), (.str ⟨#[]⟩), .nils]), none⟩,
  ⟨(some 7), (.move (.tmp 19)), none⟩,
  ⟨none, (.store 3 (.tmp 8) (.tmp 21)), none⟩])
 (.seq (.ops [⟨(some 22), (.move (.tmp 1)), none⟩,
  ⟨(some 23), (.move (.tmp 7)), none⟩,
  ⟨(some 24), (.iaddr 3 (.tmp 22) (.tmp 23)), none⟩,
  ⟨(some 25), (.load (some 3) (.tmp 24)), none⟩,
  ⟨(some 9), (.alloc 60 [(.int .i64 0), (.str ⟨#[]⟩), .nils]), none⟩,
  ⟨none, (.store 3 (.tmp 9) (.tmp 25)), none⟩])
 (.seq (.ops [⟨(some 26), (.move (.tmp 2)), none⟩,
  ⟨(some 27), (.load (some 3) (.tmp 8)), none⟩,
  ⟨(some 28), (.load (some 3) (.tmp 9)), none⟩,
  ⟨(some 29), (.callv (.tmp 26) [(.tmp 27), (.tmp 28)]), none⟩,
  ⟨(some 30), (.un .not (.tmp 29)), none⟩])
 (.cond (.tmp 30)
 (.seq (.ops [⟨(some 6), (.move (.con (.bool false))), none⟩])
 .ret)
 .skip)))))
 (.ops [⟨(some 31), (.bin .add (.tmp 17) (.con (.int .i64 1))), none⟩,
  ⟨(some 17), (.move (.tmp 31)), none⟩])))))))
 (.seq (.ops [⟨(some 6), (.move (.con (.bool true))), none⟩])
 .ret))))
theorem fn29 : fnCode Try.prog 29 = some (32, code29, [.tmp 6]) := by kernel_rfl

/-- emissary/shape.Same$1 -/
def code30 : ACode :=
 (.seq (.ops [⟨(some 2), (.box 60 3 (.tmp 0)), none⟩,
  ⟨(some 3), (.box 60 3 (.tmp 1)), none⟩,
  ⟨(some 4), (.move (.con (.bool false))), none⟩])
 (.seq (.ops [⟨(some 5), (.faddr 0 none (.tmp 2)), none⟩,
  ⟨(some 6), (.load none (.tmp 5)), none⟩,
  ⟨(some 7), (.faddr 0 none (.tmp 3)), none⟩,
  ⟨(some 8), (.load none (.tmp 7)), none⟩,
  ⟨(some 9), (.bin .eql (.tmp 6) (.tmp 8)), none⟩,
  ⟨(some 10), (.move (.tmp 9)), none⟩,
  ⟨(some 11), (.faddr 1 none (.tmp 2)), some (10, true)⟩,
  ⟨(some 12), (.load none (.tmp 11)), some (10, true)⟩,
  ⟨(some 13), (.faddr 1 none (.tmp 3)), some (10, true)⟩,
  ⟨(some 14), (.load none (.tmp 13)), some (10, true)⟩,
  ⟨(some 15), (.bin .eql (.tmp 12) (.tmp 14)), some (10, true)⟩,
  ⟨(some 16), (.pick (.tmp 10) (.tmp 15) (.con (.bool false))), none⟩,
  ⟨(some 17), (.move (.tmp 16)), none⟩,
  ⟨(some 18), (.faddr 2 none (.tmp 2)), some (17, true)⟩,
  ⟨(some 19), (.load none (.tmp 18)), some (17, true)⟩,
  ⟨(some 20), (.faddr 2 none (.tmp 3)), some (17, true)⟩,
  ⟨(some 21), (.load none (.tmp 20)), some (17, true)⟩,
  ⟨(some 22), (.call 31 [(.tmp 19), (.tmp 21)]), some (17, true)⟩,
  ⟨(some 23), (.pick (.tmp 17) (.tmp 22) (.con (.bool false))), none⟩,
  ⟨(some 4), (.move (.tmp 23)), none⟩])
 .ret))
theorem fn30 : fnCode Try.prog 30 = some (24, code30, [.tmp 4]) := by kernel_rfl

/-- slices.Equal[[]emissary/api.Ref,emissary/api.Ref] -/
def code31 : ACode :=
 (.seq (.ops [⟨(some 4), (.move (.con (.bool false))), none⟩])
 (.seq (.seq (.ops [⟨(some 6), (.move (.tmp 0)), none⟩,
  ⟨(some 7), (.len .slice (.tmp 6)), none⟩,
  ⟨(some 8), (.move (.tmp 1)), none⟩,
  ⟨(some 9), (.len .slice (.tmp 8)), none⟩,
  ⟨(some 10), (.bin .neq (.tmp 7) (.tmp 9)), none⟩])
 (.cond (.tmp 10)
 (.seq (.ops [⟨(some 4), (.move (.con (.bool false))), none⟩])
 .ret)
 .skip))
 (.seq (.seq (.ops [⟨(some 11), (.move (.tmp 0)), none⟩,
  ⟨(some 12), (.len .slice (.tmp 11)), none⟩,
  ⟨(some 13), (.move (.con (.int .i64 0))), none⟩])
 (.block 0 (.loop (.seq (.ops [⟨(some 14), (.bin .lss (.tmp 13) (.tmp 12)), none⟩])
 (.seq (.cond (.tmp 14)
 .skip
 (.exit 0))
 (.seq (.block 1 (.seq (.ops [⟨(some 15), (.move (.tmp 13)), none⟩,
  ⟨(some 5), (.move (.tmp 15)), none⟩])
 (.seq (.draw [.take ⟨(some 16), (.move (.tmp 0)), none⟩,
  .take ⟨(some 17), (.move (.tmp 5)), none⟩,
  .take ⟨(some 18), (.iaddr 2 (.tmp 16) (.tmp 17)), none⟩,
  .take ⟨(some 19), (.load (some 2) (.tmp 18)), none⟩,
  .take ⟨(some 20), (.move (.tmp 1)), none⟩,
  .take ⟨(some 21), (.move (.tmp 5)), none⟩,
  .take ⟨(some 22), (.iaddr 2 (.tmp 20) (.tmp 21)), none⟩,
  .take ⟨(some 23), (.load (some 2) (.tmp 22)), none⟩,
  .take ⟨(some 24), (.eqs true [.bool, .int] (.tmp 19) (.tmp 23)), none⟩])
 (.cond (.tmp 24)
 (.seq (.ops [⟨(some 4), (.move (.con (.bool false))), none⟩])
 .ret)
 .skip))))
 (.ops [⟨(some 25), (.bin .add (.tmp 13) (.con (.int .i64 1))), none⟩,
  ⟨(some 13), (.move (.tmp 25)), none⟩])))))))
 (.seq (.ops [⟨(some 4), (.move (.con (.bool true))), none⟩])
 .ret))))
theorem fn31 : fnCode Try.prog 31 = some (26, code31, [.tmp 4]) := by kernel_rfl

/-- emissary/emissaryref18.same1 -/
def code32 : ACode :=
 (.seq (.ops [⟨(some 2), (.box 23 2 (.tmp 0)), none⟩,
  ⟨(some 3), (.box 23 2 (.tmp 1)), none⟩,
  ⟨(some 4), (.move (.con (.bool false))), none⟩])
 (.seq (.ops [⟨(some 5), (.faddr 0 none (.tmp 2)), none⟩,
  ⟨(some 6), (.load none (.tmp 5)), none⟩,
  ⟨(some 7), (.faddr 0 none (.tmp 3)), none⟩,
  ⟨(some 8), (.load none (.tmp 7)), none⟩,
  ⟨(some 9), (.eqv false .bool (.tmp 6) (.tmp 8)), none⟩,
  ⟨(some 10), (.move (.tmp 9)), none⟩,
  ⟨(some 11), (.faddr 1 none (.tmp 2)), some (10, true)⟩,
  ⟨(some 12), (.load none (.tmp 11)), some (10, true)⟩,
  ⟨(some 13), (.faddr 1 none (.tmp 3)), some (10, true)⟩,
  ⟨(some 14), (.load none (.tmp 13)), some (10, true)⟩,
  ⟨(some 15), (.bin .eql (.tmp 12) (.tmp 14)), some (10, true)⟩,
  ⟨(some 16), (.pick (.tmp 10) (.tmp 15) (.con (.bool false))), none⟩,
  ⟨(some 4), (.move (.tmp 16)), none⟩])
 .ret))
theorem fn32 : fnCode Try.prog 32 = some (17, code32, [.tmp 4]) := by kernel_rfl

/-- emissary/heap.Int -/
def code33 : ACode :=
 (.seq (.ops [⟨(some 2), (.move (.con (.int .i64 0))), none⟩])
 (.seq (.ops [⟨(some 3), (.move (.tmp 0)), none⟩,
  ⟨(some 4), (.bin .shl (.tmp 3) (.con (.int .u64 1))), none⟩,
  ⟨(some 5), (.bin .or (.tmp 4) (.con (.int .i64 1))), none⟩,
  ⟨(some 2), (.move (.tmp 5)), none⟩])
 .ret))
theorem fn33 : fnCode Try.prog 33 = some (6, code33, [.tmp 2]) := by kernel_rfl

/-- emissary/heap.Num -/
def code35 : ACode :=
 (.seq (.ops [⟨(some 2), (.move (.con (.int .i64 0))), none⟩])
 (.seq (.ops [⟨(some 3), (.move (.tmp 0)), none⟩,
  ⟨(some 4), (.bin .shr (.tmp 3) (.con (.int .u64 1))), none⟩,
  ⟨(some 2), (.move (.tmp 4)), none⟩])
 .ret))
theorem fn35 : fnCode Try.prog 35 = some (5, code35, [.tmp 2]) := by kernel_rfl

/-- emissary/heap.IsInt -/
def code36 : ACode :=
 (.seq (.ops [⟨(some 2), (.move (.con (.bool false))), none⟩])
 (.seq (.ops [⟨(some 3), (.move (.tmp 0)), none⟩,
  ⟨(some 4), (.bin .and (.tmp 3) (.con (.int .i64 1))), none⟩,
  ⟨(some 5), (.bin .eql (.tmp 4) (.con (.int .i64 1))), none⟩,
  ⟨(some 2), (.move (.tmp 5)), none⟩])
 .ret))
theorem fn36 : fnCode Try.prog 36 = some (6, code36, [.tmp 2]) := by kernel_rfl

/-- (*emissary/shape.drawer).ref -/
def code51 : ACode :=
 (.seq (.ops [⟨(some 4), (.alloc 23 [(.bool false), (.int .i64 0)]), none⟩])
 (.seq (.seq (.ops [⟨(some 7), (.move (.tmp 1)), none⟩,
  ⟨(some 8), (.call 36 [(.tmp 7)]), none⟩])
 (.cond (.tmp 8)
 (.seq (.ops [⟨(some 9), (.move (.tmp 1)), none⟩,
  ⟨(some 10), (.call 35 [(.tmp 9)]), none⟩,
  ⟨(some 11), (.build [(.bool false), (.int .i64 0)] [(0, 1, (.con (.bool true))), (1, 1, (.tmp 10))]), none⟩,
  ⟨none, (.store 2 (.tmp 4) (.tmp 11)), none⟩])
 .ret)
 .skip))
 (.seq (.ops [⟨(some 13), (.move (.tmp 0)), none⟩,
  ⟨(some 14), (.nilc (.tmp 13)), none⟩,
  ⟨(some 15), (.faddr 1 none (.tmp 14)), none⟩,
  ⟨(some 16), (.load none (.tmp 15)), none⟩,
  ⟨(some 17), (.move (.tmp 1)), none⟩,
  ⟨(some 18), (.lookup false true (.int .i64 0) (.tmp 16) (.tmp 17)), none⟩,
  ⟨(some 12), (.move (.tmp 18)), none⟩,
  ⟨(some 19), (.extract 0 (.tmp 12)), none⟩,
  ⟨(some 20), (.extract 1 (.tmp 12)), none⟩,
  ⟨(some 5), (.move (.tmp 19)), none⟩,
  ⟨(some 6), (.move (.tmp 20)), none⟩])
 (.seq (.seq (.ops [⟨(some 21), (.move (.tmp 6)), none⟩,
  ⟨(some 22), (.un .not (.tmp 21)), none⟩])
 (.cond (.tmp 22)
 (.seq (.ops [⟨(some 23), (.move (.tmp 0)), none⟩,
  ⟨(some 24), (.nilc (.tmp 23)), none⟩,
  ⟨(some 25), (.faddr 2 none (.tmp 24)), none⟩,
  ⟨(some 26), (.load none (.tmp 25)), none⟩,
  ⟨(some 27), (.len .slice (.tmp 26)), none⟩,
  ⟨(some 5), (.move (.tmp 27)), none⟩])
 (.seq (.ops [⟨(some 28), (.move (.tmp 0)), none⟩,
  ⟨(some 29), (.nilc (.tmp 28)), none⟩,
  ⟨(some 30), (.faddr 1 none (.tmp 29)), none⟩,
  ⟨(some 31), (.load none (.tmp 30)), none⟩,
  ⟨(some 32), (.move (.tmp 1)), none⟩,
  ⟨(some 33), (.move (.tmp 5)), none⟩,
  ⟨none, (.mapupd false (.tmp 31) (.tmp 32) (.tmp 33)), none⟩])
 (.seq (.draw [.take ⟨(some 34), (.move (.tmp 0)), none⟩,
  .take ⟨(some 35), (.move (.tmp 0)), none⟩,
  .take ⟨(some 36), (.nilc (.tmp 35)), none⟩,
  .take ⟨(some 37), (.faddr 2 none (.tmp 36)), none⟩,
  .take ⟨(some 38), (.load none (.tmp 37)), none⟩,
  .take ⟨(some 39), (.move (.tmp 0)), none⟩,
  .take ⟨(some 40), (.nilc (.tmp 39)), none⟩,
  .take ⟨(some 41), (.faddr 0 none (.tmp 40)), none⟩,
  .take ⟨(some 42), (.load none (.tmp 41)), none⟩,
  .take ⟨(some 43), (.move (.tmp 1)), none⟩,
  .only ⟨(some 44), (.call 15 [(.tmp 42), (.tmp 43)]), none⟩ true,
  .take ⟨(some 45), (.build [(.int .i64 0), (.str ⟨#[]⟩), .nils] [(0, 1, (.tmp 44))]), none⟩,
  .only ⟨(some 46), (.bslice 60 3 1 [(.int .i64 0), (.str ⟨#[]⟩), .nils] [(0, 3, (.tmp 45))]), none⟩ false,
  .only ⟨(some 47), (.append 60 3 48 (.tmp 38) (.tmp 46)), none⟩ true,
  .take ⟨(some 48), (.nilc (.tmp 34)), none⟩,
  .take ⟨(some 49), (.faddr 2 none (.tmp 48)), none⟩,
  .only ⟨none, (.store 1 (.tmp 49) (.tmp 47)), none⟩ false])
 (.ops [⟨(some 50), (.move (.tmp 0)), none⟩,
  ⟨(some 51), (.move (.tmp 1)), none⟩,
  ⟨(some 52), (.move (.tmp 5)), none⟩,
  ⟨(some 53), (.call 60 [(.tmp 50), (.tmp 51), (.tmp 52)]), none⟩]))))
 .skip))
 (.seq (.ops [⟨(some 54), (.move (.tmp 5)), none⟩,
  ⟨(some 55), (.build [(.bool false), (.int .i64 0)] [(1, 1, (.tmp 54))]), none⟩,
  ⟨none, (.store 2 (.tmp 4) (.tmp 55)), none⟩])
 .ret)))))
theorem fn51 : fnCode Try.prog 51 = some (56, code51, [.cell 4 (some 2)]) := by kernel_rfl

end Go.Proofs.Ytbdnopflbnbhnaa.Ab
