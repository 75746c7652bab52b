/- The abstract codes of functions of the program, printed by mkcode.py. -/
import Derived.Test.YtbjifmoiblicgaaAb20
import Derived.Test.YtbjifmoiblicgaaProg
namespace Go.Proofs.Ytbjifmoiblicgaa.Ab
open Go
set_option maxRecDepth 100000

/-- emissary/emissaryref3.Put -/
def code10 : ACode :=
 (.seq (.ops [⟨(some 4), (.move (.con .nils)), none⟩,
  ⟨(some 5), (.move (.con (.bool false))), none⟩])
 (.seq (.seq (.ops [⟨(some 8), (.move (.tmp 1)), none⟩,
  ⟨(some 9), (.len .slice (.tmp 8)), none⟩,
  ⟨(some 10), (.bin .gtr (.tmp 9) (.con (.int .i64 4000))), none⟩])
 (.cond (.tmp 10)
 (.seq (.ops [⟨(some 4), (.move (.con .nils)), none⟩,
  ⟨(some 5), (.move (.con (.bool false))), none⟩])
 .ret)
 .skip))
 (.seq (.ops [⟨(some 11), (.move (.tmp 0)), none⟩,
  ⟨(some 12), (.bslice 5 1 1 [(.int .u8 0)] [(0, 1, (.tmp 11))]), none⟩,
  ⟨(some 13), (.move (.tmp 1)), none⟩,
  ⟨(some 14), (.len .slice (.tmp 13)), none⟩,
  ⟨(some 15), (.conv .u64 (.tmp 14)), none⟩,
  ⟨(some 16), (.call 25 [(.tmp 15)]), none⟩,
  ⟨(some 17), (.append 5 1 1 (.tmp 12) (.tmp 16)), none⟩,
  ⟨(some 6), (.move (.tmp 17)), none⟩])
 (.seq (.ops [⟨(some 18), (.move (.tmp 6)), none⟩,
  ⟨(some 19), (.move (.tmp 1)), none⟩,
  ⟨(some 20), (.append 5 1 1 (.tmp 18) (.tmp 19)), none⟩,
  ⟨(some 6), (.move (.tmp 20)), none⟩])
 (.seq (.ops [⟨(some 21), (.move (.tmp 6)), none⟩,
  ⟨(some 22), (.call 26 [(.tmp 21)]), none⟩,
  ⟨(some 7), (.move (.tmp 22)), none⟩])
 (.seq (.ops [⟨(some 23), (.move (.tmp 6)), none⟩,
  ⟨(some 24), (.move (.tmp 7)), none⟩,
  ⟨(some 25), (.bin .shr (.tmp 24) (.con (.int .u64 24))), none⟩,
  ⟨(some 26), (.conv .u8 (.tmp 25)), none⟩,
  ⟨(some 27), (.move (.tmp 7)), none⟩,
  ⟨(some 28), (.bin .shr (.tmp 27) (.con (.int .u64 16))), none⟩,
  ⟨(some 29), (.conv .u8 (.tmp 28)), none⟩,
  ⟨(some 30), (.move (.tmp 7)), none⟩,
  ⟨(some 31), (.bin .shr (.tmp 30) (.con (.int .u64 8))), none⟩,
  ⟨(some 32), (.conv .u8 (.tmp 31)), none⟩,
  ⟨(some 33), (.move (.tmp 7)), none⟩,
  ⟨(some 34), (.conv .u8 (.tmp 33)), none⟩,
  ⟨(some 35), (.bslice 5 1 4 [(.int .u8 0), (.int .u8 0), (.int .u8 0), (.int .u8 0)] [(0, 1, (.tmp 26)), (1, 1, (.tmp 29)), (2, 1, (.tmp 32)), (3, 1, (.tmp 34))]), none⟩,
  ⟨(some 36), (.append 5 1 1 (.tmp 23) (.tmp 35)), none⟩,
  ⟨(some 4), (.move (.tmp 36)), none⟩,
  ⟨(some 5), (.move (.con (.bool true))), none⟩])
 .ret))))))
theorem fn10 : fnCode Try.prog 10 = some (37, code10, [.tmp 4, .tmp 5]) := by kernel_rfl

/-- bytes.Clone -/
def code24 : ACode :=
 (.seq (.ops [⟨(some 2), (.move (.con .nils)), none⟩])
 (.seq (.seq (.ops [⟨(some 3), (.move (.tmp 0)), none⟩,
  ⟨(some 4), (.eqv false .slice (.tmp 3) (.con .nils)), none⟩])
 (.cond (.tmp 4)
 (.seq (.ops [⟨(some 2), (.move (.con .nils)), none⟩])
 .ret)
 .skip))
 (.seq (.ops [⟨(some 5), (.bslice 5 1 0 [] []), none⟩,
  ⟨(some 6), (.move (.tmp 0)), none⟩,
  ⟨(some 7), (.append 5 1 1 (.tmp 5) (.tmp 6)), none⟩,
  ⟨(some 2), (.move (.tmp 7)), none⟩])
 .ret)))
theorem fn24 : fnCode Try.prog 24 = some (8, code24, [.tmp 2]) := by kernel_rfl

/-- emissary/emissaryref1.Put -/
def code25 : ACode :=
 (.seq (.ops [⟨(some 2), (.move (.con .nils)), none⟩])
 (.seq (.ops [⟨(some 3), (.move (.con .nils)), none⟩])
 (.seq (.block 0 (.loop (.seq (.seq (.ops [⟨(some 4), (.move (.tmp 0)), none⟩,
  ⟨(some 5), (.bin .geq (.tmp 4) (.con (.int .u64 128))), none⟩])
 (.cond (.tmp 5)
 .skip
 (.exit 0)))
 (.block 1 (.seq (.ops [⟨(some 6), (.move (.tmp 3)), none⟩,
  ⟨(some 7), (.move (.tmp 0)), none⟩,
  ⟨(some 8), (.bin .and (.tmp 7) (.con (.int .u64 127))), none⟩,
  ⟨(some 9), (.bin .or (.tmp 8) (.con (.int .u64 128))), none⟩,
  ⟨(some 10), (.conv .u8 (.tmp 9)), none⟩,
  ⟨(some 11), (.bslice 5 1 1 [(.int .u8 0)] [(0, 1, (.tmp 10))]), none⟩,
  ⟨(some 12), (.append 5 1 1 (.tmp 6) (.tmp 11)), none⟩,
  ⟨(some 3), (.move (.tmp 12)), none⟩])
 (.ops [⟨(some 13), (.move (.tmp 0)), none⟩,
  ⟨(some 14), (.bin .shr (.tmp 13) (.con (.int .u64 7))), none⟩,
  ⟨(some 0), (.move (.tmp 14)), none⟩]))))))
 (.seq (.ops [⟨(some 15), (.move (.tmp 3)), none⟩,
  ⟨(some 16), (.move (.tmp 0)), none⟩,
  ⟨(some 17), (.conv .u8 (.tmp 16)), none⟩,
  ⟨(some 18), (.bslice 5 1 1 [(.int .u8 0)] [(0, 1, (.tmp 17))]), none⟩,
  ⟨(some 19), (.append 5 1 1 (.tmp 15) (.tmp 18)), none⟩,
  ⟨(some 2), (.move (.tmp 19)), none⟩])
 .ret))))
theorem fn25 : fnCode Try.prog 25 = some (20, code25, [.tmp 2]) := by kernel_rfl

/-- emissary/emissaryref2.Adler -/
def code26 : ACode :=
 (.seq (.ops [⟨(some 2), (.move (.con (.int .u32 0))), none⟩])
 (.seq (.ops [⟨(some 3), (.move (.con (.int .i64 1))), none⟩,
  ⟨(some 4), (.move (.con (.int .i64 0))), none⟩])
 (.seq (.seq (.ops [⟨(some 5), (.move (.con (.int .i64 0))), none⟩])
 (.block 0 (.loop (.seq (.seq (.ops [⟨(some 6), (.move (.tmp 5)), none⟩,
  ⟨(some 7), (.move (.tmp 0)), none⟩,
  ⟨(some 8), (.len .slice (.tmp 7)), none⟩,
  ⟨(some 9), (.bin .lss (.tmp 6) (.tmp 8)), none⟩])
 (.cond (.tmp 9)
 .skip
 (.exit 0)))
 (.seq (.block 1 (.seq (.ops [⟨(some 12), (.move (.tmp 3)), none⟩,
  ⟨(some 13), (.move (.tmp 0)), none⟩,
  ⟨(some 14), (.move (.tmp 5)), none⟩,
  ⟨(some 15), (.iaddr 1 (.tmp 13) (.tmp 14)), none⟩,
  ⟨(some 16), (.load none (.tmp 15)), none⟩,
  ⟨(some 17), (.conv .i64 (.tmp 16)), none⟩,
  ⟨(some 18), (.bin .add (.tmp 12) (.tmp 17)), none⟩,
  ⟨(some 19), (.bin .rem (.tmp 18) (.con (.int .i64 65521))), none⟩,
  ⟨(some 3), (.move (.tmp 19)), none⟩])
 (.ops [⟨(some 20), (.move (.tmp 4)), none⟩,
  ⟨(some 21), (.move (.tmp 3)), none⟩,
  ⟨(some 22), (.bin .add (.tmp 20) (.tmp 21)), none⟩,
  ⟨(some 23), (.bin .rem (.tmp 22) (.con (.int .i64 65521))), none⟩,
  ⟨(some 4), (.move (.tmp 23)), none⟩])))
 (.ops [⟨(some 10), (.move (.tmp 5)), none⟩,
  ⟨(some 11), (.bin .add (.tmp 10) (.con (.int .i64 1))), none⟩,
  ⟨(some 5), (.move (.tmp 11)), none⟩]))))))
 (.seq (.ops [⟨(some 24), (.move (.tmp 4)), none⟩,
  ⟨(some 25), (.bin .mul (.tmp 24) (.con (.int .i64 65536))), none⟩,
  ⟨(some 26), (.move (.tmp 3)), none⟩,
  ⟨(some 27), (.bin .add (.tmp 25) (.tmp 26)), none⟩,
  ⟨(some 28), (.conv .u32 (.tmp 27)), none⟩,
  ⟨(some 2), (.move (.tmp 28)), none⟩])
 .ret))))
theorem fn26 : fnCode Try.prog 26 = some (29, code26, [.tmp 2]) := by kernel_rfl

/-- emissary/server.put -/
def code31 : ACode :=
 (.seq (.ops [⟨(some 2), (.move (.con .nils)), none⟩])
 (.seq (.ops [⟨(some 3), (.move (.con .nils)), none⟩])
 (.seq (.seq (.ops [⟨(some 6), (.move (.tmp 0)), none⟩,
  ⟨(some 7), (.len .slice (.tmp 6)), none⟩,
  ⟨(some 8), (.move (.con (.int .i64 0))), none⟩])
 (.block 0 (.loop (.seq (.ops [⟨(some 9), (.bin .lss (.tmp 8) (.tmp 7)), none⟩])
 (.seq (.cond (.tmp 9)
 .skip
 (.exit 0))
 (.seq (.block 1 (.seq (.ops [⟨(some 10), (.iaddr 1 (.tmp 6) (.tmp 8)), none⟩,
  ⟨(some 11), (.load none (.tmp 10)), none⟩,
  ⟨(some 5), (.move (.tmp 11)), none⟩])
 (.ops [⟨(some 12), (.move (.tmp 3)), none⟩,
  ⟨(some 13), (.move (.tmp 5)), none⟩,
  ⟨(some 14), (.conv .u64 (.tmp 13)), none⟩,
  ⟨(some 15), (.call 40 [(.tmp 14)]), none⟩,
  ⟨(some 16), (.append 5 1 1 (.tmp 12) (.tmp 15)), none⟩,
  ⟨(some 3), (.move (.tmp 16)), none⟩])))
 (.ops [⟨(some 17), (.bin .add (.tmp 8) (.con (.int .i64 1))), none⟩,
  ⟨(some 8), (.move (.tmp 17)), none⟩])))))))
 (.seq (.ops [⟨(some 18), (.move (.tmp 3)), none⟩,
  ⟨(some 2), (.move (.tmp 18)), none⟩])
 .ret))))
theorem fn31 : fnCode Try.prog 31 = some (19, code31, [.tmp 2]) := by kernel_rfl

/-- emissary/frame.Put -/
def code32 : ACode :=
 (.seq (.ops [⟨(some 4), (.move (.con .nils)), none⟩,
  ⟨(some 5), (.move (.con (.bool false))), none⟩])
 (.seq (.seq (.ops [⟨(some 9), (.move (.tmp 1)), none⟩,
  ⟨(some 10), (.len .slice (.tmp 9)), none⟩,
  ⟨(some 11), (.bin .gtr (.tmp 10) (.con (.int .i64 4000))), none⟩])
 (.cond (.tmp 11)
 (.seq (.ops [⟨(some 4), (.move (.con .nils)), none⟩,
  ⟨(some 5), (.move (.con (.bool false))), none⟩])
 .ret)
 .skip))
 (.seq (.ops [⟨(some 12), (.move (.tmp 0)), none⟩,
  ⟨(some 13), (.bslice 5 1 1 [(.int .u8 0)] [(0, 1, (.tmp 12))]), none⟩,
  ⟨(some 14), (.move (.tmp 1)), none⟩,
  ⟨(some 15), (.len .slice (.tmp 14)), none⟩,
  ⟨(some 16), (.conv .u64 (.tmp 15)), none⟩,
  ⟨(some 17), (.call 40 [(.tmp 16)]), none⟩,
  ⟨(some 18), (.append 5 1 1 (.tmp 13) (.tmp 17)), none⟩,
  ⟨(some 6), (.move (.tmp 18)), none⟩])
 (.seq (.ops [⟨(some 19), (.move (.tmp 6)), none⟩,
  ⟨(some 20), (.move (.tmp 1)), none⟩,
  ⟨(some 21), (.append 5 1 1 (.tmp 19) (.tmp 20)), none⟩,
  ⟨(some 6), (.move (.tmp 21)), none⟩])
 (.seq (.ops [⟨(some 22), (.move (.tmp 6)), none⟩,
  ⟨(some 23), (.bslice 22 1 1 [.nils] [(0, 1, (.tmp 22))]), none⟩,
  ⟨(some 24), (.call 41 [(.tmp 23)]), none⟩,
  ⟨(some 7), (.move (.tmp 24)), none⟩])
 (.seq (.seq (.ops [⟨(some 25), (.move (.con (.int .i64 0))), none⟩])
 (.block 0 (.loop (.seq (.ops [⟨(some 26), (.bin .lss (.tmp 25) (.con (.int .i64 4))), none⟩])
 (.seq (.cond (.tmp 26)
 .skip
 (.exit 0))
 (.seq (.block 1 (.seq (.ops [⟨(some 27), (.move (.tmp 25)), none⟩,
  ⟨(some 8), (.move (.tmp 27)), none⟩])
 (.ops [⟨(some 28), (.move (.tmp 6)), none⟩,
  ⟨(some 29), (.move (.tmp 7)), none⟩,
  ⟨(some 30), (.move (.tmp 8)), none⟩,
  ⟨(some 31), (.bin .sub (.con (.int .i64 3)) (.tmp 30)), none⟩,
  ⟨(some 32), (.bin .mul (.con (.int .i64 8)) (.tmp 31)), none⟩,
  ⟨(some 33), (.bin .shr (.tmp 29) (.tmp 32)), none⟩,
  ⟨(some 34), (.conv .u8 (.tmp 33)), none⟩,
  ⟨(some 35), (.bslice 5 1 1 [(.int .u8 0)] [(0, 1, (.tmp 34))]), none⟩,
  ⟨(some 36), (.append 5 1 1 (.tmp 28) (.tmp 35)), none⟩,
  ⟨(some 6), (.move (.tmp 36)), none⟩])))
 (.ops [⟨(some 37), (.bin .add (.tmp 25) (.con (.int .i64 1))), none⟩,
  ⟨(some 25), (.move (.tmp 37)), none⟩])))))))
 (.seq (.ops [⟨(some 38), (.move (.tmp 6)), none⟩,
  ⟨(some 4), (.move (.tmp 38)), none⟩,
  ⟨(some 5), (.move (.con (.bool true))), none⟩])
 .ret)))))))
theorem fn32 : fnCode Try.prog 32 = some (39, code32, [.tmp 4, .tmp 5]) := by kernel_rfl

/-- emissary/varint.Put -/
def code40 : ACode :=
 (.seq (.ops [⟨(some 2), (.move (.con .nils)), none⟩])
 (.seq (.ops [⟨(some 3), (.move (.con .nils)), none⟩])
 (.seq (.block 0 (.loop (.seq (.seq (.ops [⟨(some 4), (.move (.tmp 0)), none⟩,
  ⟨(some 5), (.bin .geq (.tmp 4) (.con (.int .u64 128))), none⟩])
 (.cond (.tmp 5)
 .skip
 (.exit 0)))
 (.block 1 (.seq (.ops [⟨(some 6), (.move (.tmp 3)), none⟩,
  ⟨(some 7), (.move (.tmp 0)), none⟩,
  ⟨(some 8), (.conv .u8 (.tmp 7)), none⟩,
  ⟨(some 9), (.bin .or (.tmp 8) (.con (.int .u8 128))), none⟩,
  ⟨(some 10), (.bslice 5 1 1 [(.int .u8 0)] [(0, 1, (.tmp 9))]), none⟩,
  ⟨(some 11), (.append 5 1 1 (.tmp 6) (.tmp 10)), none⟩,
  ⟨(some 3), (.move (.tmp 11)), none⟩])
 (.ops [⟨(some 12), (.move (.tmp 0)), none⟩,
  ⟨(some 13), (.bin .shr (.tmp 12) (.con (.int .u64 7))), none⟩,
  ⟨(some 0), (.move (.tmp 13)), none⟩]))))))
 (.seq (.ops [⟨(some 14), (.move (.tmp 3)), none⟩,
  ⟨(some 15), (.move (.tmp 0)), none⟩,
  ⟨(some 16), (.conv .u8 (.tmp 15)), none⟩,
  ⟨(some 17), (.bslice 5 1 1 [(.int .u8 0)] [(0, 1, (.tmp 16))]), none⟩,
  ⟨(some 18), (.append 5 1 1 (.tmp 14) (.tmp 17)), none⟩,
  ⟨(some 2), (.move (.tmp 18)), none⟩])
 .ret))))
theorem fn40 : fnCode Try.prog 40 = some (19, code40, [.tmp 2]) := by kernel_rfl

/-- emissary/sum.Adler -/
def code41 : ACode :=
 (.seq (.ops [⟨(some 2), (.move (.con (.int .u32 0))), none⟩])
 (.seq (.ops [⟨(some 3), (.move (.con (.int .u32 1))), none⟩,
  ⟨(some 4), (.move (.con (.int .u32 0))), none⟩])
 (.seq (.seq (.ops [⟨(some 9), (.move (.tmp 0)), none⟩,
  ⟨(some 10), (.len .slice (.tmp 9)), none⟩,
  ⟨(some 11), (.move (.con (.int .i64 0))), none⟩])
 (.block 0 (.loop (.seq (.ops [⟨(some 12), (.bin .lss (.tmp 11) (.tmp 10)), none⟩])
 (.seq (.cond (.tmp 12)
 .skip
 (.exit 0))
 (.seq (.block 1 (.seq (.ops [⟨(some 13), (.iaddr 1 (.tmp 9) (.tmp 11)), none⟩,
  ⟨(some 14), (.load none (.tmp 13)), none⟩,
  ⟨(some 6), (.move (.tmp 14)), none⟩])
 (.seq (.ops [⟨(some 15), (.move (.tmp 6)), none⟩,
  ⟨(some 16), (.len .slice (.tmp 15)), none⟩,
  ⟨(some 17), (.move (.con (.int .i64 0))), none⟩])
 (.block 2 (.loop (.seq (.ops [⟨(some 18), (.bin .lss (.tmp 17) (.tmp 16)), none⟩])
 (.seq (.cond (.tmp 18)
 .skip
 (.exit 2))
 (.seq (.block 3 (.seq (.ops [⟨(some 19), (.iaddr 1 (.tmp 15) (.tmp 17)), none⟩,
  ⟨(some 20), (.load none (.tmp 19)), none⟩,
  ⟨(some 8), (.move (.tmp 20)), none⟩])
 (.seq (.ops [⟨(some 21), (.move (.tmp 3)), none⟩,
  ⟨(some 22), (.move (.tmp 8)), none⟩,
  ⟨(some 23), (.conv .u32 (.tmp 22)), none⟩,
  ⟨(some 24), (.bin .add (.tmp 21) (.tmp 23)), none⟩,
  ⟨(some 25), (.bin .rem (.tmp 24) (.con (.int .u32 65521))), none⟩,
  ⟨(some 3), (.move (.tmp 25)), none⟩])
 (.ops [⟨(some 26), (.move (.tmp 4)), none⟩,
  ⟨(some 27), (.move (.tmp 3)), none⟩,
  ⟨(some 28), (.bin .add (.tmp 26) (.tmp 27)), none⟩,
  ⟨(some 29), (.bin .rem (.tmp 28) (.con (.int .u32 65521))), none⟩,
  ⟨(some 4), (.move (.tmp 29)), none⟩]))))
 (.ops [⟨(some 30), (.bin .add (.tmp 17) (.con (.int .i64 1))), none⟩,
  ⟨(some 17), (.move (.tmp 30)), none⟩])))))))))
 (.ops [⟨(some 31), (.bin .add (.tmp 11) (.con (.int .i64 1))), none⟩,
  ⟨(some 11), (.move (.tmp 31)), none⟩])))))))
 (.seq (.ops [⟨(some 32), (.move (.tmp 4)), none⟩,
  ⟨(some 33), (.bin .shl (.tmp 32) (.con (.int .u64 16))), none⟩,
  ⟨(some 34), (.move (.tmp 3)), none⟩,
  ⟨(some 35), (.bin .add (.tmp 33) (.tmp 34)), none⟩,
  ⟨(some 2), (.move (.tmp 35)), none⟩])
 .ret))))
theorem fn41 : fnCode Try.prog 41 = some (36, code41, [.tmp 2]) := by kernel_rfl

/-- bytes.HasPrefix -/
def code46 : ACode :=
 (.seq (.ops [⟨(some 4), (.move (.con (.bool false))), none⟩])
 (.seq (.ops [⟨(some 5), (.move (.tmp 0)), none⟩,
  ⟨(some 6), (.len .slice (.tmp 5)), none⟩,
  ⟨(some 7), (.move (.tmp 1)), none⟩,
  ⟨(some 8), (.len .slice (.tmp 7)), none⟩,
  ⟨(some 9), (.bin .geq (.tmp 6) (.tmp 8)), none⟩,
  ⟨(some 10), (.move (.tmp 9)), none⟩,
  ⟨(some 11), (.move (.tmp 0)), some (10, true)⟩,
  ⟨(some 12), (.move (.tmp 1)), some (10, true)⟩,
  ⟨(some 13), (.len .slice (.tmp 12)), some (10, true)⟩,
  ⟨(some 14), (.slice 1 (.tmp 11) none (some (.tmp 13)) none), some (10, true)⟩,
  ⟨(some 15), (.move (.tmp 1)), some (10, true)⟩,
  ⟨(some 16), (.call 50 [(.tmp 14), (.tmp 15)]), some (10, true)⟩,
  ⟨(some 17), (.pick (.tmp 10) (.tmp 16) (.con (.bool false))), none⟩,
  ⟨(some 4), (.move (.tmp 17)), none⟩])
 .ret))
theorem fn46 : fnCode Try.prog 46 = some (18, code46, [.tmp 4]) := by kernel_rfl

/-- bytes.Equal -/
def code50 : ACode :=
 (.seq (.ops [⟨(some 4), (.move (.con (.bool false))), none⟩])
 (.seq (.ops [⟨(some 5), (.move (.tmp 0)), none⟩,
  ⟨(some 6), (.b2s (.tmp 5)), none⟩,
  ⟨(some 7), (.move (.tmp 1)), none⟩,
  ⟨(some 8), (.b2s (.tmp 7)), none⟩,
  ⟨(some 9), (.bin .eql (.tmp 6) (.tmp 8)), none⟩,
  ⟨(some 4), (.move (.tmp 9)), none⟩])
 .ret))
theorem fn50 : fnCode Try.prog 50 = some (10, code50, [.tmp 4]) := by kernel_rfl

/-- emissary/server.Answer -/
def code27 : ACode :=
 (.seq (.ops [⟨(some 2), (.alloc 34 [(.int .i64 0), (.int .i64 0), (.int .i64 0), .nils]), none⟩,
  ⟨(some 3), (.move (.con (.bool false))), none⟩])
 (.seq (.ops [⟨(some 6), (.move (.tmp 0)), none⟩,
  ⟨(some 7), (.call 33 [(.tmp 6), (.con (.int .u8 2))]), none⟩,
  ⟨(some 4), (.move (.tmp 7)), none⟩])
 (.seq (.ops [⟨(some 8), (.move (.tmp 4)), none⟩,
  ⟨(some 9), (.call 34 [(.tmp 8)]), none⟩,
  ⟨(some 10), (.move (.tmp 4)), none⟩,
  ⟨(some 11), (.call 35 [(.tmp 10), (.con (.int .u64 12))]), none⟩,
  ⟨(some 12), (.build [(.int .i64 0), (.int .i64 0), (.int .i64 0), .nils] [(0, 2, (.tmp 9)), (2, 1, (.tmp 11))]), none⟩,
  ⟨(some 5), (.alloc 34 [(.int .i64 0), (.int .i64 0), (.int .i64 0), .nils]), none⟩,
  ⟨none, (.store 4 (.tmp 5) (.tmp 12)), none⟩])
 (.seq (.seq (.ops [⟨(some 13), (.move (.tmp 4)), none⟩,
  ⟨(some 14), (.nilc (.tmp 13)), none⟩,
  ⟨(some 15), (.faddr 1 none (.tmp 14)), none⟩,
  ⟨(some 16), (.load none (.tmp 15)), none⟩,
  ⟨(some 17), (.un .not (.tmp 16)), none⟩,
  ⟨(some 18), (.move (.tmp 17)), none⟩,
  ⟨(some 19), (.faddr 2 none (.tmp 5)), some (18, false)⟩,
  ⟨(some 20), (.load none (.tmp 19)), some (18, false)⟩,
  ⟨(some 21), (.bin .neq (.tmp 20) (.con (.int .i64 0))), some (18, false)⟩,
  ⟨(some 22), (.move (.tmp 21)), some (18, false)⟩,
  ⟨(some 23), (.move (.tmp 4)), some (22, true)⟩,
  ⟨(some 24), (.nilc (.tmp 23)), some (22, true)⟩,
  ⟨(some 25), (.faddr 0 none (.tmp 24)), some (22, true)⟩,
  ⟨(some 26), (.load none (.tmp 25)), some (22, true)⟩,
  ⟨(some 27), (.len .slice (.tmp 26)), some (22, true)⟩,
  ⟨(some 28), (.bin .gtr (.tmp 27) (.con (.int .i64 0))), some (22, true)⟩,
  ⟨(some 29), (.pick (.tmp 22) (.tmp 28) (.con (.bool false))), some (18, false)⟩,
  ⟨(some 30), (.pick (.tmp 18) (.con (.bool true)) (.tmp 29)), none⟩])
 (.cond (.tmp 30)
 (.seq (.ops [⟨(some 31), (.build [(.int .i64 0), (.int .i64 0), (.int .i64 0), .nils] []), none⟩,
  ⟨none, (.store 4 (.tmp 2) (.tmp 31)), none⟩,
  ⟨(some 3), (.move (.con (.bool false))), none⟩])
 .ret)
 .skip))
 (.seq (.ops [⟨(some 32), (.move (.tmp 4)), none⟩,
  ⟨(some 33), (.nilc (.tmp 32)), none⟩,
  ⟨(some 34), (.faddr 0 none (.tmp 33)), none⟩,
  ⟨(some 35), (.load none (.tmp 34)), none⟩,
  ⟨(some 36), (.call 24 [(.tmp 35)]), none⟩,
  ⟨(some 37), (.faddr 3 none (.tmp 5)), none⟩,
  ⟨none, (.store 1 (.tmp 37) (.tmp 36)), none⟩])
 (.seq (.ops [⟨(some 38), (.load (some 4) (.tmp 5)), none⟩,
  ⟨none, (.store 4 (.tmp 2) (.tmp 38)), none⟩,
  ⟨(some 3), (.move (.con (.bool true))), none⟩])
 .ret))))))
theorem fn27 : fnCode Try.prog 27 = some (39, code27, [.cell 2 (some 4), .tmp 3]) := by kernel_rfl

/-- emissary/emissaryref25.Request -/
def code28 : ACode :=
 (.seq (.ops [⟨(some 3), (.box 31 2 (.tmp 0)), none⟩,
  ⟨(some 6), (.move (.con .nils)), none⟩,
  ⟨(some 7), (.move (.con (.bool false))), none⟩])
 (.seq (.seq (.ops [⟨(some 10), (.load (some 2) (.tmp 3)), none⟩,
  ⟨(some 11), (.call 36 [(.tmp 10)]), none⟩,
  ⟨(some 12), (.un .not (.tmp 11)), none⟩])
 (.cond (.tmp 12)
 (.seq (.ops [⟨(some 6), (.move (.con .nils)), none⟩,
  ⟨(some 7), (.move (.con (.bool false))), none⟩])
 .ret)
 .skip))
 (.seq (.ops [⟨(some 13), (.load (some 2) (.tmp 3)), none⟩,
  ⟨(some 14), (.call 37 [(.tmp 13)]), none⟩,
  ⟨(some 8), (.move (.tmp 14)), none⟩])
 (.seq (.seq (.ops [⟨(some 9), (.move (.con (.int .i64 7))), none⟩])
 (.block 0 (.loop (.seq (.seq (.ops [⟨(some 15), (.move (.tmp 9)), none⟩,
  ⟨(some 16), (.bin .geq (.tmp 15) (.con (.int .i64 0))), none⟩])
 (.cond (.tmp 16)
 .skip
 (.exit 0)))
 (.seq (.block 1 (.ops [⟨(some 19), (.move (.tmp 8)), none⟩,
  ⟨(some 20), (.move (.tmp 1)), none⟩,
  ⟨(some 21), (.move (.tmp 9)), none⟩,
  ⟨(some 22), (.bin .mul (.con (.int .i64 8)) (.tmp 21)), none⟩,
  ⟨(some 23), (.conv .u64 (.tmp 22)), none⟩,
  ⟨(some 24), (.bin .shr (.tmp 20) (.tmp 23)), none⟩,
  ⟨(some 25), (.conv .u8 (.tmp 24)), none⟩,
  ⟨(some 26), (.bslice 5 1 1 [(.int .u8 0)] [(0, 1, (.tmp 25))]), none⟩,
  ⟨(some 27), (.append 5 1 1 (.tmp 19) (.tmp 26)), none⟩,
  ⟨(some 8), (.move (.tmp 27)), none⟩]))
 (.ops [⟨(some 17), (.move (.tmp 9)), none⟩,
  ⟨(some 18), (.bin .sub (.tmp 17) (.con (.int .i64 1))), none⟩,
  ⟨(some 9), (.move (.tmp 18)), none⟩]))))))
 (.seq (.ops [⟨(some 28), (.move (.tmp 8)), none⟩,
  ⟨(some 29), (.move (.tmp 2)), none⟩,
  ⟨(some 30), (.append 5 1 1 (.tmp 28) (.tmp 29)), none⟩,
  ⟨(some 31), (.call 10 [(.con (.int .u8 1)), (.tmp 30)]), none⟩,
  ⟨(some 32), (.extract 0 (.tmp 31)), none⟩,
  ⟨(some 33), (.extract 1 (.tmp 31)), none⟩,
  ⟨(some 6), (.move (.tmp 32)), none⟩,
  ⟨(some 7), (.move (.tmp 33)), none⟩])
 .ret)))))
theorem fn28 : fnCode Try.prog 28 = some (34, code28, [.tmp 6, .tmp 7]) := by kernel_rfl

/-- emissary/emissaryref25.Answer -/
def code29 : ACode :=
 (.seq (.ops [⟨(some 2), (.alloc 34 [(.int .i64 0), (.int .i64 0), (.int .i64 0), .nils]), none⟩,
  ⟨(some 3), (.move (.con (.bool false))), none⟩])
 (.seq (.ops [⟨(some 11), (.move (.tmp 0)), none⟩,
  ⟨(some 12), (.call 38 [(.tmp 11), (.con (.int .u8 2))]), none⟩,
  ⟨(some 10), (.move (.tmp 12)), none⟩,
  ⟨(some 13), (.extract 0 (.tmp 10)), none⟩,
  ⟨(some 14), (.extract 1 (.tmp 10)), none⟩,
  ⟨(some 15), (.extract 2 (.tmp 10)), none⟩,
  ⟨(some 4), (.alloc 31 [(.int .i64 0), (.int .i64 0)]), none⟩,
  ⟨none, (.store 2 (.tmp 4) (.tmp 13)), none⟩,
  ⟨(some 5), (.move (.tmp 14)), none⟩,
  ⟨(some 6), (.move (.tmp 15)), none⟩])
 (.seq (.ops [⟨(some 17), (.move (.tmp 5)), none⟩,
  ⟨(some 18), (.call 39 [(.tmp 17)]), none⟩,
  ⟨(some 16), (.move (.tmp 18)), none⟩,
  ⟨(some 19), (.extract 0 (.tmp 16)), none⟩,
  ⟨(some 20), (.extract 1 (.tmp 16)), none⟩,
  ⟨(some 21), (.extract 2 (.tmp 16)), none⟩,
  ⟨(some 7), (.move (.tmp 19)), none⟩,
  ⟨(some 8), (.move (.tmp 20)), none⟩,
  ⟨(some 9), (.move (.tmp 21)), none⟩])
 (.seq (.seq (.ops [⟨(some 22), (.move (.tmp 6)), none⟩,
  ⟨(some 23), (.un .not (.tmp 22)), none⟩,
  ⟨(some 24), (.move (.tmp 23)), none⟩,
  ⟨(some 25), (.move (.tmp 9)), some (24, false)⟩,
  ⟨(some 26), (.un .not (.tmp 25)), some (24, false)⟩,
  ⟨(some 27), (.pick (.tmp 24) (.con (.bool true)) (.tmp 26)), none⟩,
  ⟨(some 28), (.move (.tmp 27)), none⟩,
  ⟨(some 29), (.move (.tmp 7)), some (28, false)⟩,
  ⟨(some 30), (.bin .gtr (.tmp 29) (.con (.int .i64 12))), some (28, false)⟩,
  ⟨(some 31), (.pick (.tmp 28) (.con (.bool true)) (.tmp 30)), none⟩,
  ⟨(some 32), (.move (.tmp 31)), none⟩,
  ⟨(some 33), (.move (.tmp 7)), some (32, false)⟩,
  ⟨(some 34), (.bin .neq (.tmp 33) (.con (.int .i64 0))), some (32, false)⟩,
  ⟨(some 35), (.move (.tmp 34)), some (32, false)⟩,
  ⟨(some 36), (.move (.tmp 8)), some (35, true)⟩,
  ⟨(some 37), (.len .slice (.tmp 36)), some (35, true)⟩,
  ⟨(some 38), (.bin .gtr (.tmp 37) (.con (.int .i64 0))), some (35, true)⟩,
  ⟨(some 39), (.pick (.tmp 35) (.tmp 38) (.con (.bool false))), some (32, false)⟩,
  ⟨(some 40), (.pick (.tmp 32) (.con (.bool true)) (.tmp 39)), none⟩])
 (.cond (.tmp 40)
 (.seq (.ops [⟨(some 41), (.build [(.int .i64 0), (.int .i64 0), (.int .i64 0), .nils] []), none⟩,
  ⟨none, (.store 4 (.tmp 2) (.tmp 41)), none⟩,
  ⟨(some 3), (.move (.con (.bool false))), none⟩])
 .ret)
 .skip))
 (.seq (.ops [⟨(some 42), (.load (some 2) (.tmp 4)), none⟩,
  ⟨(some 43), (.move (.tmp 7)), none⟩,
  ⟨(some 44), (.move (.tmp 8)), none⟩,
  ⟨(some 45), (.build [(.int .i64 0), (.int .i64 0), (.int .i64 0), .nils] [(0, 2, (.tmp 42)), (2, 1, (.tmp 43)), (3, 1, (.tmp 44))]), none⟩,
  ⟨none, (.store 4 (.tmp 2) (.tmp 45)), none⟩,
  ⟨(some 3), (.move (.con (.bool true))), none⟩])
 .ret)))))
theorem fn29 : fnCode Try.prog 29 = some (46, code29, [.cell 2 (some 4), .tmp 3]) := by kernel_rfl

/-- emissary/server.Request -/
def code23 : ACode :=
 (.seq (.ops [⟨(some 3), (.box 31 2 (.tmp 0)), none⟩,
  ⟨(some 6), (.move (.con .nils)), none⟩,
  ⟨(some 7), (.move (.con (.bool false))), none⟩])
 (.seq (.seq (.ops [⟨(some 10), (.load (some 2) (.tmp 3)), none⟩,
  ⟨(some 11), (.call 30 [(.tmp 10)]), none⟩,
  ⟨(some 12), (.un .not (.tmp 11)), none⟩])
 (.cond (.tmp 12)
 (.seq (.ops [⟨(some 6), (.move (.con .nils)), none⟩,
  ⟨(some 7), (.move (.con (.bool false))), none⟩])
 .ret)
 .skip))
 (.seq (.ops [⟨(some 13), (.faddr 0 none (.tmp 3)), none⟩,
  ⟨(some 14), (.load none (.tmp 13)), none⟩,
  ⟨(some 15), (.faddr 1 none (.tmp 3)), none⟩,
  ⟨(some 16), (.load none (.tmp 15)), none⟩,
  ⟨(some 17), (.bslice 3 1 2 [(.int .i64 0), (.int .i64 0)] [(0, 1, (.tmp 14)), (1, 1, (.tmp 16))]), none⟩,
  ⟨(some 18), (.call 31 [(.tmp 17)]), none⟩,
  ⟨(some 8), (.move (.tmp 18)), none⟩])
 (.seq (.seq (.ops [⟨(some 19), (.move (.con (.int .i64 0))), none⟩])
 (.block 0 (.loop (.seq (.ops [⟨(some 20), (.bin .lss (.tmp 19) (.con (.int .i64 8))), none⟩])
 (.seq (.cond (.tmp 20)
 .skip
 (.exit 0))
 (.seq (.block 1 (.seq (.ops [⟨(some 21), (.move (.tmp 19)), none⟩,
  ⟨(some 9), (.move (.tmp 21)), none⟩])
 (.ops [⟨(some 22), (.move (.tmp 8)), none⟩,
  ⟨(some 23), (.move (.tmp 1)), none⟩,
  ⟨(some 24), (.move (.tmp 9)), none⟩,
  ⟨(some 25), (.bin .sub (.con (.int .i64 7)) (.tmp 24)), none⟩,
  ⟨(some 26), (.bin .mul (.con (.int .i64 8)) (.tmp 25)), none⟩,
  ⟨(some 27), (.bin .shr (.tmp 23) (.tmp 26)), none⟩,
  ⟨(some 28), (.conv .u8 (.tmp 27)), none⟩,
  ⟨(some 29), (.bslice 5 1 1 [(.int .u8 0)] [(0, 1, (.tmp 28))]), none⟩,
  ⟨(some 30), (.append 5 1 1 (.tmp 22) (.tmp 29)), none⟩,
  ⟨(some 8), (.move (.tmp 30)), none⟩])))
 (.ops [⟨(some 31), (.bin .add (.tmp 19) (.con (.int .i64 1))), none⟩,
  ⟨(some 19), (.move (.tmp 31)), none⟩])))))))
 (.seq (.ops [⟨(some 32), (.move (.tmp 8)), none⟩,
  ⟨(some 33), (.move (.tmp 2)), none⟩,
  ⟨(some 34), (.append 5 1 1 (.tmp 32) (.tmp 33)), none⟩,
  ⟨(some 35), (.call 32 [(.con (.int .u8 1)), (.tmp 34)]), none⟩,
  ⟨(some 36), (.extract 0 (.tmp 35)), none⟩,
  ⟨(some 37), (.extract 1 (.tmp 35)), none⟩,
  ⟨(some 6), (.move (.tmp 36)), none⟩,
  ⟨(some 7), (.move (.tmp 37)), none⟩])
 .ret)))))
theorem fn23 : fnCode Try.prog 23 = some (38, code23, [.tmp 6, .tmp 7]) := by kernel_rfl

/-- emissary/server.isCall -/
def code30 : ACode :=
 (.seq (.ops [⟨(some 1), (.box 31 2 (.tmp 0)), none⟩,
  ⟨(some 2), (.move (.con (.bool false))), none⟩])
 (.seq (.ops [⟨(some 3), (.faddr 0 none (.tmp 1)), none⟩,
  ⟨(some 4), (.load none (.tmp 3)), none⟩,
  ⟨(some 5), (.bin .geq (.tmp 4) (.con (.int .i64 0))), none⟩,
  ⟨(some 6), (.move (.tmp 5)), none⟩,
  ⟨(some 7), (.faddr 0 none (.tmp 1)), some (6, true)⟩,
  ⟨(some 8), (.load none (.tmp 7)), some (6, true)⟩,
  ⟨(some 9), (.bin .leq (.tmp 8) (.con (.int .i64 2147483647))), some (6, true)⟩,
  ⟨(some 10), (.pick (.tmp 6) (.tmp 9) (.con (.bool false))), none⟩,
  ⟨(some 11), (.move (.tmp 10)), none⟩,
  ⟨(some 12), (.faddr 1 none (.tmp 1)), some (11, true)⟩,
  ⟨(some 13), (.load none (.tmp 12)), some (11, true)⟩,
  ⟨(some 14), (.bin .geq (.tmp 13) (.con (.int .i64 0))), some (11, true)⟩,
  ⟨(some 15), (.pick (.tmp 11) (.tmp 14) (.con (.bool false))), none⟩,
  ⟨(some 16), (.move (.tmp 15)), none⟩,
  ⟨(some 17), (.faddr 1 none (.tmp 1)), some (16, true)⟩,
  ⟨(some 18), (.load none (.tmp 17)), some (16, true)⟩,
  ⟨(some 19), (.bin .leq (.tmp 18) (.con (.int .i64 2147483647))), some (16, true)⟩,
  ⟨(some 20), (.pick (.tmp 16) (.tmp 19) (.con (.bool false))), none⟩,
  ⟨(some 2), (.move (.tmp 20)), none⟩])
 .ret))
theorem fn30 : fnCode Try.prog 30 = some (21, code30, [.tmp 2]) := by kernel_rfl

/-- emissary/server.whole -/
def code33 : ACode :=
 (.seq (.ops [⟨(some 4), (.move (.con .nilp)), none⟩])
 (.seq (.ops [⟨(some 10), (.move (.tmp 0)), none⟩,
  ⟨(some 11), (.call 42 [(.tmp 10)]), none⟩,
  ⟨(some 9), (.move (.tmp 11)), none⟩,
  ⟨(some 12), (.extract 0 (.tmp 9)), none⟩,
  ⟨(some 13), (.extract 1 (.tmp 9)), none⟩,
  ⟨(some 14), (.extract 2 (.tmp 9)), none⟩,
  ⟨(some 15), (.extract 3 (.tmp 9)), none⟩,
  ⟨(some 5), (.move (.tmp 12)), none⟩,
  ⟨(some 6), (.move (.tmp 13)), none⟩,
  ⟨(some 7), (.move (.tmp 14)), none⟩,
  ⟨(some 8), (.move (.tmp 15)), none⟩])
 (.seq (.ops [⟨(some 16), (.move (.tmp 6)), none⟩,
  ⟨(some 17), (.move (.tmp 8)), none⟩,
  ⟨(some 18), (.move (.tmp 17)), none⟩,
  ⟨(some 19), (.move (.tmp 5)), some (18, true)⟩,
  ⟨(some 20), (.move (.tmp 1)), some (18, true)⟩,
  ⟨(some 21), (.bin .eql (.tmp 19) (.tmp 20)), some (18, true)⟩,
  ⟨(some 22), (.pick (.tmp 18) (.tmp 21) (.con (.bool false))), none⟩,
  ⟨(some 23), (.move (.tmp 22)), none⟩,
  ⟨(some 24), (.move (.tmp 7)), some (23, true)⟩,
  ⟨(some 25), (.move (.tmp 0)), some (23, true)⟩,
  ⟨(some 26), (.len .slice (.tmp 25)), some (23, true)⟩,
  ⟨(some 27), (.bin .eql (.tmp 24) (.tmp 26)), some (23, true)⟩,
  ⟨(some 28), (.pick (.tmp 23) (.tmp 27) (.con (.bool false))), none⟩,
  ⟨(some 29), (.build [.nils, (.bool false)] [(0, 1, (.tmp 16)), (1, 1, (.tmp 28))]), none⟩,
  ⟨(some 30), (.box 69 2 (.tmp 29)), none⟩,
  ⟨(some 4), (.move (.tmp 30)), none⟩])
 .ret)))
theorem fn33 : fnCode Try.prog 33 = some (31, code33, [.tmp 4]) := by kernel_rfl

/-- (*emissary/server.reader).call -/
def code34 : ACode :=
 (.seq (.ops [⟨(some 2), (.alloc 31 [(.int .i64 0), (.int .i64 0)]), none⟩])
 (.seq (.ops [⟨(some 4), (.move (.tmp 0)), none⟩,
  ⟨(some 5), (.call 35 [(.tmp 4), (.con (.int .u64 2147483647))]), none⟩,
  ⟨(some 3), (.move (.tmp 5)), none⟩])
 (.seq (.ops [⟨(some 6), (.move (.tmp 3)), none⟩,
  ⟨(some 7), (.move (.tmp 0)), none⟩,
  ⟨(some 8), (.call 35 [(.tmp 7), (.con (.int .u64 2147483647))]), none⟩,
  ⟨(some 9), (.build [(.int .i64 0), (.int .i64 0)] [(0, 1, (.tmp 6)), (1, 1, (.tmp 8))]), none⟩,
  ⟨none, (.store 2 (.tmp 2) (.tmp 9)), none⟩])
 .ret)))
theorem fn34 : fnCode Try.prog 34 = some (10, code34, [.cell 2 (some 2)]) := by kernel_rfl

/-- (*emissary/server.reader).number -/
def code35 : ACode :=
 (.seq (.ops [⟨(some 4), (.move (.con (.int .i64 0))), none⟩])
 (.seq (.ops [⟨(some 9), (.move (.tmp 0)), none⟩,
  ⟨(some 10), (.nilc (.tmp 9)), none⟩,
  ⟨(some 11), (.faddr 0 none (.tmp 10)), none⟩,
  ⟨(some 12), (.load none (.tmp 11)), none⟩,
  ⟨(some 13), (.call 43 [(.tmp 12)]), none⟩,
  ⟨(some 8), (.move (.tmp 13)), none⟩,
  ⟨(some 14), (.extract 0 (.tmp 8)), none⟩,
  ⟨(some 15), (.extract 1 (.tmp 8)), none⟩,
  ⟨(some 16), (.extract 2 (.tmp 8)), none⟩,
  ⟨(some 5), (.move (.tmp 14)), none⟩,
  ⟨(some 6), (.move (.tmp 15)), none⟩,
  ⟨(some 7), (.move (.tmp 16)), none⟩])
 (.seq (.ops [⟨(some 17), (.move (.tmp 0)), none⟩,
  ⟨(some 18), (.move (.tmp 0)), none⟩,
  ⟨(some 19), (.nilc (.tmp 18)), none⟩,
  ⟨(some 20), (.faddr 1 none (.tmp 19)), none⟩,
  ⟨(some 21), (.load none (.tmp 20)), none⟩,
  ⟨(some 22), (.move (.tmp 21)), none⟩,
  ⟨(some 23), (.move (.tmp 7)), some (22, true)⟩,
  ⟨(some 24), (.pick (.tmp 22) (.tmp 23) (.con (.bool false))), none⟩,
  ⟨(some 25), (.move (.tmp 24)), none⟩,
  ⟨(some 26), (.move (.tmp 5)), some (25, true)⟩,
  ⟨(some 27), (.move (.tmp 1)), some (25, true)⟩,
  ⟨(some 28), (.bin .leq (.tmp 26) (.tmp 27)), some (25, true)⟩,
  ⟨(some 29), (.pick (.tmp 25) (.tmp 28) (.con (.bool false))), none⟩,
  ⟨(some 30), (.nilc (.tmp 17)), none⟩,
  ⟨(some 31), (.faddr 1 none (.tmp 30)), none⟩,
  ⟨none, (.store 1 (.tmp 31) (.tmp 29)), none⟩])
 (.seq (.ops [⟨(some 32), (.move (.tmp 0)), none⟩,
  ⟨(some 33), (.move (.tmp 0)), none⟩,
  ⟨(some 34), (.nilc (.tmp 33)), none⟩,
  ⟨(some 35), (.faddr 0 none (.tmp 34)), none⟩,
  ⟨(some 36), (.load none (.tmp 35)), none⟩,
  ⟨(some 37), (.move (.tmp 6)), none⟩,
  ⟨(some 38), (.slice 1 (.tmp 36) (some (.tmp 37)) none none), none⟩,
  ⟨(some 39), (.nilc (.tmp 32)), none⟩,
  ⟨(some 40), (.faddr 0 none (.tmp 39)), none⟩,
  ⟨none, (.store 1 (.tmp 40) (.tmp 38)), none⟩])
 (.seq (.seq (.ops [⟨(some 41), (.move (.tmp 0)), none⟩,
  ⟨(some 42), (.nilc (.tmp 41)), none⟩,
  ⟨(some 43), (.faddr 1 none (.tmp 42)), none⟩,
  ⟨(some 44), (.load none (.tmp 43)), none⟩,
  ⟨(some 45), (.un .not (.tmp 44)), none⟩])
 (.cond (.tmp 45)
 (.seq (.ops [⟨(some 4), (.move (.con (.int .i64 0))), none⟩])
 .ret)
 .skip))
 (.seq (.ops [⟨(some 46), (.move (.tmp 5)), none⟩,
  ⟨(some 47), (.conv .i64 (.tmp 46)), none⟩,
  ⟨(some 4), (.move (.tmp 47)), none⟩])
 .ret))))))
theorem fn35 : fnCode Try.prog 35 = some (48, code35, [.tmp 4]) := by kernel_rfl

/-- emissary/emissaryref25.is -/
def code36 : ACode :=
 (.seq (.ops [⟨(some 1), (.box 31 2 (.tmp 0)), none⟩,
  ⟨(some 2), (.move (.con (.bool false))), none⟩])
 (.seq (.ops [⟨(some 3), (.faddr 0 none (.tmp 1)), none⟩,
  ⟨(some 4), (.load none (.tmp 3)), none⟩,
  ⟨(some 5), (.bin .geq (.tmp 4) (.con (.int .i64 0))), none⟩,
  ⟨(some 6), (.move (.tmp 5)), none⟩,
  ⟨(some 7), (.faddr 0 none (.tmp 1)), some (6, true)⟩,
  ⟨(some 8), (.load none (.tmp 7)), some (6, true)⟩,
  ⟨(some 9), (.bin .lss (.tmp 8) (.con (.int .i64 2147483648))), some (6, true)⟩,
  ⟨(some 10), (.pick (.tmp 6) (.tmp 9) (.con (.bool false))), none⟩,
  ⟨(some 11), (.move (.tmp 10)), none⟩,
  ⟨(some 12), (.faddr 1 none (.tmp 1)), some (11, true)⟩,
  ⟨(some 13), (.load none (.tmp 12)), some (11, true)⟩,
  ⟨(some 14), (.bin .geq (.tmp 13) (.con (.int .i64 0))), some (11, true)⟩,
  ⟨(some 15), (.pick (.tmp 11) (.tmp 14) (.con (.bool false))), none⟩,
  ⟨(some 16), (.move (.tmp 15)), none⟩,
  ⟨(some 17), (.faddr 1 none (.tmp 1)), some (16, true)⟩,
  ⟨(some 18), (.load none (.tmp 17)), some (16, true)⟩,
  ⟨(some 19), (.bin .lss (.tmp 18) (.con (.int .i64 2147483648))), some (16, true)⟩,
  ⟨(some 20), (.pick (.tmp 16) (.tmp 19) (.con (.bool false))), none⟩,
  ⟨(some 2), (.move (.tmp 20)), none⟩])
 .ret))
theorem fn36 : fnCode Try.prog 36 = some (21, code36, [.tmp 2]) := by kernel_rfl

/-- emissary/emissaryref25.call -/
def code37 : ACode :=
 (.seq (.ops [⟨(some 1), (.box 31 2 (.tmp 0)), none⟩,
  ⟨(some 2), (.move (.con .nils)), none⟩])
 (.seq (.draw (.take ⟨(some 3), (.faddr 0 none (.tmp 1)), none⟩
  (.take ⟨(some 4), (.load none (.tmp 3)), none⟩
  (.take ⟨(some 5), (.conv .u64 (.tmp 4)), none⟩
  (.take ⟨(some 7), (.faddr 1 none (.tmp 1)), none⟩
  (.take ⟨(some 8), (.load none (.tmp 7)), none⟩
  (.take ⟨(some 9), (.conv .u64 (.tmp 8)), none⟩
  (.only ⟨(some 6), (.call 25 [(.tmp 5)]), none⟩ true
  (.only ⟨(some 10), (.call 25 [(.tmp 9)]), none⟩ true
  (.only ⟨(some 11), (.append 5 1 1 (.tmp 6) (.tmp 10)), none⟩ true
  (.take ⟨(some 2), (.move (.tmp 11)), none⟩
  .nil)))))))))))
 .ret))
theorem fn37 : fnCode Try.prog 37 = some (12, code37, [.tmp 2]) := by kernel_rfl

/-- emissary/emissaryref25.body -/
def code38 : ACode :=
 (.seq (.ops [⟨(some 4), (.alloc 31 [(.int .i64 0), (.int .i64 0)]), none⟩,
  ⟨(some 5), (.move (.con .nils)), none⟩,
  ⟨(some 6), (.move (.con (.bool false))), none⟩])
 (.seq (.ops [⟨(some 17), (.move (.tmp 0)), none⟩,
  ⟨(some 18), (.call 44 [(.tmp 17)]), none⟩,
  ⟨(some 16), (.move (.tmp 18)), none⟩,
  ⟨(some 19), (.extract 0 (.tmp 16)), none⟩,
  ⟨(some 20), (.extract 1 (.tmp 16)), none⟩,
  ⟨(some 21), (.extract 2 (.tmp 16)), none⟩,
  ⟨(some 22), (.extract 3 (.tmp 16)), none⟩,
  ⟨(some 7), (.move (.tmp 19)), none⟩,
  ⟨(some 8), (.move (.tmp 20)), none⟩,
  ⟨(some 9), (.move (.tmp 21)), none⟩,
  ⟨(some 10), (.move (.tmp 22)), none⟩])
 (.seq (.seq (.ops [⟨(some 23), (.move (.tmp 10)), none⟩,
  ⟨(some 24), (.un .not (.tmp 23)), none⟩,
  ⟨(some 25), (.move (.tmp 24)), none⟩,
  ⟨(some 26), (.move (.tmp 7)), some (25, false)⟩,
  ⟨(some 27), (.move (.tmp 1)), some (25, false)⟩,
  ⟨(some 28), (.bin .neq (.tmp 26) (.tmp 27)), some (25, false)⟩,
  ⟨(some 29), (.pick (.tmp 25) (.con (.bool true)) (.tmp 28)), none⟩,
  ⟨(some 30), (.move (.tmp 29)), none⟩,
  ⟨(some 31), (.move (.tmp 9)), some (30, false)⟩,
  ⟨(some 32), (.move (.tmp 0)), some (30, false)⟩,
  ⟨(some 33), (.len .slice (.tmp 32)), some (30, false)⟩,
  ⟨(some 34), (.bin .neq (.tmp 31) (.tmp 33)), some (30, false)⟩,
  ⟨(some 35), (.pick (.tmp 30) (.con (.bool true)) (.tmp 34)), none⟩])
 (.cond (.tmp 35)
 (.seq (.ops [⟨(some 36), (.build [(.int .i64 0), (.int .i64 0)] []), none⟩,
  ⟨none, (.store 2 (.tmp 4) (.tmp 36)), none⟩,
  ⟨(some 5), (.move (.con .nils)), none⟩,
  ⟨(some 6), (.move (.con (.bool false))), none⟩])
 .ret)
 .skip))
 (.seq (.ops [⟨(some 38), (.move (.tmp 8)), none⟩,
  ⟨(some 39), (.call 39 [(.tmp 38)]), none⟩,
  ⟨(some 37), (.move (.tmp 39)), none⟩,
  ⟨(some 40), (.extract 0 (.tmp 37)), none⟩,
  ⟨(some 41), (.extract 1 (.tmp 37)), none⟩,
  ⟨(some 42), (.extract 2 (.tmp 37)), none⟩,
  ⟨(some 11), (.move (.tmp 40)), none⟩,
  ⟨(some 8), (.move (.tmp 41)), none⟩,
  ⟨(some 12), (.move (.tmp 42)), none⟩])
 (.seq (.ops [⟨(some 44), (.move (.tmp 8)), none⟩,
  ⟨(some 45), (.call 39 [(.tmp 44)]), none⟩,
  ⟨(some 43), (.move (.tmp 45)), none⟩,
  ⟨(some 46), (.extract 0 (.tmp 43)), none⟩,
  ⟨(some 47), (.extract 1 (.tmp 43)), none⟩,
  ⟨(some 48), (.extract 2 (.tmp 43)), none⟩,
  ⟨(some 13), (.move (.tmp 46)), none⟩,
  ⟨(some 14), (.move (.tmp 47)), none⟩,
  ⟨(some 15), (.move (.tmp 48)), none⟩])
 (.seq (.ops [⟨(some 49), (.move (.tmp 11)), none⟩,
  ⟨(some 50), (.move (.tmp 13)), none⟩,
  ⟨(some 51), (.build [(.int .i64 0), (.int .i64 0)] [(0, 1, (.tmp 49)), (1, 1, (.tmp 50))]), none⟩,
  ⟨(some 52), (.move (.tmp 14)), none⟩,
  ⟨(some 53), (.move (.tmp 12)), none⟩,
  ⟨(some 54), (.move (.tmp 53)), none⟩,
  ⟨(some 55), (.move (.tmp 15)), some (54, true)⟩,
  ⟨(some 56), (.pick (.tmp 54) (.tmp 55) (.con (.bool false))), none⟩,
  ⟨none, (.store 2 (.tmp 4) (.tmp 51)), none⟩,
  ⟨(some 5), (.move (.tmp 52)), none⟩,
  ⟨(some 6), (.move (.tmp 56)), none⟩])
 .ret))))))
theorem fn38 : fnCode Try.prog 38 = some (57, code38, [.cell 4 (some 2), .tmp 5, .tmp 6]) := by kernel_rfl

/-- emissary/emissaryref25.number -/
def code39 : ACode :=
 (.seq (.ops [⟨(some 2), (.move (.con (.int .i64 0))), none⟩,
  ⟨(some 3), (.move (.con .nils)), none⟩,
  ⟨(some 4), (.move (.con (.bool false))), none⟩])
 (.seq (.ops [⟨(some 9), (.move (.tmp 0)), none⟩,
  ⟨(some 10), (.call 45 [(.tmp 9)]), none⟩,
  ⟨(some 8), (.move (.tmp 10)), none⟩,
  ⟨(some 11), (.extract 0 (.tmp 8)), none⟩,
  ⟨(some 12), (.extract 1 (.tmp 8)), none⟩,
  ⟨(some 13), (.extract 2 (.tmp 8)), none⟩,
  ⟨(some 5), (.move (.tmp 11)), none⟩,
  ⟨(some 6), (.move (.tmp 12)), none⟩,
  ⟨(some 7), (.move (.tmp 13)), none⟩])
 (.seq (.seq (.ops [⟨(some 14), (.move (.tmp 7)), none⟩,
  ⟨(some 15), (.un .not (.tmp 14)), none⟩,
  ⟨(some 16), (.move (.tmp 15)), none⟩,
  ⟨(some 17), (.move (.tmp 5)), some (16, false)⟩,
  ⟨(some 18), (.bin .geq (.tmp 17) (.con (.int .u64 2147483648))), some (16, false)⟩,
  ⟨(some 19), (.pick (.tmp 16) (.con (.bool true)) (.tmp 18)), none⟩])
 (.cond (.tmp 19)
 (.seq (.ops [⟨(some 2), (.move (.con (.int .i64 0))), none⟩,
  ⟨(some 3), (.move (.con .nils)), none⟩,
  ⟨(some 4), (.move (.con (.bool false))), none⟩])
 .ret)
 .skip))
 (.seq (.draw (.take ⟨(some 20), (.move (.tmp 5)), none⟩
  (.take ⟨(some 21), (.conv .i64 (.tmp 20)), none⟩
  (.take ⟨(some 22), (.move (.tmp 0)), none⟩
  (.take ⟨(some 23), (.move (.tmp 6)), none⟩
  (.take ⟨(some 24), (.slice 1 (.tmp 22) (some (.tmp 23)) none none), none⟩
  (.take ⟨(some 2), (.move (.tmp 21)), none⟩
  (.take ⟨(some 3), (.move (.tmp 24)), none⟩
  (.take ⟨(some 4), (.move (.con (.bool true))), none⟩
  .nil)))))))))
 .ret))))
theorem fn39 : fnCode Try.prog 39 = some (25, code39, [.tmp 2, .tmp 3, .tmp 4]) := by kernel_rfl

/-- emissary/frame.Get -/
def code42 : ACode :=
 (.seq (.ops [⟨(some 2), (.move (.con (.int .u8 0))), none⟩,
  ⟨(some 3), (.move (.con .nils)), none⟩,
  ⟨(some 4), (.move (.con (.int .i64 0))), none⟩,
  ⟨(some 5), (.move (.con (.bool false))), none⟩])
 (.seq (.seq (.ops [⟨(some 10), (.move (.tmp 0)), none⟩,
  ⟨(some 11), (.len .slice (.tmp 10)), none⟩,
  ⟨(some 12), (.bin .eql (.tmp 11) (.con (.int .i64 0))), none⟩])
 (.cond (.tmp 12)
 (.seq (.ops [⟨(some 2), (.move (.con (.int .u8 0))), none⟩,
  ⟨(some 3), (.move (.con .nils)), none⟩,
  ⟨(some 4), (.move (.con (.int .i64 0))), none⟩,
  ⟨(some 5), (.move (.con (.bool false))), none⟩])
 .ret)
 .skip))
 (.seq (.ops [⟨(some 14), (.move (.tmp 0)), none⟩,
  ⟨(some 15), (.slice 1 (.tmp 14) (some (.con (.int .i64 1))) none none), none⟩,
  ⟨(some 16), (.call 43 [(.tmp 15)]), none⟩,
  ⟨(some 13), (.move (.tmp 16)), none⟩,
  ⟨(some 17), (.extract 0 (.tmp 13)), none⟩,
  ⟨(some 18), (.extract 1 (.tmp 13)), none⟩,
  ⟨(some 19), (.extract 2 (.tmp 13)), none⟩,
  ⟨(some 6), (.move (.tmp 17)), none⟩,
  ⟨(some 7), (.move (.tmp 18)), none⟩,
  ⟨(some 5), (.move (.tmp 19)), none⟩])
 (.seq (.seq (.ops [⟨(some 20), (.move (.tmp 5)), none⟩,
  ⟨(some 21), (.un .not (.tmp 20)), none⟩,
  ⟨(some 22), (.move (.tmp 21)), none⟩,
  ⟨(some 23), (.move (.tmp 6)), some (22, false)⟩,
  ⟨(some 24), (.bin .gtr (.tmp 23) (.con (.int .u64 4000))), some (22, false)⟩,
  ⟨(some 25), (.pick (.tmp 22) (.con (.bool true)) (.tmp 24)), none⟩,
  ⟨(some 26), (.move (.tmp 25)), none⟩,
  ⟨(some 27), (.move (.tmp 0)), some (26, false)⟩,
  ⟨(some 28), (.len .slice (.tmp 27)), some (26, false)⟩,
  ⟨(some 29), (.bin .sub (.tmp 28) (.con (.int .i64 1))), some (26, false)⟩,
  ⟨(some 30), (.move (.tmp 7)), some (26, false)⟩,
  ⟨(some 31), (.bin .sub (.tmp 29) (.tmp 30)), some (26, false)⟩,
  ⟨(some 32), (.bin .sub (.tmp 31) (.con (.int .i64 4))), some (26, false)⟩,
  ⟨(some 33), (.move (.tmp 6)), some (26, false)⟩,
  ⟨(some 34), (.conv .i64 (.tmp 33)), some (26, false)⟩,
  ⟨(some 35), (.bin .lss (.tmp 32) (.tmp 34)), some (26, false)⟩,
  ⟨(some 36), (.pick (.tmp 26) (.con (.bool true)) (.tmp 35)), none⟩])
 (.cond (.tmp 36)
 (.seq (.ops [⟨(some 2), (.move (.con (.int .u8 0))), none⟩,
  ⟨(some 3), (.move (.con .nils)), none⟩,
  ⟨(some 4), (.move (.con (.int .i64 0))), none⟩,
  ⟨(some 5), (.move (.con (.bool false))), none⟩])
 .ret)
 .skip))
 (.seq (.ops [⟨(some 37), (.move (.tmp 0)), none⟩,
  ⟨(some 38), (.move (.tmp 7)), none⟩,
  ⟨(some 39), (.bin .add (.con (.int .i64 1)) (.tmp 38)), none⟩,
  ⟨(some 40), (.slice 1 (.tmp 37) (some (.tmp 39)) none none), none⟩,
  ⟨(some 41), (.move (.tmp 6)), none⟩,
  ⟨(some 42), (.slice 1 (.tmp 40) none (some (.tmp 41)) none), none⟩,
  ⟨(some 43), (.call 24 [(.tmp 42)]), none⟩,
  ⟨(some 3), (.move (.tmp 43)), none⟩])
 (.seq (.ops [⟨(some 45), (.move (.tmp 0)), none⟩,
  ⟨(some 46), (.iaddr 1 (.tmp 45) (.con (.int .i64 0))), none⟩,
  ⟨(some 47), (.load none (.tmp 46)), none⟩,
  ⟨(some 48), (.move (.tmp 3)), none⟩,
  ⟨(some 49), (.call 32 [(.tmp 47), (.tmp 48)]), none⟩,
  ⟨(some 44), (.move (.tmp 49)), none⟩,
  ⟨(some 50), (.extract 0 (.tmp 44)), none⟩,
  ⟨(some 51), (.extract 1 (.tmp 44)), none⟩,
  ⟨(some 8), (.move (.tmp 50)), none⟩,
  ⟨(some 9), (.move (.tmp 51)), none⟩])
 (.seq (.seq (.ops [⟨(some 52), (.move (.tmp 0)), none⟩,
  ⟨(some 53), (.move (.tmp 8)), none⟩,
  ⟨(some 54), (.call 46 [(.tmp 52), (.tmp 53)]), none⟩,
  ⟨(some 55), (.un .not (.tmp 54)), none⟩])
 (.cond (.tmp 55)
 (.seq (.ops [⟨(some 2), (.move (.con (.int .u8 0))), none⟩,
  ⟨(some 3), (.move (.con .nils)), none⟩,
  ⟨(some 4), (.move (.con (.int .i64 0))), none⟩,
  ⟨(some 5), (.move (.con (.bool false))), none⟩])
 .ret)
 .skip))
 (.seq (.ops [⟨(some 56), (.move (.tmp 0)), none⟩,
  ⟨(some 57), (.iaddr 1 (.tmp 56) (.con (.int .i64 0))), none⟩,
  ⟨(some 58), (.load none (.tmp 57)), none⟩,
  ⟨(some 59), (.move (.tmp 3)), none⟩,
  ⟨(some 60), (.move (.tmp 8)), none⟩,
  ⟨(some 61), (.len .slice (.tmp 60)), none⟩,
  ⟨(some 2), (.move (.tmp 58)), none⟩,
  ⟨(some 3), (.move (.tmp 59)), none⟩,
  ⟨(some 4), (.move (.tmp 61)), none⟩,
  ⟨(some 5), (.move (.con (.bool true))), none⟩])
 .ret))))))))
theorem fn42 : fnCode Try.prog 42 = some (62, code42, [.tmp 2, .tmp 3, .tmp 4, .tmp 5]) := by kernel_rfl

/-- emissary/varint.Get -/
def code43 : ACode :=
 (.seq (.ops [⟨(some 2), (.move (.con (.int .u64 0))), none⟩,
  ⟨(some 3), (.move (.con (.int .i64 0))), none⟩,
  ⟨(some 4), (.move (.con (.bool false))), none⟩])
 (.seq (.ops [⟨(some 8), (.move (.tmp 0)), none⟩,
  ⟨(some 9), (.call 47 [(.tmp 8), (.con (.clo 48 []))]), none⟩,
  ⟨(some 5), (.move (.tmp 9)), none⟩])
 (.seq (.seq (.ops [⟨(some 10), (.move (.tmp 5)), none⟩,
  ⟨(some 11), (.bin .lss (.tmp 10) (.con (.int .i64 0))), none⟩,
  ⟨(some 12), (.move (.tmp 11)), none⟩,
  ⟨(some 13), (.move (.tmp 5)), some (12, false)⟩,
  ⟨(some 14), (.bin .gtr (.tmp 13) (.con (.int .i64 9))), some (12, false)⟩,
  ⟨(some 15), (.pick (.tmp 12) (.con (.bool true)) (.tmp 14)), none⟩])
 (.cond (.tmp 15)
 (.seq (.ops [⟨(some 2), (.move (.con (.int .u64 0))), none⟩,
  ⟨(some 3), (.move (.con (.int .i64 0))), none⟩,
  ⟨(some 4), (.move (.con (.bool false))), none⟩])
 .ret)
 .skip))
 (.seq (.seq (.ops [⟨(some 16), (.move (.tmp 5)), none⟩,
  ⟨(some 17), (.bin .gtr (.tmp 16) (.con (.int .i64 0))), none⟩,
  ⟨(some 18), (.move (.tmp 17)), none⟩,
  ⟨(some 19), (.move (.tmp 0)), some (18, true)⟩,
  ⟨(some 20), (.move (.tmp 5)), some (18, true)⟩,
  ⟨(some 21), (.iaddr 1 (.tmp 19) (.tmp 20)), some (18, true)⟩,
  ⟨(some 22), (.load none (.tmp 21)), some (18, true)⟩,
  ⟨(some 23), (.bin .eql (.tmp 22) (.con (.int .u8 0))), some (18, true)⟩,
  ⟨(some 24), (.pick (.tmp 18) (.tmp 23) (.con (.bool false))), none⟩,
  ⟨(some 25), (.move (.tmp 24)), none⟩,
  ⟨(some 26), (.move (.tmp 5)), some (25, false)⟩,
  ⟨(some 27), (.bin .mul (.con (.int .i64 7)) (.tmp 26)), some (25, false)⟩,
  ⟨(some 28), (.move (.tmp 0)), some (25, false)⟩,
  ⟨(some 29), (.move (.tmp 5)), some (25, false)⟩,
  ⟨(some 30), (.iaddr 1 (.tmp 28) (.tmp 29)), some (25, false)⟩,
  ⟨(some 31), (.load none (.tmp 30)), some (25, false)⟩,
  ⟨(some 32), (.call 49 [(.tmp 31)]), some (25, false)⟩,
  ⟨(some 33), (.bin .add (.tmp 27) (.tmp 32)), some (25, false)⟩,
  ⟨(some 34), (.bin .gtr (.tmp 33) (.con (.int .i64 64))), some (25, false)⟩,
  ⟨(some 35), (.pick (.tmp 25) (.con (.bool true)) (.tmp 34)), none⟩])
 (.cond (.tmp 35)
 (.seq (.ops [⟨(some 2), (.move (.con (.int .u64 0))), none⟩,
  ⟨(some 3), (.move (.con (.int .i64 0))), none⟩,
  ⟨(some 4), (.move (.con (.bool false))), none⟩])
 .ret)
 .skip))
 (.seq (.seq (.ops [⟨(some 36), (.move (.tmp 0)), none⟩,
  ⟨(some 37), (.move (.tmp 5)), none⟩,
  ⟨(some 38), (.bin .add (.tmp 37) (.con (.int .i64 1))), none⟩,
  ⟨(some 39), (.slice 1 (.tmp 36) none (some (.tmp 38)) none), none⟩,
  ⟨(some 40), (.len .slice (.tmp 39)), none⟩,
  ⟨(some 41), (.move (.con (.int .i64 0))), none⟩])
 (.block 0 (.loop (.seq (.ops [⟨(some 42), (.bin .lss (.tmp 41) (.tmp 40)), none⟩])
 (.seq (.cond (.tmp 42)
 .skip
 (.exit 0))
 (.seq (.block 1 (.seq (.ops [⟨(some 43), (.move (.tmp 41)), none⟩,
  ⟨(some 44), (.iaddr 1 (.tmp 39) (.tmp 41)), none⟩,
  ⟨(some 45), (.load none (.tmp 44)), none⟩,
  ⟨(some 6), (.move (.tmp 43)), none⟩,
  ⟨(some 7), (.move (.tmp 45)), none⟩])
 (.ops [⟨(some 46), (.move (.tmp 2)), none⟩,
  ⟨(some 47), (.move (.tmp 7)), none⟩,
  ⟨(some 48), (.bin .andNot (.tmp 47) (.con (.int .u8 128))), none⟩,
  ⟨(some 49), (.conv .u64 (.tmp 48)), none⟩,
  ⟨(some 50), (.move (.tmp 6)), none⟩,
  ⟨(some 51), (.bin .mul (.con (.int .i64 7)) (.tmp 50)), none⟩,
  ⟨(some 52), (.bin .shl (.tmp 49) (.tmp 51)), none⟩,
  ⟨(some 53), (.bin .or (.tmp 46) (.tmp 52)), none⟩,
  ⟨(some 2), (.move (.tmp 53)), none⟩])))
 (.ops [⟨(some 54), (.bin .add (.tmp 41) (.con (.int .i64 1))), none⟩,
  ⟨(some 41), (.move (.tmp 54)), none⟩])))))))
 (.seq (.ops [⟨(some 55), (.move (.tmp 2)), none⟩,
  ⟨(some 56), (.move (.tmp 5)), none⟩,
  ⟨(some 57), (.bin .add (.tmp 56) (.con (.int .i64 1))), none⟩,
  ⟨(some 2), (.move (.tmp 55)), none⟩,
  ⟨(some 3), (.move (.tmp 57)), none⟩,
  ⟨(some 4), (.move (.con (.bool true))), none⟩])
 .ret))))))
theorem fn43 : fnCode Try.prog 43 = some (58, code43, [.tmp 2, .tmp 3, .tmp 4]) := by kernel_rfl

/-- emissary/emissaryref3.Get -/
def code44 : ACode :=
 (.seq (.ops [⟨(some 2), (.move (.con (.int .u8 0))), none⟩,
  ⟨(some 3), (.move (.con .nils)), none⟩,
  ⟨(some 4), (.move (.con (.int .i64 0))), none⟩,
  ⟨(some 5), (.move (.con (.bool false))), none⟩])
 (.seq (.seq (.ops [⟨(some 12), (.move (.tmp 0)), none⟩,
  ⟨(some 13), (.len .slice (.tmp 12)), none⟩,
  ⟨(some 14), (.bin .lss (.tmp 13) (.con (.int .i64 1))), none⟩])
 (.cond (.tmp 14)
 (.seq (.ops [⟨(some 2), (.move (.con (.int .u8 0))), none⟩,
  ⟨(some 3), (.move (.con .nils)), none⟩,
  ⟨(some 4), (.move (.con (.int .i64 0))), none⟩,
  ⟨(some 5), (.move (.con (.bool false))), none⟩])
 .ret)
 .skip))
 (.seq (.ops [⟨(some 16), (.move (.tmp 0)), none⟩,
  ⟨(some 17), (.slice 1 (.tmp 16) (some (.con (.int .i64 1))) none none), none⟩,
  ⟨(some 18), (.call 45 [(.tmp 17)]), none⟩,
  ⟨(some 15), (.move (.tmp 18)), none⟩,
  ⟨(some 19), (.extract 0 (.tmp 15)), none⟩,
  ⟨(some 20), (.extract 1 (.tmp 15)), none⟩,
  ⟨(some 21), (.extract 2 (.tmp 15)), none⟩,
  ⟨(some 6), (.move (.tmp 19)), none⟩,
  ⟨(some 7), (.move (.tmp 20)), none⟩,
  ⟨(some 8), (.move (.tmp 21)), none⟩])
 (.seq (.seq (.ops [⟨(some 22), (.move (.tmp 8)), none⟩,
  ⟨(some 23), (.un .not (.tmp 22)), none⟩,
  ⟨(some 24), (.move (.tmp 23)), none⟩,
  ⟨(some 25), (.move (.tmp 6)), some (24, false)⟩,
  ⟨(some 26), (.bin .gtr (.tmp 25) (.con (.int .u64 4000))), some (24, false)⟩,
  ⟨(some 27), (.pick (.tmp 24) (.con (.bool true)) (.tmp 26)), none⟩,
  ⟨(some 28), (.move (.tmp 27)), none⟩,
  ⟨(some 29), (.move (.tmp 0)), some (28, false)⟩,
  ⟨(some 30), (.len .slice (.tmp 29)), some (28, false)⟩,
  ⟨(some 31), (.conv .u64 (.tmp 30)), some (28, false)⟩,
  ⟨(some 32), (.move (.tmp 7)), some (28, false)⟩,
  ⟨(some 33), (.conv .u64 (.tmp 32)), some (28, false)⟩,
  ⟨(some 34), (.move (.tmp 6)), some (28, false)⟩,
  ⟨(some 35), (.bin .add (.tmp 33) (.tmp 34)), some (28, false)⟩,
  ⟨(some 36), (.bin .add (.tmp 35) (.con (.int .u64 5))), some (28, false)⟩,
  ⟨(some 37), (.bin .lss (.tmp 31) (.tmp 36)), some (28, false)⟩,
  ⟨(some 38), (.pick (.tmp 28) (.con (.bool true)) (.tmp 37)), none⟩])
 (.cond (.tmp 38)
 (.seq (.ops [⟨(some 2), (.move (.con (.int .u8 0))), none⟩,
  ⟨(some 3), (.move (.con .nils)), none⟩,
  ⟨(some 4), (.move (.con (.int .i64 0))), none⟩,
  ⟨(some 5), (.move (.con (.bool false))), none⟩])
 .ret)
 .skip))
 (.seq (.ops [⟨(some 39), (.move (.tmp 0)), none⟩,
  ⟨(some 40), (.move (.tmp 7)), none⟩,
  ⟨(some 41), (.bin .add (.con (.int .i64 1)) (.tmp 40)), none⟩,
  ⟨(some 42), (.move (.tmp 7)), none⟩,
  ⟨(some 43), (.bin .add (.con (.int .i64 1)) (.tmp 42)), none⟩,
  ⟨(some 44), (.move (.tmp 6)), none⟩,
  ⟨(some 45), (.conv .i64 (.tmp 44)), none⟩,
  ⟨(some 46), (.bin .add (.tmp 43) (.tmp 45)), none⟩,
  ⟨(some 47), (.slice 1 (.tmp 39) (some (.tmp 41)) (some (.tmp 46)) none), none⟩,
  ⟨(some 9), (.move (.tmp 47)), none⟩])
 (.seq (.ops [⟨(some 49), (.move (.tmp 0)), none⟩,
  ⟨(some 50), (.iaddr 1 (.tmp 49) (.con (.int .i64 0))), none⟩,
  ⟨(some 51), (.load none (.tmp 50)), none⟩,
  ⟨(some 52), (.move (.tmp 9)), none⟩,
  ⟨(some 53), (.call 10 [(.tmp 51), (.tmp 52)]), none⟩,
  ⟨(some 48), (.move (.tmp 53)), none⟩,
  ⟨(some 54), (.extract 0 (.tmp 48)), none⟩,
  ⟨(some 55), (.extract 1 (.tmp 48)), none⟩,
  ⟨(some 10), (.move (.tmp 54)), none⟩,
  ⟨(some 11), (.move (.tmp 55)), none⟩])
 (.seq (.seq (.draw (.take ⟨(some 56), (.move (.tmp 10)), none⟩
  (.take ⟨(some 57), (.b2s (.tmp 56)), none⟩
  (.take ⟨(some 58), (.move (.tmp 0)), none⟩
  (.take ⟨(some 59), (.move (.tmp 10)), none⟩
  (.take ⟨(some 60), (.len .slice (.tmp 59)), none⟩
  (.take ⟨(some 61), (.slice 1 (.tmp 58) none (some (.tmp 60)) none), none⟩
  (.take ⟨(some 62), (.b2s (.tmp 61)), none⟩
  (.take ⟨(some 63), (.bin .neq (.tmp 57) (.tmp 62)), none⟩
  .nil)))))))))
 (.cond (.tmp 63)
 (.seq (.ops [⟨(some 2), (.move (.con (.int .u8 0))), none⟩,
  ⟨(some 3), (.move (.con .nils)), none⟩,
  ⟨(some 4), (.move (.con (.int .i64 0))), none⟩,
  ⟨(some 5), (.move (.con (.bool false))), none⟩])
 .ret)
 .skip))
 (.seq (.ops [⟨(some 64), (.move (.tmp 0)), none⟩,
  ⟨(some 65), (.iaddr 1 (.tmp 64) (.con (.int .i64 0))), none⟩,
  ⟨(some 66), (.load none (.tmp 65)), none⟩,
  ⟨(some 67), (.move (.tmp 9)), none⟩,
  ⟨(some 68), (.move (.tmp 10)), none⟩,
  ⟨(some 69), (.len .slice (.tmp 68)), none⟩,
  ⟨(some 2), (.move (.tmp 66)), none⟩,
  ⟨(some 3), (.move (.tmp 67)), none⟩,
  ⟨(some 4), (.move (.tmp 69)), none⟩,
  ⟨(some 5), (.move (.con (.bool true))), none⟩])
 .ret))))))))
theorem fn44 : fnCode Try.prog 44 = some (70, code44, [.tmp 2, .tmp 3, .tmp 4, .tmp 5]) := by kernel_rfl

/-- emissary/emissaryref1.Get -/
def code45 : ACode :=
 (.seq (.ops [⟨(some 2), (.move (.con (.int .u64 0))), none⟩,
  ⟨(some 3), (.move (.con (.int .i64 0))), none⟩,
  ⟨(some 4), (.move (.con (.bool false))), none⟩])
 (.seq (.ops [⟨(some 5), (.move (.con (.int .u64 0))), none⟩])
 (.seq (.seq (.ops [⟨(some 6), (.move (.con (.int .i64 0))), none⟩])
 (.block 0 (.loop (.seq (.seq (.ops [⟨(some 7), (.move (.tmp 6)), none⟩,
  ⟨(some 8), (.move (.tmp 0)), none⟩,
  ⟨(some 9), (.len .slice (.tmp 8)), none⟩,
  ⟨(some 10), (.bin .lss (.tmp 7) (.tmp 9)), none⟩,
  ⟨(some 11), (.move (.tmp 10)), none⟩,
  ⟨(some 12), (.move (.tmp 6)), some (11, true)⟩,
  ⟨(some 13), (.bin .lss (.tmp 12) (.con (.int .i64 10))), some (11, true)⟩,
  ⟨(some 14), (.pick (.tmp 11) (.tmp 13) (.con (.bool false))), none⟩])
 (.cond (.tmp 14)
 .skip
 (.exit 0)))
 (.seq (.block 1 (.seq (.ops [⟨(some 17), (.move (.tmp 5)), none⟩,
  ⟨(some 18), (.move (.tmp 0)), none⟩,
  ⟨(some 19), (.move (.tmp 6)), none⟩,
  ⟨(some 20), (.iaddr 1 (.tmp 18) (.tmp 19)), none⟩,
  ⟨(some 21), (.load none (.tmp 20)), none⟩,
  ⟨(some 22), (.bin .and (.tmp 21) (.con (.int .u8 127))), none⟩,
  ⟨(some 23), (.conv .u64 (.tmp 22)), none⟩,
  ⟨(some 24), (.move (.tmp 6)), none⟩,
  ⟨(some 25), (.bin .mul (.con (.int .i64 7)) (.tmp 24)), none⟩,
  ⟨(some 26), (.conv .u64 (.tmp 25)), none⟩,
  ⟨(some 27), (.bin .shl (.tmp 23) (.tmp 26)), none⟩,
  ⟨(some 28), (.bin .or (.tmp 17) (.tmp 27)), none⟩,
  ⟨(some 5), (.move (.tmp 28)), none⟩])
 (.seq (.ops [⟨(some 29), (.move (.tmp 0)), none⟩,
  ⟨(some 30), (.move (.tmp 6)), none⟩,
  ⟨(some 31), (.iaddr 1 (.tmp 29) (.tmp 30)), none⟩,
  ⟨(some 32), (.load none (.tmp 31)), none⟩,
  ⟨(some 33), (.bin .lss (.tmp 32) (.con (.int .u8 128))), none⟩])
 (.cond (.tmp 33)
 (.seq (.seq (.draw (.take ⟨(some 34), (.move (.tmp 5)), none⟩
  (.take ⟨(some 37), (.move (.tmp 0)), none⟩
  (.take ⟨(some 38), (.move (.tmp 6)), none⟩
  (.take ⟨(some 39), (.bin .add (.tmp 38) (.con (.int .i64 1))), none⟩
  (.take ⟨(some 40), (.slice 1 (.tmp 37) none (some (.tmp 39)) none), none⟩
  (.take ⟨(some 41), (.b2s (.tmp 40)), none⟩
  (.only ⟨(some 35), (.call 25 [(.tmp 34)]), none⟩ true
  (.take ⟨(some 36), (.b2s (.tmp 35)), none⟩
  (.take ⟨(some 42), (.bin .neq (.tmp 36) (.tmp 41)), none⟩
  .nil))))))))))
 (.cond (.tmp 42)
 (.seq (.ops [⟨(some 2), (.move (.con (.int .u64 0))), none⟩,
  ⟨(some 3), (.move (.con (.int .i64 0))), none⟩,
  ⟨(some 4), (.move (.con (.bool false))), none⟩])
 .ret)
 .skip))
 (.seq (.ops [⟨(some 43), (.move (.tmp 5)), none⟩,
  ⟨(some 44), (.move (.tmp 6)), none⟩,
  ⟨(some 45), (.bin .add (.tmp 44) (.con (.int .i64 1))), none⟩,
  ⟨(some 2), (.move (.tmp 43)), none⟩,
  ⟨(some 3), (.move (.tmp 45)), none⟩,
  ⟨(some 4), (.move (.con (.bool true))), none⟩])
 .ret))
 .skip))))
 (.ops [⟨(some 15), (.move (.tmp 6)), none⟩,
  ⟨(some 16), (.bin .add (.tmp 15) (.con (.int .i64 1))), none⟩,
  ⟨(some 6), (.move (.tmp 16)), none⟩]))))))
 (.seq (.ops [⟨(some 2), (.move (.con (.int .u64 0))), none⟩,
  ⟨(some 3), (.move (.con (.int .i64 0))), none⟩,
  ⟨(some 4), (.move (.con (.bool false))), none⟩])
 .ret))))
theorem fn45 : fnCode Try.prog 45 = some (46, code45, [.tmp 2, .tmp 3, .tmp 4]) := by kernel_rfl

/-- slices.IndexFunc[[]byte,byte] -/
def code47 : ACode :=
 (.seq (.ops [⟨(some 4), (.move (.con (.int .i64 0))), none⟩])
 (.seq (.seq (.ops [⟨(some 6), (.move (.tmp 0)), none⟩,
  ⟨(some 7), (.len .slice (.tmp 6)), none⟩,
  ⟨(some 8), (.move (.con (.int .i64 0))), none⟩])
 (.block 0 (.loop (.seq (.ops [⟨(some 9), (.bin .lss (.tmp 8) (.tmp 7)), none⟩])
 (.seq (.cond (.tmp 9)
 .skip
 (.exit 0))
 (.seq (.block 1 (.seq (.ops [⟨(some 10), (.move (.tmp 8)), none⟩,
  ⟨(some 5), (.move (.tmp 10)), none⟩])
 (.seq (.ops [⟨(some 11), (.move (.tmp 1)), none⟩,
  ⟨(some 12), (.move (.tmp 0)), none⟩,
  ⟨(some 13), (.move (.tmp 5)), none⟩,
  ⟨(some 14), (.iaddr 1 (.tmp 12) (.tmp 13)), none⟩,
  ⟨(some 15), (.load none (.tmp 14)), none⟩,
  ⟨(some 16), (.callv (.tmp 11) [(.tmp 15)]), none⟩])
 (.cond (.tmp 16)
 (.seq (.ops [⟨(some 17), (.move (.tmp 5)), none⟩,
  ⟨(some 4), (.move (.tmp 17)), none⟩])
 .ret)
 .skip))))
 (.ops [⟨(some 18), (.bin .add (.tmp 8) (.con (.int .i64 1))), none⟩,
  ⟨(some 8), (.move (.tmp 18)), none⟩])))))))
 (.seq (.ops [⟨(some 4), (.move (.con (.int .i64 (-1)))), none⟩])
 .ret)))
theorem fn47 : fnCode Try.prog 47 = some (19, code47, [.tmp 4]) := by kernel_rfl

/-- emissary/varint.Get$1 -/
def code48 : ACode :=
 (.seq (.ops [⟨(some 2), (.move (.con (.bool false))), none⟩])
 (.seq (.ops [⟨(some 3), (.move (.tmp 0)), none⟩,
  ⟨(some 4), (.bin .lss (.tmp 3) (.con (.int .u8 128))), none⟩,
  ⟨(some 2), (.move (.tmp 4)), none⟩])
 .ret))
theorem fn48 : fnCode Try.prog 48 = some (5, code48, [.tmp 2]) := by kernel_rfl

/-- math/bits.Len8 -/
def code49 : ACode :=
 (.seq (.ops [⟨(some 2), (.move (.con (.int .i64 0))), none⟩])
 (.seq (.ops [⟨(some 3), (.move (.tmp 0)), none⟩,
  ⟨(some 4), (.index (.con (.str ⟨#[0, 1, 2, 2, 3, 3, 3, 3, 4, 4, 4, 4, 4, 4, 4, 4, 5, 5, 5, 5, 5, 5, 5, 5, 5, 5, 5, 5, 5, 5, 5, 5, 6, 6, 6, 6, 6, 6, 6, 6, 6, 6, 6, 6, 6, 6, 6, 6, 6, 6, 6, 6, 6, 6, 6, 6, 6, 6, 6, 6, 6, 6, 6, 6, 7, 7, 7, 7, 7, 7, 7, 7, 7, 7, 7, 7, 7, 7, 7, 7, 7, 7, 7, 7, 7, 7, 7, 7, 7, 7, 7, 7, 7, 7, 7, 7, 7, 7, 7, 7, 7, 7, 7, 7, 7, 7, 7, 7, 7, 7, 7, 7, 7, 7, 7, 7, 7, 7, 7, 7, 7, 7, 7, 7, 7, 7, 7, 7, 8, 8, 8, 8, 8, 8, 8, 8, 8, 8, 8, 8, 8, 8, 8, 8, 8, 8, 8, 8, 8, 8, 8, 8, 8, 8, 8, 8, 8, 8, 8, 8, 8, 8, 8, 8, 8, 8, 8, 8, 8, 8, 8, 8, 8, 8, 8, 8, 8, 8, 8, 8, 8, 8, 8, 8, 8, 8, 8, 8, 8, 8, 8, 8, 8, 8, 8, 8, 8, 8, 8, 8, 8, 8, 8, 8, 8, 8, 8, 8, 8, 8, 8, 8, 8, 8, 8, 8, 8, 8, 8, 8, 8, 8, 8, 8, 8, 8, 8, 8, 8, 8, 8, 8, 8, 8, 8, 8, 8, 8, 8, 8, 8, 8, 8, 8, 8, 8, 8, 8, 8, 8, 8, 8, 8, 8, 8, 8]⟩)) (.tmp 3)), none⟩,
  ⟨(some 5), (.conv .i64 (.tmp 4)), none⟩,
  ⟨(some 2), (.move (.tmp 5)), none⟩])
 .ret))
theorem fn49 : fnCode Try.prog 49 = some (6, code49, [.tmp 2]) := by kernel_rfl

/-- emissary/emissarylaw26.known -/
def code12 : ACode :=
 (.seq (.ops [⟨(some 0), (.move (.con (.bool false))), none⟩])
 (.seq (.ops [⟨(some 10), (.call 7 [(.con (.int .u64 7))]), none⟩,
  ⟨(some 1), (.move (.tmp 10)), none⟩])
 (.seq (.ops [⟨(some 12), (.move (.tmp 1)), none⟩,
  ⟨(some 13), (.bslice 5 1 1 [(.int .u8 0)] [(0, 1, (.con (.int .u8 97)))]), none⟩,
  ⟨(some 14), (.mark (.tmp 13)), none⟩,
  ⟨(some 15), (.call 8 [(.tmp 12), (.tmp 14)]), none⟩,
  ⟨(some 11), (.move (.tmp 15)), none⟩,
  ⟨(some 16), (.extract 0 (.tmp 11)), none⟩,
  ⟨(some 17), (.extract 1 (.tmp 11)), none⟩,
  ⟨(some 2), (.move (.tmp 16)), none⟩,
  ⟨(some 3), (.move (.tmp 17)), none⟩])
 (.seq (.ops [⟨(some 19), (.move (.tmp 1)), none⟩,
  ⟨(some 20), (.call 9 [(.tmp 19)]), none⟩,
  ⟨(some 18), (.move (.tmp 20)), none⟩,
  ⟨(some 21), (.extract 0 (.tmp 18)), none⟩,
  ⟨(some 22), (.extract 1 (.tmp 18)), none⟩,
  ⟨(some 4), (.move (.tmp 21)), none⟩,
  ⟨(some 5), (.move (.tmp 22)), none⟩])
 (.seq (.ops [⟨(some 24), (.move (.tmp 1)), none⟩,
  ⟨(some 25), (.call 9 [(.tmp 24)]), none⟩,
  ⟨(some 23), (.move (.tmp 25)), none⟩,
  ⟨(some 26), (.extract 0 (.tmp 23)), none⟩,
  ⟨(some 27), (.extract 1 (.tmp 23)), none⟩,
  ⟨(some 6), (.move (.tmp 26)), none⟩,
  ⟨(some 7), (.move (.tmp 27)), none⟩])
 (.seq (.ops [⟨(some 29), (.move (.tmp 1)), none⟩,
  ⟨(some 30), (.call 9 [(.tmp 29)]), none⟩,
  ⟨(some 28), (.move (.tmp 30)), none⟩,
  ⟨(some 31), (.extract 0 (.tmp 28)), none⟩,
  ⟨(some 32), (.extract 1 (.tmp 28)), none⟩,
  ⟨(some 8), (.move (.tmp 31)), none⟩,
  ⟨(some 9), (.move (.tmp 32)), none⟩])
 (.seq (.ops [⟨(some 33), (.move (.tmp 3)), none⟩,
  ⟨(some 34), (.move (.tmp 33)), none⟩,
  ⟨(some 35), (.move (.tmp 5)), some (34, true)⟩,
  ⟨(some 36), (.un .not (.tmp 35)), some (34, true)⟩,
  ⟨(some 37), (.pick (.tmp 34) (.tmp 36) (.con (.bool false))), none⟩,
  ⟨(some 38), (.move (.tmp 37)), none⟩,
  ⟨(some 39), (.move (.tmp 7)), some (38, true)⟩,
  ⟨(some 40), (.un .not (.tmp 39)), some (38, true)⟩,
  ⟨(some 41), (.pick (.tmp 38) (.tmp 40) (.con (.bool false))), none⟩,
  ⟨(some 42), (.move (.tmp 41)), none⟩,
  ⟨(some 43), (.move (.tmp 9)), some (42, true)⟩,
  ⟨(some 44), (.pick (.tmp 42) (.tmp 43) (.con (.bool false))), none⟩,
  ⟨(some 45), (.move (.tmp 44)), none⟩,
  ⟨(some 46), (.move (.tmp 8)), some (45, true)⟩,
  ⟨(some 47), (.b2s (.tmp 46)), some (45, true)⟩,
  ⟨(some 48), (.move (.tmp 2)), some (45, true)⟩,
  ⟨(some 49), (.b2s (.tmp 48)), some (45, true)⟩,
  ⟨(some 50), (.bin .eql (.tmp 47) (.tmp 49)), some (45, true)⟩,
  ⟨(some 51), (.pick (.tmp 45) (.tmp 50) (.con (.bool false))), none⟩,
  ⟨(some 52), (.move (.tmp 51)), none⟩,
  ⟨(some 53), (.move (.tmp 2)), some (52, true)⟩,
  ⟨(some 54), (.len .slice (.tmp 53)), some (52, true)⟩,
  ⟨(some 55), (.bin .gtr (.tmp 54) (.con (.int .i64 0))), some (52, true)⟩,
  ⟨(some 56), (.pick (.tmp 52) (.tmp 55) (.con (.bool false))), none⟩,
  ⟨(some 0), (.move (.tmp 56)), none⟩])
 .ret)))))))
theorem fn12 : fnCode Try.prog 12 = some (57, code12, [.tmp 0]) := by kernel_rfl

/-- emissary/client.New -/
def code7 : ACode :=
 (.seq (.ops [⟨(some 2), (.move (.con .nilp)), none⟩])
 (.seq (.ops [⟨(some 3), (.move (.tmp 0)), none⟩,
  ⟨(some 4), (.build [(.int .u64 0), (.int .i64 0), (.int .i64 0), (.bool false), .nils, (.int .i64 0)] [(0, 1, (.tmp 3))]), none⟩,
  ⟨(some 5), (.box 55 6 (.tmp 4)), none⟩,
  ⟨(some 2), (.move (.tmp 5)), none⟩])
 .ret))
theorem fn7 : fnCode Try.prog 7 = some (6, code7, [.tmp 2]) := by kernel_rfl

/-- (*emissary/client.Client).Call -/
def code8 : ACode :=
 (.seq (.ops [⟨(some 4), (.move (.con .nils)), none⟩,
  ⟨(some 5), (.move (.con (.bool false))), none⟩])
 (.seq (.seq (.ops [⟨(some 9), (.move (.tmp 0)), none⟩,
  ⟨(some 10), (.eqv false .ptr (.tmp 9) (.con .nilp)), none⟩,
  ⟨(some 11), (.move (.tmp 10)), none⟩,
  ⟨(some 12), (.move (.tmp 0)), some (11, false)⟩,
  ⟨(some 13), (.nilc (.tmp 12)), some (11, false)⟩,
  ⟨(some 14), (.faddr 3 none (.tmp 13)), some (11, false)⟩,
  ⟨(some 15), (.load none (.tmp 14)), some (11, false)⟩,
  ⟨(some 16), (.pick (.tmp 11) (.con (.bool true)) (.tmp 15)), none⟩])
 (.cond (.tmp 16)
 (.seq (.ops [⟨(some 4), (.move (.con .nils)), none⟩,
  ⟨(some 5), (.move (.con (.bool false))), none⟩])
 .ret)
 .skip))
 (.seq (.draw (.take ⟨(some 17), (.move (.tmp 0)), none⟩
  (.take ⟨(some 18), (.nilc (.tmp 17)), none⟩
  (.take ⟨(some 19), (.faddr 1 (some 2) (.tmp 18)), none⟩
  (.take ⟨(some 20), (.faddr 0 none (.tmp 19)), none⟩
  (.take ⟨(some 21), (.load none (.tmp 20)), none⟩
  (.take ⟨(some 22), (.move (.tmp 0)), none⟩
  (.take ⟨(some 23), (.nilc (.tmp 22)), none⟩
  (.take ⟨(some 24), (.faddr 1 (some 2) (.tmp 23)), none⟩
  (.take ⟨(some 25), (.faddr 1 none (.tmp 24)), none⟩
  (.take ⟨(some 26), (.load none (.tmp 25)), none⟩
  (.take ⟨(some 27), (.bin .add (.tmp 26) (.con (.int .i64 1))), none⟩
  (.take ⟨(some 28), (.build [(.int .i64 0), (.int .i64 0)] [(0, 1, (.tmp 21)), (1, 1, (.tmp 27))]), none⟩
  (.only ⟨(some 6), (.alloc 31 [(.int .i64 0), (.int .i64 0)]), none⟩ false
  (.only ⟨none, (.store 2 (.tmp 6) (.tmp 28)), none⟩ false
  .nil)))))))))))))))
 (.seq (.draw (.take ⟨(some 30), (.load (some 2) (.tmp 6)), none⟩
  (.take ⟨(some 31), (.move (.tmp 0)), none⟩
  (.take ⟨(some 32), (.nilc (.tmp 31)), none⟩
  (.take ⟨(some 33), (.faddr 0 none (.tmp 32)), none⟩
  (.take ⟨(some 34), (.load none (.tmp 33)), none⟩
  (.take ⟨(some 35), (.move (.tmp 1)), none⟩
  (.only ⟨(some 36), (.call 23 [(.tmp 30), (.tmp 34), (.tmp 35)]), none⟩ false
  (.take ⟨(some 29), (.move (.tmp 36)), none⟩
  (.take ⟨(some 37), (.extract 0 (.tmp 29)), none⟩
  (.take ⟨(some 38), (.extract 1 (.tmp 29)), none⟩
  (.take ⟨(some 7), (.move (.tmp 37)), none⟩
  (.take ⟨(some 8), (.move (.tmp 38)), none⟩
  .nil)))))))))))))
 (.seq (.seq (.ops [⟨(some 39), (.move (.tmp 8)), none⟩,
  ⟨(some 40), (.un .not (.tmp 39)), none⟩])
 (.cond (.tmp 40)
 (.seq (.ops [⟨(some 4), (.move (.con .nils)), none⟩,
  ⟨(some 5), (.move (.con (.bool false))), none⟩])
 .ret)
 .skip))
 (.seq (.ops [⟨(some 41), (.move (.tmp 0)), none⟩,
  ⟨(some 42), (.move (.tmp 0)), none⟩,
  ⟨(some 43), (.move (.tmp 0)), none⟩,
  ⟨(some 44), (.move (.tmp 0)), none⟩,
  ⟨(some 45), (.load (some 2) (.tmp 6)), none⟩,
  ⟨(some 46), (.move (.tmp 7)), none⟩,
  ⟨(some 47), (.nilc (.tmp 41)), none⟩,
  ⟨(some 48), (.faddr 1 (some 2) (.tmp 47)), none⟩,
  ⟨none, (.store 2 (.tmp 48) (.tmp 45)), none⟩,
  ⟨(some 49), (.nilc (.tmp 42)), none⟩,
  ⟨(some 50), (.faddr 3 none (.tmp 49)), none⟩,
  ⟨none, (.store 1 (.tmp 50) (.con (.bool true))), none⟩,
  ⟨(some 51), (.nilc (.tmp 43)), none⟩,
  ⟨(some 52), (.faddr 4 none (.tmp 51)), none⟩,
  ⟨none, (.store 1 (.tmp 52) (.tmp 46)), none⟩,
  ⟨(some 53), (.nilc (.tmp 44)), none⟩,
  ⟨(some 54), (.faddr 5 none (.tmp 53)), none⟩,
  ⟨none, (.store 1 (.tmp 54) (.con (.int .i64 0))), none⟩])
 (.seq (.ops [⟨(some 55), (.move (.tmp 7)), none⟩,
  ⟨(some 56), (.call 24 [(.tmp 55)]), none⟩,
  ⟨(some 4), (.move (.tmp 56)), none⟩,
  ⟨(some 5), (.move (.con (.bool true))), none⟩])
 .ret)))))))
theorem fn8 : fnCode Try.prog 8 = some (57, code8, [.tmp 4, .tmp 5]) := by kernel_rfl

/-- (*emissary/client.Client).Tick -/
def code9 : ACode :=
 (.seq (.ops [⟨(some 2), (.move (.con .nils)), none⟩,
  ⟨(some 3), (.move (.con (.bool false))), none⟩])
 (.seq (.seq (.ops [⟨(some 4), (.move (.tmp 0)), none⟩,
  ⟨(some 5), (.eqv false .ptr (.tmp 4) (.con .nilp)), none⟩,
  ⟨(some 6), (.move (.tmp 5)), none⟩,
  ⟨(some 7), (.move (.tmp 0)), some (6, false)⟩,
  ⟨(some 8), (.nilc (.tmp 7)), some (6, false)⟩,
  ⟨(some 9), (.faddr 3 none (.tmp 8)), some (6, false)⟩,
  ⟨(some 10), (.load none (.tmp 9)), some (6, false)⟩,
  ⟨(some 11), (.un .not (.tmp 10)), some (6, false)⟩,
  ⟨(some 12), (.pick (.tmp 6) (.con (.bool true)) (.tmp 11)), none⟩])
 (.cond (.tmp 12)
 (.seq (.ops [⟨(some 2), (.move (.con .nils)), none⟩,
  ⟨(some 3), (.move (.con (.bool false))), none⟩])
 .ret)
 .skip))
 (.seq (.ops [⟨(some 13), (.move (.tmp 0)), none⟩,
  ⟨(some 14), (.nilc (.tmp 13)), none⟩,
  ⟨(some 15), (.faddr 5 none (.tmp 14)), none⟩,
  ⟨(some 16), (.load none (.tmp 15)), none⟩,
  ⟨(some 17), (.bin .add (.tmp 16) (.con (.int .i64 1))), none⟩,
  ⟨(some 18), (.nilc (.tmp 13)), none⟩,
  ⟨(some 19), (.faddr 5 none (.tmp 18)), none⟩,
  ⟨none, (.store 1 (.tmp 19) (.tmp 17)), none⟩])
 (.seq (.seq (.ops [⟨(some 20), (.move (.tmp 0)), none⟩,
  ⟨(some 21), (.nilc (.tmp 20)), none⟩,
  ⟨(some 22), (.faddr 5 none (.tmp 21)), none⟩,
  ⟨(some 23), (.load none (.tmp 22)), none⟩,
  ⟨(some 24), (.bin .rem (.tmp 23) (.con (.int .i64 3))), none⟩,
  ⟨(some 25), (.bin .neq (.tmp 24) (.con (.int .i64 0))), none⟩])
 (.cond (.tmp 25)
 (.seq (.ops [⟨(some 2), (.move (.con .nils)), none⟩,
  ⟨(some 3), (.move (.con (.bool false))), none⟩])
 .ret)
 .skip))
 (.seq (.ops [⟨(some 26), (.move (.tmp 0)), none⟩,
  ⟨(some 27), (.nilc (.tmp 26)), none⟩,
  ⟨(some 28), (.faddr 4 none (.tmp 27)), none⟩,
  ⟨(some 29), (.load none (.tmp 28)), none⟩,
  ⟨(some 30), (.call 24 [(.tmp 29)]), none⟩,
  ⟨(some 2), (.move (.tmp 30)), none⟩,
  ⟨(some 3), (.move (.con (.bool true))), none⟩])
 .ret)))))
theorem fn9 : fnCode Try.prog 9 = some (31, code9, [.tmp 2, .tmp 3]) := by kernel_rfl

/-- (*emissary/client.Client).Take -/
def code11 : ACode :=
 (.seq (.ops [⟨(some 4), (.alloc 34 [(.int .i64 0), (.int .i64 0), (.int .i64 0), .nils]), none⟩,
  ⟨(some 5), (.move (.con (.bool false))), none⟩])
 (.seq (.ops [⟨(some 9), (.move (.tmp 1)), none⟩,
  ⟨(some 10), (.call 27 [(.tmp 9)]), none⟩,
  ⟨(some 8), (.move (.tmp 10)), none⟩,
  ⟨(some 11), (.extract 0 (.tmp 8)), none⟩,
  ⟨(some 12), (.extract 1 (.tmp 8)), none⟩,
  ⟨(some 6), (.alloc 34 [(.int .i64 0), (.int .i64 0), (.int .i64 0), .nils]), none⟩,
  ⟨none, (.store 4 (.tmp 6) (.tmp 11)), none⟩,
  ⟨(some 7), (.move (.tmp 12)), none⟩])
 (.seq (.seq (.draw (.take ⟨(some 13), (.move (.tmp 0)), none⟩
  (.take ⟨(some 14), (.eqv false .ptr (.tmp 13) (.con .nilp)), none⟩
  (.take ⟨(some 15), (.move (.tmp 14)), none⟩
  (.take ⟨(some 16), (.move (.tmp 7)), some (15, false)⟩
  (.take ⟨(some 17), (.un .not (.tmp 16)), some (15, false)⟩
  (.take ⟨(some 18), (.pick (.tmp 15) (.con (.bool true)) (.tmp 17)), none⟩
  (.take ⟨(some 19), (.move (.tmp 18)), none⟩
  (.take ⟨(some 20), (.move (.tmp 0)), some (19, false)⟩
  (.take ⟨(some 21), (.nilc (.tmp 20)), some (19, false)⟩
  (.take ⟨(some 22), (.faddr 3 none (.tmp 21)), some (19, false)⟩
  (.take ⟨(some 23), (.load none (.tmp 22)), some (19, false)⟩
  (.take ⟨(some 24), (.un .not (.tmp 23)), some (19, false)⟩
  (.take ⟨(some 25), (.pick (.tmp 19) (.con (.bool true)) (.tmp 24)), none⟩
  (.take ⟨(some 26), (.move (.tmp 25)), none⟩
  (.take ⟨(some 27), (.faddr 0 (some 2) (.tmp 6)), some (26, false)⟩
  (.take ⟨(some 28), (.load (some 2) (.tmp 27)), some (26, false)⟩
  (.take ⟨(some 29), (.move (.tmp 0)), some (26, false)⟩
  (.take ⟨(some 30), (.nilc (.tmp 29)), some (26, false)⟩
  (.take ⟨(some 31), (.faddr 1 (some 2) (.tmp 30)), some (26, false)⟩
  (.take ⟨(some 32), (.load (some 2) (.tmp 31)), some (26, false)⟩
  (.take ⟨(some 33), (.eqs true [.int, .int] (.tmp 28) (.tmp 32)), some (26, false)⟩
  (.take ⟨(some 34), (.pick (.tmp 26) (.con (.bool true)) (.tmp 33)), none⟩
  .nil)))))))))))))))))))))))
 (.cond (.tmp 34)
 (.seq (.ops [⟨(some 35), (.build [(.int .i64 0), (.int .i64 0), (.int .i64 0), .nils] []), none⟩,
  ⟨none, (.store 4 (.tmp 4) (.tmp 35)), none⟩,
  ⟨(some 5), (.move (.con (.bool false))), none⟩])
 .ret)
 .skip))
 (.seq (.ops [⟨(some 36), (.move (.tmp 0)), none⟩,
  ⟨(some 37), (.nilc (.tmp 36)), none⟩,
  ⟨(some 38), (.faddr 3 none (.tmp 37)), none⟩,
  ⟨none, (.store 1 (.tmp 38) (.con (.bool false))), none⟩])
 (.seq (.ops [⟨(some 39), (.load (some 4) (.tmp 6)), none⟩,
  ⟨none, (.store 4 (.tmp 4) (.tmp 39)), none⟩,
  ⟨(some 5), (.move (.con (.bool true))), none⟩])
 .ret)))))
theorem fn11 : fnCode Try.prog 11 = some (40, code11, [.cell 4 (some 4), .tmp 5]) := by kernel_rfl

/-- (*emissary/client.Client).Pending -/
def code13 : ACode :=
 (.seq (.ops [⟨(some 2), (.alloc 31 [(.int .i64 0), (.int .i64 0)]), none⟩,
  ⟨(some 3), (.move (.con (.bool false))), none⟩])
 (.seq (.seq (.ops [⟨(some 4), (.move (.tmp 0)), none⟩,
  ⟨(some 5), (.eqv false .ptr (.tmp 4) (.con .nilp)), none⟩,
  ⟨(some 6), (.move (.tmp 5)), none⟩,
  ⟨(some 7), (.move (.tmp 0)), some (6, false)⟩,
  ⟨(some 8), (.nilc (.tmp 7)), some (6, false)⟩,
  ⟨(some 9), (.faddr 3 none (.tmp 8)), some (6, false)⟩,
  ⟨(some 10), (.load none (.tmp 9)), some (6, false)⟩,
  ⟨(some 11), (.un .not (.tmp 10)), some (6, false)⟩,
  ⟨(some 12), (.pick (.tmp 6) (.con (.bool true)) (.tmp 11)), none⟩])
 (.cond (.tmp 12)
 (.seq (.ops [⟨(some 13), (.build [(.int .i64 0), (.int .i64 0)] []), none⟩,
  ⟨none, (.store 2 (.tmp 2) (.tmp 13)), none⟩,
  ⟨(some 3), (.move (.con (.bool false))), none⟩])
 .ret)
 .skip))
 (.seq (.ops [⟨(some 14), (.move (.tmp 0)), none⟩,
  ⟨(some 15), (.nilc (.tmp 14)), none⟩,
  ⟨(some 16), (.faddr 1 (some 2) (.tmp 15)), none⟩,
  ⟨(some 17), (.load (some 2) (.tmp 16)), none⟩,
  ⟨none, (.store 2 (.tmp 2) (.tmp 17)), none⟩,
  ⟨(some 3), (.move (.con (.bool true))), none⟩])
 .ret)))
theorem fn13 : fnCode Try.prog 13 = some (18, code13, [.cell 2 (some 2), .tmp 3]) := by kernel_rfl

/-- (*emissary/emissaryref26.Client).Call -/
def code14 : ACode :=
 (.seq (.ops [⟨(some 4), (.move (.con .nils)), none⟩,
  ⟨(some 5), (.move (.con (.bool false))), none⟩])
 (.seq (.draw (.take ⟨(some 9), (.move (.tmp 0)), none⟩
  (.take ⟨(some 10), (.nilc (.tmp 9)), none⟩
  (.take ⟨(some 11), (.faddr 1 (some 2) (.tmp 10)), none⟩
  (.take ⟨(some 12), (.faddr 0 none (.tmp 11)), none⟩
  (.take ⟨(some 13), (.load none (.tmp 12)), none⟩
  (.take ⟨(some 14), (.move (.tmp 0)), none⟩
  (.take ⟨(some 15), (.nilc (.tmp 14)), none⟩
  (.take ⟨(some 16), (.faddr 1 (some 2) (.tmp 15)), none⟩
  (.take ⟨(some 17), (.faddr 1 none (.tmp 16)), none⟩
  (.take ⟨(some 18), (.load none (.tmp 17)), none⟩
  (.take ⟨(some 19), (.bin .add (.tmp 18) (.con (.int .i64 1))), none⟩
  (.take ⟨(some 20), (.build [(.int .i64 0), (.int .i64 0)] [(0, 1, (.tmp 13)), (1, 1, (.tmp 19))]), none⟩
  (.only ⟨(some 6), (.alloc 31 [(.int .i64 0), (.int .i64 0)]), none⟩ false
  (.only ⟨none, (.store 2 (.tmp 6) (.tmp 20)), none⟩ false
  .nil)))))))))))))))
 (.seq (.draw (.take ⟨(some 22), (.load (some 2) (.tmp 6)), none⟩
  (.take ⟨(some 23), (.move (.tmp 0)), none⟩
  (.take ⟨(some 24), (.nilc (.tmp 23)), none⟩
  (.take ⟨(some 25), (.faddr 0 none (.tmp 24)), none⟩
  (.take ⟨(some 26), (.load none (.tmp 25)), none⟩
  (.take ⟨(some 27), (.move (.tmp 1)), none⟩
  (.only ⟨(some 28), (.call 28 [(.tmp 22), (.tmp 26), (.tmp 27)]), none⟩ false
  (.take ⟨(some 21), (.move (.tmp 28)), none⟩
  (.take ⟨(some 29), (.extract 0 (.tmp 21)), none⟩
  (.take ⟨(some 30), (.extract 1 (.tmp 21)), none⟩
  (.take ⟨(some 7), (.move (.tmp 29)), none⟩
  (.take ⟨(some 8), (.move (.tmp 30)), none⟩
  .nil)))))))))))))
 (.seq (.seq (.ops [⟨(some 31), (.move (.tmp 0)), none⟩,
  ⟨(some 32), (.nilc (.tmp 31)), none⟩,
  ⟨(some 33), (.faddr 3 none (.tmp 32)), none⟩,
  ⟨(some 34), (.load none (.tmp 33)), none⟩,
  ⟨(some 35), (.move (.tmp 34)), none⟩,
  ⟨(some 36), (.move (.tmp 8)), some (35, false)⟩,
  ⟨(some 37), (.un .not (.tmp 36)), some (35, false)⟩,
  ⟨(some 38), (.pick (.tmp 35) (.con (.bool true)) (.tmp 37)), none⟩])
 (.cond (.tmp 38)
 (.seq (.ops [⟨(some 4), (.move (.con .nils)), none⟩,
  ⟨(some 5), (.move (.con (.bool false))), none⟩])
 .ret)
 .skip))
 (.seq (.ops [⟨(some 39), (.move (.tmp 0)), none⟩,
  ⟨(some 40), (.move (.tmp 0)), none⟩,
  ⟨(some 41), (.move (.tmp 0)), none⟩,
  ⟨(some 42), (.move (.tmp 0)), none⟩,
  ⟨(some 43), (.load (some 2) (.tmp 6)), none⟩,
  ⟨(some 44), (.move (.tmp 7)), none⟩,
  ⟨(some 45), (.nilc (.tmp 39)), none⟩,
  ⟨(some 46), (.faddr 1 (some 2) (.tmp 45)), none⟩,
  ⟨none, (.store 2 (.tmp 46) (.tmp 43)), none⟩,
  ⟨(some 47), (.nilc (.tmp 40)), none⟩,
  ⟨(some 48), (.faddr 3 none (.tmp 47)), none⟩,
  ⟨none, (.store 1 (.tmp 48) (.con (.bool true))), none⟩,
  ⟨(some 49), (.nilc (.tmp 41)), none⟩,
  ⟨(some 50), (.faddr 4 none (.tmp 49)), none⟩,
  ⟨none, (.store 1 (.tmp 50) (.tmp 44)), none⟩,
  ⟨(some 51), (.nilc (.tmp 42)), none⟩,
  ⟨(some 52), (.faddr 5 none (.tmp 51)), none⟩,
  ⟨none, (.store 1 (.tmp 52) (.con (.int .i64 0))), none⟩])
 (.seq (.ops [⟨(some 53), (.move (.tmp 7)), none⟩,
  ⟨(some 4), (.move (.tmp 53)), none⟩,
  ⟨(some 5), (.move (.con (.bool true))), none⟩])
 .ret))))))
theorem fn14 : fnCode Try.prog 14 = some (54, code14, [.tmp 4, .tmp 5]) := by kernel_rfl

/-- (*emissary/emissaryref26.Client).Tick -/
def code15 : ACode :=
 (.seq (.ops [⟨(some 2), (.move (.con .nils)), none⟩,
  ⟨(some 3), (.move (.con (.bool false))), none⟩])
 (.seq (.seq (.ops [⟨(some 4), (.move (.tmp 0)), none⟩,
  ⟨(some 5), (.nilc (.tmp 4)), none⟩,
  ⟨(some 6), (.faddr 3 none (.tmp 5)), none⟩,
  ⟨(some 7), (.load none (.tmp 6)), none⟩,
  ⟨(some 8), (.un .not (.tmp 7)), none⟩])
 (.cond (.tmp 8)
 (.seq (.ops [⟨(some 2), (.move (.con .nils)), none⟩,
  ⟨(some 3), (.move (.con (.bool false))), none⟩])
 .ret)
 .skip))
 (.seq (.ops [⟨(some 9), (.move (.tmp 0)), none⟩,
  ⟨(some 10), (.nilc (.tmp 9)), none⟩,
  ⟨(some 11), (.faddr 5 none (.tmp 10)), none⟩,
  ⟨(some 12), (.load none (.tmp 11)), none⟩,
  ⟨(some 13), (.bin .add (.tmp 12) (.con (.int .i64 1))), none⟩,
  ⟨(some 14), (.nilc (.tmp 9)), none⟩,
  ⟨(some 15), (.faddr 5 none (.tmp 14)), none⟩,
  ⟨none, (.store 1 (.tmp 15) (.tmp 13)), none⟩])
 (.seq (.seq (.ops [⟨(some 16), (.move (.tmp 0)), none⟩,
  ⟨(some 17), (.nilc (.tmp 16)), none⟩,
  ⟨(some 18), (.faddr 5 none (.tmp 17)), none⟩,
  ⟨(some 19), (.load none (.tmp 18)), none⟩,
  ⟨(some 20), (.bin .rem (.tmp 19) (.con (.int .i64 3))), none⟩,
  ⟨(some 21), (.bin .neq (.tmp 20) (.con (.int .i64 0))), none⟩])
 (.cond (.tmp 21)
 (.seq (.ops [⟨(some 2), (.move (.con .nils)), none⟩,
  ⟨(some 3), (.move (.con (.bool false))), none⟩])
 .ret)
 .skip))
 (.seq (.ops [⟨(some 22), (.move (.tmp 0)), none⟩,
  ⟨(some 23), (.nilc (.tmp 22)), none⟩,
  ⟨(some 24), (.faddr 4 none (.tmp 23)), none⟩,
  ⟨(some 25), (.load none (.tmp 24)), none⟩,
  ⟨(some 2), (.move (.tmp 25)), none⟩,
  ⟨(some 3), (.move (.con (.bool true))), none⟩])
 .ret)))))
theorem fn15 : fnCode Try.prog 15 = some (26, code15, [.tmp 2, .tmp 3]) := by kernel_rfl

/-- (*emissary/client.Client).Restart -/
def code16 : ACode :=
 (.seq (.ops [⟨(some 2), (.move (.tmp 0)), none⟩,
  ⟨(some 3), (.eqv true .ptr (.tmp 2) (.con .nilp)), none⟩])
 (.cond (.tmp 3)
 (.ops [⟨(some 4), (.move (.tmp 0)), none⟩,
  ⟨(some 5), (.move (.tmp 0)), none⟩,
  ⟨(some 6), (.move (.tmp 0)), none⟩,
  ⟨(some 7), (.nilc (.tmp 6)), none⟩,
  ⟨(some 8), (.faddr 1 (some 2) (.tmp 7)), none⟩,
  ⟨(some 9), (.faddr 0 none (.tmp 8)), none⟩,
  ⟨(some 10), (.load none (.tmp 9)), none⟩,
  ⟨(some 11), (.bin .add (.tmp 10) (.con (.int .i64 1))), none⟩,
  ⟨(some 12), (.build [(.int .i64 0), (.int .i64 0)] [(0, 1, (.tmp 11))]), none⟩,
  ⟨(some 13), (.nilc (.tmp 4)), none⟩,
  ⟨(some 14), (.faddr 1 (some 2) (.tmp 13)), none⟩,
  ⟨none, (.store 2 (.tmp 14) (.tmp 12)), none⟩,
  ⟨(some 15), (.nilc (.tmp 5)), none⟩,
  ⟨(some 16), (.faddr 3 none (.tmp 15)), none⟩,
  ⟨none, (.store 1 (.tmp 16) (.con (.bool false))), none⟩])
 .skip))
theorem fn16 : fnCode Try.prog 16 = some (17, code16, []) := by kernel_rfl

/-- (*emissary/emissaryref26.Client).Restart -/
def code17 : ACode :=
 (.ops [⟨(some 2), (.move (.tmp 0)), none⟩,
  ⟨(some 3), (.move (.tmp 0)), none⟩,
  ⟨(some 4), (.move (.tmp 0)), none⟩,
  ⟨(some 5), (.nilc (.tmp 4)), none⟩,
  ⟨(some 6), (.faddr 1 (some 2) (.tmp 5)), none⟩,
  ⟨(some 7), (.faddr 0 none (.tmp 6)), none⟩,
  ⟨(some 8), (.load none (.tmp 7)), none⟩,
  ⟨(some 9), (.bin .add (.tmp 8) (.con (.int .i64 1))), none⟩,
  ⟨(some 10), (.build [(.int .i64 0), (.int .i64 0)] [(0, 1, (.tmp 9))]), none⟩,
  ⟨(some 11), (.nilc (.tmp 2)), none⟩,
  ⟨(some 12), (.faddr 1 (some 2) (.tmp 11)), none⟩,
  ⟨none, (.store 2 (.tmp 12) (.tmp 10)), none⟩,
  ⟨(some 13), (.nilc (.tmp 3)), none⟩,
  ⟨(some 14), (.faddr 3 none (.tmp 13)), none⟩,
  ⟨none, (.store 1 (.tmp 14) (.con (.bool false))), none⟩])
theorem fn17 : fnCode Try.prog 17 = some (15, code17, []) := by kernel_rfl

/-- (*emissary/emissaryref26.Client).Take -/
def code18 : ACode :=
 (.seq (.ops [⟨(some 4), (.alloc 34 [(.int .i64 0), (.int .i64 0), (.int .i64 0), .nils]), none⟩,
  ⟨(some 5), (.move (.con (.bool false))), none⟩])
 (.seq (.ops [⟨(some 9), (.move (.tmp 1)), none⟩,
  ⟨(some 10), (.call 29 [(.tmp 9)]), none⟩,
  ⟨(some 8), (.move (.tmp 10)), none⟩,
  ⟨(some 11), (.extract 0 (.tmp 8)), none⟩,
  ⟨(some 12), (.extract 1 (.tmp 8)), none⟩,
  ⟨(some 6), (.alloc 34 [(.int .i64 0), (.int .i64 0), (.int .i64 0), .nils]), none⟩,
  ⟨none, (.store 4 (.tmp 6) (.tmp 11)), none⟩,
  ⟨(some 7), (.move (.tmp 12)), none⟩])
 (.seq (.seq (.draw (.take ⟨(some 13), (.move (.tmp 7)), none⟩
  (.take ⟨(some 14), (.un .not (.tmp 13)), none⟩
  (.take ⟨(some 15), (.move (.tmp 14)), none⟩
  (.take ⟨(some 16), (.move (.tmp 0)), some (15, false)⟩
  (.take ⟨(some 17), (.nilc (.tmp 16)), some (15, false)⟩
  (.take ⟨(some 18), (.faddr 3 none (.tmp 17)), some (15, false)⟩
  (.take ⟨(some 19), (.load none (.tmp 18)), some (15, false)⟩
  (.take ⟨(some 20), (.un .not (.tmp 19)), some (15, false)⟩
  (.take ⟨(some 21), (.pick (.tmp 15) (.con (.bool true)) (.tmp 20)), none⟩
  (.take ⟨(some 22), (.move (.tmp 21)), none⟩
  (.take ⟨(some 23), (.faddr 0 (some 2) (.tmp 6)), some (22, false)⟩
  (.take ⟨(some 24), (.load (some 2) (.tmp 23)), some (22, false)⟩
  (.take ⟨(some 25), (.move (.tmp 0)), some (22, false)⟩
  (.take ⟨(some 26), (.nilc (.tmp 25)), some (22, false)⟩
  (.take ⟨(some 27), (.faddr 1 (some 2) (.tmp 26)), some (22, false)⟩
  (.take ⟨(some 28), (.load (some 2) (.tmp 27)), some (22, false)⟩
  (.take ⟨(some 29), (.eqs true [.int, .int] (.tmp 24) (.tmp 28)), some (22, false)⟩
  (.take ⟨(some 30), (.pick (.tmp 22) (.con (.bool true)) (.tmp 29)), none⟩
  .nil)))))))))))))))))))
 (.cond (.tmp 30)
 (.seq (.ops [⟨(some 31), (.build [(.int .i64 0), (.int .i64 0), (.int .i64 0), .nils] []), none⟩,
  ⟨none, (.store 4 (.tmp 4) (.tmp 31)), none⟩,
  ⟨(some 5), (.move (.con (.bool false))), none⟩])
 .ret)
 .skip))
 (.seq (.ops [⟨(some 32), (.move (.tmp 0)), none⟩,
  ⟨(some 33), (.nilc (.tmp 32)), none⟩,
  ⟨(some 34), (.faddr 3 none (.tmp 33)), none⟩,
  ⟨none, (.store 1 (.tmp 34) (.con (.bool false))), none⟩])
 (.seq (.ops [⟨(some 35), (.load (some 4) (.tmp 6)), none⟩,
  ⟨none, (.store 4 (.tmp 4) (.tmp 35)), none⟩,
  ⟨(some 5), (.move (.con (.bool true))), none⟩])
 .ret)))))
theorem fn18 : fnCode Try.prog 18 = some (36, code18, [.cell 4 (some 4), .tmp 5]) := by kernel_rfl

/-- emissary/emissaryref25.Same -/
def code19 : ACode :=
 (.seq (.ops [⟨(some 2), (.box 34 4 (.tmp 0)), none⟩,
  ⟨(some 3), (.box 34 4 (.tmp 1)), none⟩,
  ⟨(some 4), (.move (.con (.bool false))), none⟩])
 (.seq (.ops [⟨(some 5), (.faddr 0 (some 2) (.tmp 2)), none⟩,
  ⟨(some 6), (.load (some 2) (.tmp 5)), none⟩,
  ⟨(some 7), (.faddr 0 (some 2) (.tmp 3)), none⟩,
  ⟨(some 8), (.load (some 2) (.tmp 7)), none⟩,
  ⟨(some 9), (.eqs false [.int, .int] (.tmp 6) (.tmp 8)), none⟩,
  ⟨(some 10), (.move (.tmp 9)), none⟩,
  ⟨(some 11), (.faddr 2 none (.tmp 2)), some (10, true)⟩,
  ⟨(some 12), (.load none (.tmp 11)), some (10, true)⟩,
  ⟨(some 13), (.faddr 2 none (.tmp 3)), some (10, true)⟩,
  ⟨(some 14), (.load none (.tmp 13)), some (10, true)⟩,
  ⟨(some 15), (.bin .eql (.tmp 12) (.tmp 14)), some (10, true)⟩,
  ⟨(some 16), (.pick (.tmp 10) (.tmp 15) (.con (.bool false))), none⟩,
  ⟨(some 17), (.move (.tmp 16)), none⟩,
  ⟨(some 18), (.faddr 3 none (.tmp 2)), some (17, true)⟩,
  ⟨(some 19), (.load none (.tmp 18)), some (17, true)⟩,
  ⟨(some 20), (.b2s (.tmp 19)), some (17, true)⟩,
  ⟨(some 21), (.faddr 3 none (.tmp 3)), some (17, true)⟩,
  ⟨(some 22), (.load none (.tmp 21)), some (17, true)⟩,
  ⟨(some 23), (.b2s (.tmp 22)), some (17, true)⟩,
  ⟨(some 24), (.bin .eql (.tmp 20) (.tmp 23)), some (17, true)⟩,
  ⟨(some 25), (.pick (.tmp 17) (.tmp 24) (.con (.bool false))), none⟩,
  ⟨(some 4), (.move (.tmp 25)), none⟩])
 .ret))
theorem fn19 : fnCode Try.prog 19 = some (26, code19, [.tmp 4]) := by kernel_rfl

/-- (*emissary/emissaryref26.Client).Pending -/
def code20 : ACode :=
 (.seq (.ops [⟨(some 2), (.alloc 31 [(.int .i64 0), (.int .i64 0)]), none⟩,
  ⟨(some 3), (.move (.con (.bool false))), none⟩])
 (.seq (.seq (.ops [⟨(some 4), (.move (.tmp 0)), none⟩,
  ⟨(some 5), (.nilc (.tmp 4)), none⟩,
  ⟨(some 6), (.faddr 3 none (.tmp 5)), none⟩,
  ⟨(some 7), (.load none (.tmp 6)), none⟩,
  ⟨(some 8), (.un .not (.tmp 7)), none⟩])
 (.cond (.tmp 8)
 (.seq (.ops [⟨(some 9), (.build [(.int .i64 0), (.int .i64 0)] []), none⟩,
  ⟨none, (.store 2 (.tmp 2) (.tmp 9)), none⟩,
  ⟨(some 3), (.move (.con (.bool false))), none⟩])
 .ret)
 .skip))
 (.seq (.ops [⟨(some 10), (.move (.tmp 0)), none⟩,
  ⟨(some 11), (.nilc (.tmp 10)), none⟩,
  ⟨(some 12), (.faddr 1 (some 2) (.tmp 11)), none⟩,
  ⟨(some 13), (.load (some 2) (.tmp 12)), none⟩,
  ⟨none, (.store 2 (.tmp 2) (.tmp 13)), none⟩,
  ⟨(some 3), (.move (.con (.bool true))), none⟩])
 .ret)))
theorem fn20 : fnCode Try.prog 20 = some (14, code20, [.cell 2 (some 2), .tmp 3]) := by kernel_rfl

/-- emissary/emissarylaw26.ClientAgain -/
def code3 : ACode :=
 (.seq (.ops [⟨(some 4), (.move (.con (.bool false))), none⟩])
 (.seq (.seq (.ops [⟨(some 20), (.move (.tmp 0)), none⟩,
  ⟨(some 21), (.len .slice (.tmp 20)), none⟩,
  ⟨(some 22), (.bin .gtr (.tmp 21) (.con (.int .i64 100))), none⟩,
  ⟨(some 23), (.move (.tmp 22)), none⟩,
  ⟨(some 24), (.move (.tmp 1)), some (23, false)⟩,
  ⟨(some 25), (.bin .lss (.tmp 24) (.con (.int .i64 0))), some (23, false)⟩,
  ⟨(some 26), (.pick (.tmp 23) (.con (.bool true)) (.tmp 25)), none⟩,
  ⟨(some 27), (.move (.tmp 26)), none⟩,
  ⟨(some 28), (.move (.tmp 1)), some (27, false)⟩,
  ⟨(some 29), (.bin .gtr (.tmp 28) (.con (.int .i64 40))), some (27, false)⟩,
  ⟨(some 30), (.pick (.tmp 27) (.con (.bool true)) (.tmp 29)), none⟩])
 (.cond (.tmp 30)
 (.seq (.ops [⟨(some 4), (.move (.con (.bool true))), none⟩])
 .ret)
 .skip))
 (.seq (.ops [⟨(some 31), (.call 7 [(.con (.int .u64 3))]), none⟩,
  ⟨(some 5), (.move (.tmp 31)), none⟩])
 (.seq (.ops [⟨(some 33), (.move (.tmp 5)), none⟩,
  ⟨(some 34), (.move (.tmp 0)), none⟩,
  ⟨(some 35), (.call 8 [(.tmp 33), (.tmp 34)]), none⟩,
  ⟨(some 32), (.move (.tmp 35)), none⟩,
  ⟨(some 36), (.extract 0 (.tmp 32)), none⟩,
  ⟨(some 37), (.extract 1 (.tmp 32)), none⟩,
  ⟨(some 6), (.move (.tmp 36)), none⟩,
  ⟨(some 7), (.move (.tmp 37)), none⟩])
 (.seq (.seq (.ops [⟨(some 38), (.move (.tmp 7)), none⟩,
  ⟨(some 39), (.un .not (.tmp 38)), none⟩])
 (.cond (.tmp 39)
 (.seq (.ops [⟨(some 4), (.move (.con (.bool false))), none⟩])
 .ret)
 .skip))
 (.seq (.seq (.ops [⟨(some 8), (.move (.con (.int .i64 1))), none⟩])
 (.block 0 (.loop (.seq (.seq (.ops [⟨(some 40), (.move (.tmp 8)), none⟩,
  ⟨(some 41), (.move (.tmp 1)), none⟩,
  ⟨(some 42), (.bin .leq (.tmp 40) (.tmp 41)), none⟩])
 (.cond (.tmp 42)
 .skip
 (.exit 0)))
 (.seq (.block 1 (.seq (.ops [⟨(some 46), (.move (.tmp 5)), none⟩,
  ⟨(some 47), (.call 9 [(.tmp 46)]), none⟩,
  ⟨(some 45), (.move (.tmp 47)), none⟩,
  ⟨(some 48), (.extract 0 (.tmp 45)), none⟩,
  ⟨(some 49), (.extract 1 (.tmp 45)), none⟩,
  ⟨(some 9), (.move (.tmp 48)), none⟩,
  ⟨(some 10), (.move (.tmp 49)), none⟩])
 (.seq (.ops [⟨(some 50), (.move (.tmp 10)), none⟩,
  ⟨(some 51), (.move (.tmp 8)), none⟩,
  ⟨(some 52), (.bin .rem (.tmp 51) (.con (.int .i64 3))), none⟩,
  ⟨(some 53), (.bin .eql (.tmp 52) (.con (.int .i64 0))), none⟩,
  ⟨(some 54), (.eqv true .bool (.tmp 50) (.tmp 53)), none⟩,
  ⟨(some 55), (.move (.tmp 54)), none⟩,
  ⟨(some 56), (.move (.tmp 10)), some (55, false)⟩,
  ⟨(some 57), (.move (.tmp 56)), some (55, false)⟩,
  ⟨(some 58), (.move (.tmp 9)), some (57, true)⟩,
  ⟨(some 59), (.b2s (.tmp 58)), some (57, true)⟩,
  ⟨(some 60), (.move (.tmp 6)), some (57, true)⟩,
  ⟨(some 61), (.b2s (.tmp 60)), some (57, true)⟩,
  ⟨(some 62), (.bin .neq (.tmp 59) (.tmp 61)), some (57, true)⟩,
  ⟨(some 63), (.pick (.tmp 57) (.tmp 62) (.con (.bool false))), some (55, false)⟩,
  ⟨(some 64), (.pick (.tmp 55) (.con (.bool true)) (.tmp 63)), none⟩])
 (.cond (.tmp 64)
 (.seq (.ops [⟨(some 4), (.move (.con (.bool false))), none⟩])
 .ret)
 .skip))))
 (.ops [⟨(some 43), (.move (.tmp 8)), none⟩,
  ⟨(some 44), (.bin .add (.tmp 43) (.con (.int .i64 1))), none⟩,
  ⟨(some 8), (.move (.tmp 44)), none⟩]))))))
 (.seq (.ops [⟨(some 66), (.bslice 5 1 3 [(.int .u8 0), (.int .u8 0), (.int .u8 0)] [(0, 1, (.con (.int .u8 0))), (1, 1, (.con (.int .u8 1))), (2, 1, (.con (.int .u8 0)))]), none⟩,
  ⟨(some 67), (.call 10 [(.con (.int .u8 2)), (.tmp 66)]), none⟩,
  ⟨(some 65), (.move (.tmp 67)), none⟩,
  ⟨(some 68), (.extract 0 (.tmp 65)), none⟩,
  ⟨(some 69), (.extract 1 (.tmp 65)), none⟩,
  ⟨(some 11), (.move (.tmp 68)), none⟩,
  ⟨(some 12), (.move (.tmp 69)), none⟩])
 (.seq (.ops [⟨(some 71), (.move (.tmp 5)), none⟩,
  ⟨(some 72), (.move (.tmp 11)), none⟩,
  ⟨(some 73), (.call 11 [(.tmp 71), (.tmp 72)]), none⟩,
  ⟨(some 70), (.move (.tmp 73)), none⟩,
  ⟨(some 74), (.extract 0 (.tmp 70)), none⟩,
  ⟨(some 75), (.extract 1 (.tmp 70)), none⟩,
  ⟨(some 13), (.alloc 34 [(.int .i64 0), (.int .i64 0), (.int .i64 0), .nils]), none⟩,
  ⟨none, (.store 4 (.tmp 13) (.tmp 74)), none⟩,
  ⟨(some 14), (.move (.tmp 75)), none⟩])
 (.seq (.ops [⟨(some 77), (.move (.tmp 5)), none⟩,
  ⟨(some 78), (.move (.tmp 11)), none⟩,
  ⟨(some 79), (.call 11 [(.tmp 77), (.tmp 78)]), none⟩,
  ⟨(some 76), (.move (.tmp 79)), none⟩,
  ⟨(some 80), (.extract 0 (.tmp 76)), none⟩,
  ⟨(some 81), (.extract 1 (.tmp 76)), none⟩,
  ⟨(some 15), (.alloc 34 [(.int .i64 0), (.int .i64 0), (.int .i64 0), .nils]), none⟩,
  ⟨none, (.store 4 (.tmp 15) (.tmp 80)), none⟩,
  ⟨(some 16), (.move (.tmp 81)), none⟩])
 (.seq (.seq (.ops [⟨(some 17), (.move (.con (.int .i64 0))), none⟩])
 (.block 2 (.loop (.seq (.seq (.ops [⟨(some 82), (.move (.tmp 17)), none⟩,
  ⟨(some 83), (.bin .lss (.tmp 82) (.con (.int .i64 4))), none⟩])
 (.cond (.tmp 83)
 .skip
 (.exit 2)))
 (.seq (.block 3 (.seq (.ops [⟨(some 87), (.move (.tmp 5)), none⟩,
  ⟨(some 88), (.call 9 [(.tmp 87)]), none⟩,
  ⟨(some 86), (.move (.tmp 88)), none⟩,
  ⟨(some 89), (.extract 0 (.tmp 86)), none⟩,
  ⟨(some 90), (.extract 1 (.tmp 86)), none⟩,
  ⟨(some 18), (.move (.tmp 89)), none⟩,
  ⟨(some 19), (.move (.tmp 90)), none⟩])
 (.seq (.ops [⟨(some 91), (.move (.tmp 19)), none⟩])
 (.cond (.tmp 91)
 (.seq (.ops [⟨(some 4), (.move (.con (.bool false))), none⟩])
 .ret)
 .skip))))
 (.ops [⟨(some 84), (.move (.tmp 17)), none⟩,
  ⟨(some 85), (.bin .add (.tmp 84) (.con (.int .i64 1))), none⟩,
  ⟨(some 17), (.move (.tmp 85)), none⟩]))))))
 (.seq (.ops [⟨(some 92), (.move (.tmp 14)), none⟩,
  ⟨(some 93), (.move (.tmp 92)), none⟩,
  ⟨(some 94), (.move (.tmp 16)), some (93, true)⟩,
  ⟨(some 95), (.un .not (.tmp 94)), some (93, true)⟩,
  ⟨(some 96), (.pick (.tmp 93) (.tmp 95) (.con (.bool false))), none⟩,
  ⟨(some 97), (.move (.tmp 96)), none⟩,
  ⟨(some 98), (.call 12 []), some (97, true)⟩,
  ⟨(some 99), (.pick (.tmp 97) (.tmp 98) (.con (.bool false))), none⟩,
  ⟨(some 4), (.move (.tmp 99)), none⟩])
 .ret)))))))))))
theorem fn3 : fnCode Try.prog 3 = some (100, code3, [.tmp 4]) := by kernel_rfl

/-- emissary/emissarylaw26.ClientLate -/
def code4 : ACode :=
 (.seq (.ops [⟨(some 6), (.move (.con (.bool false))), none⟩])
 (.seq (.seq (.ops [⟨(some 18), (.move (.tmp 0)), none⟩,
  ⟨(some 19), (.bin .lss (.tmp 18) (.con (.int .i64 1))), none⟩,
  ⟨(some 20), (.move (.tmp 19)), none⟩,
  ⟨(some 21), (.move (.tmp 0)), some (20, false)⟩,
  ⟨(some 22), (.bin .gtr (.tmp 21) (.con (.int .i64 20))), some (20, false)⟩,
  ⟨(some 23), (.pick (.tmp 20) (.con (.bool true)) (.tmp 22)), none⟩,
  ⟨(some 24), (.move (.tmp 23)), none⟩,
  ⟨(some 25), (.move (.tmp 1)), some (24, false)⟩,
  ⟨(some 26), (.bin .lss (.tmp 25) (.con (.int .i64 0))), some (24, false)⟩,
  ⟨(some 27), (.pick (.tmp 24) (.con (.bool true)) (.tmp 26)), none⟩,
  ⟨(some 28), (.move (.tmp 27)), none⟩,
  ⟨(some 29), (.move (.tmp 1)), some (28, false)⟩,
  ⟨(some 30), (.bin .gtr (.tmp 29) (.con (.int .i64 5))), some (28, false)⟩,
  ⟨(some 31), (.pick (.tmp 28) (.con (.bool true)) (.tmp 30)), none⟩,
  ⟨(some 32), (.move (.tmp 31)), none⟩,
  ⟨(some 33), (.move (.tmp 2)), some (32, false)⟩,
  ⟨(some 34), (.bin .lss (.tmp 33) (.con (.int .i64 0))), some (32, false)⟩,
  ⟨(some 35), (.pick (.tmp 32) (.con (.bool true)) (.tmp 34)), none⟩,
  ⟨(some 36), (.move (.tmp 35)), none⟩,
  ⟨(some 37), (.move (.tmp 2)), some (36, false)⟩,
  ⟨(some 38), (.bin .gtr (.tmp 37) (.con (.int .i64 25))), some (36, false)⟩,
  ⟨(some 39), (.pick (.tmp 36) (.con (.bool true)) (.tmp 38)), none⟩])
 (.cond (.tmp 39)
 (.seq (.ops [⟨(some 6), (.move (.con (.bool true))), none⟩])
 .ret)
 .skip))
 (.seq (.ops [⟨(some 40), (.call 7 [(.con (.int .u64 1))]), none⟩,
  ⟨(some 7), (.move (.tmp 40)), none⟩])
 (.seq (.seq (.ops [⟨(some 8), (.move (.con (.int .i64 1))), none⟩])
 (.block 0 (.loop (.seq (.seq (.ops [⟨(some 41), (.move (.tmp 8)), none⟩,
  ⟨(some 42), (.move (.tmp 0)), none⟩,
  ⟨(some 43), (.bin .leq (.tmp 41) (.tmp 42)), none⟩])
 (.cond (.tmp 43)
 .skip
 (.exit 0)))
 (.seq (.block 1 (.seq (.ops [⟨(some 46), (.move (.tmp 7)), none⟩,
  ⟨(some 47), (.call 8 [(.tmp 46), (.con .nils)]), none⟩])
 (.seq (.ops [⟨(some 48), (.move (.tmp 8)), none⟩,
  ⟨(some 49), (.move (.tmp 0)), none⟩,
  ⟨(some 50), (.bin .lss (.tmp 48) (.tmp 49)), none⟩])
 (.cond (.tmp 50)
 (.seq (.ops [⟨(some 52), (.move (.tmp 8)), none⟩,
  ⟨(some 53), (.conv .u8 (.tmp 52)), none⟩,
  ⟨(some 54), (.bslice 5 1 3 [(.int .u8 0), (.int .u8 0), (.int .u8 0)] [(0, 1, (.con (.int .u8 0))), (1, 1, (.tmp 53)), (2, 1, (.con (.int .u8 0)))]), none⟩,
  ⟨(some 55), (.call 10 [(.con (.int .u8 2)), (.tmp 54)]), none⟩,
  ⟨(some 51), (.move (.tmp 55)), none⟩,
  ⟨(some 56), (.extract 0 (.tmp 51)), none⟩,
  ⟨(some 57), (.extract 1 (.tmp 51)), none⟩,
  ⟨(some 9), (.move (.tmp 56)), none⟩,
  ⟨(some 10), (.move (.tmp 57)), none⟩])
 (.ops [⟨(some 58), (.move (.tmp 7)), none⟩,
  ⟨(some 59), (.move (.tmp 9)), none⟩,
  ⟨(some 60), (.call 11 [(.tmp 58), (.tmp 59)]), none⟩]))
 .skip))))
 (.ops [⟨(some 44), (.move (.tmp 8)), none⟩,
  ⟨(some 45), (.bin .add (.tmp 44) (.con (.int .i64 1))), none⟩,
  ⟨(some 8), (.move (.tmp 45)), none⟩]))))))
 (.seq (.ops [⟨(some 62), (.move (.tmp 1)), none⟩,
  ⟨(some 63), (.conv .u8 (.tmp 62)), none⟩,
  ⟨(some 64), (.move (.tmp 2)), none⟩,
  ⟨(some 65), (.conv .u8 (.tmp 64)), none⟩,
  ⟨(some 66), (.bslice 5 1 4 [(.int .u8 0), (.int .u8 0), (.int .u8 0), (.int .u8 0)] [(0, 1, (.tmp 63)), (1, 1, (.tmp 65)), (2, 1, (.con (.int .u8 0))), (3, 1, (.con (.int .u8 9)))]), none⟩,
  ⟨(some 67), (.call 10 [(.con (.int .u8 2)), (.tmp 66)]), none⟩,
  ⟨(some 61), (.move (.tmp 67)), none⟩,
  ⟨(some 68), (.extract 0 (.tmp 61)), none⟩,
  ⟨(some 69), (.extract 1 (.tmp 61)), none⟩,
  ⟨(some 11), (.move (.tmp 68)), none⟩,
  ⟨(some 12), (.move (.tmp 69)), none⟩])
 (.seq (.ops [⟨(some 71), (.move (.tmp 7)), none⟩,
  ⟨(some 72), (.move (.tmp 11)), none⟩,
  ⟨(some 73), (.call 11 [(.tmp 71), (.tmp 72)]), none⟩,
  ⟨(some 70), (.move (.tmp 73)), none⟩,
  ⟨(some 74), (.extract 0 (.tmp 70)), none⟩,
  ⟨(some 75), (.extract 1 (.tmp 70)), none⟩,
  ⟨(some 13), (.alloc 34 [(.int .i64 0), (.int .i64 0), (.int .i64 0), .nils]), none⟩,
  ⟨none, (.store 4 (.tmp 13) (.tmp 74)), none⟩,
  ⟨(some 14), (.move (.tmp 75)), none⟩])
 (.seq (.ops [⟨(some 76), (.move (.tmp 1)), none⟩,
  ⟨(some 77), (.bin .eql (.tmp 76) (.con (.int .i64 0))), none⟩,
  ⟨(some 78), (.move (.tmp 77)), none⟩,
  ⟨(some 79), (.move (.tmp 2)), some (78, true)⟩,
  ⟨(some 80), (.move (.tmp 0)), some (78, true)⟩,
  ⟨(some 81), (.bin .eql (.tmp 79) (.tmp 80)), some (78, true)⟩,
  ⟨(some 82), (.pick (.tmp 78) (.tmp 81) (.con (.bool false))), none⟩,
  ⟨(some 15), (.move (.tmp 82)), none⟩])
 (.seq (.ops [⟨(some 84), (.move (.tmp 7)), none⟩,
  ⟨(some 85), (.call 13 [(.tmp 84)]), none⟩,
  ⟨(some 83), (.move (.tmp 85)), none⟩,
  ⟨(some 86), (.extract 0 (.tmp 83)), none⟩,
  ⟨(some 87), (.extract 1 (.tmp 83)), none⟩,
  ⟨(some 16), (.alloc 31 [(.int .i64 0), (.int .i64 0)]), none⟩,
  ⟨none, (.store 2 (.tmp 16) (.tmp 86)), none⟩,
  ⟨(some 17), (.move (.tmp 87)), none⟩])
 (.seq (.ops [⟨(some 88), (.move (.tmp 14)), none⟩,
  ⟨(some 89), (.move (.tmp 15)), none⟩,
  ⟨(some 90), (.eqv false .bool (.tmp 88) (.tmp 89)), none⟩,
  ⟨(some 91), (.move (.tmp 90)), none⟩,
  ⟨(some 92), (.move (.tmp 17)), some (91, true)⟩,
  ⟨(some 93), (.move (.tmp 15)), some (91, true)⟩,
  ⟨(some 94), (.un .not (.tmp 93)), some (91, true)⟩,
  ⟨(some 95), (.eqv false .bool (.tmp 92) (.tmp 94)), some (91, true)⟩,
  ⟨(some 96), (.pick (.tmp 91) (.tmp 95) (.con (.bool false))), none⟩,
  ⟨(some 97), (.move (.tmp 96)), none⟩,
  ⟨(some 98), (.move (.tmp 15)), some (97, true)⟩,
  ⟨(some 99), (.un .not (.tmp 98)), some (97, true)⟩,
  ⟨(some 100), (.move (.tmp 99)), some (97, true)⟩,
  ⟨(some 101), (.faddr 0 (some 2) (.tmp 13)), some (100, false)⟩,
  ⟨(some 102), (.load (some 2) (.tmp 101)), some (100, false)⟩,
  ⟨(some 103), (.move (.tmp 2)), some (100, false)⟩,
  ⟨(some 104), (.build [(.int .i64 0), (.int .i64 0)] [(1, 1, (.tmp 103))]), some (100, false)⟩,
  ⟨(some 105), (.eqs false [.int, .int] (.tmp 102) (.tmp 104)), some (100, false)⟩,
  ⟨(some 106), (.move (.tmp 105)), some (100, false)⟩,
  ⟨(some 107), (.faddr 3 none (.tmp 13)), some (106, true)⟩,
  ⟨(some 108), (.load none (.tmp 107)), some (106, true)⟩,
  ⟨(some 109), (.b2s (.tmp 108)), some (106, true)⟩,
  ⟨(some 110), (.bin .eql (.tmp 109) (.con (.str ⟨#[9]⟩))), some (106, true)⟩,
  ⟨(some 111), (.pick (.tmp 106) (.tmp 110) (.con (.bool false))), some (100, false)⟩,
  ⟨(some 112), (.pick (.tmp 100) (.con (.bool true)) (.tmp 111)), some (97, true)⟩,
  ⟨(some 113), (.pick (.tmp 97) (.tmp 112) (.con (.bool false))), none⟩,
  ⟨(some 114), (.move (.tmp 113)), none⟩,
  ⟨(some 115), (.call 12 []), some (114, true)⟩,
  ⟨(some 116), (.pick (.tmp 114) (.tmp 115) (.con (.bool false))), none⟩,
  ⟨(some 6), (.move (.tmp 116)), none⟩])
 .ret)))))))))
theorem fn4 : fnCode Try.prog 4 = some (117, code4, [.tmp 6]) := by kernel_rfl

/-- emissary/emissarylaw26.ClientPlays -/
def code5 : ACode :=
 (.seq (.ops [⟨(some 4), (.move (.con (.bool false))), none⟩])
 (.seq (.seq (.ops [⟨(some 27), (.move (.tmp 1)), none⟩,
  ⟨(some 28), (.len .slice (.tmp 27)), none⟩,
  ⟨(some 29), (.bin .gtr (.tmp 28) (.con (.int .i64 100))), none⟩])
 (.cond (.tmp 29)
 (.seq (.ops [⟨(some 4), (.move (.con (.bool true))), none⟩])
 .ret)
 .skip))
 (.seq (.ops [⟨(some 30), (.move (.tmp 0)), none⟩,
  ⟨(some 31), (.call 7 [(.tmp 30)]), none⟩,
  ⟨(some 32), (.move (.tmp 0)), none⟩,
  ⟨(some 33), (.build [(.int .u64 0), (.int .i64 0), (.int .i64 0), (.bool false), .nils, (.int .i64 0)] [(0, 1, (.tmp 32))]), none⟩,
  ⟨(some 34), (.box 45 6 (.tmp 33)), none⟩,
  ⟨(some 5), (.move (.tmp 31)), none⟩,
  ⟨(some 6), (.move (.tmp 34)), none⟩])
 (.seq (.seq (.ops [⟨(some 7), (.move (.con (.int .i64 0))), none⟩])
 (.block 0 (.loop (.seq (.seq (.ops [⟨(some 35), (.move (.tmp 5)), none⟩,
  ⟨(some 36), (.eqv true .ptr (.tmp 35) (.con .nilp)), none⟩,
  ⟨(some 37), (.move (.tmp 36)), none⟩,
  ⟨(some 38), (.move (.tmp 7)), some (37, true)⟩,
  ⟨(some 39), (.move (.tmp 1)), some (37, true)⟩,
  ⟨(some 40), (.len .slice (.tmp 39)), some (37, true)⟩,
  ⟨(some 41), (.bin .lss (.tmp 38) (.tmp 40)), some (37, true)⟩,
  ⟨(some 42), (.pick (.tmp 37) (.tmp 41) (.con (.bool false))), none⟩])
 (.cond (.tmp 42)
 .skip
 (.exit 0)))
 (.seq (.block 1 (.seq (.ops [⟨(some 45), (.move (.tmp 1)), none⟩,
  ⟨(some 46), (.move (.tmp 7)), none⟩,
  ⟨(some 47), (.iaddr 5 (.tmp 45) (.tmp 46)), none⟩,
  ⟨(some 48), (.load (some 5) (.tmp 47)), none⟩,
  ⟨(some 8), (.alloc 47 [(.int .i64 0), (.int .i64 0), (.int .i64 0), (.int .u8 0), .nils]), none⟩,
  ⟨none, (.store 5 (.tmp 8) (.tmp 48)), none⟩])
 (.seq (.seq (.ops [⟨(some 49), (.faddr 4 none (.tmp 8)), none⟩,
  ⟨(some 50), (.load none (.tmp 49)), none⟩,
  ⟨(some 51), (.len .slice (.tmp 50)), none⟩,
  ⟨(some 52), (.bin .gtr (.tmp 51) (.con (.int .i64 100))), none⟩])
 (.cond (.tmp 52)
 (.seq (.ops [⟨(some 4), (.move (.con (.bool true))), none⟩])
 .ret)
 .skip))
 (.seq (.ops [⟨(some 9), (.move (.con (.bool true))), none⟩])
 (.seq (.seq (.ops [⟨(some 53), (.faddr 0 none (.tmp 8)), none⟩,
  ⟨(some 54), (.load none (.tmp 53)), none⟩])
 (.block 2 (.seq (.ops [⟨(some 104), (.bin .eql (.tmp 54) (.con (.int .i64 1))), none⟩,
  ⟨(some 103), (.move (.tmp 104)), none⟩])
 (.cond (.tmp 103)
 (.seq (.ops [⟨(some 106), (.move (.tmp 5)), none⟩,
  ⟨(some 107), (.bslice 5 1 0 [] []), none⟩,
  ⟨(some 108), (.faddr 4 none (.tmp 8)), none⟩,
  ⟨(some 109), (.load none (.tmp 108)), none⟩,
  ⟨(some 110), (.append 5 1 1 (.tmp 107) (.tmp 109)), none⟩,
  ⟨(some 111), (.call 8 [(.tmp 106), (.tmp 110)]), none⟩,
  ⟨(some 105), (.move (.tmp 111)), none⟩,
  ⟨(some 112), (.extract 0 (.tmp 105)), none⟩,
  ⟨(some 113), (.extract 1 (.tmp 105)), none⟩,
  ⟨(some 10), (.move (.tmp 112)), none⟩,
  ⟨(some 11), (.move (.tmp 113)), none⟩])
 (.seq (.ops [⟨(some 115), (.move (.tmp 6)), none⟩,
  ⟨(some 116), (.faddr 4 none (.tmp 8)), none⟩,
  ⟨(some 117), (.load none (.tmp 116)), none⟩,
  ⟨(some 118), (.call 14 [(.tmp 115), (.tmp 117)]), none⟩,
  ⟨(some 114), (.move (.tmp 118)), none⟩,
  ⟨(some 119), (.extract 0 (.tmp 114)), none⟩,
  ⟨(some 120), (.extract 1 (.tmp 114)), none⟩,
  ⟨(some 12), (.move (.tmp 119)), none⟩,
  ⟨(some 13), (.move (.tmp 120)), none⟩])
 (.ops [⟨(some 121), (.move (.tmp 10)), none⟩,
  ⟨(some 122), (.b2s (.tmp 121)), none⟩,
  ⟨(some 123), (.move (.tmp 12)), none⟩,
  ⟨(some 124), (.b2s (.tmp 123)), none⟩,
  ⟨(some 125), (.bin .eql (.tmp 122) (.tmp 124)), none⟩,
  ⟨(some 126), (.move (.tmp 125)), none⟩,
  ⟨(some 127), (.move (.tmp 11)), some (126, true)⟩,
  ⟨(some 128), (.move (.tmp 13)), some (126, true)⟩,
  ⟨(some 129), (.eqv false .bool (.tmp 127) (.tmp 128)), some (126, true)⟩,
  ⟨(some 130), (.pick (.tmp 126) (.tmp 129) (.con (.bool false))), none⟩,
  ⟨(some 9), (.move (.tmp 130)), none⟩])))
 (.seq (.ops [⟨(some 132), (.bin .eql (.tmp 54) (.con (.int .i64 2))), none⟩,
  ⟨(some 131), (.move (.tmp 132)), none⟩])
 (.cond (.tmp 131)
 (.seq (.ops [⟨(some 134), (.move (.tmp 5)), none⟩,
  ⟨(some 135), (.call 9 [(.tmp 134)]), none⟩,
  ⟨(some 133), (.move (.tmp 135)), none⟩,
  ⟨(some 136), (.extract 0 (.tmp 133)), none⟩,
  ⟨(some 137), (.extract 1 (.tmp 133)), none⟩,
  ⟨(some 14), (.move (.tmp 136)), none⟩,
  ⟨(some 15), (.move (.tmp 137)), none⟩])
 (.seq (.ops [⟨(some 139), (.move (.tmp 6)), none⟩,
  ⟨(some 140), (.call 15 [(.tmp 139)]), none⟩,
  ⟨(some 138), (.move (.tmp 140)), none⟩,
  ⟨(some 141), (.extract 0 (.tmp 138)), none⟩,
  ⟨(some 142), (.extract 1 (.tmp 138)), none⟩,
  ⟨(some 16), (.move (.tmp 141)), none⟩,
  ⟨(some 17), (.move (.tmp 142)), none⟩])
 (.ops [⟨(some 143), (.move (.tmp 14)), none⟩,
  ⟨(some 144), (.b2s (.tmp 143)), none⟩,
  ⟨(some 145), (.move (.tmp 16)), none⟩,
  ⟨(some 146), (.b2s (.tmp 145)), none⟩,
  ⟨(some 147), (.bin .eql (.tmp 144) (.tmp 146)), none⟩,
  ⟨(some 148), (.move (.tmp 147)), none⟩,
  ⟨(some 149), (.move (.tmp 15)), some (148, true)⟩,
  ⟨(some 150), (.move (.tmp 17)), some (148, true)⟩,
  ⟨(some 151), (.eqv false .bool (.tmp 149) (.tmp 150)), some (148, true)⟩,
  ⟨(some 152), (.pick (.tmp 148) (.tmp 151) (.con (.bool false))), none⟩,
  ⟨(some 9), (.move (.tmp 152)), none⟩])))
 (.seq (.ops [⟨(some 154), (.bin .eql (.tmp 54) (.con (.int .i64 4))), none⟩,
  ⟨(some 153), (.move (.tmp 154)), none⟩])
 (.cond (.tmp 153)
 (.seq (.ops [⟨(some 155), (.move (.tmp 5)), none⟩,
  ⟨(some 156), (.call 16 [(.tmp 155)]), none⟩])
 (.ops [⟨(some 157), (.move (.tmp 6)), none⟩,
  ⟨(some 158), (.call 17 [(.tmp 157)]), none⟩]))
 (.seq (.ops [⟨(some 55), (.faddr 4 none (.tmp 8)), none⟩,
  ⟨(some 56), (.load none (.tmp 55)), none⟩,
  ⟨(some 18), (.move (.tmp 56)), none⟩])
 (.seq (.seq (.ops [⟨(some 57), (.faddr 0 none (.tmp 8)), none⟩,
  ⟨(some 58), (.load none (.tmp 57)), none⟩,
  ⟨(some 59), (.bin .eql (.tmp 58) (.con (.int .i64 3))), none⟩])
 (.cond (.tmp 59)
 (.ops [⟨(some 61), (.faddr 1 (some 2) (.tmp 8)), none⟩,
  ⟨(some 62), (.faddr 0 none (.tmp 61)), none⟩,
  ⟨(some 63), (.load none (.tmp 62)), none⟩,
  ⟨(some 64), (.bin .and (.tmp 63) (.con (.int .i64 127))), none⟩,
  ⟨(some 65), (.conv .u8 (.tmp 64)), none⟩,
  ⟨(some 66), (.faddr 1 (some 2) (.tmp 8)), none⟩,
  ⟨(some 67), (.faddr 1 none (.tmp 66)), none⟩,
  ⟨(some 68), (.load none (.tmp 67)), none⟩,
  ⟨(some 69), (.bin .and (.tmp 68) (.con (.int .i64 127))), none⟩,
  ⟨(some 70), (.conv .u8 (.tmp 69)), none⟩,
  ⟨(some 71), (.faddr 3 none (.tmp 8)), none⟩,
  ⟨(some 72), (.load none (.tmp 71)), none⟩,
  ⟨(some 73), (.bin .and (.tmp 72) (.con (.int .u8 15))), none⟩,
  ⟨(some 74), (.bslice 5 1 3 [(.int .u8 0), (.int .u8 0), (.int .u8 0)] [(0, 1, (.tmp 65)), (1, 1, (.tmp 70)), (2, 1, (.tmp 73))]), none⟩,
  ⟨(some 75), (.faddr 4 none (.tmp 8)), none⟩,
  ⟨(some 76), (.load none (.tmp 75)), none⟩,
  ⟨(some 77), (.append 5 1 1 (.tmp 74) (.tmp 76)), none⟩,
  ⟨(some 78), (.call 10 [(.con (.int .u8 2)), (.tmp 77)]), none⟩,
  ⟨(some 60), (.move (.tmp 78)), none⟩,
  ⟨(some 79), (.extract 0 (.tmp 60)), none⟩,
  ⟨(some 80), (.extract 1 (.tmp 60)), none⟩,
  ⟨(some 18), (.move (.tmp 79)), none⟩])
 .skip))
 (.seq (.ops [⟨(some 82), (.move (.tmp 5)), none⟩,
  ⟨(some 83), (.bslice 5 1 0 [] []), none⟩,
  ⟨(some 84), (.move (.tmp 18)), none⟩,
  ⟨(some 85), (.append 5 1 1 (.tmp 83) (.tmp 84)), none⟩,
  ⟨(some 86), (.call 11 [(.tmp 82), (.tmp 85)]), none⟩,
  ⟨(some 81), (.move (.tmp 86)), none⟩,
  ⟨(some 87), (.extract 0 (.tmp 81)), none⟩,
  ⟨(some 88), (.extract 1 (.tmp 81)), none⟩,
  ⟨(some 19), (.alloc 34 [(.int .i64 0), (.int .i64 0), (.int .i64 0), .nils]), none⟩,
  ⟨none, (.store 4 (.tmp 19) (.tmp 87)), none⟩,
  ⟨(some 20), (.move (.tmp 88)), none⟩])
 (.seq (.ops [⟨(some 90), (.move (.tmp 6)), none⟩,
  ⟨(some 91), (.move (.tmp 18)), none⟩,
  ⟨(some 92), (.call 18 [(.tmp 90), (.tmp 91)]), none⟩,
  ⟨(some 89), (.move (.tmp 92)), none⟩,
  ⟨(some 93), (.extract 0 (.tmp 89)), none⟩,
  ⟨(some 94), (.extract 1 (.tmp 89)), none⟩,
  ⟨(some 21), (.alloc 34 [(.int .i64 0), (.int .i64 0), (.int .i64 0), .nils]), none⟩,
  ⟨none, (.store 4 (.tmp 21) (.tmp 93)), none⟩,
  ⟨(some 22), (.move (.tmp 94)), none⟩])
 (.ops [⟨(some 95), (.load (some 4) (.tmp 19)), none⟩,
  ⟨(some 96), (.load (some 4) (.tmp 21)), none⟩,
  ⟨(some 97), (.call 19 [(.tmp 95), (.tmp 96)]), none⟩,
  ⟨(some 98), (.move (.tmp 97)), none⟩,
  ⟨(some 99), (.move (.tmp 20)), some (98, true)⟩,
  ⟨(some 100), (.move (.tmp 22)), some (98, true)⟩,
  ⟨(some 101), (.eqv false .bool (.tmp 99) (.tmp 100)), some (98, true)⟩,
  ⟨(some 102), (.pick (.tmp 98) (.tmp 101) (.con (.bool false))), none⟩,
  ⟨(some 9), (.move (.tmp 102)), none⟩])))))))))))))
 (.seq (.ops [⟨(some 160), (.move (.tmp 5)), none⟩,
  ⟨(some 161), (.call 13 [(.tmp 160)]), none⟩,
  ⟨(some 159), (.move (.tmp 161)), none⟩,
  ⟨(some 162), (.extract 0 (.tmp 159)), none⟩,
  ⟨(some 163), (.extract 1 (.tmp 159)), none⟩,
  ⟨(some 23), (.alloc 31 [(.int .i64 0), (.int .i64 0)]), none⟩,
  ⟨none, (.store 2 (.tmp 23) (.tmp 162)), none⟩,
  ⟨(some 24), (.move (.tmp 163)), none⟩])
 (.seq (.ops [⟨(some 165), (.move (.tmp 6)), none⟩,
  ⟨(some 166), (.call 20 [(.tmp 165)]), none⟩,
  ⟨(some 164), (.move (.tmp 166)), none⟩,
  ⟨(some 167), (.extract 0 (.tmp 164)), none⟩,
  ⟨(some 168), (.extract 1 (.tmp 164)), none⟩,
  ⟨(some 25), (.alloc 31 [(.int .i64 0), (.int .i64 0)]), none⟩,
  ⟨none, (.store 2 (.tmp 25) (.tmp 167)), none⟩,
  ⟨(some 26), (.move (.tmp 168)), none⟩])
 (.seq (.ops [⟨(some 169), (.move (.tmp 9)), none⟩,
  ⟨(some 170), (.un .not (.tmp 169)), none⟩,
  ⟨(some 171), (.move (.tmp 170)), none⟩,
  ⟨(some 172), (.load (some 2) (.tmp 23)), some (171, false)⟩,
  ⟨(some 173), (.load (some 2) (.tmp 25)), some (171, false)⟩,
  ⟨(some 174), (.eqs true [.int, .int] (.tmp 172) (.tmp 173)), some (171, false)⟩,
  ⟨(some 175), (.pick (.tmp 171) (.con (.bool true)) (.tmp 174)), none⟩,
  ⟨(some 176), (.move (.tmp 175)), none⟩,
  ⟨(some 177), (.move (.tmp 24)), some (176, false)⟩,
  ⟨(some 178), (.move (.tmp 26)), some (176, false)⟩,
  ⟨(some 179), (.eqv true .bool (.tmp 177) (.tmp 178)), some (176, false)⟩,
  ⟨(some 180), (.pick (.tmp 176) (.con (.bool true)) (.tmp 179)), none⟩])
 (.cond (.tmp 180)
 (.seq (.ops [⟨(some 4), (.move (.con (.bool false))), none⟩])
 .ret)
 .skip)))))))))
 (.ops [⟨(some 43), (.move (.tmp 7)), none⟩,
  ⟨(some 44), (.bin .add (.tmp 43) (.con (.int .i64 1))), none⟩,
  ⟨(some 7), (.move (.tmp 44)), none⟩]))))))
 (.seq (.ops [⟨(some 181), (.move (.tmp 5)), none⟩,
  ⟨(some 182), (.eqv true .ptr (.tmp 181) (.con .nilp)), none⟩,
  ⟨(some 183), (.move (.tmp 182)), none⟩,
  ⟨(some 184), (.call 12 []), some (183, true)⟩,
  ⟨(some 185), (.pick (.tmp 183) (.tmp 184) (.con (.bool false))), none⟩,
  ⟨(some 4), (.move (.tmp 185)), none⟩])
 .ret)))))
theorem fn5 : fnCode Try.prog 5 = some (186, code5, [.tmp 4]) := by kernel_rfl

/-- emissary/emissaryref25.Newer -/
def code21 : ACode :=
 (.seq (.ops [⟨(some 2), (.box 31 2 (.tmp 0)), none⟩,
  ⟨(some 3), (.box 31 2 (.tmp 1)), none⟩,
  ⟨(some 4), (.move (.con (.bool false))), none⟩])
 (.seq (.ops [⟨(some 5), (.faddr 0 none (.tmp 2)), none⟩,
  ⟨(some 6), (.load none (.tmp 5)), none⟩,
  ⟨(some 7), (.faddr 0 none (.tmp 3)), none⟩,
  ⟨(some 8), (.load none (.tmp 7)), none⟩,
  ⟨(some 9), (.bin .gtr (.tmp 6) (.tmp 8)), none⟩,
  ⟨(some 10), (.move (.tmp 9)), none⟩,
  ⟨(some 11), (.faddr 0 none (.tmp 2)), some (10, false)⟩,
  ⟨(some 12), (.load none (.tmp 11)), some (10, false)⟩,
  ⟨(some 13), (.faddr 0 none (.tmp 3)), some (10, false)⟩,
  ⟨(some 14), (.load none (.tmp 13)), some (10, false)⟩,
  ⟨(some 15), (.bin .eql (.tmp 12) (.tmp 14)), some (10, false)⟩,
  ⟨(some 16), (.move (.tmp 15)), some (10, false)⟩,
  ⟨(some 17), (.faddr 1 none (.tmp 2)), some (16, true)⟩,
  ⟨(some 18), (.load none (.tmp 17)), some (16, true)⟩,
  ⟨(some 19), (.faddr 1 none (.tmp 3)), some (16, true)⟩,
  ⟨(some 20), (.load none (.tmp 19)), some (16, true)⟩,
  ⟨(some 21), (.bin .gtr (.tmp 18) (.tmp 20)), some (16, true)⟩,
  ⟨(some 22), (.pick (.tmp 16) (.tmp 21) (.con (.bool false))), some (10, false)⟩,
  ⟨(some 23), (.pick (.tmp 10) (.con (.bool true)) (.tmp 22)), none⟩,
  ⟨(some 4), (.move (.tmp 23)), none⟩])
 .ret))
theorem fn21 : fnCode Try.prog 21 = some (24, code21, [.tmp 4]) := by kernel_rfl

/-- emissary/emissarylaw26.small -/
def code22 : ACode :=
 (.seq (.ops [⟨(some 2), (.move (.con .nils)), none⟩])
 (.seq (.ops [⟨(some 3), (.move (.tmp 0)), none⟩,
  ⟨(some 4), (.bin .and (.tmp 3) (.con (.int .i64 127))), none⟩,
  ⟨(some 5), (.conv .u8 (.tmp 4)), none⟩,
  ⟨(some 6), (.bslice 5 1 1 [(.int .u8 0)] [(0, 1, (.tmp 5))]), none⟩,
  ⟨(some 2), (.move (.tmp 6)), none⟩])
 .ret))
theorem fn22 : fnCode Try.prog 22 = some (7, code22, [.tmp 2]) := by kernel_rfl

/-- emissary/emissarylaw26.ClientCalls -/
def code6 : ACode :=
 (.seq (.ops [⟨(some 2), (.move (.con (.bool false))), none⟩])
 (.seq (.seq (.ops [⟨(some 23), (.move (.tmp 0)), none⟩,
  ⟨(some 24), (.len .slice (.tmp 23)), none⟩,
  ⟨(some 25), (.bin .gtr (.tmp 24) (.con (.int .i64 50))), none⟩])
 (.cond (.tmp 25)
 (.seq (.ops [⟨(some 2), (.move (.con (.bool true))), none⟩])
 .ret)
 .skip))
 (.seq (.ops [⟨(some 26), (.call 7 [(.con (.int .u64 1))]), none⟩,
  ⟨(some 3), (.move (.tmp 26)), none⟩])
 (.seq (.ops [⟨(some 27), (.build [(.int .i64 0), (.int .i64 0)] []), none⟩,
  ⟨(some 4), (.alloc 31 [(.int .i64 0), (.int .i64 0)]), none⟩,
  ⟨none, (.store 2 (.tmp 4) (.tmp 27)), none⟩])
 (.seq (.seq (.ops [⟨(some 5), (.move (.con (.int .i64 0))), none⟩])
 (.block 0 (.loop (.seq (.seq (.ops [⟨(some 28), (.move (.tmp 3)), none⟩,
  ⟨(some 29), (.eqv true .ptr (.tmp 28) (.con .nilp)), none⟩,
  ⟨(some 30), (.move (.tmp 29)), none⟩,
  ⟨(some 31), (.move (.tmp 5)), some (30, true)⟩,
  ⟨(some 32), (.move (.tmp 0)), some (30, true)⟩,
  ⟨(some 33), (.len .slice (.tmp 32)), some (30, true)⟩,
  ⟨(some 34), (.bin .lss (.tmp 31) (.tmp 33)), some (30, true)⟩,
  ⟨(some 35), (.pick (.tmp 30) (.tmp 34) (.con (.bool false))), none⟩])
 (.cond (.tmp 35)
 .skip
 (.exit 0)))
 (.seq (.block 1 (.seq (.seq (.ops [⟨(some 38), (.move (.tmp 0)), none⟩,
  ⟨(some 39), (.move (.tmp 5)), none⟩,
  ⟨(some 40), (.iaddr 1 (.tmp 38) (.tmp 39)), none⟩,
  ⟨(some 41), (.load none (.tmp 40)), none⟩])
 (.cond (.tmp 41)
 (.seq (.ops [⟨(some 42), (.move (.tmp 3)), none⟩,
  ⟨(some 43), (.call 16 [(.tmp 42)]), none⟩])
 (.seq (.ops [⟨(some 45), (.move (.tmp 3)), none⟩,
  ⟨(some 46), (.call 13 [(.tmp 45)]), none⟩,
  ⟨(some 44), (.move (.tmp 46)), none⟩,
  ⟨(some 47), (.extract 0 (.tmp 44)), none⟩,
  ⟨(some 48), (.extract 1 (.tmp 44)), none⟩,
  ⟨(some 6), (.alloc 31 [(.int .i64 0), (.int .i64 0)]), none⟩,
  ⟨none, (.store 2 (.tmp 6) (.tmp 47)), none⟩,
  ⟨(some 7), (.move (.tmp 48)), none⟩])
 (.seq (.seq (.ops [⟨(some 49), (.move (.tmp 7)), none⟩])
 (.cond (.tmp 49)
 (.seq (.ops [⟨(some 2), (.move (.con (.bool false))), none⟩])
 .ret)
 .skip))
 (.exit 1))))
 .skip))
 (.seq (.ops [⟨(some 51), (.move (.tmp 3)), none⟩,
  ⟨(some 52), (.call 8 [(.tmp 51), (.con .nils)]), none⟩,
  ⟨(some 50), (.move (.tmp 52)), none⟩,
  ⟨(some 53), (.extract 0 (.tmp 50)), none⟩,
  ⟨(some 54), (.extract 1 (.tmp 50)), none⟩,
  ⟨(some 8), (.move (.tmp 53)), none⟩,
  ⟨(some 9), (.move (.tmp 54)), none⟩])
 (.seq (.ops [⟨(some 56), (.move (.tmp 3)), none⟩,
  ⟨(some 57), (.call 8 [(.tmp 56), (.con .nils)]), none⟩,
  ⟨(some 55), (.move (.tmp 57)), none⟩,
  ⟨(some 58), (.extract 0 (.tmp 55)), none⟩,
  ⟨(some 59), (.extract 1 (.tmp 55)), none⟩,
  ⟨(some 10), (.move (.tmp 58)), none⟩,
  ⟨(some 11), (.move (.tmp 59)), none⟩])
 (.seq (.ops [⟨(some 61), (.move (.tmp 3)), none⟩,
  ⟨(some 62), (.call 13 [(.tmp 61)]), none⟩,
  ⟨(some 60), (.move (.tmp 62)), none⟩,
  ⟨(some 63), (.extract 0 (.tmp 60)), none⟩,
  ⟨(some 64), (.extract 1 (.tmp 60)), none⟩,
  ⟨(some 12), (.alloc 31 [(.int .i64 0), (.int .i64 0)]), none⟩,
  ⟨none, (.store 2 (.tmp 12) (.tmp 63)), none⟩,
  ⟨(some 13), (.move (.tmp 64)), none⟩])
 (.seq (.seq (.ops [⟨(some 65), (.move (.tmp 9)), none⟩,
  ⟨(some 66), (.un .not (.tmp 65)), none⟩,
  ⟨(some 67), (.move (.tmp 66)), none⟩,
  ⟨(some 68), (.move (.tmp 11)), some (67, false)⟩,
  ⟨(some 69), (.pick (.tmp 67) (.con (.bool true)) (.tmp 68)), none⟩,
  ⟨(some 70), (.move (.tmp 69)), none⟩,
  ⟨(some 71), (.move (.tmp 13)), some (70, false)⟩,
  ⟨(some 72), (.un .not (.tmp 71)), some (70, false)⟩,
  ⟨(some 73), (.pick (.tmp 70) (.con (.bool true)) (.tmp 72)), none⟩,
  ⟨(some 74), (.move (.tmp 73)), none⟩,
  ⟨(some 75), (.load (some 2) (.tmp 12)), some (74, false)⟩,
  ⟨(some 76), (.load (some 2) (.tmp 4)), some (74, false)⟩,
  ⟨(some 77), (.call 21 [(.tmp 75), (.tmp 76)]), some (74, false)⟩,
  ⟨(some 78), (.un .not (.tmp 77)), some (74, false)⟩,
  ⟨(some 79), (.pick (.tmp 74) (.con (.bool true)) (.tmp 78)), none⟩])
 (.cond (.tmp 79)
 (.seq (.ops [⟨(some 2), (.move (.con (.bool false))), none⟩])
 .ret)
 .skip))
 (.seq (.ops [⟨(some 80), (.load (some 2) (.tmp 12)), none⟩,
  ⟨none, (.store 2 (.tmp 4) (.tmp 80)), none⟩])
 (.seq (.draw (.take ⟨(some 82), (.faddr 0 none (.tmp 12)), none⟩
  (.take ⟨(some 83), (.load none (.tmp 82)), none⟩
  (.take ⟨(some 85), (.faddr 1 none (.tmp 12)), none⟩
  (.take ⟨(some 86), (.load none (.tmp 85)), none⟩
  (.alt ⟨(some 84), (.call 22 [(.tmp 83)]), none⟩ true
  (.both ⟨(some 87), (.call 22 [(.tmp 86)]), none⟩ ⟨(some 88), (.bslice 5 1 1 [(.int .u8 0)] [(0, 1, (.con (.int .u8 0)))]), none⟩ true
  (.only ⟨(some 89), (.append 5 1 1 (.tmp 87) (.tmp 88)), none⟩ true
  (.only ⟨(some 90), (.append 5 1 1 (.tmp 84) (.tmp 89)), none⟩ true
  (.only ⟨(some 91), (.call 10 [(.con (.int .u8 2)), (.tmp 90)]), none⟩ true
  (.take ⟨(some 81), (.move (.tmp 91)), none⟩
  (.take ⟨(some 92), (.extract 0 (.tmp 81)), none⟩
  (.take ⟨(some 93), (.extract 1 (.tmp 81)), none⟩
  (.take ⟨(some 14), (.move (.tmp 92)), none⟩
  (.take ⟨(some 15), (.move (.tmp 93)), none⟩
  .nil)))))))))
  (.only ⟨(some 88), (.bslice 5 1 1 [(.int .u8 0)] [(0, 1, (.con (.int .u8 0)))]), none⟩ false
  (.only ⟨(some 84), (.call 22 [(.tmp 83)]), none⟩ true
  (.only ⟨(some 87), (.call 22 [(.tmp 86)]), none⟩ true
  (.only ⟨(some 89), (.append 5 1 1 (.tmp 87) (.tmp 88)), none⟩ true
  (.only ⟨(some 90), (.append 5 1 1 (.tmp 84) (.tmp 89)), none⟩ true
  (.only ⟨(some 91), (.call 10 [(.con (.int .u8 2)), (.tmp 90)]), none⟩ true
  (.take ⟨(some 81), (.move (.tmp 91)), none⟩
  (.take ⟨(some 92), (.extract 0 (.tmp 81)), none⟩
  (.take ⟨(some 93), (.extract 1 (.tmp 81)), none⟩
  (.take ⟨(some 14), (.move (.tmp 92)), none⟩
  (.take ⟨(some 15), (.move (.tmp 93)), none⟩
  .nil)))))))))))))))))
 (.seq (.ops [⟨(some 95), (.move (.tmp 3)), none⟩,
  ⟨(some 96), (.move (.tmp 14)), none⟩,
  ⟨(some 97), (.call 11 [(.tmp 95), (.tmp 96)]), none⟩,
  ⟨(some 94), (.move (.tmp 97)), none⟩,
  ⟨(some 98), (.extract 0 (.tmp 94)), none⟩,
  ⟨(some 99), (.extract 1 (.tmp 94)), none⟩,
  ⟨(some 16), (.alloc 34 [(.int .i64 0), (.int .i64 0), (.int .i64 0), .nils]), none⟩,
  ⟨none, (.store 4 (.tmp 16) (.tmp 98)), none⟩,
  ⟨(some 17), (.move (.tmp 99)), none⟩])
 (.seq (.ops [⟨(some 100), (.move (.tmp 17)), none⟩,
  ⟨(some 101), (.un .not (.tmp 100)), none⟩,
  ⟨(some 102), (.move (.tmp 101)), none⟩,
  ⟨(some 103), (.faddr 0 (some 2) (.tmp 16)), some (102, false)⟩,
  ⟨(some 104), (.load (some 2) (.tmp 103)), some (102, false)⟩,
  ⟨(some 105), (.load (some 2) (.tmp 12)), some (102, false)⟩,
  ⟨(some 106), (.eqs true [.int, .int] (.tmp 104) (.tmp 105)), some (102, false)⟩,
  ⟨(some 107), (.pick (.tmp 102) (.con (.bool true)) (.tmp 106)), none⟩])
 (.cond (.tmp 107)
 (.seq (.ops [⟨(some 2), (.move (.con (.bool false))), none⟩])
 .ret)
 .skip)))))))))))
 (.ops [⟨(some 36), (.move (.tmp 5)), none⟩,
  ⟨(some 37), (.bin .add (.tmp 36) (.con (.int .i64 1))), none⟩,
  ⟨(some 5), (.move (.tmp 37)), none⟩]))))))
 (.seq (.ops [⟨(some 18), (.move (.con .nilp)), none⟩])
 (.seq (.ops [⟨(some 109), (.move (.tmp 18)), none⟩,
  ⟨(some 110), (.call 8 [(.tmp 109), (.con .nils)]), none⟩,
  ⟨(some 108), (.move (.tmp 110)), none⟩,
  ⟨(some 111), (.extract 0 (.tmp 108)), none⟩,
  ⟨(some 112), (.extract 1 (.tmp 108)), none⟩,
  ⟨(some 19), (.move (.tmp 111)), none⟩,
  ⟨(some 20), (.move (.tmp 112)), none⟩])
 (.seq (.ops [⟨(some 114), (.move (.tmp 18)), none⟩,
  ⟨(some 115), (.call 9 [(.tmp 114)]), none⟩,
  ⟨(some 113), (.move (.tmp 115)), none⟩,
  ⟨(some 116), (.extract 0 (.tmp 113)), none⟩,
  ⟨(some 117), (.extract 1 (.tmp 113)), none⟩,
  ⟨(some 21), (.move (.tmp 116)), none⟩,
  ⟨(some 22), (.move (.tmp 117)), none⟩])
 (.seq (.ops [⟨(some 118), (.move (.tmp 18)), none⟩,
  ⟨(some 119), (.call 16 [(.tmp 118)]), none⟩])
 (.seq (.ops [⟨(some 120), (.move (.tmp 3)), none⟩,
  ⟨(some 121), (.eqv true .ptr (.tmp 120) (.con .nilp)), none⟩,
  ⟨(some 122), (.move (.tmp 121)), none⟩,
  ⟨(some 123), (.move (.tmp 20)), some (122, true)⟩,
  ⟨(some 124), (.un .not (.tmp 123)), some (122, true)⟩,
  ⟨(some 125), (.pick (.tmp 122) (.tmp 124) (.con (.bool false))), none⟩,
  ⟨(some 126), (.move (.tmp 125)), none⟩,
  ⟨(some 127), (.move (.tmp 22)), some (126, true)⟩,
  ⟨(some 128), (.un .not (.tmp 127)), some (126, true)⟩,
  ⟨(some 129), (.pick (.tmp 126) (.tmp 128) (.con (.bool false))), none⟩,
  ⟨(some 130), (.move (.tmp 129)), none⟩,
  ⟨(some 131), (.call 12 []), some (130, true)⟩,
  ⟨(some 132), (.pick (.tmp 130) (.tmp 131) (.con (.bool false))), none⟩,
  ⟨(some 2), (.move (.tmp 132)), none⟩])
 .ret))))))))))
theorem fn6 : fnCode Try.prog 6 = some (133, code6, [.tmp 2]) := by kernel_rfl

end Go.Proofs.Ytbjifmoiblicgaa.Ab
