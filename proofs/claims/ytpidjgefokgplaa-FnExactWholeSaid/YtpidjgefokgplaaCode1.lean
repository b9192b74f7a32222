/- The machine's code of the functions that the law reaches (printed by a program out of the elaborated ones), and what a table has to hold of them. -/
import Derived.Test.YtpidjgefokgplaaLim
set_option linter.unusedVariables false
set_option maxRecDepth 100000
namespace Go.DM
open Go
/- loop.example/g00751/impl.Crc -/
def f2l1 : DCode :=
 (.seq
 (.reg [⟨some 18, .bin .lss (.t 17) (.c (.int .i64 8)), none⟩])
 (.seq
 (.cond (.t 18)
  .skip
  (.exit 2))
 (.seq
 (.block 3 [0, 3, 7, 8, 17]
  (.seq
  (.reg [⟨some 19, .mv (.t 3), none⟩,
  ⟨some 20, .bin .and (.t 19) (.c (.int .u32 1)), none⟩,
  ⟨some 5, .mv (.t 20), none⟩])
  (.seq
  (.reg [⟨some 21, .mv (.t 3), none⟩,
  ⟨some 22, .bin .shr (.t 21) (.c (.int .u64 1)), none⟩,
  ⟨some 3, .mv (.t 22), none⟩])
  (.seq
  (.reg [⟨some 23, .mv (.t 5), none⟩,
  ⟨some 24, .bin .eql (.t 23) (.c (.int .u32 1)), none⟩])
  (.cond (.t 24)
   (.reg [⟨some 25, .mv (.t 3), none⟩,
   ⟨some 26, .bin .xor (.t 25) (.c (.int .u32 3988292384)), none⟩,
   ⟨some 3, .mv (.t 26), none⟩])
   .skip)))))
 (.reg [⟨some 27, .bin .add (.t 17) (.c (.int .i64 1)), none⟩,
 ⟨some 17, .mv (.t 27), none⟩]))))
def f2L1 : DCode := .loop [0, 3, 7, 8, 17] none f2l1
def f2l2 : DCode :=
 (.seq
 (.reg [⟨some 9, .bin .lss (.t 8) (.t 7), none⟩])
 (.seq
 (.cond (.t 9)
  .skip
  (.exit 0))
 (.seq
 (.block 1 [0, 3, 7, 8]
  (.seq
  (.reg [⟨some 10, .mv (.t 8), none⟩,
  ⟨some 4, .mv (.t 10), none⟩])
  (.seq
  (.reg [⟨some 11, .mv (.t 3), none⟩,
  ⟨some 12, .mv (.t 0), none⟩,
  ⟨some 13, .mv (.t 4), none⟩,
  ⟨some 14, .sidx (.t 12) (.t 13), none⟩,
  ⟨some 15, .conv .u32 (.t 14), none⟩,
  ⟨some 16, .bin .xor (.t 11) (.t 15), none⟩,
  ⟨some 3, .mv (.t 16), none⟩])
  (.seq
  (.reg [⟨some 17, .mv (.c (.int .i64 0)), none⟩])
  (.block 2 [0, 3, 7, 8]
   f2L1)))))
 (.reg [⟨some 28, .bin .add (.t 8) (.c (.int .i64 1)), none⟩,
 ⟨some 8, .mv (.t 28), none⟩]))))
def f2L2 : DCode := .loop [0, 3, 7, 8] none f2l2
def f2 : DFn := ⟨1, false, [.t 2],
 (.seq
 (.reg [⟨some 2, .mv (.c (.int .i64 0)), none⟩])
 (.seq
 (.reg [⟨some 3, .mv (.c (.int .u32 4294967295)), none⟩])
 (.seq
 (.seq
 (.reg [⟨some 6, .mv (.t 0), none⟩,
 ⟨some 7, .lens (.t 6), none⟩,
 ⟨some 8, .mv (.c (.int .i64 0)), none⟩])
 (.block 0 [3]
  f2L2))
 (.seq
 (.reg [⟨some 29, .mv (.t 3), none⟩,
 ⟨some 30, .un .xor (.t 29), none⟩,
 ⟨some 31, .conv .i64 (.t 30), none⟩,
 ⟨some 2, .mv (.t 31), none⟩])
 (.ret [2])))))⟩
structure H2 (Γ : Tab) : Prop where
  e2 : Γ 2 = some (.code f2)
/- loop.example/g00751/spec.Crc -/
def f3l1 : DCode :=
 (.seq
 (.seq
 (.reg [⟨some 18, .mv (.t 5), none⟩,
 ⟨some 19, .bin .lss (.t 18) (.c (.int .i64 8)), none⟩])
 (.cond (.t 19)
  .skip
  (.exit 2)))
 (.seq
 (.block 3 [0, 3, 4, 5]
  (.seq
  (.reg [⟨some 22, .mv (.t 3), none⟩,
  ⟨some 23, .bin .and (.t 22) (.c (.int .u32 1)), none⟩,
  ⟨some 24, .bin .eql (.t 23) (.c (.int .u32 1)), none⟩])
  (.cond (.t 24)
   (.reg [⟨some 25, .mv (.t 3), none⟩,
   ⟨some 26, .bin .shr (.t 25) (.c (.int .u64 1)), none⟩,
   ⟨some 27, .bin .xor (.t 26) (.c (.int .u32 3988292384)), none⟩,
   ⟨some 3, .mv (.t 27), none⟩])
   (.reg [⟨some 28, .mv (.t 3), none⟩,
   ⟨some 29, .bin .shr (.t 28) (.c (.int .u64 1)), none⟩,
   ⟨some 3, .mv (.t 29), none⟩]))))
 (.reg [⟨some 20, .mv (.t 5), none⟩,
 ⟨some 21, .bin .add (.t 20) (.c (.int .i64 1)), none⟩,
 ⟨some 5, .mv (.t 21), none⟩])))
def f3L1 : DCode := .loop [0, 3, 4, 5] none f3l1
def f3l2 : DCode :=
 (.seq
 (.seq
 (.reg [⟨some 6, .mv (.t 4), none⟩,
 ⟨some 7, .mv (.t 0), none⟩,
 ⟨some 8, .lens (.t 7), none⟩,
 ⟨some 9, .bin .lss (.t 6) (.t 8), none⟩])
 (.cond (.t 9)
  .skip
  (.exit 0)))
 (.seq
 (.block 1 [0, 3, 4]
  (.seq
  (.reg [⟨some 12, .mv (.t 3), none⟩,
  ⟨some 13, .mv (.t 0), none⟩,
  ⟨some 14, .mv (.t 4), none⟩,
  ⟨some 15, .sidx (.t 13) (.t 14), none⟩,
  ⟨some 16, .conv .u32 (.t 15), none⟩,
  ⟨some 17, .bin .xor (.t 12) (.t 16), none⟩,
  ⟨some 3, .mv (.t 17), none⟩])
  (.seq
  (.reg [⟨some 5, .mv (.c (.int .i64 0)), none⟩])
  (.block 2 [0, 3, 4]
   f3L1))))
 (.reg [⟨some 10, .mv (.t 4), none⟩,
 ⟨some 11, .bin .add (.t 10) (.c (.int .i64 1)), none⟩,
 ⟨some 4, .mv (.t 11), none⟩])))
def f3L2 : DCode := .loop [0, 3, 4] none f3l2
def f3 : DFn := ⟨1, false, [.t 2],
 (.seq
 (.reg [⟨some 2, .mv (.c (.int .i64 0)), none⟩])
 (.seq
 (.reg [⟨some 3, .mv (.c (.int .u32 4294967295)), none⟩])
 (.seq
 (.seq
 (.reg [⟨some 4, .mv (.c (.int .i64 0)), none⟩])
 (.block 0 [3]
  f3L2))
 (.seq
 (.reg [⟨some 30, .mv (.t 3), none⟩,
 ⟨some 31, .un .xor (.t 30), none⟩,
 ⟨some 32, .conv .i64 (.t 31), none⟩,
 ⟨some 2, .mv (.t 32), none⟩])
 (.ret [2])))))⟩
structure H3 (Γ : Tab) : Prop where
  e3 : Γ 3 = some (.code f3)
/- loop.example/g00751/impl.within -/
def f29 : DFn := ⟨3, false, [.t 6],
 (.seq
 (.reg [⟨some 6, .mv (.c (.bool false)), none⟩])
 (.seq
 (.reg [⟨some 7, .mv (.t 0), none⟩,
 ⟨some 8, .mv (.t 1), none⟩,
 ⟨some 9, .bin .geq (.t 7) (.t 8), none⟩,
 ⟨some 10, .mv (.t 9), none⟩,
 ⟨some 11, .mv (.t 0), some (10, true)⟩,
 ⟨some 12, .mv (.t 2), some (10, true)⟩,
 ⟨some 13, .bin .leq (.t 11) (.t 12), some (10, true)⟩,
 ⟨some 14, .pick (.t 10) (.t 13) (.c (.bool false)), none⟩,
 ⟨some 6, .mv (.t 14), none⟩])
 (.ret [6])))⟩
structure H29 (Γ : Tab) : Prop where
  e29 : Γ 29 = some (.code f29)
/- loop.example/g00751/spec.l01In -/
def f28 : DFn := ⟨3, false, [.t 6],
 (.seq
 (.reg [⟨some 6, .mv (.c (.bool false)), none⟩])
 (.seq
 (.reg [⟨some 7, .mv (.t 0), none⟩,
 ⟨some 8, .mv (.t 1), none⟩,
 ⟨some 9, .bin .geq (.t 7) (.t 8), none⟩,
 ⟨some 10, .mv (.t 9), none⟩,
 ⟨some 11, .mv (.t 0), some (10, true)⟩,
 ⟨some 12, .mv (.t 2), some (10, true)⟩,
 ⟨some 13, .bin .leq (.t 11) (.t 12), some (10, true)⟩,
 ⟨some 14, .pick (.t 10) (.t 13) (.c (.bool false)), none⟩,
 ⟨some 6, .mv (.t 14), none⟩])
 (.ret [6])))⟩
structure H28 (Γ : Tab) : Prop where
  e28 : Γ 28 = some (.code f28)
/- loop.example/g00751/impl.crcBytes -/
def f31 : DFn := ⟨1, false, [.t 2],
 (.seq
 (.reg [⟨some 2, .mv (.c (.str [])), none⟩])
 (.seq
 (.reg [⟨some 4, .mv (.t 0), none⟩,
 ⟨some 5, .call 2 .frz [(.t 4)], none⟩,
 ⟨some 3, .mv (.t 5), none⟩])
 (.seq
 (.reg [⟨some 6, .mv (.t 3), none⟩,
 ⟨some 7, .conv .u8 (.t 6), none⟩,
 ⟨some 8, .mv (.t 3), none⟩,
 ⟨some 9, .bin .shr (.t 8) (.c (.int .u64 8)), none⟩,
 ⟨some 10, .conv .u8 (.t 9), none⟩,
 ⟨some 11, .mv (.t 3), none⟩,
 ⟨some 12, .bin .shr (.t 11) (.c (.int .u64 16)), none⟩,
 ⟨some 13, .conv .u8 (.t 12), none⟩,
 ⟨some 14, .mv (.t 3), none⟩,
 ⟨some 15, .bin .shr (.t 14) (.c (.int .u64 24)), none⟩,
 ⟨some 16, .conv .u8 (.t 15), none⟩,
 ⟨some 17, .buildSl 1 [.int .u8 0, .int .u8 0, .int .u8 0, .int .u8 0] [(0, (.t 7)), (1, (.t 10)), (2, (.t 13)), (3, (.t 16))], none⟩,
 ⟨some 18, .b2s (.t 17), none⟩,
 ⟨some 2, .mv (.t 18), none⟩])
 (.ret [2]))))⟩
structure H31 (Γ : Tab) : Prop where
  e31 : Γ 31 = some (.code f31)
  c2 : H2 Γ
/- internal/stringslite.HasPrefix -/
def f72 : DFn := ⟨2, false, [.t 4],
 (.seq
 (.reg [⟨some 4, .mv (.c (.bool false)), none⟩])
 (.seq
 (.reg [⟨some 5, .mv (.t 0), none⟩,
 ⟨some 6, .lens (.t 5), none⟩,
 ⟨some 7, .mv (.t 1), none⟩,
 ⟨some 8, .lens (.t 7), none⟩,
 ⟨some 9, .bin .geq (.t 6) (.t 8), none⟩,
 ⟨some 10, .mv (.t 9), none⟩,
 ⟨some 11, .mv (.t 0), some (10, true)⟩,
 ⟨some 12, .mv (.t 1), some (10, true)⟩,
 ⟨some 13, .lens (.t 12), some (10, true)⟩,
 ⟨some 14, .subs (.t 11) none (some (.t 13)), some (10, true)⟩,
 ⟨some 15, .mv (.t 1), some (10, true)⟩,
 ⟨some 16, .bin .eql (.t 14) (.t 15), some (10, true)⟩,
 ⟨some 17, .pick (.t 10) (.t 16) (.c (.bool false)), none⟩,
 ⟨some 4, .mv (.t 17), none⟩])
 (.ret [4])))⟩
structure H72 (Γ : Tab) : Prop where
  e72 : Γ 72 = some (.code f72)
/- strings.HasPrefix -/
def f32 : DFn := ⟨2, false, [.t 4],
 (.seq
 (.reg [⟨some 4, .mv (.c (.bool false)), none⟩])
 (.seq
 (.reg [⟨some 5, .mv (.t 0), none⟩,
 ⟨some 6, .mv (.t 1), none⟩,
 ⟨some 7, .call 72 .frz [(.t 5), (.t 6)], none⟩,
 ⟨some 4, .mv (.t 7), none⟩])
 (.ret [4])))⟩
structure H32 (Γ : Tab) : Prop where
  e32 : Γ 32 = some (.code f32)
  c72 : H72 Γ
/- loop.example/g00751/impl.Whole -/
def f10 : DFn := ⟨1, false, [.t 2],
 (.seq
 (.reg [⟨some 2, .mv (.c (.bool false)), none⟩])
 (.seq
 (.any [false, false, false, false, false, false, false, false, false, false, false, false, false, false, false, false, false, false, false, false, false, false] [(1, ⟨some 3, .mv (.t 0), none⟩),
 (1, ⟨some 4, .lens (.t 3), none⟩),
 (1, ⟨some 5, .bin .geq (.t 4) (.c (.int .i64 9)), none⟩),
 (1, ⟨some 6, .mv (.t 5), none⟩),
 (1, ⟨some 7, .mv (.t 0), some (6, true)⟩),
 (1, ⟨some 8, .call 32 .frz [(.t 7), (.c (.str [80, 76, 65, 78, 1]))], some (6, true)⟩),
 (1, ⟨some 9, .pick (.t 6) (.t 8) (.c (.bool false)), none⟩),
 (1, ⟨some 10, .mv (.t 9), none⟩),
 (1, ⟨some 11, .mv (.t 0), some (10, true)⟩),
 (1, ⟨some 12, .mv (.t 0), some (10, true)⟩),
 (1, ⟨some 13, .lens (.t 12), some (10, true)⟩),
 (1, ⟨some 14, .bin .sub (.t 13) (.c (.int .i64 4)), some (10, true)⟩),
 (1, ⟨some 15, .subs (.t 11) none (some (.t 14)), some (10, true)⟩),
 (1, ⟨some 16, .call 31 .frz [(.t 15)], some (10, true)⟩),
 (1, ⟨some 17, .mv (.t 0), some (10, true)⟩),
 (1, ⟨some 18, .mv (.t 0), some (10, true)⟩),
 (1, ⟨some 19, .lens (.t 18), some (10, true)⟩),
 (1, ⟨some 20, .bin .sub (.t 19) (.c (.int .i64 4)), some (10, true)⟩),
 (1, ⟨some 21, .subs (.t 17) (some (.t 20)) none, some (10, true)⟩),
 (1, ⟨some 22, .bin .eql (.t 16) (.t 21), some (10, true)⟩),
 (1, ⟨some 23, .pick (.t 10) (.t 22) (.c (.bool false)), none⟩),
 (1, ⟨some 2, .mv (.t 23), none⟩)]
 [])
 (.ret [2])))⟩
structure H10 (Γ : Tab) : Prop where
  e10 : Γ 10 = some (.code f10)
  c31 : H31 Γ
  c32 : H32 Γ
/- loop.example/g00751/spec.l14Num -/
def f71l1 : DCode :=
 (.seq
 (.seq
 (.reg [⟨some 10, .mv (.t 6), none⟩,
 ⟨some 11, .bin .geq (.t 10) (.c (.int .i64 0)), none⟩])
 (.cond (.t 11)
  .skip
  (.exit 0)))
 (.seq
 (.block 1 [0, 5, 6]
  (.reg [⟨some 14, .mv (.t 5), none⟩,
  ⟨some 15, .mv (.t 0), none⟩,
  ⟨some 16, .mv (.t 6), none⟩,
  ⟨some 17, .bin .mul (.c (.int .i64 8)) (.t 16), none⟩,
  ⟨some 18, .conv .u64 (.t 17), none⟩,
  ⟨some 19, .bin .shr (.t 15) (.t 18), none⟩,
  ⟨some 20, .conv .u8 (.t 19), none⟩,
  ⟨some 21, .buildSl 1 [.int .u8 0] [(0, (.t 20))], none⟩,
  ⟨some 22, .app 1 1 (.t 14) (.t 21), none⟩,
  ⟨some 5, .mv (.t 22), none⟩]))
 (.reg [⟨some 12, .mv (.t 6), none⟩,
 ⟨some 13, .bin .sub (.t 12) (.c (.int .i64 1)), none⟩,
 ⟨some 6, .mv (.t 13), none⟩])))
def f71L1 : DCode := .loop [0, 5, 6] (some [0, 5, 6]) f71l1
def f71 : DFn := ⟨2, false, [.t 4],
 (.seq
 (.reg [⟨some 4, .mv (.c (.str [])), none⟩])
 (.seq
 (.reg [⟨some 7, .buildSl 1 [] [], none⟩,
 ⟨some 5, .mv (.t 7), none⟩])
 (.seq
 (.seq
 (.reg [⟨some 8, .mv (.t 1), none⟩,
 ⟨some 9, .bin .sub (.t 8) (.c (.int .i64 1)), none⟩,
 ⟨some 6, .mv (.t 9), none⟩])
 (.block 0 [5]
  f71L1))
 (.seq
 (.reg [⟨some 23, .mv (.t 5), none⟩,
 ⟨some 24, .b2s (.t 23), none⟩,
 ⟨some 4, .mv (.t 24), none⟩])
 (.ret [4])))))⟩
structure H71 (Γ : Tab) : Prop where
  e71 : Γ 71 = some (.code f71)
/- loop.example/g00751/spec.l14Sum -/
def f30 : DFn := ⟨1, false, [.t 2],
 (.seq
 (.reg [⟨some 2, .mv (.c (.str [])), none⟩])
 (.seq
 (.reg [⟨some 4, .mv (.t 0), none⟩,
 ⟨some 5, .call 3 .frz [(.t 4)], none⟩,
 ⟨some 6, .call 71 .frz [(.t 5), (.c (.int .i64 4))], none⟩,
 ⟨some 3, .mv (.t 6), none⟩])
 (.seq
 (.any [false, false, false, false, false, false, false, false, true, true, true] [(1, ⟨some 7, .mv (.t 3), none⟩),
 (1, ⟨some 8, .sidx (.t 7) (.c (.int .i64 3)), none⟩),
 (1, ⟨some 9, .mv (.t 3), none⟩),
 (1, ⟨some 10, .sidx (.t 9) (.c (.int .i64 2)), none⟩),
 (1, ⟨some 11, .mv (.t 3), none⟩),
 (1, ⟨some 12, .sidx (.t 11) (.c (.int .i64 1)), none⟩),
 (1, ⟨some 13, .mv (.t 3), none⟩),
 (1, ⟨some 14, .sidx (.t 13) (.c (.int .i64 0)), none⟩)]
 [⟨some 15, .buildSl 1 [.int .u8 0, .int .u8 0, .int .u8 0, .int .u8 0] [(0, (.t 8)), (1, (.t 10)), (2, (.t 12)), (3, (.t 14))], none⟩,
 ⟨some 16, .b2s (.t 15), none⟩,
 ⟨some 2, .mv (.t 16), none⟩])
 (.ret [2]))))⟩
structure H30 (Γ : Tab) : Prop where
  e30 : Γ 30 = some (.code f30)
  c3 : H3 Γ
  c71 : H71 Γ
/- loop.example/g00751/spec.Whole -/
def f11 : DFn := ⟨1, false, [.t 2],
 (.seq
 (.reg [⟨some 2, .mv (.c (.bool false)), none⟩])
 (.seq
 (.reg [⟨some 4, .mv (.t 0), none⟩,
 ⟨some 5, .lens (.t 4), none⟩,
 ⟨some 3, .mv (.t 5), none⟩])
 (.seq
 (.any [false, false, false, false, false, false, false, false, false, false, false, false, false, false, false, false, false, false, false, false] [(1, ⟨some 6, .mv (.t 3), none⟩),
 (1, ⟨some 7, .bin .geq (.t 6) (.c (.int .i64 9)), none⟩),
 (1, ⟨some 8, .mv (.t 7), none⟩),
 (1, ⟨some 9, .mv (.t 0), some (8, true)⟩),
 (1, ⟨some 10, .subs (.t 9) none (some (.c (.int .i64 5))), some (8, true)⟩),
 (1, ⟨some 11, .bin .eql (.t 10) (.c (.str [80, 76, 65, 78, 1])), some (8, true)⟩),
 (1, ⟨some 12, .pick (.t 8) (.t 11) (.c (.bool false)), none⟩),
 (1, ⟨some 13, .mv (.t 12), none⟩),
 (1, ⟨some 14, .mv (.t 0), some (13, true)⟩),
 (1, ⟨some 15, .mv (.t 3), some (13, true)⟩),
 (1, ⟨some 16, .bin .sub (.t 15) (.c (.int .i64 4)), some (13, true)⟩),
 (1, ⟨some 17, .subs (.t 14) (some (.t 16)) none, some (13, true)⟩),
 (1, ⟨some 18, .mv (.t 0), some (13, true)⟩),
 (1, ⟨some 19, .mv (.t 3), some (13, true)⟩),
 (1, ⟨some 20, .bin .sub (.t 19) (.c (.int .i64 4)), some (13, true)⟩),
 (1, ⟨some 21, .subs (.t 18) none (some (.t 20)), some (13, true)⟩),
 (1, ⟨some 22, .call 30 .frz [(.t 21)], some (13, true)⟩),
 (1, ⟨some 23, .bin .eql (.t 17) (.t 22), some (13, true)⟩),
 (1, ⟨some 24, .pick (.t 13) (.t 23) (.c (.bool false)), none⟩),
 (1, ⟨some 2, .mv (.t 24), none⟩)]
 [])
 (.ret [2]))))⟩
structure H11 (Γ : Tab) : Prop where
  e11 : Γ 11 = some (.code f11)
  c30 : H30 Γ
/- loop.example/g00751/laws.FnExactWhole -/
def f9 : DFn := ⟨1, false, [.t 2],
 (.seq
 (.reg [⟨some 2, .mv (.c (.bool false)), none⟩])
 (.seq
 (.seq
 (.reg [⟨some 5, .mv (.t 0), none⟩,
 ⟨some 6, .lens (.t 5), none⟩,
 ⟨some 7, .bin .gtr (.t 6) (.c (.int .i64 1048576)), none⟩])
 (.cond (.t 7)
  (.seq
  (.reg [⟨some 2, .mv (.c (.bool true)), none⟩])
  (.ret [2]))
  .skip))
 (.seq
 (.reg [⟨some 8, .mv (.t 0), none⟩,
 ⟨some 9, .call 11 .frz [(.t 8)], none⟩,
 ⟨some 3, .mv (.t 9), none⟩])
 (.seq
 (.reg [⟨some 10, .mv (.t 0), none⟩,
 ⟨some 11, .call 10 .frz [(.t 10)], none⟩,
 ⟨some 4, .mv (.t 11), none⟩])
 (.seq
 (.seq
 (.reg [⟨some 12, .mv (.t 4), none⟩,
 ⟨some 13, .mv (.t 3), none⟩,
 ⟨some 14, .binb .neq (.t 12) (.t 13), none⟩])
 (.cond (.t 14)
  (.seq
  (.reg [⟨some 2, .mv (.c (.bool false)), none⟩])
  (.ret [2]))
  .skip))
 (.seq
 (.reg [⟨some 2, .mv (.c (.bool true)), none⟩])
 (.ret [2])))))))⟩
structure H9 (Γ : Tab) : Prop where
  e9 : Γ 9 = some (.code f9)
  c10 : H10 Γ
  c11 : H11 Γ
end Go.DM
