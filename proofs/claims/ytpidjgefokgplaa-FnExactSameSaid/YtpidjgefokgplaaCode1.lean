/- The machine's code of the functions that the law reaches (printed by a program out of the elaborated ones), and what a table has to hold of them. -/
import Derived.Test.YtpidjgefokgplaaLaws
set_option linter.unusedVariables false
set_option maxRecDepth 100000
namespace Go.DM
open Go
/- loop.example/g00751/impl.Crc -/
def f2l1 : DCode :=
 (.seq
 (.reg [⟨some 18, .bin .lss (.t 17) (.c (.int .i64 8)), none⟩])
 (.seq
 (.cond (.t 18)
  .skip
  (.exit 2))
 (.seq
 (.block 3 [0, 3, 7, 8, 17]
  (.seq
  (.reg [⟨some 19, .mv (.t 3), none⟩,
  ⟨some 20, .bin .and (.t 19) (.c (.int .u32 1)), none⟩,
  ⟨some 5, .mv (.t 20), none⟩])
  (.seq
  (.reg [⟨some 21, .mv (.t 3), none⟩,
  ⟨some 22, .bin .shr (.t 21) (.c (.int .u64 1)), none⟩,
  ⟨some 3, .mv (.t 22), none⟩])
  (.seq
  (.reg [⟨some 23, .mv (.t 5), none⟩,
  ⟨some 24, .bin .eql (.t 23) (.c (.int .u32 1)), none⟩])
  (.cond (.t 24)
   (.reg [⟨some 25, .mv (.t 3), none⟩,
   ⟨some 26, .bin .xor (.t 25) (.c (.int .u32 3988292384)), none⟩,
   ⟨some 3, .mv (.t 26), none⟩])
   .skip)))))
 (.reg [⟨some 27, .bin .add (.t 17) (.c (.int .i64 1)), none⟩,
 ⟨some 17, .mv (.t 27), none⟩]))))
def f2L1 : DCode := .loop [0, 3, 7, 8, 17] none f2l1
def f2l2 : DCode :=
 (.seq
 (.reg [⟨some 9, .bin .lss (.t 8) (.t 7), none⟩])
 (.seq
 (.cond (.t 9)
  .skip
  (.exit 0))
 (.seq
 (.block 1 [0, 3, 7, 8]
  (.seq
  (.reg [⟨some 10, .mv (.t 8), none⟩,
  ⟨some 4, .mv (.t 10), none⟩])
  (.seq
  (.reg [⟨some 11, .mv (.t 3), none⟩,
  ⟨some 12, .mv (.t 0), none⟩,
  ⟨some 13, .mv (.t 4), none⟩,
  ⟨some 14, .sidx (.t 12) (.t 13), none⟩,
  ⟨some 15, .conv .u32 (.t 14), none⟩,
  ⟨some 16, .bin .xor (.t 11) (.t 15), none⟩,
  ⟨some 3, .mv (.t 16), none⟩])
  (.seq
  (.reg [⟨some 17, .mv (.c (.int .i64 0)), none⟩])
  (.block 2 [0, 3, 7, 8]
   f2L1)))))
 (.reg [⟨some 28, .bin .add (.t 8) (.c (.int .i64 1)), none⟩,
 ⟨some 8, .mv (.t 28), none⟩]))))
def f2L2 : DCode := .loop [0, 3, 7, 8] none f2l2
def f2 : DFn := ⟨1, false, [.t 2],
 (.seq
 (.reg [⟨some 2, .mv (.c (.int .i64 0)), none⟩])
 (.seq
 (.reg [⟨some 3, .mv (.c (.int .u32 4294967295)), none⟩])
 (.seq
 (.seq
 (.reg [⟨some 6, .mv (.t 0), none⟩,
 ⟨some 7, .lens (.t 6), none⟩,
 ⟨some 8, .mv (.c (.int .i64 0)), none⟩])
 (.block 0 [3]
  f2L2))
 (.seq
 (.reg [⟨some 29, .mv (.t 3), none⟩,
 ⟨some 30, .un .xor (.t 29), none⟩,
 ⟨some 31, .conv .i64 (.t 30), none⟩,
 ⟨some 2, .mv (.t 31), none⟩])
 (.ret [2])))))⟩
structure H2 (Γ : Tab) : Prop where
  e2 : Γ 2 = some (.code f2)
/- loop.example/g00751/spec.Crc -/
def f3l1 : DCode :=
 (.seq
 (.seq
 (.reg [⟨some 18, .mv (.t 5), none⟩,
 ⟨some 19, .bin .lss (.t 18) (.c (.int .i64 8)), none⟩])
 (.cond (.t 19)
  .skip
  (.exit 2)))
 (.seq
 (.block 3 [0, 3, 4, 5]
  (.seq
  (.reg [⟨some 22, .mv (.t 3), none⟩,
  ⟨some 23, .bin .and (.t 22) (.c (.int .u32 1)), none⟩,
  ⟨some 24, .bin .eql (.t 23) (.c (.int .u32 1)), none⟩])
  (.cond (.t 24)
   (.reg [⟨some 25, .mv (.t 3), none⟩,
   ⟨some 26, .bin .shr (.t 25) (.c (.int .u64 1)), none⟩,
   ⟨some 27, .bin .xor (.t 26) (.c (.int .u32 3988292384)), none⟩,
   ⟨some 3, .mv (.t 27), none⟩])
   (.reg [⟨some 28, .mv (.t 3), none⟩,
   ⟨some 29, .bin .shr (.t 28) (.c (.int .u64 1)), none⟩,
   ⟨some 3, .mv (.t 29), none⟩]))))
 (.reg [⟨some 20, .mv (.t 5), none⟩,
 ⟨some 21, .bin .add (.t 20) (.c (.int .i64 1)), none⟩,
 ⟨some 5, .mv (.t 21), none⟩])))
def f3L1 : DCode := .loop [0, 3, 4, 5] none f3l1
def f3l2 : DCode :=
 (.seq
 (.seq
 (.reg [⟨some 6, .mv (.t 4), none⟩,
 ⟨some 7, .mv (.t 0), none⟩,
 ⟨some 8, .lens (.t 7), none⟩,
 ⟨some 9, .bin .lss (.t 6) (.t 8), none⟩])
 (.cond (.t 9)
  .skip
  (.exit 0)))
 (.seq
 (.block 1 [0, 3, 4]
  (.seq
  (.reg [⟨some 12, .mv (.t 3), none⟩,
  ⟨some 13, .mv (.t 0), none⟩,
  ⟨some 14, .mv (.t 4), none⟩,
  ⟨some 15, .sidx (.t 13) (.t 14), none⟩,
  ⟨some 16, .conv .u32 (.t 15), none⟩,
  ⟨some 17, .bin .xor (.t 12) (.t 16), none⟩,
  ⟨some 3, .mv (.t 17), none⟩])
  (.seq
  (.reg [⟨some 5, .mv (.c (.int .i64 0)), none⟩])
  (.block 2 [0, 3, 4]
   f3L1))))
 (.reg [⟨some 10, .mv (.t 4), none⟩,
 ⟨some 11, .bin .add (.t 10) (.c (.int .i64 1)), none⟩,
 ⟨some 4, .mv (.t 11), none⟩])))
def f3L2 : DCode := .loop [0, 3, 4] none f3l2
def f3 : DFn := ⟨1, false, [.t 2],
 (.seq
 (.reg [⟨some 2, .mv (.c (.int .i64 0)), none⟩])
 (.seq
 (.reg [⟨some 3, .mv (.c (.int .u32 4294967295)), none⟩])
 (.seq
 (.seq
 (.reg [⟨some 4, .mv (.c (.int .i64 0)), none⟩])
 (.block 0 [3]
  f3L2))
 (.seq
 (.reg [⟨some 30, .mv (.t 3), none⟩,
 ⟨some 31, .un .xor (.t 30), none⟩,
 ⟨some 32, .conv .i64 (.t 31), none⟩,
 ⟨some 2, .mv (.t 32), none⟩])
 (.ret [2])))))⟩
structure H3 (Γ : Tab) : Prop where
  e3 : Γ 3 = some (.code f3)
/- loop.example/g00751/impl.within -/
def f29 : DFn := ⟨3, false, [.t 6],
 (.seq
 (.reg [⟨some 6, .mv (.c (.bool false)), none⟩])
 (.seq
 (.reg [⟨some 7, .mv (.t 0), none⟩,
 ⟨some 8, .mv (.t 1), none⟩,
 ⟨some 9, .bin .geq (.t 7) (.t 8), none⟩,
 ⟨some 10, .mv (.t 9), none⟩,
 ⟨some 11, .mv (.t 0), some (10, true)⟩,
 ⟨some 12, .mv (.t 2), some (10, true)⟩,
 ⟨some 13, .bin .leq (.t 11) (.t 12), some (10, true)⟩,
 ⟨some 14, .pick (.t 10) (.t 13) (.c (.bool false)), none⟩,
 ⟨some 6, .mv (.t 14), none⟩])
 (.ret [6])))⟩
structure H29 (Γ : Tab) : Prop where
  e29 : Γ 29 = some (.code f29)
/- loop.example/g00751/spec.l01In -/
def f28 : DFn := ⟨3, false, [.t 6],
 (.seq
 (.reg [⟨some 6, .mv (.c (.bool false)), none⟩])
 (.seq
 (.reg [⟨some 7, .mv (.t 0), none⟩,
 ⟨some 8, .mv (.t 1), none⟩,
 ⟨some 9, .bin .geq (.t 7) (.t 8), none⟩,
 ⟨some 10, .mv (.t 9), none⟩,
 ⟨some 11, .mv (.t 0), some (10, true)⟩,
 ⟨some 12, .mv (.t 2), some (10, true)⟩,
 ⟨some 13, .bin .leq (.t 11) (.t 12), some (10, true)⟩,
 ⟨some 14, .pick (.t 10) (.t 13) (.c (.bool false)), none⟩,
 ⟨some 6, .mv (.t 14), none⟩])
 (.ret [6])))⟩
structure H28 (Γ : Tab) : Prop where
  e28 : Γ 28 = some (.code f28)
/- loop.example/g00751/impl.crcBytes -/
def f31 : DFn := ⟨1, false, [.t 2],
 (.seq
 (.reg [⟨some 2, .mv (.c (.str [])), none⟩])
 (.seq
 (.reg [⟨some 4, .mv (.t 0), none⟩,
 ⟨some 5, .call 2 .frz [(.t 4)], none⟩,
 ⟨some 3, .mv (.t 5), none⟩])
 (.seq
 (.reg [⟨some 6, .mv (.t 3), none⟩,
 ⟨some 7, .conv .u8 (.t 6), none⟩,
 ⟨some 8, .mv (.t 3), none⟩,
 ⟨some 9, .bin .shr (.t 8) (.c (.int .u64 8)), none⟩,
 ⟨some 10, .conv .u8 (.t 9), none⟩,
 ⟨some 11, .mv (.t 3), none⟩,
 ⟨some 12, .bin .shr (.t 11) (.c (.int .u64 16)), none⟩,
 ⟨some 13, .conv .u8 (.t 12), none⟩,
 ⟨some 14, .mv (.t 3), none⟩,
 ⟨some 15, .bin .shr (.t 14) (.c (.int .u64 24)), none⟩,
 ⟨some 16, .conv .u8 (.t 15), none⟩,
 ⟨some 17, .buildSl 1 [.int .u8 0, .int .u8 0, .int .u8 0, .int .u8 0] [(0, (.t 7)), (1, (.t 10)), (2, (.t 13)), (3, (.t 16))], none⟩,
 ⟨some 18, .b2s (.t 17), none⟩,
 ⟨some 2, .mv (.t 18), none⟩])
 (.ret [2]))))⟩
structure H31 (Γ : Tab) : Prop where
  e31 : Γ 31 = some (.code f31)
  c2 : H2 Γ
/- internal/stringslite.HasPrefix -/
def f72 : DFn := ⟨2, false, [.t 4],
 (.seq
 (.reg [⟨some 4, .mv (.c (.bool false)), none⟩])
 (.seq
 (.reg [⟨some 5, .mv (.t 0), none⟩,
 ⟨some 6, .lens (.t 5), none⟩,
 ⟨some 7, .mv (.t 1), none⟩,
 ⟨some 8, .lens (.t 7), none⟩,
 ⟨some 9, .bin .geq (.t 6) (.t 8), none⟩,
 ⟨some 10, .mv (.t 9), none⟩,
 ⟨some 11, .mv (.t 0), some (10, true)⟩,
 ⟨some 12, .mv (.t 1), some (10, true)⟩,
 ⟨some 13, .lens (.t 12), some (10, true)⟩,
 ⟨some 14, .subs (.t 11) none (some (.t 13)), some (10, true)⟩,
 ⟨some 15, .mv (.t 1), some (10, true)⟩,
 ⟨some 16, .bin .eql (.t 14) (.t 15), some (10, true)⟩,
 ⟨some 17, .pick (.t 10) (.t 16) (.c (.bool false)), none⟩,
 ⟨some 4, .mv (.t 17), none⟩])
 (.ret [4])))⟩
structure H72 (Γ : Tab) : Prop where
  e72 : Γ 72 = some (.code f72)
/- strings.HasPrefix -/
def f32 : DFn := ⟨2, false, [.t 4],
 (.seq
 (.reg [⟨some 4, .mv (.c (.bool false)), none⟩])
 (.seq
 (.reg [⟨some 5, .mv (.t 0), none⟩,
 ⟨some 6, .mv (.t 1), none⟩,
 ⟨some 7, .call 72 .frz [(.t 5), (.t 6)], none⟩,
 ⟨some 4, .mv (.t 7), none⟩])
 (.ret [4])))⟩
structure H32 (Γ : Tab) : Prop where
  e32 : Γ 32 = some (.code f32)
  c72 : H72 Γ
structure H83 (Γ : Tab) : Prop where
  e83 : Γ 83 = some (.law lawContains)
/- loop.example/g00751/impl.NameOk -/
def f44 : DFn := ⟨1, false, [.t 2],
 (.seq
 (.reg [⟨some 2, .mv (.c (.bool false)), none⟩])
 (.seq
 (.reg [⟨some 3, .mv (.t 0), none⟩,
 ⟨some 4, .lens (.t 3), none⟩,
 ⟨some 5, .call 29 .frz [(.t 4), (.c (.int .i64 1)), (.c (.int .i64 40))], none⟩,
 ⟨some 6, .mv (.t 5), none⟩,
 ⟨some 7, .mv (.t 0), some (6, true)⟩,
 ⟨some 8, .call 83 .frz [(.t 7), (.c (.str [0]))], some (6, true)⟩,
 ⟨some 9, .un .not (.t 8), some (6, true)⟩,
 ⟨some 10, .pick (.t 6) (.t 9) (.c (.bool false)), none⟩,
 ⟨some 2, .mv (.t 10), none⟩])
 (.ret [2])))⟩
structure H44 (Γ : Tab) : Prop where
  e44 : Γ 44 = some (.code f44)
  c29 : H29 Γ
  c83 : H83 Γ
/- loop.example/g00751/impl.TypeOk -/
def f18 : DFn := ⟨1, false, [.t 2],
 (.seq
 (.reg [⟨some 1, .boxf (.t 0), none⟩,
 ⟨some 2, .mv (.c (.bool false)), none⟩])
 (.seq
 (.seq
 (.reg [⟨some 3, .faddr 0 (.t 1), none⟩,
 ⟨some 4, .load none (.t 3), none⟩])
 (.block 0 []
  (.seq
  (.seq
  (.reg [⟨some 6, .bin .eql (.t 4) (.c (.int .i64 0)), none⟩,
  ⟨some 5, .mv (.t 6), none⟩])
  (.cond (.t 5)
   .skip
   (.seq
   (.reg [⟨some 7, .bin .eql (.t 4) (.c (.int .i64 1)), none⟩,
   ⟨some 5, .mv (.t 7), none⟩])
   (.cond (.t 5)
    .skip
    (.reg [⟨some 8, .bin .eql (.t 4) (.c (.int .i64 2)), none⟩,
    ⟨some 5, .mv (.t 8), none⟩])))))
  (.cond (.t 5)
   (.seq
   (.reg [⟨some 9, .faddr 1 (.t 1), none⟩,
   ⟨some 10, .load none (.t 9), none⟩,
   ⟨some 11, .bin .eql (.t 10) (.c (.int .i64 0)), none⟩,
   ⟨some 12, .mv (.t 11), none⟩,
   ⟨some 13, .faddr 2 (.t 1), some (12, true)⟩,
   ⟨some 14, .load none (.t 13), some (12, true)⟩,
   ⟨some 15, .bin .eql (.t 14) (.c (.str [])), some (12, true)⟩,
   ⟨some 16, .pick (.t 12) (.t 15) (.c (.bool false)), none⟩,
   ⟨some 2, .mv (.t 16), none⟩])
   (.ret [2]))
   (.seq
   (.reg [⟨some 18, .bin .eql (.t 4) (.c (.int .i64 3)), none⟩,
   ⟨some 17, .mv (.t 18), none⟩])
   (.cond (.t 17)
    (.seq
    (.reg [⟨some 19, .faddr 1 (.t 1), none⟩,
    ⟨some 20, .load none (.t 19), none⟩,
    ⟨some 21, .call 29 .frz [(.t 20), (.c (.int .i64 1)), (.c (.int .i64 100))], none⟩,
    ⟨some 22, .mv (.t 21), none⟩,
    ⟨some 23, .faddr 2 (.t 1), some (22, true)⟩,
    ⟨some 24, .load none (.t 23), some (22, true)⟩,
    ⟨some 25, .bin .eql (.t 24) (.c (.str [])), some (22, true)⟩,
    ⟨some 26, .pick (.t 22) (.t 25) (.c (.bool false)), none⟩,
    ⟨some 2, .mv (.t 26), none⟩])
    (.ret [2]))
    (.seq
    (.reg [⟨some 28, .bin .eql (.t 4) (.c (.int .i64 4)), none⟩,
    ⟨some 27, .mv (.t 28), none⟩])
    (.cond (.t 27)
     (.seq
     (.reg [⟨some 29, .faddr 1 (.t 1), none⟩,
     ⟨some 30, .load none (.t 29), none⟩,
     ⟨some 31, .bin .eql (.t 30) (.c (.int .i64 0)), none⟩,
     ⟨some 32, .mv (.t 31), none⟩,
     ⟨some 33, .faddr 2 (.t 1), some (32, true)⟩,
     ⟨some 34, .load none (.t 33), some (32, true)⟩,
     ⟨some 35, .call 44 .frz [(.t 34)], some (32, true)⟩,
     ⟨some 36, .pick (.t 32) (.t 35) (.c (.bool false)), none⟩,
     ⟨some 2, .mv (.t 36), none⟩])
     (.ret [2]))
     .skip))))))))
 (.seq
 (.reg [⟨some 2, .mv (.c (.bool false)), none⟩])
 (.ret [2]))))⟩
structure H18 (Γ : Tab) : Prop where
  e18 : Γ 18 = some (.code f18)
  c29 : H29 Γ
  c44 : H44 Γ
/- loop.example/g00751/spec.l02Name -/
def f82l1 : DCode :=
 (.seq
 (.seq
 (.reg [⟨some 4, .mv (.t 3), none⟩,
 ⟨some 5, .mv (.t 0), none⟩,
 ⟨some 6, .lens (.t 5), none⟩,
 ⟨some 7, .bin .lss (.t 4) (.t 6), none⟩])
 (.cond (.t 7)
  .skip
  (.exit 0)))
 (.seq
 (.block 1 [0, 3]
  (.seq
  (.reg [⟨some 10, .mv (.t 0), none⟩,
  ⟨some 11, .mv (.t 3), none⟩,
  ⟨some 12, .sidx (.t 10) (.t 11), none⟩,
  ⟨some 13, .bin .eql (.t 12) (.c (.int .u8 0)), none⟩])
  (.cond (.t 13)
   (.seq
   (.reg [⟨some 2, .mv (.c (.bool false)), none⟩])
   (.ret [2]))
   .skip)))
 (.reg [⟨some 8, .mv (.t 3), none⟩,
 ⟨some 9, .bin .add (.t 8) (.c (.int .i64 1)), none⟩,
 ⟨some 3, .mv (.t 9), none⟩])))
def f82L1 : DCode := .loop [0, 3] none f82l1
def f82 : DFn := ⟨1, false, [.t 2],
 (.seq
 (.reg [⟨some 2, .mv (.c (.bool false)), none⟩])
 (.seq
 (.seq
 (.reg [⟨some 3, .mv (.c (.int .i64 0)), none⟩])
 (.block 0 [0]
  f82L1))
 (.seq
 (.reg [⟨some 14, .mv (.t 0), none⟩,
 ⟨some 15, .lens (.t 14), none⟩,
 ⟨some 16, .call 28 .frz [(.t 15), (.c (.int .i64 1)), (.c (.int .i64 40))], none⟩,
 ⟨some 2, .mv (.t 16), none⟩])
 (.ret [2]))))⟩
structure H82 (Γ : Tab) : Prop where
  e82 : Γ 82 = some (.code f82)
  c28 : H28 Γ
/- loop.example/g00751/spec.NameOk -/
def f43 : DFn := ⟨1, false, [.t 2],
 (.seq
 (.reg [⟨some 2, .mv (.c (.bool false)), none⟩])
 (.seq
 (.reg [⟨some 3, .mv (.t 0), none⟩,
 ⟨some 4, .call 82 .frz [(.t 3)], none⟩,
 ⟨some 2, .mv (.t 4), none⟩])
 (.ret [2])))⟩
structure H43 (Γ : Tab) : Prop where
  e43 : Γ 43 = some (.code f43)
  c82 : H82 Γ
/- loop.example/g00751/spec.TypeOk -/
def f21 : DFn := ⟨1, false, [.t 2],
 (.seq
 (.reg [⟨some 1, .boxf (.t 0), none⟩,
 ⟨some 2, .mv (.c (.bool false)), none⟩])
 (.seq
 (.seq
 (.reg [⟨some 3, .faddr 0 (.t 1), none⟩,
 ⟨some 4, .load none (.t 3), none⟩,
 ⟨some 5, .call 28 .frz [(.t 4), (.c (.int .i64 0)), (.c (.int .i64 4))], none⟩,
 ⟨some 6, .un .not (.t 5), none⟩])
 (.cond (.t 6)
  (.seq
  (.reg [⟨some 2, .mv (.c (.bool false)), none⟩])
  (.ret [2]))
  .skip))
 (.seq
 (.reg [⟨some 7, .faddr 0 (.t 1), none⟩,
 ⟨some 8, .load none (.t 7), none⟩,
 ⟨some 9, .bin .eql (.t 8) (.c (.int .i64 3)), none⟩,
 ⟨some 10, .mv (.t 9), none⟩,
 ⟨some 11, .faddr 1 (.t 1), some (10, true)⟩,
 ⟨some 12, .load none (.t 11), some (10, true)⟩,
 ⟨some 13, .call 28 .frz [(.t 12), (.c (.int .i64 1)), (.c (.int .i64 100))], some (10, true)⟩,
 ⟨some 14, .pick (.t 10) (.t 13) (.c (.bool false)), none⟩,
 ⟨some 15, .mv (.t 14), none⟩,
 ⟨some 16, .faddr 0 (.t 1), some (15, false)⟩,
 ⟨some 17, .load none (.t 16), some (15, false)⟩,
 ⟨some 18, .bin .neq (.t 17) (.c (.int .i64 3)), some (15, false)⟩,
 ⟨some 19, .mv (.t 18), some (15, false)⟩,
 ⟨some 20, .faddr 1 (.t 1), some (19, true)⟩,
 ⟨some 21, .load none (.t 20), some (19, true)⟩,
 ⟨some 22, .bin .eql (.t 21) (.c (.int .i64 0)), some (19, true)⟩,
 ⟨some 23, .pick (.t 19) (.t 22) (.c (.bool false)), some (15, false)⟩,
 ⟨some 24, .pick (.t 15) (.c (.bool true)) (.t 23), none⟩,
 ⟨some 25, .mv (.t 24), none⟩,
 ⟨some 26, .faddr 0 (.t 1), some (25, true)⟩,
 ⟨some 27, .load none (.t 26), some (25, true)⟩,
 ⟨some 28, .bin .eql (.t 27) (.c (.int .i64 4)), some (25, true)⟩,
 ⟨some 29, .mv (.t 28), some (25, true)⟩,
 ⟨some 30, .faddr 2 (.t 1), some (29, true)⟩,
 ⟨some 31, .load none (.t 30), some (29, true)⟩,
 ⟨some 32, .call 43 .frz [(.t 31)], some (29, true)⟩,
 ⟨some 33, .pick (.t 29) (.t 32) (.c (.bool false)), some (25, true)⟩,
 ⟨some 34, .mv (.t 33), some (25, true)⟩,
 ⟨some 35, .faddr 0 (.t 1), some (34, false)⟩,
 ⟨some 36, .load none (.t 35), some (34, false)⟩,
 ⟨some 37, .bin .neq (.t 36) (.c (.int .i64 4)), some (34, false)⟩,
 ⟨some 38, .mv (.t 37), some (34, false)⟩,
 ⟨some 39, .faddr 2 (.t 1), some (38, true)⟩,
 ⟨some 40, .load none (.t 39), some (38, true)⟩,
 ⟨some 41, .bin .eql (.t 40) (.c (.str [])), some (38, true)⟩,
 ⟨some 42, .pick (.t 38) (.t 41) (.c (.bool false)), some (34, false)⟩,
 ⟨some 43, .pick (.t 34) (.c (.bool true)) (.t 42), some (25, true)⟩,
 ⟨some 44, .pick (.t 25) (.t 43) (.c (.bool false)), none⟩,
 ⟨some 2, .mv (.t 44), none⟩])
 (.ret [2]))))⟩
structure H21 (Γ : Tab) : Prop where
  e21 : Γ 21 = some (.code f21)
  c28 : H28 Γ
  c43 : H43 Γ
/- loop.example/g00751/impl.kidsOf -/
def f113 : DFn := ⟨1, false, [.t 2],
 (.seq
 (.reg [⟨some 2, .mv (.c (.int .i64 0)), none⟩])
 (.seq
 (.block 0 []
  (.seq
  (.reg [⟨some 4, .mv (.t 0), none⟩,
  ⟨some 5, .bin .leq (.t 4) (.c (.int .i64 5)), none⟩,
  ⟨some 3, .mv (.t 5), none⟩])
  (.cond (.t 3)
   (.seq
   (.reg [⟨some 2, .mv (.c (.int .i64 0)), none⟩])
   (.ret [2]))
   (.seq
   (.reg [⟨some 7, .mv (.t 0), none⟩,
   ⟨some 8, .bin .leq (.t 7) (.c (.int .i64 7)), none⟩,
   ⟨some 6, .mv (.t 8), none⟩])
   (.cond (.t 6)
    (.seq
    (.reg [⟨some 2, .mv (.c (.int .i64 1)), none⟩])
    (.ret [2]))
    .skip)))))
 (.seq
 (.reg [⟨some 2, .mv (.c (.int .i64 2)), none⟩])
 (.ret [2]))))⟩
structure H113 (Γ : Tab) : Prop where
  e113 : Γ 113 = some (.code f113)
/- slices.IndexFunc[[]loop.example/g00751/impl.Expr,loop.example/g00751/impl.Expr] -/
def f101l1 : DCode :=
 (.seq
 (.reg [⟨some 9, .bin .lss (.t 8) (.t 7), none⟩])
 (.seq
 (.cond (.t 9)
  .skip
  (.exit 0))
 (.seq
 (.block 1 [0, 1, 7, 8]
  (.seq
  (.reg [⟨some 10, .mv (.t 8), none⟩,
  ⟨some 5, .mv (.t 10), none⟩])
  (.seq
  (.reg [⟨some 11, .mv (.t 1), none⟩,
  ⟨some 12, .mv (.t 0), none⟩,
  ⟨some 13, .mv (.t 5), none⟩,
  ⟨some 14, .iaddr 4 (.t 12) (.t 13), none⟩,
  ⟨some 15, .load (some 4) (.t 14), none⟩,
  ⟨some 16, .callv (.t 11) .all [(.t 15)], none⟩])
  (.cond (.t 16)
   (.seq
   (.reg [⟨some 17, .mv (.t 5), none⟩,
   ⟨some 4, .mv (.t 17), none⟩])
   (.ret [4]))
   .skip))))
 (.reg [⟨some 18, .bin .add (.t 8) (.c (.int .i64 1)), none⟩,
 ⟨some 8, .mv (.t 18), none⟩]))))
def f101L1 : DCode := .loop [0, 1, 7, 8] none f101l1
def f101 : DFn := ⟨2, false, [.t 4],
 (.seq
 (.reg [⟨some 4, .mv (.c (.int .i64 0)), none⟩])
 (.seq
 (.seq
 (.reg [⟨some 6, .mv (.t 0), none⟩,
 ⟨some 7, .len (.t 6), none⟩,
 ⟨some 8, .mv (.c (.int .i64 0)), none⟩])
 (.block 0 []
  f101L1))
 (.seq
 (.reg [⟨some 4, .mv (.c (.int .i64 (-1))), none⟩])
 (.ret [4]))))⟩
structure H101 (Γ : Tab) : Prop where
  e101 : Γ 101 = some (.code f101)
/- slices.ContainsFunc[[]loop.example/g00751/impl.Expr,loop.example/g00751/impl.Expr] -/
def f64 : DFn := ⟨2, false, [.t 4],
 (.seq
 (.reg [⟨some 4, .mv (.c (.bool false)), none⟩])
 (.seq
 (.reg [⟨some 5, .mv (.t 0), none⟩,
 ⟨some 6, .mv (.t 1), none⟩,
 ⟨some 7, .call 101 .all [(.t 5), (.t 6)], none⟩,
 ⟨some 8, .bin .geq (.t 7) (.c (.int .i64 0)), none⟩,
 ⟨some 4, .mv (.t 8), none⟩])
 (.ret [4])))⟩
structure H64 (Γ : Tab) : Prop where
  e64 : Γ 64 = some (.code f64)
  c101 : H101 Γ
/- loop.example/g00751/impl.isExpr -/
def f102 : DFn := ⟨2, false, [.t 4],
 (.seq
 (.reg [⟨some 2, .boxf (.t 0), none⟩,
 ⟨some 3, .box (.t 1), none⟩,
 ⟨some 4, .mv (.c (.bool false)), none⟩])
 (.seq
 (.seq
 (.reg [⟨some 5, .load none (.t 3), none⟩,
 ⟨some 6, .nilck (.t 5), none⟩,
 ⟨some 7, .load none (.t 6), none⟩,
 ⟨some 8, .bin .sub (.t 7) (.c (.int .i64 1)), none⟩,
 ⟨some 9, .nilck (.t 5), none⟩,
 ⟨none, .store 1 (.t 9) (.t 8), none⟩])
 (.seq
 (.any [false, false, false, false, false, false, false, false, false, false, false, false, false, false, false, false, false, false, false] [(1, ⟨some 10, .load none (.t 3), none⟩),
 (1, ⟨some 11, .nilck (.t 10), none⟩),
 (1, ⟨some 12, .load none (.t 11), none⟩),
 (1, ⟨some 13, .bin .lss (.t 12) (.c (.int .i64 0)), none⟩),
 (1, ⟨some 14, .mv (.t 13), none⟩),
 (1, ⟨some 15, .faddr 0 (.t 2), some (14, false)⟩),
 (1, ⟨some 16, .load none (.t 15), some (14, false)⟩),
 (1, ⟨some 17, .call 29 .frz [(.t 16), (.c (.int .i64 0)), (.c (.int .i64 18))], some (14, false)⟩),
 (1, ⟨some 18, .un .not (.t 17), some (14, false)⟩),
 (1, ⟨some 19, .pick (.t 14) (.c (.bool true)) (.t 18), none⟩),
 (1, ⟨some 20, .mv (.t 19), none⟩),
 (1, ⟨some 21, .faddr 3 (.t 2), some (20, false)⟩),
 (1, ⟨some 22, .load none (.t 21), some (20, false)⟩),
 (1, ⟨some 23, .len (.t 22), some (20, false)⟩),
 (1, ⟨some 24, .faddr 0 (.t 2), some (20, false)⟩),
 (1, ⟨some 25, .load none (.t 24), some (20, false)⟩),
 (1, ⟨some 26, .call 113 .frz [(.t 25)], some (20, false)⟩),
 (1, ⟨some 27, .bin .neq (.t 23) (.t 26), some (20, false)⟩),
 (1, ⟨some 28, .pick (.t 20) (.c (.bool true)) (.t 27), none⟩)]
 [])
 (.cond (.t 28)
  (.seq
  (.reg [⟨some 4, .mv (.c (.bool false)), none⟩])
  (.ret [4]))
  .skip)))
 (.seq
 (.block 0 [2, 3]
  (.seq
  (.seq
  (.reg [⟨some 30, .faddr 0 (.t 2), none⟩,
  ⟨some 31, .load none (.t 30), none⟩,
  ⟨some 32, .bin .eql (.t 31) (.c (.int .i64 0)), none⟩,
  ⟨some 33, .mv (.t 32), none⟩,
  ⟨some 34, .faddr 1 (.t 2), some (33, true)⟩,
  ⟨some 35, .load none (.t 34), some (33, true)⟩,
  ⟨some 36, .call 44 .frz [(.t 35)], some (33, true)⟩,
  ⟨some 37, .un .not (.t 36), some (33, true)⟩,
  ⟨some 38, .pick (.t 33) (.t 37) (.c (.bool false)), none⟩,
  ⟨some 29, .mv (.t 38), none⟩])
  (.cond (.t 29)
   .skip
   (.seq
   (.reg [⟨some 39, .faddr 0 (.t 2), none⟩,
   ⟨some 40, .load none (.t 39), none⟩,
   ⟨some 41, .bin .eql (.t 40) (.c (.int .i64 2)), none⟩,
   ⟨some 42, .mv (.t 41), none⟩,
   ⟨some 43, .faddr 1 (.t 2), some (42, true)⟩,
   ⟨some 44, .load none (.t 43), some (42, true)⟩,
   ⟨some 45, .lens (.t 44), some (42, true)⟩,
   ⟨some 46, .bin .gtr (.t 45) (.c (.int .i64 100)), some (42, true)⟩,
   ⟨some 47, .pick (.t 42) (.t 46) (.c (.bool false)), none⟩,
   ⟨some 29, .mv (.t 47), none⟩])
   (.cond (.t 29)
    .skip
    (.reg [⟨some 48, .faddr 0 (.t 2), none⟩,
    ⟨some 49, .load none (.t 48), none⟩,
    ⟨some 50, .bin .neq (.t 49) (.c (.int .i64 0)), none⟩,
    ⟨some 51, .mv (.t 50), none⟩,
    ⟨some 52, .faddr 0 (.t 2), some (51, true)⟩,
    ⟨some 53, .load none (.t 52), some (51, true)⟩,
    ⟨some 54, .bin .neq (.t 53) (.c (.int .i64 2)), some (51, true)⟩,
    ⟨some 55, .pick (.t 51) (.t 54) (.c (.bool false)), none⟩,
    ⟨some 56, .mv (.t 55), none⟩,
    ⟨some 57, .faddr 1 (.t 2), some (56, true)⟩,
    ⟨some 58, .load none (.t 57), some (56, true)⟩,
    ⟨some 59, .bin .neq (.t 58) (.c (.str [])), some (56, true)⟩,
    ⟨some 60, .pick (.t 56) (.t 59) (.c (.bool false)), none⟩,
    ⟨some 29, .mv (.t 60), none⟩])))))
  (.cond (.t 29)
   (.seq
   (.reg [⟨some 4, .mv (.c (.bool false)), none⟩])
   (.ret [4]))
   (.seq
   (.seq
   (.reg [⟨some 62, .faddr 0 (.t 2), none⟩,
   ⟨some 63, .load none (.t 62), none⟩,
   ⟨some 64, .bin .eql (.t 63) (.c (.int .i64 1)), none⟩,
   ⟨some 65, .mv (.t 64), none⟩,
   ⟨some 66, .faddr 2 (.t 2), some (65, true)⟩,
   ⟨some 67, .load none (.t 66), some (65, true)⟩,
   ⟨some 68, .call 29 .frz [(.t 67), (.c (.int .i64 0)), (.c (.int .i64 999999999))], some (65, true)⟩,
   ⟨some 69, .un .not (.t 68), some (65, true)⟩,
   ⟨some 70, .pick (.t 65) (.t 69) (.c (.bool false)), none⟩,
   ⟨some 61, .mv (.t 70), none⟩])
   (.cond (.t 61)
    .skip
    (.reg [⟨some 71, .faddr 0 (.t 2), none⟩,
    ⟨some 72, .load none (.t 71), none⟩,
    ⟨some 73, .bin .neq (.t 72) (.c (.int .i64 1)), none⟩,
    ⟨some 74, .mv (.t 73), none⟩,
    ⟨some 75, .faddr 2 (.t 2), some (74, true)⟩,
    ⟨some 76, .load none (.t 75), some (74, true)⟩,
    ⟨some 77, .bin .neq (.t 76) (.c (.int .i64 0)), some (74, true)⟩,
    ⟨some 78, .pick (.t 74) (.t 77) (.c (.bool false)), none⟩,
    ⟨some 61, .mv (.t 78), none⟩])))
   (.cond (.t 61)
    (.seq
    (.reg [⟨some 4, .mv (.c (.bool false)), none⟩])
    (.ret [4]))
    .skip)))))
 (.seq
 (.reg [⟨some 79, .faddr 3 (.t 2), none⟩,
 ⟨some 80, .load none (.t 79), none⟩,
 ⟨some 81, .mkfn 112 [(.t 3)], none⟩,
 ⟨some 82, .call 64 .frz [(.t 80), (.t 81)], none⟩,
 ⟨some 83, .un .not (.t 82), none⟩,
 ⟨some 4, .mv (.t 83), none⟩])
 (.ret [4])))))⟩
/- loop.example/g00751/impl.isExpr$1 -/
def f112 : DFn := ⟨2, false, [.t 3],
 (.seq
 (.reg [⟨some 2, .boxf (.t 0), none⟩,
 ⟨some 3, .mv (.c (.bool false)), none⟩])
 (.seq
 (.reg [⟨some 4, .load (some 4) (.t 2), none⟩,
 ⟨some 5, .load none (.t 1), none⟩,
 ⟨some 6, .call 102 .frz [(.t 4), (.t 5)], none⟩,
 ⟨some 7, .un .not (.t 6), none⟩,
 ⟨some 3, .mv (.t 7), none⟩])
 (.ret [3])))⟩
structure H102 (Γ : Tab) : Prop where
  e102 : Γ 102 = some (.code f102)
  e112 : Γ 112 = some (.code f112)
  c29 : H29 Γ
  c44 : H44 Γ
  c64 : H64 Γ
  c113 : H113 Γ
abbrev H112 := H102
/- loop.example/g00751/impl.ExprOk -/
def f100 : DFn := ⟨1, false, [.t 2],
 (.seq
 (.reg [⟨some 1, .boxf (.t 0), none⟩,
 ⟨some 2, .mv (.c (.bool false)), none⟩])
 (.seq
 (.reg [⟨some 3, .alloc [.int .i64 0], none⟩,
 ⟨none, .store 1 (.t 3) (.c (.int .i64 40)), none⟩])
 (.seq
 (.reg [⟨some 4, .load (some 4) (.t 1), none⟩,
 ⟨some 5, .call 102 .frz [(.t 4), (.t 3)], none⟩,
 ⟨some 2, .mv (.t 5), none⟩])
 (.ret [2]))))⟩
structure H100 (Γ : Tab) : Prop where
  e100 : Γ 100 = some (.code f100)
  c102 : H102 Γ
/- loop.example/g00751/laws.eqExprS -/
def f67l1 : DCode :=
 (.seq
 (.seq
 (.reg [⟨some 11, .mv (.t 5), none⟩,
 ⟨some 12, .mv (.t 0), none⟩,
 ⟨some 13, .len (.t 12), none⟩,
 ⟨some 14, .bin .lss (.t 11) (.t 13), none⟩])
 (.cond (.t 14)
  .skip
  (.exit 0)))
 (.seq
 (.block 1 [0, 1, 5]
  (.seq
  (.any [false, false, false, false, false, false, false, false, false, false] [(1, ⟨some 17, .mv (.t 0), none⟩),
  (1, ⟨some 18, .mv (.t 5), none⟩),
  (1, ⟨some 19, .iaddr 4 (.t 17) (.t 18), none⟩),
  (1, ⟨some 20, .load (some 4) (.t 19), none⟩),
  (1, ⟨some 21, .mv (.t 1), none⟩),
  (1, ⟨some 22, .mv (.t 5), none⟩),
  (1, ⟨some 23, .iaddr 4 (.t 21) (.t 22), none⟩),
  (1, ⟨some 24, .load (some 4) (.t 23), none⟩),
  (1, ⟨some 25, .call 107 .frz [(.t 20), (.t 24)], none⟩),
  (1, ⟨some 26, .un .not (.t 25), none⟩)]
  [])
  (.cond (.t 26)
   (.seq
   (.reg [⟨some 4, .mv (.c (.bool false)), none⟩])
   (.ret [4]))
   .skip)))
 (.reg [⟨some 15, .mv (.t 5), none⟩,
 ⟨some 16, .bin .add (.t 15) (.c (.int .i64 1)), none⟩,
 ⟨some 5, .mv (.t 16), none⟩])))
def f67L1 : DCode := .loop [0, 1, 5] none f67l1
def f67 : DFn := ⟨2, false, [.t 4],
 (.seq
 (.reg [⟨some 4, .mv (.c (.bool false)), none⟩])
 (.seq
 (.seq
 (.reg [⟨some 6, .mv (.t 0), none⟩,
 ⟨some 7, .len (.t 6), none⟩,
 ⟨some 8, .mv (.t 1), none⟩,
 ⟨some 9, .len (.t 8), none⟩,
 ⟨some 10, .bin .neq (.t 7) (.t 9), none⟩])
 (.cond (.t 10)
  (.seq
  (.reg [⟨some 4, .mv (.c (.bool false)), none⟩])
  (.ret [4]))
  .skip))
 (.seq
 (.seq
 (.reg [⟨some 5, .mv (.c (.int .i64 0)), none⟩])
 (.block 0 []
  f67L1))
 (.seq
 (.reg [⟨some 4, .mv (.c (.bool true)), none⟩])
 (.ret [4])))))⟩
/- loop.example/g00751/laws.eqExpr -/
def f107 : DFn := ⟨2, false, [.t 4],
 (.seq
 (.reg [⟨some 2, .boxf (.t 0), none⟩,
 ⟨some 3, .boxf (.t 1), none⟩,
 ⟨some 4, .mv (.c (.bool false)), none⟩])
 (.seq
 (.seq
 (.reg [⟨some 5, .faddr 0 (.t 2), none⟩,
 ⟨some 6, .load none (.t 5), none⟩,
 ⟨some 7, .faddr 0 (.t 3), none⟩,
 ⟨some 8, .load none (.t 7), none⟩,
 ⟨some 9, .bin .neq (.t 6) (.t 8), none⟩])
 (.cond (.t 9)
  (.seq
  (.reg [⟨some 4, .mv (.c (.bool false)), none⟩])
  (.ret [4]))
  .skip))
 (.seq
 (.seq
 (.reg [⟨some 10, .faddr 1 (.t 2), none⟩,
 ⟨some 11, .load none (.t 10), none⟩,
 ⟨some 12, .faddr 1 (.t 3), none⟩,
 ⟨some 13, .load none (.t 12), none⟩,
 ⟨some 14, .bin .neq (.t 11) (.t 13), none⟩])
 (.cond (.t 14)
  (.seq
  (.reg [⟨some 4, .mv (.c (.bool false)), none⟩])
  (.ret [4]))
  .skip))
 (.seq
 (.seq
 (.reg [⟨some 15, .faddr 2 (.t 2), none⟩,
 ⟨some 16, .load none (.t 15), none⟩,
 ⟨some 17, .faddr 2 (.t 3), none⟩,
 ⟨some 18, .load none (.t 17), none⟩,
 ⟨some 19, .bin .neq (.t 16) (.t 18), none⟩])
 (.cond (.t 19)
  (.seq
  (.reg [⟨some 4, .mv (.c (.bool false)), none⟩])
  (.ret [4]))
  .skip))
 (.seq
 (.seq
 (.reg [⟨some 20, .faddr 3 (.t 2), none⟩,
 ⟨some 21, .load none (.t 20), none⟩,
 ⟨some 22, .faddr 3 (.t 3), none⟩,
 ⟨some 23, .load none (.t 22), none⟩,
 ⟨some 24, .call 67 .frz [(.t 21), (.t 23)], none⟩,
 ⟨some 25, .un .not (.t 24), none⟩])
 (.cond (.t 25)
  (.seq
  (.reg [⟨some 4, .mv (.c (.bool false)), none⟩])
  (.ret [4]))
  .skip))
 (.seq
 (.reg [⟨some 4, .mv (.c (.bool true)), none⟩])
 (.ret [4])))))))⟩
structure H67 (Γ : Tab) : Prop where
  e67 : Γ 67 = some (.code f67)
  e107 : Γ 107 = some (.code f107)
abbrev H107 := H67
/- loop.example/g00751/laws.eqType -/
def f70 : DFn := ⟨2, false, [.t 4],
 (.seq
 (.reg [⟨some 2, .boxf (.t 0), none⟩,
 ⟨some 3, .boxf (.t 1), none⟩,
 ⟨some 4, .mv (.c (.bool false)), none⟩])
 (.seq
 (.seq
 (.reg [⟨some 5, .faddr 0 (.t 2), none⟩,
 ⟨some 6, .load none (.t 5), none⟩,
 ⟨some 7, .faddr 0 (.t 3), none⟩,
 ⟨some 8, .load none (.t 7), none⟩,
 ⟨some 9, .bin .neq (.t 6) (.t 8), none⟩])
 (.cond (.t 9)
  (.seq
  (.reg [⟨some 4, .mv (.c (.bool false)), none⟩])
  (.ret [4]))
  .skip))
 (.seq
 (.seq
 (.reg [⟨some 10, .faddr 1 (.t 2), none⟩,
 ⟨some 11, .load none (.t 10), none⟩,
 ⟨some 12, .faddr 1 (.t 3), none⟩,
 ⟨some 13, .load none (.t 12), none⟩,
 ⟨some 14, .bin .neq (.t 11) (.t 13), none⟩])
 (.cond (.t 14)
  (.seq
  (.reg [⟨some 4, .mv (.c (.bool false)), none⟩])
  (.ret [4]))
  .skip))
 (.seq
 (.seq
 (.reg [⟨some 15, .faddr 2 (.t 2), none⟩,
 ⟨some 16, .load none (.t 15), none⟩,
 ⟨some 17, .faddr 2 (.t 3), none⟩,
 ⟨some 18, .load none (.t 17), none⟩,
 ⟨some 19, .bin .neq (.t 16) (.t 18), none⟩])
 (.cond (.t 19)
  (.seq
  (.reg [⟨some 4, .mv (.c (.bool false)), none⟩])
  (.ret [4]))
  .skip))
 (.seq
 (.reg [⟨some 4, .mv (.c (.bool true)), none⟩])
 (.ret [4]))))))⟩
structure H70 (Γ : Tab) : Prop where
  e70 : Γ 70 = some (.code f70)
/- loop.example/g00751/laws.eqCol -/
def f105 : DFn := ⟨2, false, [.t 4],
 (.seq
 (.reg [⟨some 2, .boxf (.t 0), none⟩,
 ⟨some 3, .boxf (.t 1), none⟩,
 ⟨some 4, .mv (.c (.bool false)), none⟩])
 (.seq
 (.seq
 (.reg [⟨some 5, .faddr 0 (.t 2), none⟩,
 ⟨some 6, .load none (.t 5), none⟩,
 ⟨some 7, .faddr 0 (.t 3), none⟩,
 ⟨some 8, .load none (.t 7), none⟩,
 ⟨some 9, .bin .neq (.t 6) (.t 8), none⟩])
 (.cond (.t 9)
  (.seq
  (.reg [⟨some 4, .mv (.c (.bool false)), none⟩])
  (.ret [4]))
  .skip))
 (.seq
 (.seq
 (.reg [⟨some 10, .faddr 1 (.t 2), none⟩,
 ⟨some 11, .load (some 3) (.t 10), none⟩,
 ⟨some 12, .faddr 1 (.t 3), none⟩,
 ⟨some 13, .load (some 3) (.t 12), none⟩,
 ⟨some 14, .call 70 .frz [(.t 11), (.t 13)], none⟩,
 ⟨some 15, .un .not (.t 14), none⟩])
 (.cond (.t 15)
  (.seq
  (.reg [⟨some 4, .mv (.c (.bool false)), none⟩])
  (.ret [4]))
  .skip))
 (.seq
 (.seq
 (.reg [⟨some 16, .faddr 4 (.t 2), none⟩,
 ⟨some 17, .load none (.t 16), none⟩,
 ⟨some 18, .faddr 4 (.t 3), none⟩,
 ⟨some 19, .load none (.t 18), none⟩,
 ⟨some 20, .binb .neq (.t 17) (.t 19), none⟩])
 (.cond (.t 20)
  (.seq
  (.reg [⟨some 4, .mv (.c (.bool false)), none⟩])
  (.ret [4]))
  .skip))
 (.seq
 (.seq
 (.reg [⟨some 21, .faddr 5 (.t 2), none⟩,
 ⟨some 22, .load none (.t 21), none⟩,
 ⟨some 23, .faddr 5 (.t 3), none⟩,
 ⟨some 24, .load none (.t 23), none⟩,
 ⟨some 25, .call 67 .frz [(.t 22), (.t 24)], none⟩,
 ⟨some 26, .un .not (.t 25), none⟩])
 (.cond (.t 26)
  (.seq
  (.reg [⟨some 4, .mv (.c (.bool false)), none⟩])
  (.ret [4]))
  .skip))
 (.seq
 (.reg [⟨some 4, .mv (.c (.bool true)), none⟩])
 (.ret [4])))))))⟩
structure H105 (Γ : Tab) : Prop where
  e105 : Γ 105 = some (.code f105)
  c67 : H67 Γ
  c70 : H70 Γ
/- loop.example/g00751/laws.eqColS -/
def f66l1 : DCode :=
 (.seq
 (.seq
 (.reg [⟨some 11, .mv (.t 5), none⟩,
 ⟨some 12, .mv (.t 0), none⟩,
 ⟨some 13, .len (.t 12), none⟩,
 ⟨some 14, .bin .lss (.t 11) (.t 13), none⟩])
 (.cond (.t 14)
  .skip
  (.exit 0)))
 (.seq
 (.block 1 [0, 1, 5]
  (.seq
  (.any [false, false, false, false, false, false, false, false, false, false] [(1, ⟨some 17, .mv (.t 0), none⟩),
  (1, ⟨some 18, .mv (.t 5), none⟩),
  (1, ⟨some 19, .iaddr 6 (.t 17) (.t 18), none⟩),
  (1, ⟨some 20, .load (some 6) (.t 19), none⟩),
  (1, ⟨some 21, .mv (.t 1), none⟩),
  (1, ⟨some 22, .mv (.t 5), none⟩),
  (1, ⟨some 23, .iaddr 6 (.t 21) (.t 22), none⟩),
  (1, ⟨some 24, .load (some 6) (.t 23), none⟩),
  (1, ⟨some 25, .call 105 .frz [(.t 20), (.t 24)], none⟩),
  (1, ⟨some 26, .un .not (.t 25), none⟩)]
  [])
  (.cond (.t 26)
   (.seq
   (.reg [⟨some 4, .mv (.c (.bool false)), none⟩])
   (.ret [4]))
   .skip)))
 (.reg [⟨some 15, .mv (.t 5), none⟩,
 ⟨some 16, .bin .add (.t 15) (.c (.int .i64 1)), none⟩,
 ⟨some 5, .mv (.t 16), none⟩])))
def f66L1 : DCode := .loop [0, 1, 5] none f66l1
def f66 : DFn := ⟨2, false, [.t 4],
 (.seq
 (.reg [⟨some 4, .mv (.c (.bool false)), none⟩])
 (.seq
 (.seq
 (.reg [⟨some 6, .mv (.t 0), none⟩,
 ⟨some 7, .len (.t 6), none⟩,
 ⟨some 8, .mv (.t 1), none⟩,
 ⟨some 9, .len (.t 8), none⟩,
 ⟨some 10, .bin .neq (.t 7) (.t 9), none⟩])
 (.cond (.t 10)
  (.seq
  (.reg [⟨some 4, .mv (.c (.bool false)), none⟩])
  (.ret [4]))
  .skip))
 (.seq
 (.seq
 (.reg [⟨some 5, .mv (.c (.int .i64 0)), none⟩])
 (.block 0 []
  f66L1))
 (.seq
 (.reg [⟨some 4, .mv (.c (.bool true)), none⟩])
 (.ret [4])))))⟩
structure H66 (Γ : Tab) : Prop where
  e66 : Γ 66 = some (.code f66)
  c105 : H105 Γ
/- loop.example/g00751/laws.eqStringS -/
def f69l1 : DCode :=
 (.seq
 (.seq
 (.reg [⟨some 11, .mv (.t 5), none⟩,
 ⟨some 12, .mv (.t 0), none⟩,
 ⟨some 13, .len (.t 12), none⟩,
 ⟨some 14, .bin .lss (.t 11) (.t 13), none⟩])
 (.cond (.t 14)
  .skip
  (.exit 0)))
 (.seq
 (.block 1 [0, 1, 5]
  (.seq
  (.any [false, false, false, false, false, false, false, false, false] [(1, ⟨some 17, .mv (.t 0), none⟩),
  (1, ⟨some 18, .mv (.t 5), none⟩),
  (1, ⟨some 19, .iaddr 1 (.t 17) (.t 18), none⟩),
  (1, ⟨some 20, .load none (.t 19), none⟩),
  (1, ⟨some 21, .mv (.t 1), none⟩),
  (1, ⟨some 22, .mv (.t 5), none⟩),
  (1, ⟨some 23, .iaddr 1 (.t 21) (.t 22), none⟩),
  (1, ⟨some 24, .load none (.t 23), none⟩),
  (1, ⟨some 25, .bin .neq (.t 20) (.t 24), none⟩)]
  [])
  (.cond (.t 25)
   (.seq
   (.reg [⟨some 4, .mv (.c (.bool false)), none⟩])
   (.ret [4]))
   .skip)))
 (.reg [⟨some 15, .mv (.t 5), none⟩,
 ⟨some 16, .bin .add (.t 15) (.c (.int .i64 1)), none⟩,
 ⟨some 5, .mv (.t 16), none⟩])))
def f69L1 : DCode := .loop [0, 1, 5] none f69l1
def f69 : DFn := ⟨2, false, [.t 4],
 (.seq
 (.reg [⟨some 4, .mv (.c (.bool false)), none⟩])
 (.seq
 (.seq
 (.reg [⟨some 6, .mv (.t 0), none⟩,
 ⟨some 7, .len (.t 6), none⟩,
 ⟨some 8, .mv (.t 1), none⟩,
 ⟨some 9, .len (.t 8), none⟩,
 ⟨some 10, .bin .neq (.t 7) (.t 9), none⟩])
 (.cond (.t 10)
  (.seq
  (.reg [⟨some 4, .mv (.c (.bool false)), none⟩])
  (.ret [4]))
  .skip))
 (.seq
 (.seq
 (.reg [⟨some 5, .mv (.c (.int .i64 0)), none⟩])
 (.block 0 []
  f69L1))
 (.seq
 (.reg [⟨some 4, .mv (.c (.bool true)), none⟩])
 (.ret [4])))))⟩
structure H69 (Γ : Tab) : Prop where
  e69 : Γ 69 = some (.code f69)
/- loop.example/g00751/laws.eqRule -/
def f106 : DFn := ⟨2, false, [.t 4],
 (.seq
 (.reg [⟨some 2, .boxf (.t 0), none⟩,
 ⟨some 3, .boxf (.t 1), none⟩,
 ⟨some 4, .mv (.c (.bool false)), none⟩])
 (.seq
 (.seq
 (.reg [⟨some 5, .faddr 0 (.t 2), none⟩,
 ⟨some 6, .load none (.t 5), none⟩,
 ⟨some 7, .faddr 0 (.t 3), none⟩,
 ⟨some 8, .load none (.t 7), none⟩,
 ⟨some 9, .bin .neq (.t 6) (.t 8), none⟩])
 (.cond (.t 9)
  (.seq
  (.reg [⟨some 4, .mv (.c (.bool false)), none⟩])
  (.ret [4]))
  .skip))
 (.seq
 (.seq
 (.reg [⟨some 10, .faddr 1 (.t 2), none⟩,
 ⟨some 11, .load none (.t 10), none⟩,
 ⟨some 12, .faddr 1 (.t 3), none⟩,
 ⟨some 13, .load none (.t 12), none⟩,
 ⟨some 14, .bin .neq (.t 11) (.t 13), none⟩])
 (.cond (.t 14)
  (.seq
  (.reg [⟨some 4, .mv (.c (.bool false)), none⟩])
  (.ret [4]))
  .skip))
 (.seq
 (.seq
 (.reg [⟨some 15, .faddr 2 (.t 2), none⟩,
 ⟨some 16, .load none (.t 15), none⟩,
 ⟨some 17, .faddr 2 (.t 3), none⟩,
 ⟨some 18, .load none (.t 17), none⟩,
 ⟨some 19, .call 69 .frz [(.t 16), (.t 18)], none⟩,
 ⟨some 20, .un .not (.t 19), none⟩])
 (.cond (.t 20)
  (.seq
  (.reg [⟨some 4, .mv (.c (.bool false)), none⟩])
  (.ret [4]))
  .skip))
 (.seq
 (.seq
 (.reg [⟨some 21, .faddr 3 (.t 2), none⟩,
 ⟨some 22, .load none (.t 21), none⟩,
 ⟨some 23, .faddr 3 (.t 3), none⟩,
 ⟨some 24, .load none (.t 23), none⟩,
 ⟨some 25, .call 67 .frz [(.t 22), (.t 24)], none⟩,
 ⟨some 26, .un .not (.t 25), none⟩])
 (.cond (.t 26)
  (.seq
  (.reg [⟨some 4, .mv (.c (.bool false)), none⟩])
  (.ret [4]))
  .skip))
 (.seq
 (.seq
 (.reg [⟨some 27, .faddr 4 (.t 2), none⟩,
 ⟨some 28, .load none (.t 27), none⟩,
 ⟨some 29, .faddr 4 (.t 3), none⟩,
 ⟨some 30, .load none (.t 29), none⟩,
 ⟨some 31, .bin .neq (.t 28) (.t 30), none⟩])
 (.cond (.t 31)
  (.seq
  (.reg [⟨some 4, .mv (.c (.bool false)), none⟩])
  (.ret [4]))
  .skip))
 (.seq
 (.seq
 (.reg [⟨some 32, .faddr 5 (.t 2), none⟩,
 ⟨some 33, .load none (.t 32), none⟩,
 ⟨some 34, .faddr 5 (.t 3), none⟩,
 ⟨some 35, .load none (.t 34), none⟩,
 ⟨some 36, .call 69 .frz [(.t 33), (.t 35)], none⟩,
 ⟨some 37, .un .not (.t 36), none⟩])
 (.cond (.t 37)
  (.seq
  (.reg [⟨some 4, .mv (.c (.bool false)), none⟩])
  (.ret [4]))
  .skip))
 (.seq
 (.reg [⟨some 4, .mv (.c (.bool true)), none⟩])
 (.ret [4])))))))))⟩
structure H106 (Γ : Tab) : Prop where
  e106 : Γ 106 = some (.code f106)
  c67 : H67 Γ
  c69 : H69 Γ
/- loop.example/g00751/laws.eqRuleS -/
def f68l1 : DCode :=
 (.seq
 (.seq
 (.reg [⟨some 11, .mv (.t 5), none⟩,
 ⟨some 12, .mv (.t 0), none⟩,
 ⟨some 13, .len (.t 12), none⟩,
 ⟨some 14, .bin .lss (.t 11) (.t 13), none⟩])
 (.cond (.t 14)
  .skip
  (.exit 0)))
 (.seq
 (.block 1 [0, 1, 5]
  (.seq
  (.any [false, false, false, false, false, false, false, false, false, false] [(1, ⟨some 17, .mv (.t 0), none⟩),
  (1, ⟨some 18, .mv (.t 5), none⟩),
  (1, ⟨some 19, .iaddr 6 (.t 17) (.t 18), none⟩),
  (1, ⟨some 20, .load (some 6) (.t 19), none⟩),
  (1, ⟨some 21, .mv (.t 1), none⟩),
  (1, ⟨some 22, .mv (.t 5), none⟩),
  (1, ⟨some 23, .iaddr 6 (.t 21) (.t 22), none⟩),
  (1, ⟨some 24, .load (some 6) (.t 23), none⟩),
  (1, ⟨some 25, .call 106 .frz [(.t 20), (.t 24)], none⟩),
  (1, ⟨some 26, .un .not (.t 25), none⟩)]
  [])
  (.cond (.t 26)
   (.seq
   (.reg [⟨some 4, .mv (.c (.bool false)), none⟩])
   (.ret [4]))
   .skip)))
 (.reg [⟨some 15, .mv (.t 5), none⟩,
 ⟨some 16, .bin .add (.t 15) (.c (.int .i64 1)), none⟩,
 ⟨some 5, .mv (.t 16), none⟩])))
def f68L1 : DCode := .loop [0, 1, 5] none f68l1
def f68 : DFn := ⟨2, false, [.t 4],
 (.seq
 (.reg [⟨some 4, .mv (.c (.bool false)), none⟩])
 (.seq
 (.seq
 (.reg [⟨some 6, .mv (.t 0), none⟩,
 ⟨some 7, .len (.t 6), none⟩,
 ⟨some 8, .mv (.t 1), none⟩,
 ⟨some 9, .len (.t 8), none⟩,
 ⟨some 10, .bin .neq (.t 7) (.t 9), none⟩])
 (.cond (.t 10)
  (.seq
  (.reg [⟨some 4, .mv (.c (.bool false)), none⟩])
  (.ret [4]))
  .skip))
 (.seq
 (.seq
 (.reg [⟨some 5, .mv (.c (.int .i64 0)), none⟩])
 (.block 0 []
  f68L1))
 (.seq
 (.reg [⟨some 4, .mv (.c (.bool true)), none⟩])
 (.ret [4])))))⟩
structure H68 (Γ : Tab) : Prop where
  e68 : Γ 68 = some (.code f68)
  c106 : H106 Γ
/- loop.example/g00751/laws.eqStmt -/
def f24 : DFn := ⟨2, false, [.t 4],
 (.seq
 (.reg [⟨some 2, .boxf (.t 0), none⟩,
 ⟨some 3, .boxf (.t 1), none⟩,
 ⟨some 4, .mv (.c (.bool false)), none⟩])
 (.seq
 (.seq
 (.reg [⟨some 5, .faddr 0 (.t 2), none⟩,
 ⟨some 6, .load none (.t 5), none⟩,
 ⟨some 7, .faddr 0 (.t 3), none⟩,
 ⟨some 8, .load none (.t 7), none⟩,
 ⟨some 9, .bin .neq (.t 6) (.t 8), none⟩])
 (.cond (.t 9)
  (.seq
  (.reg [⟨some 4, .mv (.c (.bool false)), none⟩])
  (.ret [4]))
  .skip))
 (.seq
 (.seq
 (.reg [⟨some 10, .faddr 1 (.t 2), none⟩,
 ⟨some 11, .load none (.t 10), none⟩,
 ⟨some 12, .faddr 1 (.t 3), none⟩,
 ⟨some 13, .load none (.t 12), none⟩,
 ⟨some 14, .bin .neq (.t 11) (.t 13), none⟩])
 (.cond (.t 14)
  (.seq
  (.reg [⟨some 4, .mv (.c (.bool false)), none⟩])
  (.ret [4]))
  .skip))
 (.seq
 (.seq
 (.reg [⟨some 15, .faddr 2 (.t 2), none⟩,
 ⟨some 16, .load none (.t 15), none⟩,
 ⟨some 17, .faddr 2 (.t 3), none⟩,
 ⟨some 18, .load none (.t 17), none⟩,
 ⟨some 19, .bin .neq (.t 16) (.t 18), none⟩])
 (.cond (.t 19)
  (.seq
  (.reg [⟨some 4, .mv (.c (.bool false)), none⟩])
  (.ret [4]))
  .skip))
 (.seq
 (.seq
 (.reg [⟨some 20, .faddr 3 (.t 2), none⟩,
 ⟨some 21, .load none (.t 20), none⟩,
 ⟨some 22, .faddr 3 (.t 3), none⟩,
 ⟨some 23, .load none (.t 22), none⟩,
 ⟨some 24, .call 69 .frz [(.t 21), (.t 23)], none⟩,
 ⟨some 25, .un .not (.t 24), none⟩])
 (.cond (.t 25)
  (.seq
  (.reg [⟨some 4, .mv (.c (.bool false)), none⟩])
  (.ret [4]))
  .skip))
 (.seq
 (.seq
 (.reg [⟨some 26, .faddr 4 (.t 2), none⟩,
 ⟨some 27, .load none (.t 26), none⟩,
 ⟨some 28, .faddr 4 (.t 3), none⟩,
 ⟨some 29, .load none (.t 28), none⟩,
 ⟨some 30, .bin .neq (.t 27) (.t 29), none⟩])
 (.cond (.t 30)
  (.seq
  (.reg [⟨some 4, .mv (.c (.bool false)), none⟩])
  (.ret [4]))
  .skip))
 (.seq
 (.seq
 (.reg [⟨some 31, .faddr 5 (.t 2), none⟩,
 ⟨some 32, .load none (.t 31), none⟩,
 ⟨some 33, .faddr 5 (.t 3), none⟩,
 ⟨some 34, .load none (.t 33), none⟩,
 ⟨some 35, .binb .neq (.t 32) (.t 34), none⟩])
 (.cond (.t 35)
  (.seq
  (.reg [⟨some 4, .mv (.c (.bool false)), none⟩])
  (.ret [4]))
  .skip))
 (.seq
 (.seq
 (.reg [⟨some 36, .faddr 6 (.t 2), none⟩,
 ⟨some 37, .load (some 3) (.t 36), none⟩,
 ⟨some 38, .faddr 6 (.t 3), none⟩,
 ⟨some 39, .load (some 3) (.t 38), none⟩,
 ⟨some 40, .call 70 .frz [(.t 37), (.t 39)], none⟩,
 ⟨some 41, .un .not (.t 40), none⟩])
 (.cond (.t 41)
  (.seq
  (.reg [⟨some 4, .mv (.c (.bool false)), none⟩])
  (.ret [4]))
  .skip))
 (.seq
 (.seq
 (.reg [⟨some 42, .faddr 9 (.t 2), none⟩,
 ⟨some 43, .load none (.t 42), none⟩,
 ⟨some 44, .faddr 9 (.t 3), none⟩,
 ⟨some 45, .load none (.t 44), none⟩,
 ⟨some 46, .call 66 .frz [(.t 43), (.t 45)], none⟩,
 ⟨some 47, .un .not (.t 46), none⟩])
 (.cond (.t 47)
  (.seq
  (.reg [⟨some 4, .mv (.c (.bool false)), none⟩])
  (.ret [4]))
  .skip))
 (.seq
 (.seq
 (.reg [⟨some 48, .faddr 10 (.t 2), none⟩,
 ⟨some 49, .load none (.t 48), none⟩,
 ⟨some 50, .faddr 10 (.t 3), none⟩,
 ⟨some 51, .load none (.t 50), none⟩,
 ⟨some 52, .call 68 .frz [(.t 49), (.t 51)], none⟩,
 ⟨some 53, .un .not (.t 52), none⟩])
 (.cond (.t 53)
  (.seq
  (.reg [⟨some 4, .mv (.c (.bool false)), none⟩])
  (.ret [4]))
  .skip))
 (.seq
 (.seq
 (.reg [⟨some 54, .faddr 11 (.t 2), none⟩,
 ⟨some 55, .load none (.t 54), none⟩,
 ⟨some 56, .faddr 11 (.t 3), none⟩,
 ⟨some 57, .load none (.t 56), none⟩,
 ⟨some 58, .call 67 .frz [(.t 55), (.t 57)], none⟩,
 ⟨some 59, .un .not (.t 58), none⟩])
 (.cond (.t 59)
  (.seq
  (.reg [⟨some 4, .mv (.c (.bool false)), none⟩])
  (.ret [4]))
  .skip))
 (.seq
 (.reg [⟨some 4, .mv (.c (.bool true)), none⟩])
 (.ret [4])))))))))))))⟩
structure H24 (Γ : Tab) : Prop where
  e24 : Γ 24 = some (.code f24)
  c66 : H66 Γ
  c67 : H67 Γ
  c68 : H68 Γ
  c69 : H69 Γ
  c70 : H70 Γ
/- loop.example/g00751/laws.szExprS -/
def f46l1 : DCode :=
 (.seq
 (.seq
 (.reg [⟨some 12, .mv (.t 5), none⟩,
 ⟨some 13, .mv (.t 0), none⟩,
 ⟨some 14, .len (.t 13), none⟩,
 ⟨some 15, .bin .lss (.t 12) (.t 14), none⟩])
 (.cond (.t 15)
  .skip
  (.exit 0)))
 (.seq
 (.block 1 [0, 1, 5]
  (.seq
  (.reg [⟨some 18, .mv (.t 0), none⟩,
  ⟨some 19, .mv (.t 5), none⟩,
  ⟨some 20, .iaddr 4 (.t 18) (.t 19), none⟩,
  ⟨some 21, .load (some 4) (.t 20), none⟩,
  ⟨some 22, .mv (.t 1), none⟩,
  ⟨some 23, .call 86 .frz [(.t 21), (.t 22)], none⟩,
  ⟨some 1, .mv (.t 23), none⟩])
  (.seq
  (.reg [⟨some 24, .mv (.t 1), none⟩,
  ⟨some 25, .bin .lss (.t 24) (.c (.int .i64 0)), none⟩])
  (.cond (.t 25)
   (.seq
   (.reg [⟨some 4, .mv (.c (.int .i64 (-1))), none⟩])
   (.ret [4]))
   .skip))))
 (.reg [⟨some 16, .mv (.t 5), none⟩,
 ⟨some 17, .bin .add (.t 16) (.c (.int .i64 1)), none⟩,
 ⟨some 5, .mv (.t 17), none⟩])))
def f46L1 : DCode := .loop [0, 1, 5] none f46l1
def f46 : DFn := ⟨2, false, [.t 4],
 (.seq
 (.reg [⟨some 4, .mv (.c (.int .i64 0)), none⟩])
 (.seq
 (.reg [⟨some 6, .mv (.t 1), none⟩,
 ⟨some 7, .mv (.t 0), none⟩,
 ⟨some 8, .len (.t 7), none⟩,
 ⟨some 9, .bin .sub (.t 6) (.t 8), none⟩,
 ⟨some 1, .mv (.t 9), none⟩])
 (.seq
 (.seq
 (.reg [⟨some 10, .mv (.t 1), none⟩,
 ⟨some 11, .bin .lss (.t 10) (.c (.int .i64 0)), none⟩])
 (.cond (.t 11)
  (.seq
  (.reg [⟨some 4, .mv (.c (.int .i64 (-1))), none⟩])
  (.ret [4]))
  .skip))
 (.seq
 (.seq
 (.reg [⟨some 5, .mv (.c (.int .i64 0)), none⟩])
 (.block 0 [1]
  f46L1))
 (.seq
 (.reg [⟨some 26, .mv (.t 1), none⟩,
 ⟨some 4, .mv (.t 26), none⟩])
 (.ret [4]))))))⟩
/- loop.example/g00751/laws.szExpr -/
def f86 : DFn := ⟨2, false, [.t 4],
 (.seq
 (.reg [⟨some 2, .boxf (.t 0), none⟩,
 ⟨some 4, .mv (.c (.int .i64 0)), none⟩])
 (.seq
 (.reg [⟨some 5, .mv (.t 1), none⟩,
 ⟨some 6, .faddr 1 (.t 2), none⟩,
 ⟨some 7, .load none (.t 6), none⟩,
 ⟨some 8, .lens (.t 7), none⟩,
 ⟨some 9, .bin .sub (.t 5) (.t 8), none⟩,
 ⟨some 1, .mv (.t 9), none⟩])
 (.seq
 (.seq
 (.reg [⟨some 10, .mv (.t 1), none⟩,
 ⟨some 11, .bin .lss (.t 10) (.c (.int .i64 0)), none⟩])
 (.cond (.t 11)
  (.seq
  (.reg [⟨some 4, .mv (.c (.int .i64 (-1))), none⟩])
  (.ret [4]))
  .skip))
 (.seq
 (.reg [⟨some 12, .faddr 3 (.t 2), none⟩,
 ⟨some 13, .load none (.t 12), none⟩,
 ⟨some 14, .mv (.t 1), none⟩,
 ⟨some 15, .call 46 .frz [(.t 13), (.t 14)], none⟩,
 ⟨some 1, .mv (.t 15), none⟩])
 (.seq
 (.seq
 (.reg [⟨some 16, .mv (.t 1), none⟩,
 ⟨some 17, .bin .lss (.t 16) (.c (.int .i64 0)), none⟩])
 (.cond (.t 17)
  (.seq
  (.reg [⟨some 4, .mv (.c (.int .i64 (-1))), none⟩])
  (.ret [4]))
  .skip))
 (.seq
 (.reg [⟨some 18, .mv (.t 1), none⟩,
 ⟨some 4, .mv (.t 18), none⟩])
 (.ret [4])))))))⟩
structure H46 (Γ : Tab) : Prop where
  e46 : Γ 46 = some (.code f46)
  e86 : Γ 86 = some (.code f86)
abbrev H86 := H46
/- loop.example/g00751/laws.szType -/
def f49 : DFn := ⟨2, false, [.t 4],
 (.seq
 (.reg [⟨some 2, .boxf (.t 0), none⟩,
 ⟨some 4, .mv (.c (.int .i64 0)), none⟩])
 (.seq
 (.reg [⟨some 5, .mv (.t 1), none⟩,
 ⟨some 6, .faddr 2 (.t 2), none⟩,
 ⟨some 7, .load none (.t 6), none⟩,
 ⟨some 8, .lens (.t 7), none⟩,
 ⟨some 9, .bin .sub (.t 5) (.t 8), none⟩,
 ⟨some 1, .mv (.t 9), none⟩])
 (.seq
 (.seq
 (.reg [⟨some 10, .mv (.t 1), none⟩,
 ⟨some 11, .bin .lss (.t 10) (.c (.int .i64 0)), none⟩])
 (.cond (.t 11)
  (.seq
  (.reg [⟨some 4, .mv (.c (.int .i64 (-1))), none⟩])
  (.ret [4]))
  .skip))
 (.seq
 (.reg [⟨some 12, .mv (.t 1), none⟩,
 ⟨some 4, .mv (.t 12), none⟩])
 (.ret [4])))))⟩
structure H49 (Γ : Tab) : Prop where
  e49 : Γ 49 = some (.code f49)
/- loop.example/g00751/laws.szCol -/
def f84 : DFn := ⟨2, false, [.t 4],
 (.seq
 (.reg [⟨some 2, .boxf (.t 0), none⟩,
 ⟨some 4, .mv (.c (.int .i64 0)), none⟩])
 (.seq
 (.reg [⟨some 5, .mv (.t 1), none⟩,
 ⟨some 6, .faddr 0 (.t 2), none⟩,
 ⟨some 7, .load none (.t 6), none⟩,
 ⟨some 8, .lens (.t 7), none⟩,
 ⟨some 9, .bin .sub (.t 5) (.t 8), none⟩,
 ⟨some 1, .mv (.t 9), none⟩])
 (.seq
 (.seq
 (.reg [⟨some 10, .mv (.t 1), none⟩,
 ⟨some 11, .bin .lss (.t 10) (.c (.int .i64 0)), none⟩])
 (.cond (.t 11)
  (.seq
  (.reg [⟨some 4, .mv (.c (.int .i64 (-1))), none⟩])
  (.ret [4]))
  .skip))
 (.seq
 (.reg [⟨some 12, .faddr 1 (.t 2), none⟩,
 ⟨some 13, .load (some 3) (.t 12), none⟩,
 ⟨some 14, .mv (.t 1), none⟩,
 ⟨some 15, .call 49 .frz [(.t 13), (.t 14)], none⟩,
 ⟨some 1, .mv (.t 15), none⟩])
 (.seq
 (.seq
 (.reg [⟨some 16, .mv (.t 1), none⟩,
 ⟨some 17, .bin .lss (.t 16) (.c (.int .i64 0)), none⟩])
 (.cond (.t 17)
  (.seq
  (.reg [⟨some 4, .mv (.c (.int .i64 (-1))), none⟩])
  (.ret [4]))
  .skip))
 (.seq
 (.reg [⟨some 18, .faddr 5 (.t 2), none⟩,
 ⟨some 19, .load none (.t 18), none⟩,
 ⟨some 20, .mv (.t 1), none⟩,
 ⟨some 21, .call 46 .frz [(.t 19), (.t 20)], none⟩,
 ⟨some 1, .mv (.t 21), none⟩])
 (.seq
 (.seq
 (.reg [⟨some 22, .mv (.t 1), none⟩,
 ⟨some 23, .bin .lss (.t 22) (.c (.int .i64 0)), none⟩])
 (.cond (.t 23)
  (.seq
  (.reg [⟨some 4, .mv (.c (.int .i64 (-1))), none⟩])
  (.ret [4]))
  .skip))
 (.seq
 (.reg [⟨some 24, .mv (.t 1), none⟩,
 ⟨some 4, .mv (.t 24), none⟩])
 (.ret [4])))))))))⟩
structure H84 (Γ : Tab) : Prop where
  e84 : Γ 84 = some (.code f84)
  c46 : H46 Γ
  c49 : H49 Γ
/- loop.example/g00751/laws.szColS -/
def f45l1 : DCode :=
 (.seq
 (.seq
 (.reg [⟨some 12, .mv (.t 5), none⟩,
 ⟨some 13, .mv (.t 0), none⟩,
 ⟨some 14, .len (.t 13), none⟩,
 ⟨some 15, .bin .lss (.t 12) (.t 14), none⟩])
 (.cond (.t 15)
  .skip
  (.exit 0)))
 (.seq
 (.block 1 [0, 1, 5]
  (.seq
  (.reg [⟨some 18, .mv (.t 0), none⟩,
  ⟨some 19, .mv (.t 5), none⟩,
  ⟨some 20, .iaddr 6 (.t 18) (.t 19), none⟩,
  ⟨some 21, .load (some 6) (.t 20), none⟩,
  ⟨some 22, .mv (.t 1), none⟩,
  ⟨some 23, .call 84 .frz [(.t 21), (.t 22)], none⟩,
  ⟨some 1, .mv (.t 23), none⟩])
  (.seq
  (.reg [⟨some 24, .mv (.t 1), none⟩,
  ⟨some 25, .bin .lss (.t 24) (.c (.int .i64 0)), none⟩])
  (.cond (.t 25)
   (.seq
   (.reg [⟨some 4, .mv (.c (.int .i64 (-1))), none⟩])
   (.ret [4]))
   .skip))))
 (.reg [⟨some 16, .mv (.t 5), none⟩,
 ⟨some 17, .bin .add (.t 16) (.c (.int .i64 1)), none⟩,
 ⟨some 5, .mv (.t 17), none⟩])))
def f45L1 : DCode := .loop [0, 1, 5] none f45l1
def f45 : DFn := ⟨2, false, [.t 4],
 (.seq
 (.reg [⟨some 4, .mv (.c (.int .i64 0)), none⟩])
 (.seq
 (.reg [⟨some 6, .mv (.t 1), none⟩,
 ⟨some 7, .mv (.t 0), none⟩,
 ⟨some 8, .len (.t 7), none⟩,
 ⟨some 9, .bin .sub (.t 6) (.t 8), none⟩,
 ⟨some 1, .mv (.t 9), none⟩])
 (.seq
 (.seq
 (.reg [⟨some 10, .mv (.t 1), none⟩,
 ⟨some 11, .bin .lss (.t 10) (.c (.int .i64 0)), none⟩])
 (.cond (.t 11)
  (.seq
  (.reg [⟨some 4, .mv (.c (.int .i64 (-1))), none⟩])
  (.ret [4]))
  .skip))
 (.seq
 (.seq
 (.reg [⟨some 5, .mv (.c (.int .i64 0)), none⟩])
 (.block 0 [1]
  f45L1))
 (.seq
 (.reg [⟨some 26, .mv (.t 1), none⟩,
 ⟨some 4, .mv (.t 26), none⟩])
 (.ret [4]))))))⟩
structure H45 (Γ : Tab) : Prop where
  e45 : Γ 45 = some (.code f45)
  c84 : H84 Γ
/- loop.example/g00751/laws.szStringS -/
def f48l1 : DCode :=
 (.seq
 (.seq
 (.reg [⟨some 12, .mv (.t 5), none⟩,
 ⟨some 13, .mv (.t 0), none⟩,
 ⟨some 14, .len (.t 13), none⟩,
 ⟨some 15, .bin .lss (.t 12) (.t 14), none⟩])
 (.cond (.t 15)
  .skip
  (.exit 0)))
 (.seq
 (.block 1 [0, 1, 5]
  (.seq
  (.reg [⟨some 18, .mv (.t 1), none⟩,
  ⟨some 19, .mv (.t 0), none⟩,
  ⟨some 20, .mv (.t 5), none⟩,
  ⟨some 21, .iaddr 1 (.t 19) (.t 20), none⟩,
  ⟨some 22, .load none (.t 21), none⟩,
  ⟨some 23, .lens (.t 22), none⟩,
  ⟨some 24, .bin .sub (.t 18) (.t 23), none⟩,
  ⟨some 1, .mv (.t 24), none⟩])
  (.seq
  (.reg [⟨some 25, .mv (.t 1), none⟩,
  ⟨some 26, .bin .lss (.t 25) (.c (.int .i64 0)), none⟩])
  (.cond (.t 26)
   (.seq
   (.reg [⟨some 4, .mv (.c (.int .i64 (-1))), none⟩])
   (.ret [4]))
   .skip))))
 (.reg [⟨some 16, .mv (.t 5), none⟩,
 ⟨some 17, .bin .add (.t 16) (.c (.int .i64 1)), none⟩,
 ⟨some 5, .mv (.t 17), none⟩])))
def f48L1 : DCode := .loop [0, 1, 5] none f48l1
def f48 : DFn := ⟨2, false, [.t 4],
 (.seq
 (.reg [⟨some 4, .mv (.c (.int .i64 0)), none⟩])
 (.seq
 (.reg [⟨some 6, .mv (.t 1), none⟩,
 ⟨some 7, .mv (.t 0), none⟩,
 ⟨some 8, .len (.t 7), none⟩,
 ⟨some 9, .bin .sub (.t 6) (.t 8), none⟩,
 ⟨some 1, .mv (.t 9), none⟩])
 (.seq
 (.seq
 (.reg [⟨some 10, .mv (.t 1), none⟩,
 ⟨some 11, .bin .lss (.t 10) (.c (.int .i64 0)), none⟩])
 (.cond (.t 11)
  (.seq
  (.reg [⟨some 4, .mv (.c (.int .i64 (-1))), none⟩])
  (.ret [4]))
  .skip))
 (.seq
 (.seq
 (.reg [⟨some 5, .mv (.c (.int .i64 0)), none⟩])
 (.block 0 [1]
  f48L1))
 (.seq
 (.reg [⟨some 27, .mv (.t 1), none⟩,
 ⟨some 4, .mv (.t 27), none⟩])
 (.ret [4]))))))⟩
structure H48 (Γ : Tab) : Prop where
  e48 : Γ 48 = some (.code f48)
/- loop.example/g00751/laws.szRule -/
def f85 : DFn := ⟨2, false, [.t 4],
 (.seq
 (.reg [⟨some 2, .boxf (.t 0), none⟩,
 ⟨some 4, .mv (.c (.int .i64 0)), none⟩])
 (.seq
 (.reg [⟨some 5, .mv (.t 1), none⟩,
 ⟨some 6, .faddr 0 (.t 2), none⟩,
 ⟨some 7, .load none (.t 6), none⟩,
 ⟨some 8, .lens (.t 7), none⟩,
 ⟨some 9, .bin .sub (.t 5) (.t 8), none⟩,
 ⟨some 1, .mv (.t 9), none⟩])
 (.seq
 (.seq
 (.reg [⟨some 10, .mv (.t 1), none⟩,
 ⟨some 11, .bin .lss (.t 10) (.c (.int .i64 0)), none⟩])
 (.cond (.t 11)
  (.seq
  (.reg [⟨some 4, .mv (.c (.int .i64 (-1))), none⟩])
  (.ret [4]))
  .skip))
 (.seq
 (.reg [⟨some 12, .faddr 2 (.t 2), none⟩,
 ⟨some 13, .load none (.t 12), none⟩,
 ⟨some 14, .mv (.t 1), none⟩,
 ⟨some 15, .call 48 .frz [(.t 13), (.t 14)], none⟩,
 ⟨some 1, .mv (.t 15), none⟩])
 (.seq
 (.seq
 (.reg [⟨some 16, .mv (.t 1), none⟩,
 ⟨some 17, .bin .lss (.t 16) (.c (.int .i64 0)), none⟩])
 (.cond (.t 17)
  (.seq
  (.reg [⟨some 4, .mv (.c (.int .i64 (-1))), none⟩])
  (.ret [4]))
  .skip))
 (.seq
 (.reg [⟨some 18, .faddr 3 (.t 2), none⟩,
 ⟨some 19, .load none (.t 18), none⟩,
 ⟨some 20, .mv (.t 1), none⟩,
 ⟨some 21, .call 46 .frz [(.t 19), (.t 20)], none⟩,
 ⟨some 1, .mv (.t 21), none⟩])
 (.seq
 (.seq
 (.reg [⟨some 22, .mv (.t 1), none⟩,
 ⟨some 23, .bin .lss (.t 22) (.c (.int .i64 0)), none⟩])
 (.cond (.t 23)
  (.seq
  (.reg [⟨some 4, .mv (.c (.int .i64 (-1))), none⟩])
  (.ret [4]))
  .skip))
 (.seq
 (.reg [⟨some 24, .mv (.t 1), none⟩,
 ⟨some 25, .faddr 4 (.t 2), none⟩,
 ⟨some 26, .load none (.t 25), none⟩,
 ⟨some 27, .lens (.t 26), none⟩,
 ⟨some 28, .bin .sub (.t 24) (.t 27), none⟩,
 ⟨some 1, .mv (.t 28), none⟩])
 (.seq
 (.seq
 (.reg [⟨some 29, .mv (.t 1), none⟩,
 ⟨some 30, .bin .lss (.t 29) (.c (.int .i64 0)), none⟩])
 (.cond (.t 30)
  (.seq
  (.reg [⟨some 4, .mv (.c (.int .i64 (-1))), none⟩])
  (.ret [4]))
  .skip))
 (.seq
 (.reg [⟨some 31, .faddr 5 (.t 2), none⟩,
 ⟨some 32, .load none (.t 31), none⟩,
 ⟨some 33, .mv (.t 1), none⟩,
 ⟨some 34, .call 48 .frz [(.t 32), (.t 33)], none⟩,
 ⟨some 1, .mv (.t 34), none⟩])
 (.seq
 (.seq
 (.reg [⟨some 35, .mv (.t 1), none⟩,
 ⟨some 36, .bin .lss (.t 35) (.c (.int .i64 0)), none⟩])
 (.cond (.t 36)
  (.seq
  (.reg [⟨some 4, .mv (.c (.int .i64 (-1))), none⟩])
  (.ret [4]))
  .skip))
 (.seq
 (.reg [⟨some 37, .mv (.t 1), none⟩,
 ⟨some 4, .mv (.t 37), none⟩])
 (.ret [4])))))))))))))⟩
structure H85 (Γ : Tab) : Prop where
  e85 : Γ 85 = some (.code f85)
  c46 : H46 Γ
  c48 : H48 Γ
/- loop.example/g00751/laws.szRuleS -/
def f47l1 : DCode :=
 (.seq
 (.seq
 (.reg [⟨some 12, .mv (.t 5), none⟩,
 ⟨some 13, .mv (.t 0), none⟩,
 ⟨some 14, .len (.t 13), none⟩,
 ⟨some 15, .bin .lss (.t 12) (.t 14), none⟩])
 (.cond (.t 15)
  .skip
  (.exit 0)))
 (.seq
 (.block 1 [0, 1, 5]
  (.seq
  (.reg [⟨some 18, .mv (.t 0), none⟩,
  ⟨some 19, .mv (.t 5), none⟩,
  ⟨some 20, .iaddr 6 (.t 18) (.t 19), none⟩,
  ⟨some 21, .load (some 6) (.t 20), none⟩,
  ⟨some 22, .mv (.t 1), none⟩,
  ⟨some 23, .call 85 .frz [(.t 21), (.t 22)], none⟩,
  ⟨some 1, .mv (.t 23), none⟩])
  (.seq
  (.reg [⟨some 24, .mv (.t 1), none⟩,
  ⟨some 25, .bin .lss (.t 24) (.c (.int .i64 0)), none⟩])
  (.cond (.t 25)
   (.seq
   (.reg [⟨some 4, .mv (.c (.int .i64 (-1))), none⟩])
   (.ret [4]))
   .skip))))
 (.reg [⟨some 16, .mv (.t 5), none⟩,
 ⟨some 17, .bin .add (.t 16) (.c (.int .i64 1)), none⟩,
 ⟨some 5, .mv (.t 17), none⟩])))
def f47L1 : DCode := .loop [0, 1, 5] none f47l1
def f47 : DFn := ⟨2, false, [.t 4],
 (.seq
 (.reg [⟨some 4, .mv (.c (.int .i64 0)), none⟩])
 (.seq
 (.reg [⟨some 6, .mv (.t 1), none⟩,
 ⟨some 7, .mv (.t 0), none⟩,
 ⟨some 8, .len (.t 7), none⟩,
 ⟨some 9, .bin .sub (.t 6) (.t 8), none⟩,
 ⟨some 1, .mv (.t 9), none⟩])
 (.seq
 (.seq
 (.reg [⟨some 10, .mv (.t 1), none⟩,
 ⟨some 11, .bin .lss (.t 10) (.c (.int .i64 0)), none⟩])
 (.cond (.t 11)
  (.seq
  (.reg [⟨some 4, .mv (.c (.int .i64 (-1))), none⟩])
  (.ret [4]))
  .skip))
 (.seq
 (.seq
 (.reg [⟨some 5, .mv (.c (.int .i64 0)), none⟩])
 (.block 0 [1]
  f47L1))
 (.seq
 (.reg [⟨some 26, .mv (.t 1), none⟩,
 ⟨some 4, .mv (.t 26), none⟩])
 (.ret [4]))))))⟩
structure H47 (Γ : Tab) : Prop where
  e47 : Γ 47 = some (.code f47)
  c85 : H85 Γ
/- loop.example/g00751/laws.szStmt -/
def f25 : DFn := ⟨2, false, [.t 4],
 (.seq
 (.reg [⟨some 2, .boxf (.t 0), none⟩,
 ⟨some 4, .mv (.c (.int .i64 0)), none⟩])
 (.seq
 (.reg [⟨some 5, .mv (.t 1), none⟩,
 ⟨some 6, .faddr 1 (.t 2), none⟩,
 ⟨some 7, .load none (.t 6), none⟩,
 ⟨some 8, .lens (.t 7), none⟩,
 ⟨some 9, .bin .sub (.t 5) (.t 8), none⟩,
 ⟨some 1, .mv (.t 9), none⟩])
 (.seq
 (.seq
 (.reg [⟨some 10, .mv (.t 1), none⟩,
 ⟨some 11, .bin .lss (.t 10) (.c (.int .i64 0)), none⟩])
 (.cond (.t 11)
  (.seq
  (.reg [⟨some 4, .mv (.c (.int .i64 (-1))), none⟩])
  (.ret [4]))
  .skip))
 (.seq
 (.reg [⟨some 12, .mv (.t 1), none⟩,
 ⟨some 13, .faddr 2 (.t 2), none⟩,
 ⟨some 14, .load none (.t 13), none⟩,
 ⟨some 15, .lens (.t 14), none⟩,
 ⟨some 16, .bin .sub (.t 12) (.t 15), none⟩,
 ⟨some 1, .mv (.t 16), none⟩])
 (.seq
 (.seq
 (.reg [⟨some 17, .mv (.t 1), none⟩,
 ⟨some 18, .bin .lss (.t 17) (.c (.int .i64 0)), none⟩])
 (.cond (.t 18)
  (.seq
  (.reg [⟨some 4, .mv (.c (.int .i64 (-1))), none⟩])
  (.ret [4]))
  .skip))
 (.seq
 (.reg [⟨some 19, .faddr 3 (.t 2), none⟩,
 ⟨some 20, .load none (.t 19), none⟩,
 ⟨some 21, .mv (.t 1), none⟩,
 ⟨some 22, .call 48 .frz [(.t 20), (.t 21)], none⟩,
 ⟨some 1, .mv (.t 22), none⟩])
 (.seq
 (.seq
 (.reg [⟨some 23, .mv (.t 1), none⟩,
 ⟨some 24, .bin .lss (.t 23) (.c (.int .i64 0)), none⟩])
 (.cond (.t 24)
  (.seq
  (.reg [⟨some 4, .mv (.c (.int .i64 (-1))), none⟩])
  (.ret [4]))
  .skip))
 (.seq
 (.reg [⟨some 25, .faddr 6 (.t 2), none⟩,
 ⟨some 26, .load (some 3) (.t 25), none⟩,
 ⟨some 27, .mv (.t 1), none⟩,
 ⟨some 28, .call 49 .frz [(.t 26), (.t 27)], none⟩,
 ⟨some 1, .mv (.t 28), none⟩])
 (.seq
 (.seq
 (.reg [⟨some 29, .mv (.t 1), none⟩,
 ⟨some 30, .bin .lss (.t 29) (.c (.int .i64 0)), none⟩])
 (.cond (.t 30)
  (.seq
  (.reg [⟨some 4, .mv (.c (.int .i64 (-1))), none⟩])
  (.ret [4]))
  .skip))
 (.seq
 (.reg [⟨some 31, .faddr 9 (.t 2), none⟩,
 ⟨some 32, .load none (.t 31), none⟩,
 ⟨some 33, .mv (.t 1), none⟩,
 ⟨some 34, .call 45 .frz [(.t 32), (.t 33)], none⟩,
 ⟨some 1, .mv (.t 34), none⟩])
 (.seq
 (.seq
 (.reg [⟨some 35, .mv (.t 1), none⟩,
 ⟨some 36, .bin .lss (.t 35) (.c (.int .i64 0)), none⟩])
 (.cond (.t 36)
  (.seq
  (.reg [⟨some 4, .mv (.c (.int .i64 (-1))), none⟩])
  (.ret [4]))
  .skip))
 (.seq
 (.reg [⟨some 37, .faddr 10 (.t 2), none⟩,
 ⟨some 38, .load none (.t 37), none⟩,
 ⟨some 39, .mv (.t 1), none⟩,
 ⟨some 40, .call 47 .frz [(.t 38), (.t 39)], none⟩,
 ⟨some 1, .mv (.t 40), none⟩])
 (.seq
 (.seq
 (.reg [⟨some 41, .mv (.t 1), none⟩,
 ⟨some 42, .bin .lss (.t 41) (.c (.int .i64 0)), none⟩])
 (.cond (.t 42)
  (.seq
  (.reg [⟨some 4, .mv (.c (.int .i64 (-1))), none⟩])
  (.ret [4]))
  .skip))
 (.seq
 (.reg [⟨some 43, .faddr 11 (.t 2), none⟩,
 ⟨some 44, .load none (.t 43), none⟩,
 ⟨some 45, .mv (.t 1), none⟩,
 ⟨some 46, .call 46 .frz [(.t 44), (.t 45)], none⟩,
 ⟨some 1, .mv (.t 46), none⟩])
 (.seq
 (.seq
 (.reg [⟨some 47, .mv (.t 1), none⟩,
 ⟨some 48, .bin .lss (.t 47) (.c (.int .i64 0)), none⟩])
 (.cond (.t 48)
  (.seq
  (.reg [⟨some 4, .mv (.c (.int .i64 (-1))), none⟩])
  (.ret [4]))
  .skip))
 (.seq
 (.reg [⟨some 49, .mv (.t 1), none⟩,
 ⟨some 4, .mv (.t 49), none⟩])
 (.ret [4])))))))))))))))))⟩
structure H25 (Γ : Tab) : Prop where
  e25 : Γ 25 = some (.code f25)
  c45 : H45 Γ
  c46 : H46 Γ
  c47 : H47 Γ
  c48 : H48 Γ
  c49 : H49 Γ
/- loop.example/g00751/laws.toExprS -/
def f53l1 : DCode :=
 (.seq
 (.seq
 (.reg [⟨some 8, .mv (.t 4), none⟩,
 ⟨some 9, .mv (.t 0), none⟩,
 ⟨some 10, .len (.t 9), none⟩,
 ⟨some 11, .bin .lss (.t 8) (.t 10), none⟩])
 (.cond (.t 11)
  .skip
  (.exit 0)))
 (.seq
 (.block 1 [0, 3, 4]
  (.reg [⟨some 14, .mv (.t 3), none⟩,
  ⟨some 15, .mv (.t 4), none⟩,
  ⟨some 16, .mv (.t 0), none⟩,
  ⟨some 17, .mv (.t 4), none⟩,
  ⟨some 18, .iaddr 4 (.t 16) (.t 17), none⟩,
  ⟨some 19, .load (some 4) (.t 18), none⟩,
  ⟨some 20, .call 93 .frz [(.t 19)], none⟩,
  ⟨some 21, .iaddr 4 (.t 14) (.t 15), none⟩,
  ⟨none, .store 4 (.t 21) (.t 20), none⟩]))
 (.reg [⟨some 12, .mv (.t 4), none⟩,
 ⟨some 13, .bin .add (.t 12) (.c (.int .i64 1)), none⟩,
 ⟨some 4, .mv (.t 13), none⟩])))
def f53L1 : DCode := .loop [0, 3, 4] none f53l1
def f53 : DFn := ⟨1, false, [.t 2],
 (.seq
 (.reg [⟨some 2, .mv (.c .nils), none⟩])
 (.seq
 (.reg [⟨some 5, .mv (.t 0), none⟩,
 ⟨some 6, .len (.t 5), none⟩,
 ⟨some 7, .mkSl 4 56 (.agg [.int .i64 0, .str [], .int .i64 0, .nils]) (.t 6) (.t 6), none⟩,
 ⟨some 3, .mv (.t 7), none⟩])
 (.seq
 (.seq
 (.reg [⟨some 4, .mv (.c (.int .i64 0)), none⟩])
 (.block 0 [3]
  f53L1))
 (.seq
 (.reg [⟨some 22, .mv (.t 3), none⟩,
 ⟨some 2, .mv (.t 22), none⟩])
 (.ret [2])))))⟩
/- loop.example/g00751/laws.toExpr -/
def f93 : DFn := ⟨1, false, [.cell 2 (some 4)],
 (.seq
 (.reg [⟨some 1, .boxf (.t 0), none⟩,
 ⟨some 2, .alloc [.int .i64 0, .str [], .int .i64 0, .nils], none⟩])
 (.seq
 (.reg [⟨some 3, .alloc [.int .i64 0, .str [], .int .i64 0, .nils], none⟩])
 (.seq
 (.reg [⟨some 4, .faddr 0 (.t 1), none⟩,
 ⟨some 5, .load none (.t 4), none⟩,
 ⟨some 6, .faddr 0 (.t 3), none⟩,
 ⟨none, .store 1 (.t 6) (.t 5), none⟩])
 (.seq
 (.reg [⟨some 7, .faddr 1 (.t 1), none⟩,
 ⟨some 8, .load none (.t 7), none⟩,
 ⟨some 9, .faddr 1 (.t 3), none⟩,
 ⟨none, .store 1 (.t 9) (.t 8), none⟩])
 (.seq
 (.reg [⟨some 10, .faddr 2 (.t 1), none⟩,
 ⟨some 11, .load none (.t 10), none⟩,
 ⟨some 12, .faddr 2 (.t 3), none⟩,
 ⟨none, .store 1 (.t 12) (.t 11), none⟩])
 (.seq
 (.reg [⟨some 13, .faddr 3 (.t 1), none⟩,
 ⟨some 14, .load none (.t 13), none⟩,
 ⟨some 15, .call 53 .frz [(.t 14)], none⟩,
 ⟨some 16, .faddr 3 (.t 3), none⟩,
 ⟨none, .store 1 (.t 16) (.t 15), none⟩])
 (.seq
 (.reg [⟨some 17, .load (some 4) (.t 3), none⟩,
 ⟨none, .store 4 (.t 2) (.t 17), none⟩])
 (.ret [2]))))))))⟩
structure H53 (Γ : Tab) : Prop where
  e53 : Γ 53 = some (.code f53)
  e93 : Γ 93 = some (.code f93)
abbrev H93 := H53
/- loop.example/g00751/laws.toType -/
def f56 : DFn := ⟨1, false, [.cell 2 (some 3)],
 (.seq
 (.reg [⟨some 1, .boxf (.t 0), none⟩,
 ⟨some 2, .alloc [.int .i64 0, .int .i64 0, .str []], none⟩])
 (.seq
 (.reg [⟨some 3, .alloc [.int .i64 0, .int .i64 0, .str []], none⟩])
 (.seq
 (.reg [⟨some 4, .faddr 0 (.t 1), none⟩,
 ⟨some 5, .load none (.t 4), none⟩,
 ⟨some 6, .faddr 0 (.t 3), none⟩,
 ⟨none, .store 1 (.t 6) (.t 5), none⟩])
 (.seq
 (.reg [⟨some 7, .faddr 1 (.t 1), none⟩,
 ⟨some 8, .load none (.t 7), none⟩,
 ⟨some 9, .faddr 1 (.t 3), none⟩,
 ⟨none, .store 1 (.t 9) (.t 8), none⟩])
 (.seq
 (.reg [⟨some 10, .faddr 2 (.t 1), none⟩,
 ⟨some 11, .load none (.t 10), none⟩,
 ⟨some 12, .faddr 2 (.t 3), none⟩,
 ⟨none, .store 1 (.t 12) (.t 11), none⟩])
 (.seq
 (.reg [⟨some 13, .load (some 3) (.t 3), none⟩,
 ⟨none, .store 3 (.t 2) (.t 13), none⟩])
 (.ret [2])))))))⟩
structure H56 (Γ : Tab) : Prop where
  e56 : Γ 56 = some (.code f56)
/- loop.example/g00751/laws.toCol -/
def f91 : DFn := ⟨1, false, [.cell 2 (some 6)],
 (.seq
 (.reg [⟨some 1, .boxf (.t 0), none⟩,
 ⟨some 2, .alloc [.str [], .int .i64 0, .int .i64 0, .str [], .bool false, .nils], none⟩])
 (.seq
 (.reg [⟨some 3, .alloc [.str [], .int .i64 0, .int .i64 0, .str [], .bool false, .nils], none⟩])
 (.seq
 (.reg [⟨some 4, .faddr 0 (.t 1), none⟩,
 ⟨some 5, .load none (.t 4), none⟩,
 ⟨some 6, .faddr 0 (.t 3), none⟩,
 ⟨none, .store 1 (.t 6) (.t 5), none⟩])
 (.seq
 (.reg [⟨some 7, .faddr 1 (.t 1), none⟩,
 ⟨some 8, .load (some 3) (.t 7), none⟩,
 ⟨some 9, .call 56 .frz [(.t 8)], none⟩,
 ⟨some 10, .faddr 1 (.t 3), none⟩,
 ⟨none, .store 3 (.t 10) (.t 9), none⟩])
 (.seq
 (.reg [⟨some 11, .faddr 4 (.t 1), none⟩,
 ⟨some 12, .load none (.t 11), none⟩,
 ⟨some 13, .faddr 4 (.t 3), none⟩,
 ⟨none, .store 1 (.t 13) (.t 12), none⟩])
 (.seq
 (.reg [⟨some 14, .faddr 5 (.t 1), none⟩,
 ⟨some 15, .load none (.t 14), none⟩,
 ⟨some 16, .call 53 .frz [(.t 15)], none⟩,
 ⟨some 17, .faddr 5 (.t 3), none⟩,
 ⟨none, .store 1 (.t 17) (.t 16), none⟩])
 (.seq
 (.reg [⟨some 18, .load (some 6) (.t 3), none⟩,
 ⟨none, .store 6 (.t 2) (.t 18), none⟩])
 (.ret [2]))))))))⟩
structure H91 (Γ : Tab) : Prop where
  e91 : Γ 91 = some (.code f91)
  c53 : H53 Γ
  c56 : H56 Γ
/- loop.example/g00751/laws.toColS -/
def f52l1 : DCode :=
 (.seq
 (.seq
 (.reg [⟨some 8, .mv (.t 4), none⟩,
 ⟨some 9, .mv (.t 0), none⟩,
 ⟨some 10, .len (.t 9), none⟩,
 ⟨some 11, .bin .lss (.t 8) (.t 10), none⟩])
 (.cond (.t 11)
  .skip
  (.exit 0)))
 (.seq
 (.block 1 [0, 3, 4]
  (.reg [⟨some 14, .mv (.t 3), none⟩,
  ⟨some 15, .mv (.t 4), none⟩,
  ⟨some 16, .mv (.t 0), none⟩,
  ⟨some 17, .mv (.t 4), none⟩,
  ⟨some 18, .iaddr 6 (.t 16) (.t 17), none⟩,
  ⟨some 19, .load (some 6) (.t 18), none⟩,
  ⟨some 20, .call 91 .frz [(.t 19)], none⟩,
  ⟨some 21, .iaddr 6 (.t 14) (.t 15), none⟩,
  ⟨none, .store 6 (.t 21) (.t 20), none⟩]))
 (.reg [⟨some 12, .mv (.t 4), none⟩,
 ⟨some 13, .bin .add (.t 12) (.c (.int .i64 1)), none⟩,
 ⟨some 4, .mv (.t 13), none⟩])))
def f52L1 : DCode := .loop [0, 3, 4] none f52l1
def f52 : DFn := ⟨1, false, [.t 2],
 (.seq
 (.reg [⟨some 2, .mv (.c .nils), none⟩])
 (.seq
 (.reg [⟨some 5, .mv (.t 0), none⟩,
 ⟨some 6, .len (.t 5), none⟩,
 ⟨some 7, .mkSl 6 80 (.agg [.str [], .int .i64 0, .int .i64 0, .str [], .bool false, .nils]) (.t 6) (.t 6), none⟩,
 ⟨some 3, .mv (.t 7), none⟩])
 (.seq
 (.seq
 (.reg [⟨some 4, .mv (.c (.int .i64 0)), none⟩])
 (.block 0 [3]
  f52L1))
 (.seq
 (.reg [⟨some 22, .mv (.t 3), none⟩,
 ⟨some 2, .mv (.t 22), none⟩])
 (.ret [2])))))⟩
structure H52 (Γ : Tab) : Prop where
  e52 : Γ 52 = some (.code f52)
  c91 : H91 Γ
/- loop.example/g00751/laws.toStringS -/
def f55l1 : DCode :=
 (.seq
 (.seq
 (.reg [⟨some 8, .mv (.t 4), none⟩,
 ⟨some 9, .mv (.t 0), none⟩,
 ⟨some 10, .len (.t 9), none⟩,
 ⟨some 11, .bin .lss (.t 8) (.t 10), none⟩])
 (.cond (.t 11)
  .skip
  (.exit 0)))
 (.seq
 (.block 1 [0, 3, 4]
  (.reg [⟨some 14, .mv (.t 3), none⟩,
  ⟨some 15, .mv (.t 4), none⟩,
  ⟨some 16, .mv (.t 0), none⟩,
  ⟨some 17, .mv (.t 4), none⟩,
  ⟨some 18, .iaddr 1 (.t 16) (.t 17), none⟩,
  ⟨some 19, .load none (.t 18), none⟩,
  ⟨some 20, .iaddr 1 (.t 14) (.t 15), none⟩,
  ⟨none, .store 1 (.t 20) (.t 19), none⟩]))
 (.reg [⟨some 12, .mv (.t 4), none⟩,
 ⟨some 13, .bin .add (.t 12) (.c (.int .i64 1)), none⟩,
 ⟨some 4, .mv (.t 13), none⟩])))
def f55L1 : DCode := .loop [0, 3, 4] none f55l1
def f55 : DFn := ⟨1, false, [.t 2],
 (.seq
 (.reg [⟨some 2, .mv (.c .nils), none⟩])
 (.seq
 (.reg [⟨some 5, .mv (.t 0), none⟩,
 ⟨some 6, .len (.t 5), none⟩,
 ⟨some 7, .mkSl 1 16 (.str []) (.t 6) (.t 6), none⟩,
 ⟨some 3, .mv (.t 7), none⟩])
 (.seq
 (.seq
 (.reg [⟨some 4, .mv (.c (.int .i64 0)), none⟩])
 (.block 0 [3]
  f55L1))
 (.seq
 (.reg [⟨some 21, .mv (.t 3), none⟩,
 ⟨some 2, .mv (.t 21), none⟩])
 (.ret [2])))))⟩
structure H55 (Γ : Tab) : Prop where
  e55 : Γ 55 = some (.code f55)
/- loop.example/g00751/laws.toRule -/
def f92 : DFn := ⟨1, false, [.cell 2 (some 6)],
 (.seq
 (.reg [⟨some 1, .boxf (.t 0), none⟩,
 ⟨some 2, .alloc [.str [], .int .i64 0, .nils, .nils, .str [], .nils], none⟩])
 (.seq
 (.reg [⟨some 3, .alloc [.str [], .int .i64 0, .nils, .nils, .str [], .nils], none⟩])
 (.seq
 (.reg [⟨some 4, .faddr 0 (.t 1), none⟩,
 ⟨some 5, .load none (.t 4), none⟩,
 ⟨some 6, .faddr 0 (.t 3), none⟩,
 ⟨none, .store 1 (.t 6) (.t 5), none⟩])
 (.seq
 (.reg [⟨some 7, .faddr 1 (.t 1), none⟩,
 ⟨some 8, .load none (.t 7), none⟩,
 ⟨some 9, .faddr 1 (.t 3), none⟩,
 ⟨none, .store 1 (.t 9) (.t 8), none⟩])
 (.seq
 (.reg [⟨some 10, .faddr 2 (.t 1), none⟩,
 ⟨some 11, .load none (.t 10), none⟩,
 ⟨some 12, .call 55 .frz [(.t 11)], none⟩,
 ⟨some 13, .faddr 2 (.t 3), none⟩,
 ⟨none, .store 1 (.t 13) (.t 12), none⟩])
 (.seq
 (.reg [⟨some 14, .faddr 3 (.t 1), none⟩,
 ⟨some 15, .load none (.t 14), none⟩,
 ⟨some 16, .call 53 .frz [(.t 15)], none⟩,
 ⟨some 17, .faddr 3 (.t 3), none⟩,
 ⟨none, .store 1 (.t 17) (.t 16), none⟩])
 (.seq
 (.reg [⟨some 18, .faddr 4 (.t 1), none⟩,
 ⟨some 19, .load none (.t 18), none⟩,
 ⟨some 20, .faddr 4 (.t 3), none⟩,
 ⟨none, .store 1 (.t 20) (.t 19), none⟩])
 (.seq
 (.reg [⟨some 21, .faddr 5 (.t 1), none⟩,
 ⟨some 22, .load none (.t 21), none⟩,
 ⟨some 23, .call 55 .frz [(.t 22)], none⟩,
 ⟨some 24, .faddr 5 (.t 3), none⟩,
 ⟨none, .store 1 (.t 24) (.t 23), none⟩])
 (.seq
 (.reg [⟨some 25, .load (some 6) (.t 3), none⟩,
 ⟨none, .store 6 (.t 2) (.t 25), none⟩])
 (.ret [2]))))))))))⟩
structure H92 (Γ : Tab) : Prop where
  e92 : Γ 92 = some (.code f92)
  c53 : H53 Γ
  c55 : H55 Γ
/- loop.example/g00751/laws.toRuleS -/
def f54l1 : DCode :=
 (.seq
 (.seq
 (.reg [⟨some 8, .mv (.t 4), none⟩,
 ⟨some 9, .mv (.t 0), none⟩,
 ⟨some 10, .len (.t 9), none⟩,
 ⟨some 11, .bin .lss (.t 8) (.t 10), none⟩])
 (.cond (.t 11)
  .skip
  (.exit 0)))
 (.seq
 (.block 1 [0, 3, 4]
  (.reg [⟨some 14, .mv (.t 3), none⟩,
  ⟨some 15, .mv (.t 4), none⟩,
  ⟨some 16, .mv (.t 0), none⟩,
  ⟨some 17, .mv (.t 4), none⟩,
  ⟨some 18, .iaddr 6 (.t 16) (.t 17), none⟩,
  ⟨some 19, .load (some 6) (.t 18), none⟩,
  ⟨some 20, .call 92 .frz [(.t 19)], none⟩,
  ⟨some 21, .iaddr 6 (.t 14) (.t 15), none⟩,
  ⟨none, .store 6 (.t 21) (.t 20), none⟩]))
 (.reg [⟨some 12, .mv (.t 4), none⟩,
 ⟨some 13, .bin .add (.t 12) (.c (.int .i64 1)), none⟩,
 ⟨some 4, .mv (.t 13), none⟩])))
def f54L1 : DCode := .loop [0, 3, 4] none f54l1
def f54 : DFn := ⟨1, false, [.t 2],
 (.seq
 (.reg [⟨some 2, .mv (.c .nils), none⟩])
 (.seq
 (.reg [⟨some 5, .mv (.t 0), none⟩,
 ⟨some 6, .len (.t 5), none⟩,
 ⟨some 7, .mkSl 6 112 (.agg [.str [], .int .i64 0, .nils, .nils, .str [], .nils]) (.t 6) (.t 6), none⟩,
 ⟨some 3, .mv (.t 7), none⟩])
 (.seq
 (.seq
 (.reg [⟨some 4, .mv (.c (.int .i64 0)), none⟩])
 (.block 0 [3]
  f54L1))
 (.seq
 (.reg [⟨some 22, .mv (.t 3), none⟩,
 ⟨some 2, .mv (.t 22), none⟩])
 (.ret [2])))))⟩
structure H54 (Γ : Tab) : Prop where
  e54 : Γ 54 = some (.code f54)
  c92 : H92 Γ
/- loop.example/g00751/laws.toStmt -/
def f26 : DFn := ⟨1, false, [.cell 2 (some 12)],
 (.seq
 (.reg [⟨some 1, .boxf (.t 0), none⟩,
 ⟨some 2, .alloc [.int .i64 0, .str [], .str [], .nils, .int .i64 0, .bool false, .int .i64 0, .int .i64 0, .str [], .nils, .nils, .nils], none⟩])
 (.seq
 (.reg [⟨some 3, .alloc [.int .i64 0, .str [], .str [], .nils, .int .i64 0, .bool false, .int .i64 0, .int .i64 0, .str [], .nils, .nils, .nils], none⟩])
 (.seq
 (.reg [⟨some 4, .faddr 0 (.t 1), none⟩,
 ⟨some 5, .load none (.t 4), none⟩,
 ⟨some 6, .faddr 0 (.t 3), none⟩,
 ⟨none, .store 1 (.t 6) (.t 5), none⟩])
 (.seq
 (.reg [⟨some 7, .faddr 1 (.t 1), none⟩,
 ⟨some 8, .load none (.t 7), none⟩,
 ⟨some 9, .faddr 1 (.t 3), none⟩,
 ⟨none, .store 1 (.t 9) (.t 8), none⟩])
 (.seq
 (.reg [⟨some 10, .faddr 2 (.t 1), none⟩,
 ⟨some 11, .load none (.t 10), none⟩,
 ⟨some 12, .faddr 2 (.t 3), none⟩,
 ⟨none, .store 1 (.t 12) (.t 11), none⟩])
 (.seq
 (.reg [⟨some 13, .faddr 3 (.t 1), none⟩,
 ⟨some 14, .load none (.t 13), none⟩,
 ⟨some 15, .call 55 .frz [(.t 14)], none⟩,
 ⟨some 16, .faddr 3 (.t 3), none⟩,
 ⟨none, .store 1 (.t 16) (.t 15), none⟩])
 (.seq
 (.reg [⟨some 17, .faddr 4 (.t 1), none⟩,
 ⟨some 18, .load none (.t 17), none⟩,
 ⟨some 19, .faddr 4 (.t 3), none⟩,
 ⟨none, .store 1 (.t 19) (.t 18), none⟩])
 (.seq
 (.reg [⟨some 20, .faddr 5 (.t 1), none⟩,
 ⟨some 21, .load none (.t 20), none⟩,
 ⟨some 22, .faddr 5 (.t 3), none⟩,
 ⟨none, .store 1 (.t 22) (.t 21), none⟩])
 (.seq
 (.reg [⟨some 23, .faddr 6 (.t 1), none⟩,
 ⟨some 24, .load (some 3) (.t 23), none⟩,
 ⟨some 25, .call 56 .frz [(.t 24)], none⟩,
 ⟨some 26, .faddr 6 (.t 3), none⟩,
 ⟨none, .store 3 (.t 26) (.t 25), none⟩])
 (.seq
 (.reg [⟨some 27, .faddr 9 (.t 1), none⟩,
 ⟨some 28, .load none (.t 27), none⟩,
 ⟨some 29, .call 52 .frz [(.t 28)], none⟩,
 ⟨some 30, .faddr 9 (.t 3), none⟩,
 ⟨none, .store 1 (.t 30) (.t 29), none⟩])
 (.seq
 (.reg [⟨some 31, .faddr 10 (.t 1), none⟩,
 ⟨some 32, .load none (.t 31), none⟩,
 ⟨some 33, .call 54 .frz [(.t 32)], none⟩,
 ⟨some 34, .faddr 10 (.t 3), none⟩,
 ⟨none, .store 1 (.t 34) (.t 33), none⟩])
 (.seq
 (.reg [⟨some 35, .faddr 11 (.t 1), none⟩,
 ⟨some 36, .load none (.t 35), none⟩,
 ⟨some 37, .call 53 .frz [(.t 36)], none⟩,
 ⟨some 38, .faddr 11 (.t 3), none⟩,
 ⟨none, .store 1 (.t 38) (.t 37), none⟩])
 (.seq
 (.reg [⟨some 39, .load (some 12) (.t 3), none⟩,
 ⟨none, .store 12 (.t 2) (.t 39), none⟩])
 (.ret [2]))))))))))))))⟩
structure H26 (Γ : Tab) : Prop where
  e26 : Γ 26 = some (.code f26)
  c52 : H52 Γ
  c53 : H53 Γ
  c54 : H54 Γ
  c55 : H55 Γ
  c56 : H56 Γ
/- loop.example/g00751/spec.Nodes -/
def f116l1 : DCode :=
 (.seq
 (.seq
 (.reg [⟨some 5, .mv (.t 4), none⟩,
 ⟨some 6, .faddr 3 (.t 1), none⟩,
 ⟨some 7, .load none (.t 6), none⟩,
 ⟨some 8, .len (.t 7), none⟩,
 ⟨some 9, .bin .lss (.t 5) (.t 8), none⟩])
 (.cond (.t 9)
  .skip
  (.exit 0)))
 (.seq
 (.block 1 [1, 3, 4]
  (.reg [⟨some 12, .mv (.t 3), none⟩,
  ⟨some 13, .faddr 3 (.t 1), none⟩,
  ⟨some 14, .load none (.t 13), none⟩,
  ⟨some 15, .mv (.t 4), none⟩,
  ⟨some 16, .iaddr 4 (.t 14) (.t 15), none⟩,
  ⟨some 17, .load (some 4) (.t 16), none⟩,
  ⟨some 18, .call 116 .frz [(.t 17)], none⟩,
  ⟨some 19, .bin .add (.t 12) (.t 18), none⟩,
  ⟨some 3, .mv (.t 19), none⟩]))
 (.reg [⟨some 10, .mv (.t 4), none⟩,
 ⟨some 11, .bin .add (.t 10) (.c (.int .i64 1)), none⟩,
 ⟨some 4, .mv (.t 11), none⟩])))
def f116L1 : DCode := .loop [1, 3, 4] none f116l1
def f116 : DFn := ⟨1, false, [.t 2],
 (.seq
 (.reg [⟨some 1, .boxf (.t 0), none⟩,
 ⟨some 2, .mv (.c (.int .i64 0)), none⟩])
 (.seq
 (.reg [⟨some 3, .mv (.c (.int .i64 1)), none⟩])
 (.seq
 (.seq
 (.reg [⟨some 4, .mv (.c (.int .i64 0)), none⟩])
 (.block 0 [3]
  f116L1))
 (.seq
 (.reg [⟨some 20, .mv (.t 3), none⟩,
 ⟨some 2, .mv (.t 20), none⟩])
 (.ret [2])))))⟩
structure H116 (Γ : Tab) : Prop where
  e116 : Γ 116 = some (.code f116)
/- loop.example/g00751/spec.l04Kids -/
def f118 : DFn := ⟨1, false, [.t 2],
 (.seq
 (.reg [⟨some 2, .mv (.c (.int .i64 0)), none⟩])
 (.seq
 (.block 0 []
  (.seq
  (.reg [⟨some 4, .mv (.t 0), none⟩,
  ⟨some 5, .call 28 .frz [(.t 4), (.c (.int .i64 0)), (.c (.int .i64 18))], none⟩,
  ⟨some 6, .un .not (.t 5), none⟩,
  ⟨some 3, .mv (.t 6), none⟩])
  (.cond (.t 3)
   (.seq
   (.reg [⟨some 2, .mv (.c (.int .i64 (-1))), none⟩])
   (.ret [2]))
   (.seq
   (.reg [⟨some 8, .mv (.t 0), none⟩,
   ⟨some 9, .bin .leq (.t 8) (.c (.int .i64 5)), none⟩,
   ⟨some 7, .mv (.t 9), none⟩])
   (.cond (.t 7)
    (.seq
    (.reg [⟨some 2, .mv (.c (.int .i64 0)), none⟩])
    (.ret [2]))
    (.seq
    (.reg [⟨some 11, .mv (.t 0), none⟩,
    ⟨some 12, .bin .leq (.t 11) (.c (.int .i64 7)), none⟩,
    ⟨some 10, .mv (.t 12), none⟩])
    (.cond (.t 10)
     (.seq
     (.reg [⟨some 2, .mv (.c (.int .i64 1)), none⟩])
     (.ret [2]))
     .skip)))))))
 (.seq
 (.reg [⟨some 2, .mv (.c (.int .i64 2)), none⟩])
 (.ret [2]))))⟩
structure H118 (Γ : Tab) : Prop where
  e118 : Γ 118 = some (.code f118)
  c28 : H28 Γ
/- loop.example/g00751/spec.l04Shape -/
def f117l1 : DCode :=
 (.seq
 (.seq
 (.reg [⟨some 47, .mv (.t 3), none⟩,
 ⟨some 48, .faddr 3 (.t 1), none⟩,
 ⟨some 49, .load none (.t 48), none⟩,
 ⟨some 50, .len (.t 49), none⟩,
 ⟨some 51, .bin .lss (.t 47) (.t 50), none⟩])
 (.cond (.t 51)
  .skip
  (.exit 1)))
 (.seq
 (.block 2 [1, 3]
  (.seq
  (.reg [⟨some 54, .faddr 3 (.t 1), none⟩,
  ⟨some 55, .load none (.t 54), none⟩,
  ⟨some 56, .mv (.t 3), none⟩,
  ⟨some 57, .iaddr 4 (.t 55) (.t 56), none⟩,
  ⟨some 58, .load (some 4) (.t 57), none⟩,
  ⟨some 59, .call 117 .frz [(.t 58)], none⟩,
  ⟨some 60, .un .not (.t 59), none⟩])
  (.cond (.t 60)
   (.seq
   (.reg [⟨some 2, .mv (.c (.bool false)), none⟩])
   (.ret [2]))
   .skip)))
 (.reg [⟨some 52, .mv (.t 3), none⟩,
 ⟨some 53, .bin .add (.t 52) (.c (.int .i64 1)), none⟩,
 ⟨some 3, .mv (.t 53), none⟩])))
def f117L1 : DCode := .loop [1, 3] none f117l1
def f117 : DFn := ⟨1, false, [.t 2],
 (.seq
 (.reg [⟨some 1, .boxf (.t 0), none⟩,
 ⟨some 2, .mv (.c (.bool false)), none⟩])
 (.seq
 (.seq
 (.any [false, false, false, false, false, false, false] [(1, ⟨some 4, .faddr 3 (.t 1), none⟩),
 (1, ⟨some 5, .load none (.t 4), none⟩),
 (1, ⟨some 6, .len (.t 5), none⟩),
 (1, ⟨some 7, .faddr 0 (.t 1), none⟩),
 (1, ⟨some 8, .load none (.t 7), none⟩),
 (1, ⟨some 9, .call 118 .frz [(.t 8)], none⟩),
 (1, ⟨some 10, .bin .neq (.t 6) (.t 9), none⟩)]
 [])
 (.cond (.t 10)
  (.seq
  (.reg [⟨some 2, .mv (.c (.bool false)), none⟩])
  (.ret [2]))
  .skip))
 (.seq
 (.seq
 (.reg [⟨some 11, .faddr 0 (.t 1), none⟩,
 ⟨some 12, .load none (.t 11), none⟩])
 (.block 0 [1]
  (.seq
  (.reg [⟨some 17, .bin .eql (.t 12) (.c (.int .i64 0)), none⟩,
  ⟨some 16, .mv (.t 17), none⟩])
  (.cond (.t 16)
   (.seq
   (.reg [⟨some 18, .faddr 1 (.t 1), none⟩,
   ⟨some 19, .load none (.t 18), none⟩,
   ⟨some 20, .call 43 .frz [(.t 19)], none⟩,
   ⟨some 21, .un .not (.t 20), none⟩])
   (.cond (.t 21)
    (.seq
    (.reg [⟨some 2, .mv (.c (.bool false)), none⟩])
    (.ret [2]))
    .skip))
   (.seq
   (.reg [⟨some 23, .bin .eql (.t 12) (.c (.int .i64 2)), none⟩,
   ⟨some 22, .mv (.t 23), none⟩])
   (.cond (.t 22)
    (.seq
    (.reg [⟨some 24, .faddr 1 (.t 1), none⟩,
    ⟨some 25, .load none (.t 24), none⟩,
    ⟨some 26, .lens (.t 25), none⟩,
    ⟨some 27, .bin .gtr (.t 26) (.c (.int .i64 100)), none⟩])
    (.cond (.t 27)
     (.seq
     (.reg [⟨some 2, .mv (.c (.bool false)), none⟩])
     (.ret [2]))
     .skip))
    (.seq
    (.reg [⟨some 13, .faddr 1 (.t 1), none⟩,
    ⟨some 14, .load none (.t 13), none⟩,
    ⟨some 15, .bin .neq (.t 14) (.c (.str [])), none⟩])
    (.cond (.t 15)
     (.seq
     (.reg [⟨some 2, .mv (.c (.bool false)), none⟩])
     (.ret [2]))
     .skip))))))))
 (.seq
 (.seq
 (.reg [⟨some 28, .faddr 0 (.t 1), none⟩,
 ⟨some 29, .load none (.t 28), none⟩,
 ⟨some 30, .bin .eql (.t 29) (.c (.int .i64 1)), none⟩,
 ⟨some 31, .mv (.t 30), none⟩,
 ⟨some 32, .faddr 2 (.t 1), some (31, true)⟩,
 ⟨some 33, .load none (.t 32), some (31, true)⟩,
 ⟨some 34, .call 28 .frz [(.t 33), (.c (.int .i64 0)), (.c (.int .i64 999999999))], some (31, true)⟩,
 ⟨some 35, .un .not (.t 34), some (31, true)⟩,
 ⟨some 36, .pick (.t 31) (.t 35) (.c (.bool false)), none⟩,
 ⟨some 37, .mv (.t 36), none⟩,
 ⟨some 38, .faddr 0 (.t 1), some (37, false)⟩,
 ⟨some 39, .load none (.t 38), some (37, false)⟩,
 ⟨some 40, .bin .neq (.t 39) (.c (.int .i64 1)), some (37, false)⟩,
 ⟨some 41, .mv (.t 40), some (37, false)⟩,
 ⟨some 42, .faddr 2 (.t 1), some (41, true)⟩,
 ⟨some 43, .load none (.t 42), some (41, true)⟩,
 ⟨some 44, .bin .neq (.t 43) (.c (.int .i64 0)), some (41, true)⟩,
 ⟨some 45, .pick (.t 41) (.t 44) (.c (.bool false)), some (37, false)⟩,
 ⟨some 46, .pick (.t 37) (.c (.bool true)) (.t 45), none⟩])
 (.cond (.t 46)
  (.seq
  (.reg [⟨some 2, .mv (.c (.bool false)), none⟩])
  (.ret [2]))
  .skip))
 (.seq
 (.seq
 (.reg [⟨some 3, .mv (.c (.int .i64 0)), none⟩])
 (.block 1 []
  f117L1))
 (.seq
 (.reg [⟨some 2, .mv (.c (.bool true)), none⟩])
 (.ret [2])))))))⟩
structure H117 (Γ : Tab) : Prop where
  e117 : Γ 117 = some (.code f117)
  c28 : H28 Γ
  c43 : H43 Γ
  c118 : H118 Γ
/- loop.example/g00751/spec.ExprOk -/
def f111 : DFn := ⟨1, false, [.t 2],
 (.seq
 (.reg [⟨some 1, .boxf (.t 0), none⟩,
 ⟨some 2, .mv (.c (.bool false)), none⟩])
 (.seq
 (.reg [⟨some 3, .load (some 4) (.t 1), none⟩,
 ⟨some 4, .call 116 .frz [(.t 3)], none⟩,
 ⟨some 5, .bin .leq (.t 4) (.c (.int .i64 40)), none⟩,
 ⟨some 6, .mv (.t 5), none⟩,
 ⟨some 7, .load (some 4) (.t 1), some (6, true)⟩,
 ⟨some 8, .call 117 .frz [(.t 7)], some (6, true)⟩,
 ⟨some 9, .pick (.t 6) (.t 8) (.c (.bool false)), none⟩,
 ⟨some 2, .mv (.t 9), none⟩])
 (.ret [2])))⟩
structure H111 (Γ : Tab) : Prop where
  e111 : Γ 111 = some (.code f111)
  c116 : H116 Γ
  c117 : H117 Γ
/- slices.Equal[[]string,string] -/
def f169l1 : DCode :=
 (.seq
 (.reg [⟨some 14, .bin .lss (.t 13) (.t 12), none⟩])
 (.seq
 (.cond (.t 14)
  .skip
  (.exit 0))
 (.seq
 (.block 1 [0, 1, 12, 13]
  (.seq
  (.reg [⟨some 15, .mv (.t 13), none⟩,
  ⟨some 5, .mv (.t 15), none⟩])
  (.seq
  (.any [false, false, false, false, false, false, false, false, false] [(1, ⟨some 16, .mv (.t 0), none⟩),
  (1, ⟨some 17, .mv (.t 5), none⟩),
  (1, ⟨some 18, .iaddr 1 (.t 16) (.t 17), none⟩),
  (1, ⟨some 19, .load none (.t 18), none⟩),
  (1, ⟨some 20, .mv (.t 1), none⟩),
  (1, ⟨some 21, .mv (.t 5), none⟩),
  (1, ⟨some 22, .iaddr 1 (.t 20) (.t 21), none⟩),
  (1, ⟨some 23, .load none (.t 22), none⟩),
  (1, ⟨some 24, .bin .neq (.t 19) (.t 23), none⟩)]
  [])
  (.cond (.t 24)
   (.seq
   (.reg [⟨some 4, .mv (.c (.bool false)), none⟩])
   (.ret [4]))
   .skip))))
 (.reg [⟨some 25, .bin .add (.t 13) (.c (.int .i64 1)), none⟩,
 ⟨some 13, .mv (.t 25), none⟩]))))
def f169L1 : DCode := .loop [0, 1, 12, 13] none f169l1
def f169 : DFn := ⟨2, false, [.t 4],
 (.seq
 (.reg [⟨some 4, .mv (.c (.bool false)), none⟩])
 (.seq
 (.seq
 (.reg [⟨some 6, .mv (.t 0), none⟩,
 ⟨some 7, .len (.t 6), none⟩,
 ⟨some 8, .mv (.t 1), none⟩,
 ⟨some 9, .len (.t 8), none⟩,
 ⟨some 10, .bin .neq (.t 7) (.t 9), none⟩])
 (.cond (.t 10)
  (.seq
  (.reg [⟨some 4, .mv (.c (.bool false)), none⟩])
  (.ret [4]))
  .skip))
 (.seq
 (.seq
 (.reg [⟨some 11, .mv (.t 0), none⟩,
 ⟨some 12, .len (.t 11), none⟩,
 ⟨some 13, .mv (.c (.int .i64 0)), none⟩])
 (.block 0 []
  f169L1))
 (.seq
 (.reg [⟨some 4, .mv (.c (.bool true)), none⟩])
 (.ret [4])))))⟩
structure H169 (Γ : Tab) : Prop where
  e169 : Γ 169 = some (.code f169)
/- loop.example/g00751/impl.sameIndex -/
def f142 : DFn := ⟨2, false, [.t 4],
 (.seq
 (.reg [⟨some 2, .boxf (.t 0), none⟩,
 ⟨some 3, .boxf (.t 1), none⟩,
 ⟨some 4, .mv (.c (.bool false)), none⟩])
 (.seq
 (.reg [⟨some 5, .faddr 0 (.t 2), none⟩,
 ⟨some 6, .load none (.t 5), none⟩,
 ⟨some 7, .faddr 0 (.t 3), none⟩,
 ⟨some 8, .load none (.t 7), none⟩,
 ⟨some 9, .bin .eql (.t 6) (.t 8), none⟩,
 ⟨some 10, .mv (.t 9), none⟩,
 ⟨some 11, .faddr 1 (.t 2), some (10, true)⟩,
 ⟨some 12, .load none (.t 11), some (10, true)⟩,
 ⟨some 13, .faddr 1 (.t 3), some (10, true)⟩,
 ⟨some 14, .load none (.t 13), some (10, true)⟩,
 ⟨some 15, .bin .eql (.t 12) (.t 14), some (10, true)⟩,
 ⟨some 16, .pick (.t 10) (.t 15) (.c (.bool false)), none⟩,
 ⟨some 17, .mv (.t 16), none⟩,
 ⟨some 18, .faddr 2 (.t 2), some (17, true)⟩,
 ⟨some 19, .load none (.t 18), some (17, true)⟩,
 ⟨some 20, .faddr 2 (.t 3), some (17, true)⟩,
 ⟨some 21, .load none (.t 20), some (17, true)⟩,
 ⟨some 22, .call 169 .frz [(.t 19), (.t 21)], some (17, true)⟩,
 ⟨some 23, .pick (.t 17) (.t 22) (.c (.bool false)), none⟩,
 ⟨some 24, .mv (.t 23), none⟩,
 ⟨some 25, .faddr 3 (.t 2), some (24, true)⟩,
 ⟨some 26, .load none (.t 25), some (24, true)⟩,
 ⟨some 27, .faddr 3 (.t 3), some (24, true)⟩,
 ⟨some 28, .load none (.t 27), some (24, true)⟩,
 ⟨some 29, .binb .eql (.t 26) (.t 28), some (24, true)⟩,
 ⟨some 30, .pick (.t 24) (.t 29) (.c (.bool false)), none⟩,
 ⟨some 4, .mv (.t 30), none⟩])
 (.ret [4])))⟩
structure H142 (Γ : Tab) : Prop where
  e142 : Γ 142 = some (.code f142)
  c169 : H169 Γ
/- loop.example/g00751/impl.sameLabels -/
def f143 : DFn := ⟨2, false, [.t 4],
 (.seq
 (.reg [⟨some 2, .boxf (.t 0), none⟩,
 ⟨some 3, .boxf (.t 1), none⟩,
 ⟨some 4, .mv (.c (.bool false)), none⟩])
 (.seq
 (.reg [⟨some 5, .faddr 0 (.t 2), none⟩,
 ⟨some 6, .load none (.t 5), none⟩,
 ⟨some 7, .faddr 0 (.t 3), none⟩,
 ⟨some 8, .load none (.t 7), none⟩,
 ⟨some 9, .bin .eql (.t 6) (.t 8), none⟩,
 ⟨some 10, .mv (.t 9), none⟩,
 ⟨some 11, .faddr 1 (.t 2), some (10, true)⟩,
 ⟨some 12, .load none (.t 11), some (10, true)⟩,
 ⟨some 13, .faddr 1 (.t 3), some (10, true)⟩,
 ⟨some 14, .load none (.t 13), some (10, true)⟩,
 ⟨some 15, .call 169 .frz [(.t 12), (.t 14)], some (10, true)⟩,
 ⟨some 16, .pick (.t 10) (.t 15) (.c (.bool false)), none⟩,
 ⟨some 4, .mv (.t 16), none⟩])
 (.ret [4])))⟩
structure H143 (Γ : Tab) : Prop where
  e143 : Γ 143 = some (.code f143)
  c169 : H169 Γ
/- slices.EqualFunc[[]loop.example/g00751/impl.Expr,[]loop.example/g00751/impl.Expr,loop.example/g00751/impl.Expr,loop.example/g00751/impl.Expr] -/
def f182l1 : DCode :=
 (.seq
 (.reg [⟨some 18, .bin .lss (.t 17) (.t 16), none⟩])
 (.seq
 (.cond (.t 18)
  .skip
  (.exit 0))
 (.seq
 (.block 1 [1, 2, 15, 16, 17]
  (.seq
  (.reg [⟨some 19, .mv (.t 17), none⟩,
  ⟨some 20, .iaddr 4 (.t 15) (.t 17), none⟩,
  ⟨some 21, .load (some 4) (.t 20), none⟩,
  ⟨some 8, .pend [.int .i64 0, .str [], .int .i64 0, .nils], none⟩,
  ⟨some 7, .mv (.t 19), none⟩,
  ⟨none, .init 4 8 (.t 21), none⟩])
  (.seq
  (.reg [⟨some 22, .mv (.t 1), none⟩,
  ⟨some 23, .mv (.t 7), none⟩,
  ⟨some 24, .iaddr 4 (.t 22) (.t 23), none⟩,
  ⟨some 25, .load (some 4) (.t 24), none⟩,
  ⟨some 9, .pend [.int .i64 0, .str [], .int .i64 0, .nils], none⟩,
  ⟨none, .init 4 9 (.t 25), none⟩])
  (.seq
  (.reg [⟨some 26, .mv (.t 2), none⟩,
  ⟨some 27, .load (some 4) (.t 8), none⟩,
  ⟨some 28, .load (some 4) (.t 9), none⟩,
  ⟨some 29, .callv (.t 26) .frz [(.t 27), (.t 28)], none⟩,
  ⟨some 30, .un .not (.t 29), none⟩])
  (.cond (.t 30)
   (.seq
   (.reg [⟨some 6, .mv (.c (.bool false)), none⟩])
   (.ret [6]))
   .skip)))))
 (.reg [⟨some 31, .bin .add (.t 17) (.c (.int .i64 1)), none⟩,
 ⟨some 17, .mv (.t 31), none⟩]))))
def f182L1 : DCode := .loop [1, 2, 15, 16, 17] none f182l1
def f182 : DFn := ⟨3, false, [.t 6],
 (.seq
 (.reg [⟨some 6, .mv (.c (.bool false)), none⟩])
 (.seq
 (.seq
 (.reg [⟨some 10, .mv (.t 0), none⟩,
 ⟨some 11, .len (.t 10), none⟩,
 ⟨some 12, .mv (.t 1), none⟩,
 ⟨some 13, .len (.t 12), none⟩,
 ⟨some 14, .bin .neq (.t 11) (.t 13), none⟩])
 (.cond (.t 14)
  (.seq
  (.reg [⟨some 6, .mv (.c (.bool false)), none⟩])
  (.ret [6]))
  .skip))
 (.seq
 (.seq
 (.reg [⟨some 15, .mv (.t 0), none⟩,
 ⟨some 16, .len (.t 15), none⟩,
 ⟨some 17, .mv (.c (.int .i64 0)), none⟩])
 (.block 0 []
  f182L1))
 (.seq
 (.reg [⟨some 6, .mv (.c (.bool true)), none⟩])
 (.ret [6])))))⟩
structure H182 (Γ : Tab) : Prop where
  e182 : Γ 182 = some (.code f182)
/- loop.example/g00751/impl.sameExpr -/
def f181 : DFn := ⟨2, false, [.t 4],
 (.seq
 (.reg [⟨some 2, .boxf (.t 0), none⟩,
 ⟨some 3, .boxf (.t 1), none⟩,
 ⟨some 4, .mv (.c (.bool false)), none⟩])
 (.seq
 (.reg [⟨some 5, .faddr 0 (.t 2), none⟩,
 ⟨some 6, .load none (.t 5), none⟩,
 ⟨some 7, .faddr 0 (.t 3), none⟩,
 ⟨some 8, .load none (.t 7), none⟩,
 ⟨some 9, .bin .eql (.t 6) (.t 8), none⟩,
 ⟨some 10, .mv (.t 9), none⟩,
 ⟨some 11, .faddr 1 (.t 2), some (10, true)⟩,
 ⟨some 12, .load none (.t 11), some (10, true)⟩,
 ⟨some 13, .faddr 1 (.t 3), some (10, true)⟩,
 ⟨some 14, .load none (.t 13), some (10, true)⟩,
 ⟨some 15, .bin .eql (.t 12) (.t 14), some (10, true)⟩,
 ⟨some 16, .pick (.t 10) (.t 15) (.c (.bool false)), none⟩,
 ⟨some 17, .mv (.t 16), none⟩,
 ⟨some 18, .faddr 2 (.t 2), some (17, true)⟩,
 ⟨some 19, .load none (.t 18), some (17, true)⟩,
 ⟨some 20, .faddr 2 (.t 3), some (17, true)⟩,
 ⟨some 21, .load none (.t 20), some (17, true)⟩,
 ⟨some 22, .bin .eql (.t 19) (.t 21), some (17, true)⟩,
 ⟨some 23, .pick (.t 17) (.t 22) (.c (.bool false)), none⟩,
 ⟨some 24, .mv (.t 23), none⟩,
 ⟨some 25, .faddr 3 (.t 2), some (24, true)⟩,
 ⟨some 26, .load none (.t 25), some (24, true)⟩,
 ⟨some 27, .faddr 3 (.t 3), some (24, true)⟩,
 ⟨some 28, .load none (.t 27), some (24, true)⟩,
 ⟨some 29, .call 182 .frz [(.t 26), (.t 28), (.c (.fn 181 []))], some (24, true)⟩,
 ⟨some 30, .pick (.t 24) (.t 29) (.c (.bool false)), none⟩,
 ⟨some 4, .mv (.t 30), none⟩])
 (.ret [4])))⟩
structure H181 (Γ : Tab) : Prop where
  e181 : Γ 181 = some (.code f181)
  c182 : H182 Γ
/- loop.example/g00751/impl.sameExprs -/
def f174 : DFn := ⟨2, false, [.t 4],
 (.seq
 (.reg [⟨some 4, .mv (.c (.bool false)), none⟩])
 (.seq
 (.reg [⟨some 5, .mv (.t 0), none⟩,
 ⟨some 6, .mv (.t 1), none⟩,
 ⟨some 7, .call 182 .frz [(.t 5), (.t 6), (.c (.fn 181 []))], none⟩,
 ⟨some 4, .mv (.t 7), none⟩])
 (.ret [4])))⟩
structure H174 (Γ : Tab) : Prop where
  e174 : Γ 174 = some (.code f174)
  c181 : H181 Γ
  c182 : H182 Γ
/- loop.example/g00751/impl.sameCol -/
def f170 : DFn := ⟨2, false, [.t 4],
 (.seq
 (.reg [⟨some 2, .boxf (.t 0), none⟩,
 ⟨some 3, .boxf (.t 1), none⟩,
 ⟨some 4, .mv (.c (.bool false)), none⟩])
 (.seq
 (.reg [⟨some 5, .faddr 0 (.t 2), none⟩,
 ⟨some 6, .load none (.t 5), none⟩,
 ⟨some 7, .faddr 0 (.t 3), none⟩,
 ⟨some 8, .load none (.t 7), none⟩,
 ⟨some 9, .bin .eql (.t 6) (.t 8), none⟩,
 ⟨some 10, .mv (.t 9), none⟩,
 ⟨some 11, .faddr 1 (.t 2), some (10, true)⟩,
 ⟨some 12, .load (some 3) (.t 11), some (10, true)⟩,
 ⟨some 13, .faddr 1 (.t 3), some (10, true)⟩,
 ⟨some 14, .load (some 3) (.t 13), some (10, true)⟩,
 ⟨some 15, .eqs false [.i, .i, .s] (.t 12) (.t 14), some (10, true)⟩,
 ⟨some 16, .pick (.t 10) (.t 15) (.c (.bool false)), none⟩,
 ⟨some 17, .mv (.t 16), none⟩,
 ⟨some 18, .faddr 4 (.t 2), some (17, true)⟩,
 ⟨some 19, .load none (.t 18), some (17, true)⟩,
 ⟨some 20, .faddr 4 (.t 3), some (17, true)⟩,
 ⟨some 21, .load none (.t 20), some (17, true)⟩,
 ⟨some 22, .binb .eql (.t 19) (.t 21), some (17, true)⟩,
 ⟨some 23, .pick (.t 17) (.t 22) (.c (.bool false)), none⟩,
 ⟨some 24, .mv (.t 23), none⟩,
 ⟨some 25, .faddr 5 (.t 2), some (24, true)⟩,
 ⟨some 26, .load none (.t 25), some (24, true)⟩,
 ⟨some 27, .faddr 5 (.t 3), some (24, true)⟩,
 ⟨some 28, .load none (.t 27), some (24, true)⟩,
 ⟨some 29, .call 174 .frz [(.t 26), (.t 28)], some (24, true)⟩,
 ⟨some 30, .pick (.t 24) (.t 29) (.c (.bool false)), none⟩,
 ⟨some 4, .mv (.t 30), none⟩])
 (.ret [4])))⟩
structure H170 (Γ : Tab) : Prop where
  e170 : Γ 170 = some (.code f170)
  c174 : H174 Γ
/- loop.example/g00751/impl.sameRule -/
def f171 : DFn := ⟨2, false, [.t 4],
 (.seq
 (.reg [⟨some 2, .boxf (.t 0), none⟩,
 ⟨some 3, .boxf (.t 1), none⟩,
 ⟨some 4, .mv (.c (.bool false)), none⟩])
 (.seq
 (.reg [⟨some 5, .faddr 0 (.t 2), none⟩,
 ⟨some 6, .load none (.t 5), none⟩,
 ⟨some 7, .faddr 0 (.t 3), none⟩,
 ⟨some 8, .load none (.t 7), none⟩,
 ⟨some 9, .bin .eql (.t 6) (.t 8), none⟩,
 ⟨some 10, .mv (.t 9), none⟩,
 ⟨some 11, .faddr 1 (.t 2), some (10, true)⟩,
 ⟨some 12, .load none (.t 11), some (10, true)⟩,
 ⟨some 13, .faddr 1 (.t 3), some (10, true)⟩,
 ⟨some 14, .load none (.t 13), some (10, true)⟩,
 ⟨some 15, .bin .eql (.t 12) (.t 14), some (10, true)⟩,
 ⟨some 16, .pick (.t 10) (.t 15) (.c (.bool false)), none⟩,
 ⟨some 17, .mv (.t 16), none⟩,
 ⟨some 18, .faddr 2 (.t 2), some (17, true)⟩,
 ⟨some 19, .load none (.t 18), some (17, true)⟩,
 ⟨some 20, .faddr 2 (.t 3), some (17, true)⟩,
 ⟨some 21, .load none (.t 20), some (17, true)⟩,
 ⟨some 22, .call 169 .frz [(.t 19), (.t 21)], some (17, true)⟩,
 ⟨some 23, .pick (.t 17) (.t 22) (.c (.bool false)), none⟩,
 ⟨some 24, .mv (.t 23), none⟩,
 ⟨some 25, .faddr 3 (.t 2), some (24, true)⟩,
 ⟨some 26, .load none (.t 25), some (24, true)⟩,
 ⟨some 27, .faddr 3 (.t 3), some (24, true)⟩,
 ⟨some 28, .load none (.t 27), some (24, true)⟩,
 ⟨some 29, .call 174 .frz [(.t 26), (.t 28)], some (24, true)⟩,
 ⟨some 30, .pick (.t 24) (.t 29) (.c (.bool false)), none⟩,
 ⟨some 31, .mv (.t 30), none⟩,
 ⟨some 32, .faddr 4 (.t 2), some (31, true)⟩,
 ⟨some 33, .load none (.t 32), some (31, true)⟩,
 ⟨some 34, .faddr 4 (.t 3), some (31, true)⟩,
 ⟨some 35, .load none (.t 34), some (31, true)⟩,
 ⟨some 36, .bin .eql (.t 33) (.t 35), some (31, true)⟩,
 ⟨some 37, .pick (.t 31) (.t 36) (.c (.bool false)), none⟩,
 ⟨some 38, .mv (.t 37), none⟩,
 ⟨some 39, .faddr 5 (.t 2), some (38, true)⟩,
 ⟨some 40, .load none (.t 39), some (38, true)⟩,
 ⟨some 41, .faddr 5 (.t 3), some (38, true)⟩,
 ⟨some 42, .load none (.t 41), some (38, true)⟩,
 ⟨some 43, .call 169 .frz [(.t 40), (.t 42)], some (38, true)⟩,
 ⟨some 44, .pick (.t 38) (.t 43) (.c (.bool false)), none⟩,
 ⟨some 4, .mv (.t 44), none⟩])
 (.ret [4])))⟩
structure H171 (Γ : Tab) : Prop where
  e171 : Γ 171 = some (.code f171)
  c169 : H169 Γ
  c174 : H174 Γ
/- slices.EqualFunc[[]loop.example/g00751/impl.Col,[]loop.example/g00751/impl.Col,loop.example/g00751/impl.Col,loop.example/g00751/impl.Col] -/
def f172l1 : DCode :=
 (.seq
 (.reg [⟨some 18, .bin .lss (.t 17) (.t 16), none⟩])
 (.seq
 (.cond (.t 18)
  .skip
  (.exit 0))
 (.seq
 (.block 1 [1, 2, 15, 16, 17]
  (.seq
  (.reg [⟨some 19, .mv (.t 17), none⟩,
  ⟨some 20, .iaddr 6 (.t 15) (.t 17), none⟩,
  ⟨some 21, .load (some 6) (.t 20), none⟩,
  ⟨some 8, .pend [.str [], .int .i64 0, .int .i64 0, .str [], .bool false, .nils], none⟩,
  ⟨some 7, .mv (.t 19), none⟩,
  ⟨none, .init 6 8 (.t 21), none⟩])
  (.seq
  (.reg [⟨some 22, .mv (.t 1), none⟩,
  ⟨some 23, .mv (.t 7), none⟩,
  ⟨some 24, .iaddr 6 (.t 22) (.t 23), none⟩,
  ⟨some 25, .load (some 6) (.t 24), none⟩,
  ⟨some 9, .pend [.str [], .int .i64 0, .int .i64 0, .str [], .bool false, .nils], none⟩,
  ⟨none, .init 6 9 (.t 25), none⟩])
  (.seq
  (.reg [⟨some 26, .mv (.t 2), none⟩,
  ⟨some 27, .load (some 6) (.t 8), none⟩,
  ⟨some 28, .load (some 6) (.t 9), none⟩,
  ⟨some 29, .callv (.t 26) .frz [(.t 27), (.t 28)], none⟩,
  ⟨some 30, .un .not (.t 29), none⟩])
  (.cond (.t 30)
   (.seq
   (.reg [⟨some 6, .mv (.c (.bool false)), none⟩])
   (.ret [6]))
   .skip)))))
 (.reg [⟨some 31, .bin .add (.t 17) (.c (.int .i64 1)), none⟩,
 ⟨some 17, .mv (.t 31), none⟩]))))
def f172L1 : DCode := .loop [1, 2, 15, 16, 17] none f172l1
def f172 : DFn := ⟨3, false, [.t 6],
 (.seq
 (.reg [⟨some 6, .mv (.c (.bool false)), none⟩])
 (.seq
 (.seq
 (.reg [⟨some 10, .mv (.t 0), none⟩,
 ⟨some 11, .len (.t 10), none⟩,
 ⟨some 12, .mv (.t 1), none⟩,
 ⟨some 13, .len (.t 12), none⟩,
 ⟨some 14, .bin .neq (.t 11) (.t 13), none⟩])
 (.cond (.t 14)
  (.seq
  (.reg [⟨some 6, .mv (.c (.bool false)), none⟩])
  (.ret [6]))
  .skip))
 (.seq
 (.seq
 (.reg [⟨some 15, .mv (.t 0), none⟩,
 ⟨some 16, .len (.t 15), none⟩,
 ⟨some 17, .mv (.c (.int .i64 0)), none⟩])
 (.block 0 []
  f172L1))
 (.seq
 (.reg [⟨some 6, .mv (.c (.bool true)), none⟩])
 (.ret [6])))))⟩
structure H172 (Γ : Tab) : Prop where
  e172 : Γ 172 = some (.code f172)
/- slices.EqualFunc[[]loop.example/g00751/impl.Rule,[]loop.example/g00751/impl.Rule,loop.example/g00751/impl.Rule,loop.example/g00751/impl.Rule] -/
def f173l1 : DCode :=
 (.seq
 (.reg [⟨some 18, .bin .lss (.t 17) (.t 16), none⟩])
 (.seq
 (.cond (.t 18)
  .skip
  (.exit 0))
 (.seq
 (.block 1 [1, 2, 15, 16, 17]
  (.seq
  (.reg [⟨some 19, .mv (.t 17), none⟩,
  ⟨some 20, .iaddr 6 (.t 15) (.t 17), none⟩,
  ⟨some 21, .load (some 6) (.t 20), none⟩,
  ⟨some 8, .pend [.str [], .int .i64 0, .nils, .nils, .str [], .nils], none⟩,
  ⟨some 7, .mv (.t 19), none⟩,
  ⟨none, .init 6 8 (.t 21), none⟩])
  (.seq
  (.reg [⟨some 22, .mv (.t 1), none⟩,
  ⟨some 23, .mv (.t 7), none⟩,
  ⟨some 24, .iaddr 6 (.t 22) (.t 23), none⟩,
  ⟨some 25, .load (some 6) (.t 24), none⟩,
  ⟨some 9, .pend [.str [], .int .i64 0, .nils, .nils, .str [], .nils], none⟩,
  ⟨none, .init 6 9 (.t 25), none⟩])
  (.seq
  (.reg [⟨some 26, .mv (.t 2), none⟩,
  ⟨some 27, .load (some 6) (.t 8), none⟩,
  ⟨some 28, .load (some 6) (.t 9), none⟩,
  ⟨some 29, .callv (.t 26) .frz [(.t 27), (.t 28)], none⟩,
  ⟨some 30, .un .not (.t 29), none⟩])
  (.cond (.t 30)
   (.seq
   (.reg [⟨some 6, .mv (.c (.bool false)), none⟩])
   (.ret [6]))
   .skip)))))
 (.reg [⟨some 31, .bin .add (.t 17) (.c (.int .i64 1)), none⟩,
 ⟨some 17, .mv (.t 31), none⟩]))))
def f173L1 : DCode := .loop [1, 2, 15, 16, 17] none f173l1
def f173 : DFn := ⟨3, false, [.t 6],
 (.seq
 (.reg [⟨some 6, .mv (.c (.bool false)), none⟩])
 (.seq
 (.seq
 (.reg [⟨some 10, .mv (.t 0), none⟩,
 ⟨some 11, .len (.t 10), none⟩,
 ⟨some 12, .mv (.t 1), none⟩,
 ⟨some 13, .len (.t 12), none⟩,
 ⟨some 14, .bin .neq (.t 11) (.t 13), none⟩])
 (.cond (.t 14)
  (.seq
  (.reg [⟨some 6, .mv (.c (.bool false)), none⟩])
  (.ret [6]))
  .skip))
 (.seq
 (.seq
 (.reg [⟨some 15, .mv (.t 0), none⟩,
 ⟨some 16, .len (.t 15), none⟩,
 ⟨some 17, .mv (.c (.int .i64 0)), none⟩])
 (.block 0 []
  f173L1))
 (.seq
 (.reg [⟨some 6, .mv (.c (.bool true)), none⟩])
 (.ret [6])))))⟩
structure H173 (Γ : Tab) : Prop where
  e173 : Γ 173 = some (.code f173)
/- loop.example/g00751/impl.sameTable -/
def f144 : DFn := ⟨2, false, [.t 4],
 (.seq
 (.reg [⟨some 2, .boxf (.t 0), none⟩,
 ⟨some 3, .boxf (.t 1), none⟩,
 ⟨some 4, .mv (.c (.bool false)), none⟩])
 (.seq
 (.reg [⟨some 5, .faddr 0 (.t 2), none⟩,
 ⟨some 6, .load none (.t 5), none⟩,
 ⟨some 7, .faddr 0 (.t 3), none⟩,
 ⟨some 8, .load none (.t 7), none⟩,
 ⟨some 9, .bin .eql (.t 6) (.t 8), none⟩,
 ⟨some 10, .mv (.t 9), none⟩,
 ⟨some 11, .faddr 1 (.t 2), some (10, true)⟩,
 ⟨some 12, .load none (.t 11), some (10, true)⟩,
 ⟨some 13, .faddr 1 (.t 3), some (10, true)⟩,
 ⟨some 14, .load none (.t 13), some (10, true)⟩,
 ⟨some 15, .call 172 .frz [(.t 12), (.t 14), (.c (.fn 170 []))], some (10, true)⟩,
 ⟨some 16, .pick (.t 10) (.t 15) (.c (.bool false)), none⟩,
 ⟨some 17, .mv (.t 16), none⟩,
 ⟨some 18, .faddr 2 (.t 2), some (17, true)⟩,
 ⟨some 19, .load none (.t 18), some (17, true)⟩,
 ⟨some 20, .faddr 2 (.t 3), some (17, true)⟩,
 ⟨some 21, .load none (.t 20), some (17, true)⟩,
 ⟨some 22, .call 173 .frz [(.t 19), (.t 21), (.c (.fn 171 []))], some (17, true)⟩,
 ⟨some 23, .pick (.t 17) (.t 22) (.c (.bool false)), none⟩,
 ⟨some 4, .mv (.t 23), none⟩])
 (.ret [4])))⟩
structure H144 (Γ : Tab) : Prop where
  e144 : Γ 144 = some (.code f144)
  c170 : H170 Γ
  c171 : H171 Γ
  c172 : H172 Γ
  c173 : H173 Γ
/- loop.example/g00751/impl.sameView -/
def f145 : DFn := ⟨2, false, [.t 4],
 (.seq
 (.reg [⟨some 2, .boxf (.t 0), none⟩,
 ⟨some 3, .boxf (.t 1), none⟩,
 ⟨some 4, .mv (.c (.bool false)), none⟩])
 (.seq
 (.reg [⟨some 5, .faddr 0 (.t 2), none⟩,
 ⟨some 6, .load none (.t 5), none⟩,
 ⟨some 7, .faddr 0 (.t 3), none⟩,
 ⟨some 8, .load none (.t 7), none⟩,
 ⟨some 9, .bin .eql (.t 6) (.t 8), none⟩,
 ⟨some 10, .mv (.t 9), none⟩,
 ⟨some 11, .faddr 1 (.t 2), some (10, true)⟩,
 ⟨some 12, .load none (.t 11), some (10, true)⟩,
 ⟨some 13, .faddr 1 (.t 3), some (10, true)⟩,
 ⟨some 14, .load none (.t 13), some (10, true)⟩,
 ⟨some 15, .bin .eql (.t 12) (.t 14), some (10, true)⟩,
 ⟨some 16, .pick (.t 10) (.t 15) (.c (.bool false)), none⟩,
 ⟨some 17, .mv (.t 16), none⟩,
 ⟨some 18, .faddr 2 (.t 2), some (17, true)⟩,
 ⟨some 19, .load none (.t 18), some (17, true)⟩,
 ⟨some 20, .faddr 2 (.t 3), some (17, true)⟩,
 ⟨some 21, .load none (.t 20), some (17, true)⟩,
 ⟨some 22, .call 169 .frz [(.t 19), (.t 21)], some (17, true)⟩,
 ⟨some 23, .pick (.t 17) (.t 22) (.c (.bool false)), none⟩,
 ⟨some 24, .mv (.t 23), none⟩,
 ⟨some 25, .faddr 3 (.t 2), some (24, true)⟩,
 ⟨some 26, .load none (.t 25), some (24, true)⟩,
 ⟨some 27, .faddr 3 (.t 3), some (24, true)⟩,
 ⟨some 28, .load none (.t 27), some (24, true)⟩,
 ⟨some 29, .call 174 .frz [(.t 26), (.t 28)], some (24, true)⟩,
 ⟨some 30, .pick (.t 24) (.t 29) (.c (.bool false)), none⟩,
 ⟨some 4, .mv (.t 30), none⟩])
 (.ret [4])))⟩
structure H145 (Γ : Tab) : Prop where
  e145 : Γ 145 = some (.code f145)
  c169 : H169 Γ
  c174 : H174 Γ
/- slices.EqualFunc[[]loop.example/g00751/impl.Index,[]loop.example/g00751/impl.Index,loop.example/g00751/impl.Index,loop.example/g00751/impl.Index] -/
def f146l1 : DCode :=
 (.seq
 (.reg [⟨some 18, .bin .lss (.t 17) (.t 16), none⟩])
 (.seq
 (.cond (.t 18)
  .skip
  (.exit 0))
 (.seq
 (.block 1 [1, 2, 15, 16, 17]
  (.seq
  (.reg [⟨some 19, .mv (.t 17), none⟩,
  ⟨some 20, .iaddr 4 (.t 15) (.t 17), none⟩,
  ⟨some 21, .load (some 4) (.t 20), none⟩,
  ⟨some 8, .pend [.str [], .str [], .nils, .bool false], none⟩,
  ⟨some 7, .mv (.t 19), none⟩,
  ⟨none, .init 4 8 (.t 21), none⟩])
  (.seq
  (.reg [⟨some 22, .mv (.t 1), none⟩,
  ⟨some 23, .mv (.t 7), none⟩,
  ⟨some 24, .iaddr 4 (.t 22) (.t 23), none⟩,
  ⟨some 25, .load (some 4) (.t 24), none⟩,
  ⟨some 9, .pend [.str [], .str [], .nils, .bool false], none⟩,
  ⟨none, .init 4 9 (.t 25), none⟩])
  (.seq
  (.reg [⟨some 26, .mv (.t 2), none⟩,
  ⟨some 27, .load (some 4) (.t 8), none⟩,
  ⟨some 28, .load (some 4) (.t 9), none⟩,
  ⟨some 29, .callv (.t 26) .frz [(.t 27), (.t 28)], none⟩,
  ⟨some 30, .un .not (.t 29), none⟩])
  (.cond (.t 30)
   (.seq
   (.reg [⟨some 6, .mv (.c (.bool false)), none⟩])
   (.ret [6]))
   .skip)))))
 (.reg [⟨some 31, .bin .add (.t 17) (.c (.int .i64 1)), none⟩,
 ⟨some 17, .mv (.t 31), none⟩]))))
def f146L1 : DCode := .loop [1, 2, 15, 16, 17] none f146l1
def f146 : DFn := ⟨3, false, [.t 6],
 (.seq
 (.reg [⟨some 6, .mv (.c (.bool false)), none⟩])
 (.seq
 (.seq
 (.reg [⟨some 10, .mv (.t 0), none⟩,
 ⟨some 11, .len (.t 10), none⟩,
 ⟨some 12, .mv (.t 1), none⟩,
 ⟨some 13, .len (.t 12), none⟩,
 ⟨some 14, .bin .neq (.t 11) (.t 13), none⟩])
 (.cond (.t 14)
  (.seq
  (.reg [⟨some 6, .mv (.c (.bool false)), none⟩])
  (.ret [6]))
  .skip))
 (.seq
 (.seq
 (.reg [⟨some 15, .mv (.t 0), none⟩,
 ⟨some 16, .len (.t 15), none⟩,
 ⟨some 17, .mv (.c (.int .i64 0)), none⟩])
 (.block 0 []
  f146L1))
 (.seq
 (.reg [⟨some 6, .mv (.c (.bool true)), none⟩])
 (.ret [6])))))⟩
structure H146 (Γ : Tab) : Prop where
  e146 : Γ 146 = some (.code f146)
/- slices.EqualFunc[[]loop.example/g00751/impl.Labels,[]loop.example/g00751/impl.Labels,loop.example/g00751/impl.Labels,loop.example/g00751/impl.Labels] -/
def f147l1 : DCode :=
 (.seq
 (.reg [⟨some 18, .bin .lss (.t 17) (.t 16), none⟩])
 (.seq
 (.cond (.t 18)
  .skip
  (.exit 0))
 (.seq
 (.block 1 [1, 2, 15, 16, 17]
  (.seq
  (.reg [⟨some 19, .mv (.t 17), none⟩,
  ⟨some 20, .iaddr 2 (.t 15) (.t 17), none⟩,
  ⟨some 21, .load (some 2) (.t 20), none⟩,
  ⟨some 8, .pend [.str [], .nils], none⟩,
  ⟨some 7, .mv (.t 19), none⟩,
  ⟨none, .init 2 8 (.t 21), none⟩])
  (.seq
  (.reg [⟨some 22, .mv (.t 1), none⟩,
  ⟨some 23, .mv (.t 7), none⟩,
  ⟨some 24, .iaddr 2 (.t 22) (.t 23), none⟩,
  ⟨some 25, .load (some 2) (.t 24), none⟩,
  ⟨some 9, .pend [.str [], .nils], none⟩,
  ⟨none, .init 2 9 (.t 25), none⟩])
  (.seq
  (.reg [⟨some 26, .mv (.t 2), none⟩,
  ⟨some 27, .load (some 2) (.t 8), none⟩,
  ⟨some 28, .load (some 2) (.t 9), none⟩,
  ⟨some 29, .callv (.t 26) .frz [(.t 27), (.t 28)], none⟩,
  ⟨some 30, .un .not (.t 29), none⟩])
  (.cond (.t 30)
   (.seq
   (.reg [⟨some 6, .mv (.c (.bool false)), none⟩])
   (.ret [6]))
   .skip)))))
 (.reg [⟨some 31, .bin .add (.t 17) (.c (.int .i64 1)), none⟩,
 ⟨some 17, .mv (.t 31), none⟩]))))
def f147L1 : DCode := .loop [1, 2, 15, 16, 17] none f147l1
def f147 : DFn := ⟨3, false, [.t 6],
 (.seq
 (.reg [⟨some 6, .mv (.c (.bool false)), none⟩])
 (.seq
 (.seq
 (.reg [⟨some 10, .mv (.t 0), none⟩,
 ⟨some 11, .len (.t 10), none⟩,
 ⟨some 12, .mv (.t 1), none⟩,
 ⟨some 13, .len (.t 12), none⟩,
 ⟨some 14, .bin .neq (.t 11) (.t 13), none⟩])
 (.cond (.t 14)
  (.seq
  (.reg [⟨some 6, .mv (.c (.bool false)), none⟩])
  (.ret [6]))
  .skip))
 (.seq
 (.seq
 (.reg [⟨some 15, .mv (.t 0), none⟩,
 ⟨some 16, .len (.t 15), none⟩,
 ⟨some 17, .mv (.c (.int .i64 0)), none⟩])
 (.block 0 []
  f147L1))
 (.seq
 (.reg [⟨some 6, .mv (.c (.bool true)), none⟩])
 (.ret [6])))))⟩
structure H147 (Γ : Tab) : Prop where
  e147 : Γ 147 = some (.code f147)
/- slices.EqualFunc[[]loop.example/g00751/impl.Table,[]loop.example/g00751/impl.Table,loop.example/g00751/impl.Table,loop.example/g00751/impl.Table] -/
def f148l1 : DCode :=
 (.seq
 (.reg [⟨some 18, .bin .lss (.t 17) (.t 16), none⟩])
 (.seq
 (.cond (.t 18)
  .skip
  (.exit 0))
 (.seq
 (.block 1 [1, 2, 15, 16, 17]
  (.seq
  (.reg [⟨some 19, .mv (.t 17), none⟩,
  ⟨some 20, .iaddr 4 (.t 15) (.t 17), none⟩,
  ⟨some 21, .load (some 4) (.t 20), none⟩,
  ⟨some 8, .pend [.str [], .nils, .nils, .int .i64 0], none⟩,
  ⟨some 7, .mv (.t 19), none⟩,
  ⟨none, .init 4 8 (.t 21), none⟩])
  (.seq
  (.reg [⟨some 22, .mv (.t 1), none⟩,
  ⟨some 23, .mv (.t 7), none⟩,
  ⟨some 24, .iaddr 4 (.t 22) (.t 23), none⟩,
  ⟨some 25, .load (some 4) (.t 24), none⟩,
  ⟨some 9, .pend [.str [], .nils, .nils, .int .i64 0], none⟩,
  ⟨none, .init 4 9 (.t 25), none⟩])
  (.seq
  (.reg [⟨some 26, .mv (.t 2), none⟩,
  ⟨some 27, .load (some 4) (.t 8), none⟩,
  ⟨some 28, .load (some 4) (.t 9), none⟩,
  ⟨some 29, .callv (.t 26) .frz [(.t 27), (.t 28)], none⟩,
  ⟨some 30, .un .not (.t 29), none⟩])
  (.cond (.t 30)
   (.seq
   (.reg [⟨some 6, .mv (.c (.bool false)), none⟩])
   (.ret [6]))
   .skip)))))
 (.reg [⟨some 31, .bin .add (.t 17) (.c (.int .i64 1)), none⟩,
 ⟨some 17, .mv (.t 31), none⟩]))))
def f148L1 : DCode := .loop [1, 2, 15, 16, 17] none f148l1
def f148 : DFn := ⟨3, false, [.t 6],
 (.seq
 (.reg [⟨some 6, .mv (.c (.bool false)), none⟩])
 (.seq
 (.seq
 (.reg [⟨some 10, .mv (.t 0), none⟩,
 ⟨some 11, .len (.t 10), none⟩,
 ⟨some 12, .mv (.t 1), none⟩,
 ⟨some 13, .len (.t 12), none⟩,
 ⟨some 14, .bin .neq (.t 11) (.t 13), none⟩])
 (.cond (.t 14)
  (.seq
  (.reg [⟨some 6, .mv (.c (.bool false)), none⟩])
  (.ret [6]))
  .skip))
 (.seq
 (.seq
 (.reg [⟨some 15, .mv (.t 0), none⟩,
 ⟨some 16, .len (.t 15), none⟩,
 ⟨some 17, .mv (.c (.int .i64 0)), none⟩])
 (.block 0 []
  f148L1))
 (.seq
 (.reg [⟨some 6, .mv (.c (.bool true)), none⟩])
 (.ret [6])))))⟩
structure H148 (Γ : Tab) : Prop where
  e148 : Γ 148 = some (.code f148)
/- slices.EqualFunc[[]loop.example/g00751/impl.View,[]loop.example/g00751/impl.View,loop.example/g00751/impl.View,loop.example/g00751/impl.View] -/
def f149l1 : DCode :=
 (.seq
 (.reg [⟨some 18, .bin .lss (.t 17) (.t 16), none⟩])
 (.seq
 (.cond (.t 18)
  .skip
  (.exit 0))
 (.seq
 (.block 1 [1, 2, 15, 16, 17]
  (.seq
  (.reg [⟨some 19, .mv (.t 17), none⟩,
  ⟨some 20, .iaddr 4 (.t 15) (.t 17), none⟩,
  ⟨some 21, .load (some 4) (.t 20), none⟩,
  ⟨some 8, .pend [.str [], .str [], .nils, .nils], none⟩,
  ⟨some 7, .mv (.t 19), none⟩,
  ⟨none, .init 4 8 (.t 21), none⟩])
  (.seq
  (.reg [⟨some 22, .mv (.t 1), none⟩,
  ⟨some 23, .mv (.t 7), none⟩,
  ⟨some 24, .iaddr 4 (.t 22) (.t 23), none⟩,
  ⟨some 25, .load (some 4) (.t 24), none⟩,
  ⟨some 9, .pend [.str [], .str [], .nils, .nils], none⟩,
  ⟨none, .init 4 9 (.t 25), none⟩])
  (.seq
  (.reg [⟨some 26, .mv (.t 2), none⟩,
  ⟨some 27, .load (some 4) (.t 8), none⟩,
  ⟨some 28, .load (some 4) (.t 9), none⟩,
  ⟨some 29, .callv (.t 26) .frz [(.t 27), (.t 28)], none⟩,
  ⟨some 30, .un .not (.t 29), none⟩])
  (.cond (.t 30)
   (.seq
   (.reg [⟨some 6, .mv (.c (.bool false)), none⟩])
   (.ret [6]))
   .skip)))))
 (.reg [⟨some 31, .bin .add (.t 17) (.c (.int .i64 1)), none⟩,
 ⟨some 17, .mv (.t 31), none⟩]))))
def f149L1 : DCode := .loop [1, 2, 15, 16, 17] none f149l1
def f149 : DFn := ⟨3, false, [.t 6],
 (.seq
 (.reg [⟨some 6, .mv (.c (.bool false)), none⟩])
 (.seq
 (.seq
 (.reg [⟨some 10, .mv (.t 0), none⟩,
 ⟨some 11, .len (.t 10), none⟩,
 ⟨some 12, .mv (.t 1), none⟩,
 ⟨some 13, .len (.t 12), none⟩,
 ⟨some 14, .bin .neq (.t 11) (.t 13), none⟩])
 (.cond (.t 14)
  (.seq
  (.reg [⟨some 6, .mv (.c (.bool false)), none⟩])
  (.ret [6]))
  .skip))
 (.seq
 (.seq
 (.reg [⟨some 15, .mv (.t 0), none⟩,
 ⟨some 16, .len (.t 15), none⟩,
 ⟨some 17, .mv (.c (.int .i64 0)), none⟩])
 (.block 0 []
  f149L1))
 (.seq
 (.reg [⟨some 6, .mv (.c (.bool true)), none⟩])
 (.ret [6])))))⟩
structure H149 (Γ : Tab) : Prop where
  e149 : Γ 149 = some (.code f149)
/- slices.Equal[[]loop.example/g00751/impl.Seq,loop.example/g00751/impl.Seq] -/
def f150l1 : DCode :=
 (.seq
 (.reg [⟨some 14, .bin .lss (.t 13) (.t 12), none⟩])
 (.seq
 (.cond (.t 14)
  .skip
  (.exit 0))
 (.seq
 (.block 1 [0, 1, 12, 13]
  (.seq
  (.reg [⟨some 15, .mv (.t 13), none⟩,
  ⟨some 5, .mv (.t 15), none⟩])
  (.seq
  (.any [false, false, false, false, false, false, false, false, false] [(1, ⟨some 16, .mv (.t 0), none⟩),
  (1, ⟨some 17, .mv (.t 5), none⟩),
  (1, ⟨some 18, .iaddr 2 (.t 16) (.t 17), none⟩),
  (1, ⟨some 19, .load (some 2) (.t 18), none⟩),
  (1, ⟨some 20, .mv (.t 1), none⟩),
  (1, ⟨some 21, .mv (.t 5), none⟩),
  (1, ⟨some 22, .iaddr 2 (.t 20) (.t 21), none⟩),
  (1, ⟨some 23, .load (some 2) (.t 22), none⟩),
  (1, ⟨some 24, .eqs true [.s, .i] (.t 19) (.t 23), none⟩)]
  [])
  (.cond (.t 24)
   (.seq
   (.reg [⟨some 4, .mv (.c (.bool false)), none⟩])
   (.ret [4]))
   .skip))))
 (.reg [⟨some 25, .bin .add (.t 13) (.c (.int .i64 1)), none⟩,
 ⟨some 13, .mv (.t 25), none⟩]))))
def f150L1 : DCode := .loop [0, 1, 12, 13] none f150l1
def f150 : DFn := ⟨2, false, [.t 4],
 (.seq
 (.reg [⟨some 4, .mv (.c (.bool false)), none⟩])
 (.seq
 (.seq
 (.reg [⟨some 6, .mv (.t 0), none⟩,
 ⟨some 7, .len (.t 6), none⟩,
 ⟨some 8, .mv (.t 1), none⟩,
 ⟨some 9, .len (.t 8), none⟩,
 ⟨some 10, .bin .neq (.t 7) (.t 9), none⟩])
 (.cond (.t 10)
  (.seq
  (.reg [⟨some 4, .mv (.c (.bool false)), none⟩])
  (.ret [4]))
  .skip))
 (.seq
 (.seq
 (.reg [⟨some 11, .mv (.t 0), none⟩,
 ⟨some 12, .len (.t 11), none⟩,
 ⟨some 13, .mv (.c (.int .i64 0)), none⟩])
 (.block 0 []
  f150L1))
 (.seq
 (.reg [⟨some 4, .mv (.c (.bool true)), none⟩])
 (.ret [4])))))⟩
structure H150 (Γ : Tab) : Prop where
  e150 : Γ 150 = some (.code f150)
/- loop.example/g00751/impl.Same -/
def f123 : DFn := ⟨2, false, [.t 4],
 (.seq
 (.reg [⟨some 2, .boxf (.t 0), none⟩,
 ⟨some 3, .boxf (.t 1), none⟩,
 ⟨some 4, .mv (.c (.bool false)), none⟩])
 (.seq
 (.reg [⟨some 5, .faddr 0 (.t 2), none⟩,
 ⟨some 6, .load none (.t 5), none⟩,
 ⟨some 7, .faddr 0 (.t 3), none⟩,
 ⟨some 8, .load none (.t 7), none⟩,
 ⟨some 9, .call 147 .frz [(.t 6), (.t 8), (.c (.fn 143 []))], none⟩,
 ⟨some 10, .mv (.t 9), none⟩,
 ⟨some 11, .faddr 1 (.t 2), some (10, true)⟩,
 ⟨some 12, .load none (.t 11), some (10, true)⟩,
 ⟨some 13, .faddr 1 (.t 3), some (10, true)⟩,
 ⟨some 14, .load none (.t 13), some (10, true)⟩,
 ⟨some 15, .call 150 .frz [(.t 12), (.t 14)], some (10, true)⟩,
 ⟨some 16, .pick (.t 10) (.t 15) (.c (.bool false)), none⟩,
 ⟨some 17, .mv (.t 16), none⟩,
 ⟨some 18, .faddr 2 (.t 2), some (17, true)⟩,
 ⟨some 19, .load none (.t 18), some (17, true)⟩,
 ⟨some 20, .faddr 2 (.t 3), some (17, true)⟩,
 ⟨some 21, .load none (.t 20), some (17, true)⟩,
 ⟨some 22, .call 148 .frz [(.t 19), (.t 21), (.c (.fn 144 []))], some (17, true)⟩,
 ⟨some 23, .pick (.t 17) (.t 22) (.c (.bool false)), none⟩,
 ⟨some 24, .mv (.t 23), none⟩,
 ⟨some 25, .faddr 3 (.t 2), some (24, true)⟩,
 ⟨some 26, .load none (.t 25), some (24, true)⟩,
 ⟨some 27, .faddr 3 (.t 3), some (24, true)⟩,
 ⟨some 28, .load none (.t 27), some (24, true)⟩,
 ⟨some 29, .call 146 .frz [(.t 26), (.t 28), (.c (.fn 142 []))], some (24, true)⟩,
 ⟨some 30, .pick (.t 24) (.t 29) (.c (.bool false)), none⟩,
 ⟨some 31, .mv (.t 30), none⟩,
 ⟨some 32, .faddr 4 (.t 2), some (31, true)⟩,
 ⟨some 33, .load none (.t 32), some (31, true)⟩,
 ⟨some 34, .faddr 4 (.t 3), some (31, true)⟩,
 ⟨some 35, .load none (.t 34), some (31, true)⟩,
 ⟨some 36, .call 149 .frz [(.t 33), (.t 35), (.c (.fn 145 []))], some (31, true)⟩,
 ⟨some 37, .pick (.t 31) (.t 36) (.c (.bool false)), none⟩,
 ⟨some 4, .mv (.t 37), none⟩])
 (.ret [4])))⟩
structure H123 (Γ : Tab) : Prop where
  e123 : Γ 123 = some (.code f123)
  c142 : H142 Γ
  c143 : H143 Γ
  c144 : H144 Γ
  c145 : H145 Γ
  c146 : H146 Γ
  c147 : H147 Γ
  c148 : H148 Γ
  c149 : H149 Γ
  c150 : H150 Γ
/- loop.example/g00751/laws.eqIndex -/
def f178 : DFn := ⟨2, false, [.t 4],
 (.seq
 (.reg [⟨some 2, .boxf (.t 0), none⟩,
 ⟨some 3, .boxf (.t 1), none⟩,
 ⟨some 4, .mv (.c (.bool false)), none⟩])
 (.seq
 (.seq
 (.reg [⟨some 5, .faddr 0 (.t 2), none⟩,
 ⟨some 6, .load none (.t 5), none⟩,
 ⟨some 7, .faddr 0 (.t 3), none⟩,
 ⟨some 8, .load none (.t 7), none⟩,
 ⟨some 9, .bin .neq (.t 6) (.t 8), none⟩])
 (.cond (.t 9)
  (.seq
  (.reg [⟨some 4, .mv (.c (.bool false)), none⟩])
  (.ret [4]))
  .skip))
 (.seq
 (.seq
 (.reg [⟨some 10, .faddr 1 (.t 2), none⟩,
 ⟨some 11, .load none (.t 10), none⟩,
 ⟨some 12, .faddr 1 (.t 3), none⟩,
 ⟨some 13, .load none (.t 12), none⟩,
 ⟨some 14, .bin .neq (.t 11) (.t 13), none⟩])
 (.cond (.t 14)
  (.seq
  (.reg [⟨some 4, .mv (.c (.bool false)), none⟩])
  (.ret [4]))
  .skip))
 (.seq
 (.seq
 (.reg [⟨some 15, .faddr 2 (.t 2), none⟩,
 ⟨some 16, .load none (.t 15), none⟩,
 ⟨some 17, .faddr 2 (.t 3), none⟩,
 ⟨some 18, .load none (.t 17), none⟩,
 ⟨some 19, .call 69 .frz [(.t 16), (.t 18)], none⟩,
 ⟨some 20, .un .not (.t 19), none⟩])
 (.cond (.t 20)
  (.seq
  (.reg [⟨some 4, .mv (.c (.bool false)), none⟩])
  (.ret [4]))
  .skip))
 (.seq
 (.seq
 (.reg [⟨some 21, .faddr 3 (.t 2), none⟩,
 ⟨some 22, .load none (.t 21), none⟩,
 ⟨some 23, .faddr 3 (.t 3), none⟩,
 ⟨some 24, .load none (.t 23), none⟩,
 ⟨some 25, .binb .neq (.t 22) (.t 24), none⟩])
 (.cond (.t 25)
  (.seq
  (.reg [⟨some 4, .mv (.c (.bool false)), none⟩])
  (.ret [4]))
  .skip))
 (.seq
 (.reg [⟨some 4, .mv (.c (.bool true)), none⟩])
 (.ret [4])))))))⟩
structure H178 (Γ : Tab) : Prop where
  e178 : Γ 178 = some (.code f178)
  c69 : H69 Γ
/- loop.example/g00751/laws.eqIndexS -/
def f151l1 : DCode :=
 (.seq
 (.seq
 (.reg [⟨some 11, .mv (.t 5), none⟩,
 ⟨some 12, .mv (.t 0), none⟩,
 ⟨some 13, .len (.t 12), none⟩,
 ⟨some 14, .bin .lss (.t 11) (.t 13), none⟩])
 (.cond (.t 14)
  .skip
  (.exit 0)))
 (.seq
 (.block 1 [0, 1, 5]
  (.seq
  (.any [false, false, false, false, false, false, false, false, false, false] [(1, ⟨some 17, .mv (.t 0), none⟩),
  (1, ⟨some 18, .mv (.t 5), none⟩),
  (1, ⟨some 19, .iaddr 4 (.t 17) (.t 18), none⟩),
  (1, ⟨some 20, .load (some 4) (.t 19), none⟩),
  (1, ⟨some 21, .mv (.t 1), none⟩),
  (1, ⟨some 22, .mv (.t 5), none⟩),
  (1, ⟨some 23, .iaddr 4 (.t 21) (.t 22), none⟩),
  (1, ⟨some 24, .load (some 4) (.t 23), none⟩),
  (1, ⟨some 25, .call 178 .frz [(.t 20), (.t 24)], none⟩),
  (1, ⟨some 26, .un .not (.t 25), none⟩)]
  [])
  (.cond (.t 26)
   (.seq
   (.reg [⟨some 4, .mv (.c (.bool false)), none⟩])
   (.ret [4]))
   .skip)))
 (.reg [⟨some 15, .mv (.t 5), none⟩,
 ⟨some 16, .bin .add (.t 15) (.c (.int .i64 1)), none⟩,
 ⟨some 5, .mv (.t 16), none⟩])))
def f151L1 : DCode := .loop [0, 1, 5] none f151l1
def f151 : DFn := ⟨2, false, [.t 4],
 (.seq
 (.reg [⟨some 4, .mv (.c (.bool false)), none⟩])
 (.seq
 (.seq
 (.reg [⟨some 6, .mv (.t 0), none⟩,
 ⟨some 7, .len (.t 6), none⟩,
 ⟨some 8, .mv (.t 1), none⟩,
 ⟨some 9, .len (.t 8), none⟩,
 ⟨some 10, .bin .neq (.t 7) (.t 9), none⟩])
 (.cond (.t 10)
  (.seq
  (.reg [⟨some 4, .mv (.c (.bool false)), none⟩])
  (.ret [4]))
  .skip))
 (.seq
 (.seq
 (.reg [⟨some 5, .mv (.c (.int .i64 0)), none⟩])
 (.block 0 []
  f151L1))
 (.seq
 (.reg [⟨some 4, .mv (.c (.bool true)), none⟩])
 (.ret [4])))))⟩
structure H151 (Γ : Tab) : Prop where
  e151 : Γ 151 = some (.code f151)
  c178 : H178 Γ
/- loop.example/g00751/laws.eqLabels -/
def f175 : DFn := ⟨2, false, [.t 4],
 (.seq
 (.reg [⟨some 2, .boxf (.t 0), none⟩,
 ⟨some 3, .boxf (.t 1), none⟩,
 ⟨some 4, .mv (.c (.bool false)), none⟩])
 (.seq
 (.seq
 (.reg [⟨some 5, .faddr 0 (.t 2), none⟩,
 ⟨some 6, .load none (.t 5), none⟩,
 ⟨some 7, .faddr 0 (.t 3), none⟩,
 ⟨some 8, .load none (.t 7), none⟩,
 ⟨some 9, .bin .neq (.t 6) (.t 8), none⟩])
 (.cond (.t 9)
  (.seq
  (.reg [⟨some 4, .mv (.c (.bool false)), none⟩])
  (.ret [4]))
  .skip))
 (.seq
 (.seq
 (.reg [⟨some 10, .faddr 1 (.t 2), none⟩,
 ⟨some 11, .load none (.t 10), none⟩,
 ⟨some 12, .faddr 1 (.t 3), none⟩,
 ⟨some 13, .load none (.t 12), none⟩,
 ⟨some 14, .call 69 .frz [(.t 11), (.t 13)], none⟩,
 ⟨some 15, .un .not (.t 14), none⟩])
 (.cond (.t 15)
  (.seq
  (.reg [⟨some 4, .mv (.c (.bool false)), none⟩])
  (.ret [4]))
  .skip))
 (.seq
 (.reg [⟨some 4, .mv (.c (.bool true)), none⟩])
 (.ret [4])))))⟩
structure H175 (Γ : Tab) : Prop where
  e175 : Γ 175 = some (.code f175)
  c69 : H69 Γ
/- loop.example/g00751/laws.eqLabelsS -/
def f152l1 : DCode :=
 (.seq
 (.seq
 (.reg [⟨some 11, .mv (.t 5), none⟩,
 ⟨some 12, .mv (.t 0), none⟩,
 ⟨some 13, .len (.t 12), none⟩,
 ⟨some 14, .bin .lss (.t 11) (.t 13), none⟩])
 (.cond (.t 14)
  .skip
  (.exit 0)))
 (.seq
 (.block 1 [0, 1, 5]
  (.seq
  (.any [false, false, false, false, false, false, false, false, false, false] [(1, ⟨some 17, .mv (.t 0), none⟩),
  (1, ⟨some 18, .mv (.t 5), none⟩),
  (1, ⟨some 19, .iaddr 2 (.t 17) (.t 18), none⟩),
  (1, ⟨some 20, .load (some 2) (.t 19), none⟩),
  (1, ⟨some 21, .mv (.t 1), none⟩),
  (1, ⟨some 22, .mv (.t 5), none⟩),
  (1, ⟨some 23, .iaddr 2 (.t 21) (.t 22), none⟩),
  (1, ⟨some 24, .load (some 2) (.t 23), none⟩),
  (1, ⟨some 25, .call 175 .frz [(.t 20), (.t 24)], none⟩),
  (1, ⟨some 26, .un .not (.t 25), none⟩)]
  [])
  (.cond (.t 26)
   (.seq
   (.reg [⟨some 4, .mv (.c (.bool false)), none⟩])
   (.ret [4]))
   .skip)))
 (.reg [⟨some 15, .mv (.t 5), none⟩,
 ⟨some 16, .bin .add (.t 15) (.c (.int .i64 1)), none⟩,
 ⟨some 5, .mv (.t 16), none⟩])))
def f152L1 : DCode := .loop [0, 1, 5] none f152l1
def f152 : DFn := ⟨2, false, [.t 4],
 (.seq
 (.reg [⟨some 4, .mv (.c (.bool false)), none⟩])
 (.seq
 (.seq
 (.reg [⟨some 6, .mv (.t 0), none⟩,
 ⟨some 7, .len (.t 6), none⟩,
 ⟨some 8, .mv (.t 1), none⟩,
 ⟨some 9, .len (.t 8), none⟩,
 ⟨some 10, .bin .neq (.t 7) (.t 9), none⟩])
 (.cond (.t 10)
  (.seq
  (.reg [⟨some 4, .mv (.c (.bool false)), none⟩])
  (.ret [4]))
  .skip))
 (.seq
 (.seq
 (.reg [⟨some 5, .mv (.c (.int .i64 0)), none⟩])
 (.block 0 []
  f152L1))
 (.seq
 (.reg [⟨some 4, .mv (.c (.bool true)), none⟩])
 (.ret [4])))))⟩
structure H152 (Γ : Tab) : Prop where
  e152 : Γ 152 = some (.code f152)
  c175 : H175 Γ
/- loop.example/g00751/laws.eqSeq -/
def f176 : DFn := ⟨2, false, [.t 4],
 (.seq
 (.reg [⟨some 2, .boxf (.t 0), none⟩,
 ⟨some 3, .boxf (.t 1), none⟩,
 ⟨some 4, .mv (.c (.bool false)), none⟩])
 (.seq
 (.seq
 (.reg [⟨some 5, .faddr 0 (.t 2), none⟩,
 ⟨some 6, .load none (.t 5), none⟩,
 ⟨some 7, .faddr 0 (.t 3), none⟩,
 ⟨some 8, .load none (.t 7), none⟩,
 ⟨some 9, .bin .neq (.t 6) (.t 8), none⟩])
 (.cond (.t 9)
  (.seq
  (.reg [⟨some 4, .mv (.c (.bool false)), none⟩])
  (.ret [4]))
  .skip))
 (.seq
 (.seq
 (.reg [⟨some 10, .faddr 1 (.t 2), none⟩,
 ⟨some 11, .load none (.t 10), none⟩,
 ⟨some 12, .faddr 1 (.t 3), none⟩,
 ⟨some 13, .load none (.t 12), none⟩,
 ⟨some 14, .bin .neq (.t 11) (.t 13), none⟩])
 (.cond (.t 14)
  (.seq
  (.reg [⟨some 4, .mv (.c (.bool false)), none⟩])
  (.ret [4]))
  .skip))
 (.seq
 (.reg [⟨some 4, .mv (.c (.bool true)), none⟩])
 (.ret [4])))))⟩
structure H176 (Γ : Tab) : Prop where
  e176 : Γ 176 = some (.code f176)
/- loop.example/g00751/laws.eqSeqS -/
def f153l1 : DCode :=
 (.seq
 (.seq
 (.reg [⟨some 11, .mv (.t 5), none⟩,
 ⟨some 12, .mv (.t 0), none⟩,
 ⟨some 13, .len (.t 12), none⟩,
 ⟨some 14, .bin .lss (.t 11) (.t 13), none⟩])
 (.cond (.t 14)
  .skip
  (.exit 0)))
 (.seq
 (.block 1 [0, 1, 5]
  (.seq
  (.any [false, false, false, false, false, false, false, false, false, false] [(1, ⟨some 17, .mv (.t 0), none⟩),
  (1, ⟨some 18, .mv (.t 5), none⟩),
  (1, ⟨some 19, .iaddr 2 (.t 17) (.t 18), none⟩),
  (1, ⟨some 20, .load (some 2) (.t 19), none⟩),
  (1, ⟨some 21, .mv (.t 1), none⟩),
  (1, ⟨some 22, .mv (.t 5), none⟩),
  (1, ⟨some 23, .iaddr 2 (.t 21) (.t 22), none⟩),
  (1, ⟨some 24, .load (some 2) (.t 23), none⟩),
  (1, ⟨some 25, .call 176 .frz [(.t 20), (.t 24)], none⟩),
  (1, ⟨some 26, .un .not (.t 25), none⟩)]
  [])
  (.cond (.t 26)
   (.seq
   (.reg [⟨some 4, .mv (.c (.bool false)), none⟩])
   (.ret [4]))
   .skip)))
 (.reg [⟨some 15, .mv (.t 5), none⟩,
 ⟨some 16, .bin .add (.t 15) (.c (.int .i64 1)), none⟩,
 ⟨some 5, .mv (.t 16), none⟩])))
def f153L1 : DCode := .loop [0, 1, 5] none f153l1
def f153 : DFn := ⟨2, false, [.t 4],
 (.seq
 (.reg [⟨some 4, .mv (.c (.bool false)), none⟩])
 (.seq
 (.seq
 (.reg [⟨some 6, .mv (.t 0), none⟩,
 ⟨some 7, .len (.t 6), none⟩,
 ⟨some 8, .mv (.t 1), none⟩,
 ⟨some 9, .len (.t 8), none⟩,
 ⟨some 10, .bin .neq (.t 7) (.t 9), none⟩])
 (.cond (.t 10)
  (.seq
  (.reg [⟨some 4, .mv (.c (.bool false)), none⟩])
  (.ret [4]))
  .skip))
 (.seq
 (.seq
 (.reg [⟨some 5, .mv (.c (.int .i64 0)), none⟩])
 (.block 0 []
  f153L1))
 (.seq
 (.reg [⟨some 4, .mv (.c (.bool true)), none⟩])
 (.ret [4])))))⟩
structure H153 (Γ : Tab) : Prop where
  e153 : Γ 153 = some (.code f153)
  c176 : H176 Γ
/- loop.example/g00751/laws.eqTable -/
def f177 : DFn := ⟨2, false, [.t 4],
 (.seq
 (.reg [⟨some 2, .boxf (.t 0), none⟩,
 ⟨some 3, .boxf (.t 1), none⟩,
 ⟨some 4, .mv (.c (.bool false)), none⟩])
 (.seq
 (.seq
 (.reg [⟨some 5, .faddr 0 (.t 2), none⟩,
 ⟨some 6, .load none (.t 5), none⟩,
 ⟨some 7, .faddr 0 (.t 3), none⟩,
 ⟨some 8, .load none (.t 7), none⟩,
 ⟨some 9, .bin .neq (.t 6) (.t 8), none⟩])
 (.cond (.t 9)
  (.seq
  (.reg [⟨some 4, .mv (.c (.bool false)), none⟩])
  (.ret [4]))
  .skip))
 (.seq
 (.seq
 (.reg [⟨some 10, .faddr 1 (.t 2), none⟩,
 ⟨some 11, .load none (.t 10), none⟩,
 ⟨some 12, .faddr 1 (.t 3), none⟩,
 ⟨some 13, .load none (.t 12), none⟩,
 ⟨some 14, .call 66 .frz [(.t 11), (.t 13)], none⟩,
 ⟨some 15, .un .not (.t 14), none⟩])
 (.cond (.t 15)
  (.seq
  (.reg [⟨some 4, .mv (.c (.bool false)), none⟩])
  (.ret [4]))
  .skip))
 (.seq
 (.seq
 (.reg [⟨some 16, .faddr 2 (.t 2), none⟩,
 ⟨some 17, .load none (.t 16), none⟩,
 ⟨some 18, .faddr 2 (.t 3), none⟩,
 ⟨some 19, .load none (.t 18), none⟩,
 ⟨some 20, .call 68 .frz [(.t 17), (.t 19)], none⟩,
 ⟨some 21, .un .not (.t 20), none⟩])
 (.cond (.t 21)
  (.seq
  (.reg [⟨some 4, .mv (.c (.bool false)), none⟩])
  (.ret [4]))
  .skip))
 (.seq
 (.seq
 (.reg [⟨some 22, .faddr 3 (.t 2), none⟩,
 ⟨some 23, .load none (.t 22), none⟩,
 ⟨some 24, .faddr 3 (.t 3), none⟩,
 ⟨some 25, .load none (.t 24), none⟩,
 ⟨some 26, .bin .neq (.t 23) (.t 25), none⟩])
 (.cond (.t 26)
  (.seq
  (.reg [⟨some 4, .mv (.c (.bool false)), none⟩])
  (.ret [4]))
  .skip))
 (.seq
 (.reg [⟨some 4, .mv (.c (.bool true)), none⟩])
 (.ret [4])))))))⟩
structure H177 (Γ : Tab) : Prop where
  e177 : Γ 177 = some (.code f177)
  c66 : H66 Γ
  c68 : H68 Γ
/- loop.example/g00751/laws.eqTableS -/
def f154l1 : DCode :=
 (.seq
 (.seq
 (.reg [⟨some 11, .mv (.t 5), none⟩,
 ⟨some 12, .mv (.t 0), none⟩,
 ⟨some 13, .len (.t 12), none⟩,
 ⟨some 14, .bin .lss (.t 11) (.t 13), none⟩])
 (.cond (.t 14)
  .skip
  (.exit 0)))
 (.seq
 (.block 1 [0, 1, 5]
  (.seq
  (.any [false, false, false, false, false, false, false, false, false, false] [(1, ⟨some 17, .mv (.t 0), none⟩),
  (1, ⟨some 18, .mv (.t 5), none⟩),
  (1, ⟨some 19, .iaddr 4 (.t 17) (.t 18), none⟩),
  (1, ⟨some 20, .load (some 4) (.t 19), none⟩),
  (1, ⟨some 21, .mv (.t 1), none⟩),
  (1, ⟨some 22, .mv (.t 5), none⟩),
  (1, ⟨some 23, .iaddr 4 (.t 21) (.t 22), none⟩),
  (1, ⟨some 24, .load (some 4) (.t 23), none⟩),
  (1, ⟨some 25, .call 177 .frz [(.t 20), (.t 24)], none⟩),
  (1, ⟨some 26, .un .not (.t 25), none⟩)]
  [])
  (.cond (.t 26)
   (.seq
   (.reg [⟨some 4, .mv (.c (.bool false)), none⟩])
   (.ret [4]))
   .skip)))
 (.reg [⟨some 15, .mv (.t 5), none⟩,
 ⟨some 16, .bin .add (.t 15) (.c (.int .i64 1)), none⟩,
 ⟨some 5, .mv (.t 16), none⟩])))
def f154L1 : DCode := .loop [0, 1, 5] none f154l1
def f154 : DFn := ⟨2, false, [.t 4],
 (.seq
 (.reg [⟨some 4, .mv (.c (.bool false)), none⟩])
 (.seq
 (.seq
 (.reg [⟨some 6, .mv (.t 0), none⟩,
 ⟨some 7, .len (.t 6), none⟩,
 ⟨some 8, .mv (.t 1), none⟩,
 ⟨some 9, .len (.t 8), none⟩,
 ⟨some 10, .bin .neq (.t 7) (.t 9), none⟩])
 (.cond (.t 10)
  (.seq
  (.reg [⟨some 4, .mv (.c (.bool false)), none⟩])
  (.ret [4]))
  .skip))
 (.seq
 (.seq
 (.reg [⟨some 5, .mv (.c (.int .i64 0)), none⟩])
 (.block 0 []
  f154L1))
 (.seq
 (.reg [⟨some 4, .mv (.c (.bool true)), none⟩])
 (.ret [4])))))⟩
structure H154 (Γ : Tab) : Prop where
  e154 : Γ 154 = some (.code f154)
  c177 : H177 Γ
/- loop.example/g00751/laws.eqView -/
def f179 : DFn := ⟨2, false, [.t 4],
 (.seq
 (.reg [⟨some 2, .boxf (.t 0), none⟩,
 ⟨some 3, .boxf (.t 1), none⟩,
 ⟨some 4, .mv (.c (.bool false)), none⟩])
 (.seq
 (.seq
 (.reg [⟨some 5, .faddr 0 (.t 2), none⟩,
 ⟨some 6, .load none (.t 5), none⟩,
 ⟨some 7, .faddr 0 (.t 3), none⟩,
 ⟨some 8, .load none (.t 7), none⟩,
 ⟨some 9, .bin .neq (.t 6) (.t 8), none⟩])
 (.cond (.t 9)
  (.seq
  (.reg [⟨some 4, .mv (.c (.bool false)), none⟩])
  (.ret [4]))
  .skip))
 (.seq
 (.seq
 (.reg [⟨some 10, .faddr 1 (.t 2), none⟩,
 ⟨some 11, .load none (.t 10), none⟩,
 ⟨some 12, .faddr 1 (.t 3), none⟩,
 ⟨some 13, .load none (.t 12), none⟩,
 ⟨some 14, .bin .neq (.t 11) (.t 13), none⟩])
 (.cond (.t 14)
  (.seq
  (.reg [⟨some 4, .mv (.c (.bool false)), none⟩])
  (.ret [4]))
  .skip))
 (.seq
 (.seq
 (.reg [⟨some 15, .faddr 2 (.t 2), none⟩,
 ⟨some 16, .load none (.t 15), none⟩,
 ⟨some 17, .faddr 2 (.t 3), none⟩,
 ⟨some 18, .load none (.t 17), none⟩,
 ⟨some 19, .call 69 .frz [(.t 16), (.t 18)], none⟩,
 ⟨some 20, .un .not (.t 19), none⟩])
 (.cond (.t 20)
  (.seq
  (.reg [⟨some 4, .mv (.c (.bool false)), none⟩])
  (.ret [4]))
  .skip))
 (.seq
 (.seq
 (.reg [⟨some 21, .faddr 3 (.t 2), none⟩,
 ⟨some 22, .load none (.t 21), none⟩,
 ⟨some 23, .faddr 3 (.t 3), none⟩,
 ⟨some 24, .load none (.t 23), none⟩,
 ⟨some 25, .call 67 .frz [(.t 22), (.t 24)], none⟩,
 ⟨some 26, .un .not (.t 25), none⟩])
 (.cond (.t 26)
  (.seq
  (.reg [⟨some 4, .mv (.c (.bool false)), none⟩])
  (.ret [4]))
  .skip))
 (.seq
 (.reg [⟨some 4, .mv (.c (.bool true)), none⟩])
 (.ret [4])))))))⟩
structure H179 (Γ : Tab) : Prop where
  e179 : Γ 179 = some (.code f179)
  c67 : H67 Γ
  c69 : H69 Γ
/- loop.example/g00751/laws.eqViewS -/
def f155l1 : DCode :=
 (.seq
 (.seq
 (.reg [⟨some 11, .mv (.t 5), none⟩,
 ⟨some 12, .mv (.t 0), none⟩,
 ⟨some 13, .len (.t 12), none⟩,
 ⟨some 14, .bin .lss (.t 11) (.t 13), none⟩])
 (.cond (.t 14)
  .skip
  (.exit 0)))
 (.seq
 (.block 1 [0, 1, 5]
  (.seq
  (.any [false, false, false, false, false, false, false, false, false, false] [(1, ⟨some 17, .mv (.t 0), none⟩),
  (1, ⟨some 18, .mv (.t 5), none⟩),
  (1, ⟨some 19, .iaddr 4 (.t 17) (.t 18), none⟩),
  (1, ⟨some 20, .load (some 4) (.t 19), none⟩),
  (1, ⟨some 21, .mv (.t 1), none⟩),
  (1, ⟨some 22, .mv (.t 5), none⟩),
  (1, ⟨some 23, .iaddr 4 (.t 21) (.t 22), none⟩),
  (1, ⟨some 24, .load (some 4) (.t 23), none⟩),
  (1, ⟨some 25, .call 179 .frz [(.t 20), (.t 24)], none⟩),
  (1, ⟨some 26, .un .not (.t 25), none⟩)]
  [])
  (.cond (.t 26)
   (.seq
   (.reg [⟨some 4, .mv (.c (.bool false)), none⟩])
   (.ret [4]))
   .skip)))
 (.reg [⟨some 15, .mv (.t 5), none⟩,
 ⟨some 16, .bin .add (.t 15) (.c (.int .i64 1)), none⟩,
 ⟨some 5, .mv (.t 16), none⟩])))
def f155L1 : DCode := .loop [0, 1, 5] none f155l1
def f155 : DFn := ⟨2, false, [.t 4],
 (.seq
 (.reg [⟨some 4, .mv (.c (.bool false)), none⟩])
 (.seq
 (.seq
 (.reg [⟨some 6, .mv (.t 0), none⟩,
 ⟨some 7, .len (.t 6), none⟩,
 ⟨some 8, .mv (.t 1), none⟩,
 ⟨some 9, .len (.t 8), none⟩,
 ⟨some 10, .bin .neq (.t 7) (.t 9), none⟩])
 (.cond (.t 10)
  (.seq
  (.reg [⟨some 4, .mv (.c (.bool false)), none⟩])
  (.ret [4]))
  .skip))
 (.seq
 (.seq
 (.reg [⟨some 5, .mv (.c (.int .i64 0)), none⟩])
 (.block 0 []
  f155L1))
 (.seq
 (.reg [⟨some 4, .mv (.c (.bool true)), none⟩])
 (.ret [4])))))⟩
structure H155 (Γ : Tab) : Prop where
  e155 : Γ 155 = some (.code f155)
  c179 : H179 Γ
/- loop.example/g00751/laws.eqPlan -/
def f124 : DFn := ⟨2, false, [.t 4],
 (.seq
 (.reg [⟨some 2, .boxf (.t 0), none⟩,
 ⟨some 3, .boxf (.t 1), none⟩,
 ⟨some 4, .mv (.c (.bool false)), none⟩])
 (.seq
 (.seq
 (.reg [⟨some 5, .faddr 0 (.t 2), none⟩,
 ⟨some 6, .load none (.t 5), none⟩,
 ⟨some 7, .faddr 0 (.t 3), none⟩,
 ⟨some 8, .load none (.t 7), none⟩,
 ⟨some 9, .call 152 .frz [(.t 6), (.t 8)], none⟩,
 ⟨some 10, .un .not (.t 9), none⟩])
 (.cond (.t 10)
  (.seq
  (.reg [⟨some 4, .mv (.c (.bool false)), none⟩])
  (.ret [4]))
  .skip))
 (.seq
 (.seq
 (.reg [⟨some 11, .faddr 1 (.t 2), none⟩,
 ⟨some 12, .load none (.t 11), none⟩,
 ⟨some 13, .faddr 1 (.t 3), none⟩,
 ⟨some 14, .load none (.t 13), none⟩,
 ⟨some 15, .call 153 .frz [(.t 12), (.t 14)], none⟩,
 ⟨some 16, .un .not (.t 15), none⟩])
 (.cond (.t 16)
  (.seq
  (.reg [⟨some 4, .mv (.c (.bool false)), none⟩])
  (.ret [4]))
  .skip))
 (.seq
 (.seq
 (.reg [⟨some 17, .faddr 2 (.t 2), none⟩,
 ⟨some 18, .load none (.t 17), none⟩,
 ⟨some 19, .faddr 2 (.t 3), none⟩,
 ⟨some 20, .load none (.t 19), none⟩,
 ⟨some 21, .call 154 .frz [(.t 18), (.t 20)], none⟩,
 ⟨some 22, .un .not (.t 21), none⟩])
 (.cond (.t 22)
  (.seq
  (.reg [⟨some 4, .mv (.c (.bool false)), none⟩])
  (.ret [4]))
  .skip))
 (.seq
 (.seq
 (.reg [⟨some 23, .faddr 3 (.t 2), none⟩,
 ⟨some 24, .load none (.t 23), none⟩,
 ⟨some 25, .faddr 3 (.t 3), none⟩,
 ⟨some 26, .load none (.t 25), none⟩,
 ⟨some 27, .call 151 .frz [(.t 24), (.t 26)], none⟩,
 ⟨some 28, .un .not (.t 27), none⟩])
 (.cond (.t 28)
  (.seq
  (.reg [⟨some 4, .mv (.c (.bool false)), none⟩])
  (.ret [4]))
  .skip))
 (.seq
 (.seq
 (.reg [⟨some 29, .faddr 4 (.t 2), none⟩,
 ⟨some 30, .load none (.t 29), none⟩,
 ⟨some 31, .faddr 4 (.t 3), none⟩,
 ⟨some 32, .load none (.t 31), none⟩,
 ⟨some 33, .call 155 .frz [(.t 30), (.t 32)], none⟩,
 ⟨some 34, .un .not (.t 33), none⟩])
 (.cond (.t 34)
  (.seq
  (.reg [⟨some 4, .mv (.c (.bool false)), none⟩])
  (.ret [4]))
  .skip))
 (.seq
 (.seq
 (.reg [⟨some 35, .faddr 5 (.t 2), none⟩,
 ⟨some 36, .load none (.t 35), none⟩,
 ⟨some 37, .faddr 5 (.t 3), none⟩,
 ⟨some 38, .load none (.t 37), none⟩,
 ⟨some 39, .bin .neq (.t 36) (.t 38), none⟩])
 (.cond (.t 39)
  (.seq
  (.reg [⟨some 4, .mv (.c (.bool false)), none⟩])
  (.ret [4]))
  .skip))
 (.seq
 (.reg [⟨some 4, .mv (.c (.bool true)), none⟩])
 (.ret [4])))))))))⟩
structure H124 (Γ : Tab) : Prop where
  e124 : Γ 124 = some (.code f124)
  c151 : H151 Γ
  c152 : H152 Γ
  c153 : H153 Γ
  c154 : H154 Γ
  c155 : H155 Γ
/- loop.example/g00751/laws.szIndex -/
def f159 : DFn := ⟨2, false, [.t 4],
 (.seq
 (.reg [⟨some 2, .boxf (.t 0), none⟩,
 ⟨some 4, .mv (.c (.int .i64 0)), none⟩])
 (.seq
 (.reg [⟨some 5, .mv (.t 1), none⟩,
 ⟨some 6, .faddr 0 (.t 2), none⟩,
 ⟨some 7, .load none (.t 6), none⟩,
 ⟨some 8, .lens (.t 7), none⟩,
 ⟨some 9, .bin .sub (.t 5) (.t 8), none⟩,
 ⟨some 1, .mv (.t 9), none⟩])
 (.seq
 (.seq
 (.reg [⟨some 10, .mv (.t 1), none⟩,
 ⟨some 11, .bin .lss (.t 10) (.c (.int .i64 0)), none⟩])
 (.cond (.t 11)
  (.seq
  (.reg [⟨some 4, .mv (.c (.int .i64 (-1))), none⟩])
  (.ret [4]))
  .skip))
 (.seq
 (.reg [⟨some 12, .mv (.t 1), none⟩,
 ⟨some 13, .faddr 1 (.t 2), none⟩,
 ⟨some 14, .load none (.t 13), none⟩,
 ⟨some 15, .lens (.t 14), none⟩,
 ⟨some 16, .bin .sub (.t 12) (.t 15), none⟩,
 ⟨some 1, .mv (.t 16), none⟩])
 (.seq
 (.seq
 (.reg [⟨some 17, .mv (.t 1), none⟩,
 ⟨some 18, .bin .lss (.t 17) (.c (.int .i64 0)), none⟩])
 (.cond (.t 18)
  (.seq
  (.reg [⟨some 4, .mv (.c (.int .i64 (-1))), none⟩])
  (.ret [4]))
  .skip))
 (.seq
 (.reg [⟨some 19, .faddr 2 (.t 2), none⟩,
 ⟨some 20, .load none (.t 19), none⟩,
 ⟨some 21, .mv (.t 1), none⟩,
 ⟨some 22, .call 48 .frz [(.t 20), (.t 21)], none⟩,
 ⟨some 1, .mv (.t 22), none⟩])
 (.seq
 (.seq
 (.reg [⟨some 23, .mv (.t 1), none⟩,
 ⟨some 24, .bin .lss (.t 23) (.c (.int .i64 0)), none⟩])
 (.cond (.t 24)
  (.seq
  (.reg [⟨some 4, .mv (.c (.int .i64 (-1))), none⟩])
  (.ret [4]))
  .skip))
 (.seq
 (.reg [⟨some 25, .mv (.t 1), none⟩,
 ⟨some 4, .mv (.t 25), none⟩])
 (.ret [4])))))))))⟩
structure H159 (Γ : Tab) : Prop where
  e159 : Γ 159 = some (.code f159)
  c48 : H48 Γ
/- loop.example/g00751/laws.szIndexS -/
def f128l1 : DCode :=
 (.seq
 (.seq
 (.reg [⟨some 12, .mv (.t 5), none⟩,
 ⟨some 13, .mv (.t 0), none⟩,
 ⟨some 14, .len (.t 13), none⟩,
 ⟨some 15, .bin .lss (.t 12) (.t 14), none⟩])
 (.cond (.t 15)
  .skip
  (.exit 0)))
 (.seq
 (.block 1 [0, 1, 5]
  (.seq
  (.reg [⟨some 18, .mv (.t 0), none⟩,
  ⟨some 19, .mv (.t 5), none⟩,
  ⟨some 20, .iaddr 4 (.t 18) (.t 19), none⟩,
  ⟨some 21, .load (some 4) (.t 20), none⟩,
  ⟨some 22, .mv (.t 1), none⟩,
  ⟨some 23, .call 159 .frz [(.t 21), (.t 22)], none⟩,
  ⟨some 1, .mv (.t 23), none⟩])
  (.seq
  (.reg [⟨some 24, .mv (.t 1), none⟩,
  ⟨some 25, .bin .lss (.t 24) (.c (.int .i64 0)), none⟩])
  (.cond (.t 25)
   (.seq
   (.reg [⟨some 4, .mv (.c (.int .i64 (-1))), none⟩])
   (.ret [4]))
   .skip))))
 (.reg [⟨some 16, .mv (.t 5), none⟩,
 ⟨some 17, .bin .add (.t 16) (.c (.int .i64 1)), none⟩,
 ⟨some 5, .mv (.t 17), none⟩])))
def f128L1 : DCode := .loop [0, 1, 5] none f128l1
def f128 : DFn := ⟨2, false, [.t 4],
 (.seq
 (.reg [⟨some 4, .mv (.c (.int .i64 0)), none⟩])
 (.seq
 (.reg [⟨some 6, .mv (.t 1), none⟩,
 ⟨some 7, .mv (.t 0), none⟩,
 ⟨some 8, .len (.t 7), none⟩,
 ⟨some 9, .bin .sub (.t 6) (.t 8), none⟩,
 ⟨some 1, .mv (.t 9), none⟩])
 (.seq
 (.seq
 (.reg [⟨some 10, .mv (.t 1), none⟩,
 ⟨some 11, .bin .lss (.t 10) (.c (.int .i64 0)), none⟩])
 (.cond (.t 11)
  (.seq
  (.reg [⟨some 4, .mv (.c (.int .i64 (-1))), none⟩])
  (.ret [4]))
  .skip))
 (.seq
 (.seq
 (.reg [⟨some 5, .mv (.c (.int .i64 0)), none⟩])
 (.block 0 [1]
  f128L1))
 (.seq
 (.reg [⟨some 26, .mv (.t 1), none⟩,
 ⟨some 4, .mv (.t 26), none⟩])
 (.ret [4]))))))⟩
structure H128 (Γ : Tab) : Prop where
  e128 : Γ 128 = some (.code f128)
  c159 : H159 Γ
/- loop.example/g00751/laws.szLabels -/
def f156 : DFn := ⟨2, false, [.t 4],
 (.seq
 (.reg [⟨some 2, .boxf (.t 0), none⟩,
 ⟨some 4, .mv (.c (.int .i64 0)), none⟩])
 (.seq
 (.reg [⟨some 5, .mv (.t 1), none⟩,
 ⟨some 6, .faddr 0 (.t 2), none⟩,
 ⟨some 7, .load none (.t 6), none⟩,
 ⟨some 8, .lens (.t 7), none⟩,
 ⟨some 9, .bin .sub (.t 5) (.t 8), none⟩,
 ⟨some 1, .mv (.t 9), none⟩])
 (.seq
 (.seq
 (.reg [⟨some 10, .mv (.t 1), none⟩,
 ⟨some 11, .bin .lss (.t 10) (.c (.int .i64 0)), none⟩])
 (.cond (.t 11)
  (.seq
  (.reg [⟨some 4, .mv (.c (.int .i64 (-1))), none⟩])
  (.ret [4]))
  .skip))
 (.seq
 (.reg [⟨some 12, .faddr 1 (.t 2), none⟩,
 ⟨some 13, .load none (.t 12), none⟩,
 ⟨some 14, .mv (.t 1), none⟩,
 ⟨some 15, .call 48 .frz [(.t 13), (.t 14)], none⟩,
 ⟨some 1, .mv (.t 15), none⟩])
 (.seq
 (.seq
 (.reg [⟨some 16, .mv (.t 1), none⟩,
 ⟨some 17, .bin .lss (.t 16) (.c (.int .i64 0)), none⟩])
 (.cond (.t 17)
  (.seq
  (.reg [⟨some 4, .mv (.c (.int .i64 (-1))), none⟩])
  (.ret [4]))
  .skip))
 (.seq
 (.reg [⟨some 18, .mv (.t 1), none⟩,
 ⟨some 4, .mv (.t 18), none⟩])
 (.ret [4])))))))⟩
structure H156 (Γ : Tab) : Prop where
  e156 : Γ 156 = some (.code f156)
  c48 : H48 Γ
/- loop.example/g00751/laws.szLabelsS -/
def f129l1 : DCode :=
 (.seq
 (.seq
 (.reg [⟨some 12, .mv (.t 5), none⟩,
 ⟨some 13, .mv (.t 0), none⟩,
 ⟨some 14, .len (.t 13), none⟩,
 ⟨some 15, .bin .lss (.t 12) (.t 14), none⟩])
 (.cond (.t 15)
  .skip
  (.exit 0)))
 (.seq
 (.block 1 [0, 1, 5]
  (.seq
  (.reg [⟨some 18, .mv (.t 0), none⟩,
  ⟨some 19, .mv (.t 5), none⟩,
  ⟨some 20, .iaddr 2 (.t 18) (.t 19), none⟩,
  ⟨some 21, .load (some 2) (.t 20), none⟩,
  ⟨some 22, .mv (.t 1), none⟩,
  ⟨some 23, .call 156 .frz [(.t 21), (.t 22)], none⟩,
  ⟨some 1, .mv (.t 23), none⟩])
  (.seq
  (.reg [⟨some 24, .mv (.t 1), none⟩,
  ⟨some 25, .bin .lss (.t 24) (.c (.int .i64 0)), none⟩])
  (.cond (.t 25)
   (.seq
   (.reg [⟨some 4, .mv (.c (.int .i64 (-1))), none⟩])
   (.ret [4]))
   .skip))))
 (.reg [⟨some 16, .mv (.t 5), none⟩,
 ⟨some 17, .bin .add (.t 16) (.c (.int .i64 1)), none⟩,
 ⟨some 5, .mv (.t 17), none⟩])))
def f129L1 : DCode := .loop [0, 1, 5] none f129l1
def f129 : DFn := ⟨2, false, [.t 4],
 (.seq
 (.reg [⟨some 4, .mv (.c (.int .i64 0)), none⟩])
 (.seq
 (.reg [⟨some 6, .mv (.t 1), none⟩,
 ⟨some 7, .mv (.t 0), none⟩,
 ⟨some 8, .len (.t 7), none⟩,
 ⟨some 9, .bin .sub (.t 6) (.t 8), none⟩,
 ⟨some 1, .mv (.t 9), none⟩])
 (.seq
 (.seq
 (.reg [⟨some 10, .mv (.t 1), none⟩,
 ⟨some 11, .bin .lss (.t 10) (.c (.int .i64 0)), none⟩])
 (.cond (.t 11)
  (.seq
  (.reg [⟨some 4, .mv (.c (.int .i64 (-1))), none⟩])
  (.ret [4]))
  .skip))
 (.seq
 (.seq
 (.reg [⟨some 5, .mv (.c (.int .i64 0)), none⟩])
 (.block 0 [1]
  f129L1))
 (.seq
 (.reg [⟨some 26, .mv (.t 1), none⟩,
 ⟨some 4, .mv (.t 26), none⟩])
 (.ret [4]))))))⟩
structure H129 (Γ : Tab) : Prop where
  e129 : Γ 129 = some (.code f129)
  c156 : H156 Γ
/- loop.example/g00751/laws.szSeq -/
def f157 : DFn := ⟨2, false, [.t 4],
 (.seq
 (.reg [⟨some 2, .boxf (.t 0), none⟩,
 ⟨some 4, .mv (.c (.int .i64 0)), none⟩])
 (.seq
 (.reg [⟨some 5, .mv (.t 1), none⟩,
 ⟨some 6, .faddr 0 (.t 2), none⟩,
 ⟨some 7, .load none (.t 6), none⟩,
 ⟨some 8, .lens (.t 7), none⟩,
 ⟨some 9, .bin .sub (.t 5) (.t 8), none⟩,
 ⟨some 1, .mv (.t 9), none⟩])
 (.seq
 (.seq
 (.reg [⟨some 10, .mv (.t 1), none⟩,
 ⟨some 11, .bin .lss (.t 10) (.c (.int .i64 0)), none⟩])
 (.cond (.t 11)
  (.seq
  (.reg [⟨some 4, .mv (.c (.int .i64 (-1))), none⟩])
  (.ret [4]))
  .skip))
 (.seq
 (.reg [⟨some 12, .mv (.t 1), none⟩,
 ⟨some 4, .mv (.t 12), none⟩])
 (.ret [4])))))⟩
structure H157 (Γ : Tab) : Prop where
  e157 : Γ 157 = some (.code f157)
/- loop.example/g00751/laws.szSeqS -/
def f130l1 : DCode :=
 (.seq
 (.seq
 (.reg [⟨some 12, .mv (.t 5), none⟩,
 ⟨some 13, .mv (.t 0), none⟩,
 ⟨some 14, .len (.t 13), none⟩,
 ⟨some 15, .bin .lss (.t 12) (.t 14), none⟩])
 (.cond (.t 15)
  .skip
  (.exit 0)))
 (.seq
 (.block 1 [0, 1, 5]
  (.seq
  (.reg [⟨some 18, .mv (.t 0), none⟩,
  ⟨some 19, .mv (.t 5), none⟩,
  ⟨some 20, .iaddr 2 (.t 18) (.t 19), none⟩,
  ⟨some 21, .load (some 2) (.t 20), none⟩,
  ⟨some 22, .mv (.t 1), none⟩,
  ⟨some 23, .call 157 .frz [(.t 21), (.t 22)], none⟩,
  ⟨some 1, .mv (.t 23), none⟩])
  (.seq
  (.reg [⟨some 24, .mv (.t 1), none⟩,
  ⟨some 25, .bin .lss (.t 24) (.c (.int .i64 0)), none⟩])
  (.cond (.t 25)
   (.seq
   (.reg [⟨some 4, .mv (.c (.int .i64 (-1))), none⟩])
   (.ret [4]))
   .skip))))
 (.reg [⟨some 16, .mv (.t 5), none⟩,
 ⟨some 17, .bin .add (.t 16) (.c (.int .i64 1)), none⟩,
 ⟨some 5, .mv (.t 17), none⟩])))
def f130L1 : DCode := .loop [0, 1, 5] none f130l1
def f130 : DFn := ⟨2, false, [.t 4],
 (.seq
 (.reg [⟨some 4, .mv (.c (.int .i64 0)), none⟩])
 (.seq
 (.reg [⟨some 6, .mv (.t 1), none⟩,
 ⟨some 7, .mv (.t 0), none⟩,
 ⟨some 8, .len (.t 7), none⟩,
 ⟨some 9, .bin .sub (.t 6) (.t 8), none⟩,
 ⟨some 1, .mv (.t 9), none⟩])
 (.seq
 (.seq
 (.reg [⟨some 10, .mv (.t 1), none⟩,
 ⟨some 11, .bin .lss (.t 10) (.c (.int .i64 0)), none⟩])
 (.cond (.t 11)
  (.seq
  (.reg [⟨some 4, .mv (.c (.int .i64 (-1))), none⟩])
  (.ret [4]))
  .skip))
 (.seq
 (.seq
 (.reg [⟨some 5, .mv (.c (.int .i64 0)), none⟩])
 (.block 0 [1]
  f130L1))
 (.seq
 (.reg [⟨some 26, .mv (.t 1), none⟩,
 ⟨some 4, .mv (.t 26), none⟩])
 (.ret [4]))))))⟩
structure H130 (Γ : Tab) : Prop where
  e130 : Γ 130 = some (.code f130)
  c157 : H157 Γ
/- loop.example/g00751/laws.szTable -/
def f158 : DFn := ⟨2, false, [.t 4],
 (.seq
 (.reg [⟨some 2, .boxf (.t 0), none⟩,
 ⟨some 4, .mv (.c (.int .i64 0)), none⟩])
 (.seq
 (.reg [⟨some 5, .mv (.t 1), none⟩,
 ⟨some 6, .faddr 0 (.t 2), none⟩,
 ⟨some 7, .load none (.t 6), none⟩,
 ⟨some 8, .lens (.t 7), none⟩,
 ⟨some 9, .bin .sub (.t 5) (.t 8), none⟩,
 ⟨some 1, .mv (.t 9), none⟩])
 (.seq
 (.seq
 (.reg [⟨some 10, .mv (.t 1), none⟩,
 ⟨some 11, .bin .lss (.t 10) (.c (.int .i64 0)), none⟩])
 (.cond (.t 11)
  (.seq
  (.reg [⟨some 4, .mv (.c (.int .i64 (-1))), none⟩])
  (.ret [4]))
  .skip))
 (.seq
 (.reg [⟨some 12, .faddr 1 (.t 2), none⟩,
 ⟨some 13, .load none (.t 12), none⟩,
 ⟨some 14, .mv (.t 1), none⟩,
 ⟨some 15, .call 45 .frz [(.t 13), (.t 14)], none⟩,
 ⟨some 1, .mv (.t 15), none⟩])
 (.seq
 (.seq
 (.reg [⟨some 16, .mv (.t 1), none⟩,
 ⟨some 17, .bin .lss (.t 16) (.c (.int .i64 0)), none⟩])
 (.cond (.t 17)
  (.seq
  (.reg [⟨some 4, .mv (.c (.int .i64 (-1))), none⟩])
  (.ret [4]))
  .skip))
 (.seq
 (.reg [⟨some 18, .faddr 2 (.t 2), none⟩,
 ⟨some 19, .load none (.t 18), none⟩,
 ⟨some 20, .mv (.t 1), none⟩,
 ⟨some 21, .call 47 .frz [(.t 19), (.t 20)], none⟩,
 ⟨some 1, .mv (.t 21), none⟩])
 (.seq
 (.seq
 (.reg [⟨some 22, .mv (.t 1), none⟩,
 ⟨some 23, .bin .lss (.t 22) (.c (.int .i64 0)), none⟩])
 (.cond (.t 23)
  (.seq
  (.reg [⟨some 4, .mv (.c (.int .i64 (-1))), none⟩])
  (.ret [4]))
  .skip))
 (.seq
 (.reg [⟨some 24, .mv (.t 1), none⟩,
 ⟨some 4, .mv (.t 24), none⟩])
 (.ret [4])))))))))⟩
structure H158 (Γ : Tab) : Prop where
  e158 : Γ 158 = some (.code f158)
  c45 : H45 Γ
  c47 : H47 Γ
/- loop.example/g00751/laws.szTableS -/
def f131l1 : DCode :=
 (.seq
 (.seq
 (.reg [⟨some 12, .mv (.t 5), none⟩,
 ⟨some 13, .mv (.t 0), none⟩,
 ⟨some 14, .len (.t 13), none⟩,
 ⟨some 15, .bin .lss (.t 12) (.t 14), none⟩])
 (.cond (.t 15)
  .skip
  (.exit 0)))
 (.seq
 (.block 1 [0, 1, 5]
  (.seq
  (.reg [⟨some 18, .mv (.t 0), none⟩,
  ⟨some 19, .mv (.t 5), none⟩,
  ⟨some 20, .iaddr 4 (.t 18) (.t 19), none⟩,
  ⟨some 21, .load (some 4) (.t 20), none⟩,
  ⟨some 22, .mv (.t 1), none⟩,
  ⟨some 23, .call 158 .frz [(.t 21), (.t 22)], none⟩,
  ⟨some 1, .mv (.t 23), none⟩])
  (.seq
  (.reg [⟨some 24, .mv (.t 1), none⟩,
  ⟨some 25, .bin .lss (.t 24) (.c (.int .i64 0)), none⟩])
  (.cond (.t 25)
   (.seq
   (.reg [⟨some 4, .mv (.c (.int .i64 (-1))), none⟩])
   (.ret [4]))
   .skip))))
 (.reg [⟨some 16, .mv (.t 5), none⟩,
 ⟨some 17, .bin .add (.t 16) (.c (.int .i64 1)), none⟩,
 ⟨some 5, .mv (.t 17), none⟩])))
def f131L1 : DCode := .loop [0, 1, 5] none f131l1
def f131 : DFn := ⟨2, false, [.t 4],
 (.seq
 (.reg [⟨some 4, .mv (.c (.int .i64 0)), none⟩])
 (.seq
 (.reg [⟨some 6, .mv (.t 1), none⟩,
 ⟨some 7, .mv (.t 0), none⟩,
 ⟨some 8, .len (.t 7), none⟩,
 ⟨some 9, .bin .sub (.t 6) (.t 8), none⟩,
 ⟨some 1, .mv (.t 9), none⟩])
 (.seq
 (.seq
 (.reg [⟨some 10, .mv (.t 1), none⟩,
 ⟨some 11, .bin .lss (.t 10) (.c (.int .i64 0)), none⟩])
 (.cond (.t 11)
  (.seq
  (.reg [⟨some 4, .mv (.c (.int .i64 (-1))), none⟩])
  (.ret [4]))
  .skip))
 (.seq
 (.seq
 (.reg [⟨some 5, .mv (.c (.int .i64 0)), none⟩])
 (.block 0 [1]
  f131L1))
 (.seq
 (.reg [⟨some 26, .mv (.t 1), none⟩,
 ⟨some 4, .mv (.t 26), none⟩])
 (.ret [4]))))))⟩
structure H131 (Γ : Tab) : Prop where
  e131 : Γ 131 = some (.code f131)
  c158 : H158 Γ
/- loop.example/g00751/laws.szView -/
def f160 : DFn := ⟨2, false, [.t 4],
 (.seq
 (.reg [⟨some 2, .boxf (.t 0), none⟩,
 ⟨some 4, .mv (.c (.int .i64 0)), none⟩])
 (.seq
 (.reg [⟨some 5, .mv (.t 1), none⟩,
 ⟨some 6, .faddr 0 (.t 2), none⟩,
 ⟨some 7, .load none (.t 6), none⟩,
 ⟨some 8, .lens (.t 7), none⟩,
 ⟨some 9, .bin .sub (.t 5) (.t 8), none⟩,
 ⟨some 1, .mv (.t 9), none⟩])
 (.seq
 (.seq
 (.reg [⟨some 10, .mv (.t 1), none⟩,
 ⟨some 11, .bin .lss (.t 10) (.c (.int .i64 0)), none⟩])
 (.cond (.t 11)
  (.seq
  (.reg [⟨some 4, .mv (.c (.int .i64 (-1))), none⟩])
  (.ret [4]))
  .skip))
 (.seq
 (.reg [⟨some 12, .mv (.t 1), none⟩,
 ⟨some 13, .faddr 1 (.t 2), none⟩,
 ⟨some 14, .load none (.t 13), none⟩,
 ⟨some 15, .lens (.t 14), none⟩,
 ⟨some 16, .bin .sub (.t 12) (.t 15), none⟩,
 ⟨some 1, .mv (.t 16), none⟩])
 (.seq
 (.seq
 (.reg [⟨some 17, .mv (.t 1), none⟩,
 ⟨some 18, .bin .lss (.t 17) (.c (.int .i64 0)), none⟩])
 (.cond (.t 18)
  (.seq
  (.reg [⟨some 4, .mv (.c (.int .i64 (-1))), none⟩])
  (.ret [4]))
  .skip))
 (.seq
 (.reg [⟨some 19, .faddr 2 (.t 2), none⟩,
 ⟨some 20, .load none (.t 19), none⟩,
 ⟨some 21, .mv (.t 1), none⟩,
 ⟨some 22, .call 48 .frz [(.t 20), (.t 21)], none⟩,
 ⟨some 1, .mv (.t 22), none⟩])
 (.seq
 (.seq
 (.reg [⟨some 23, .mv (.t 1), none⟩,
 ⟨some 24, .bin .lss (.t 23) (.c (.int .i64 0)), none⟩])
 (.cond (.t 24)
  (.seq
  (.reg [⟨some 4, .mv (.c (.int .i64 (-1))), none⟩])
  (.ret [4]))
  .skip))
 (.seq
 (.reg [⟨some 25, .faddr 3 (.t 2), none⟩,
 ⟨some 26, .load none (.t 25), none⟩,
 ⟨some 27, .mv (.t 1), none⟩,
 ⟨some 28, .call 46 .frz [(.t 26), (.t 27)], none⟩,
 ⟨some 1, .mv (.t 28), none⟩])
 (.seq
 (.seq
 (.reg [⟨some 29, .mv (.t 1), none⟩,
 ⟨some 30, .bin .lss (.t 29) (.c (.int .i64 0)), none⟩])
 (.cond (.t 30)
  (.seq
  (.reg [⟨some 4, .mv (.c (.int .i64 (-1))), none⟩])
  (.ret [4]))
  .skip))
 (.seq
 (.reg [⟨some 31, .mv (.t 1), none⟩,
 ⟨some 4, .mv (.t 31), none⟩])
 (.ret [4])))))))))))⟩
structure H160 (Γ : Tab) : Prop where
  e160 : Γ 160 = some (.code f160)
  c46 : H46 Γ
  c48 : H48 Γ
/- loop.example/g00751/laws.szViewS -/
def f132l1 : DCode :=
 (.seq
 (.seq
 (.reg [⟨some 12, .mv (.t 5), none⟩,
 ⟨some 13, .mv (.t 0), none⟩,
 ⟨some 14, .len (.t 13), none⟩,
 ⟨some 15, .bin .lss (.t 12) (.t 14), none⟩])
 (.cond (.t 15)
  .skip
  (.exit 0)))
 (.seq
 (.block 1 [0, 1, 5]
  (.seq
  (.reg [⟨some 18, .mv (.t 0), none⟩,
  ⟨some 19, .mv (.t 5), none⟩,
  ⟨some 20, .iaddr 4 (.t 18) (.t 19), none⟩,
  ⟨some 21, .load (some 4) (.t 20), none⟩,
  ⟨some 22, .mv (.t 1), none⟩,
  ⟨some 23, .call 160 .frz [(.t 21), (.t 22)], none⟩,
  ⟨some 1, .mv (.t 23), none⟩])
  (.seq
  (.reg [⟨some 24, .mv (.t 1), none⟩,
  ⟨some 25, .bin .lss (.t 24) (.c (.int .i64 0)), none⟩])
  (.cond (.t 25)
   (.seq
   (.reg [⟨some 4, .mv (.c (.int .i64 (-1))), none⟩])
   (.ret [4]))
   .skip))))
 (.reg [⟨some 16, .mv (.t 5), none⟩,
 ⟨some 17, .bin .add (.t 16) (.c (.int .i64 1)), none⟩,
 ⟨some 5, .mv (.t 17), none⟩])))
def f132L1 : DCode := .loop [0, 1, 5] none f132l1
def f132 : DFn := ⟨2, false, [.t 4],
 (.seq
 (.reg [⟨some 4, .mv (.c (.int .i64 0)), none⟩])
 (.seq
 (.reg [⟨some 6, .mv (.t 1), none⟩,
 ⟨some 7, .mv (.t 0), none⟩,
 ⟨some 8, .len (.t 7), none⟩,
 ⟨some 9, .bin .sub (.t 6) (.t 8), none⟩,
 ⟨some 1, .mv (.t 9), none⟩])
 (.seq
 (.seq
 (.reg [⟨some 10, .mv (.t 1), none⟩,
 ⟨some 11, .bin .lss (.t 10) (.c (.int .i64 0)), none⟩])
 (.cond (.t 11)
  (.seq
  (.reg [⟨some 4, .mv (.c (.int .i64 (-1))), none⟩])
  (.ret [4]))
  .skip))
 (.seq
 (.seq
 (.reg [⟨some 5, .mv (.c (.int .i64 0)), none⟩])
 (.block 0 [1]
  f132L1))
 (.seq
 (.reg [⟨some 26, .mv (.t 1), none⟩,
 ⟨some 4, .mv (.t 26), none⟩])
 (.ret [4]))))))⟩
structure H132 (Γ : Tab) : Prop where
  e132 : Γ 132 = some (.code f132)
  c160 : H160 Γ
/- loop.example/g00751/laws.szPlan -/
def f125 : DFn := ⟨2, false, [.t 4],
 (.seq
 (.reg [⟨some 2, .boxf (.t 0), none⟩,
 ⟨some 4, .mv (.c (.int .i64 0)), none⟩])
 (.seq
 (.reg [⟨some 5, .faddr 0 (.t 2), none⟩,
 ⟨some 6, .load none (.t 5), none⟩,
 ⟨some 7, .mv (.t 1), none⟩,
 ⟨some 8, .call 129 .frz [(.t 6), (.t 7)], none⟩,
 ⟨some 1, .mv (.t 8), none⟩])
 (.seq
 (.seq
 (.reg [⟨some 9, .mv (.t 1), none⟩,
 ⟨some 10, .bin .lss (.t 9) (.c (.int .i64 0)), none⟩])
 (.cond (.t 10)
  (.seq
  (.reg [⟨some 4, .mv (.c (.int .i64 (-1))), none⟩])
  (.ret [4]))
  .skip))
 (.seq
 (.reg [⟨some 11, .faddr 1 (.t 2), none⟩,
 ⟨some 12, .load none (.t 11), none⟩,
 ⟨some 13, .mv (.t 1), none⟩,
 ⟨some 14, .call 130 .frz [(.t 12), (.t 13)], none⟩,
 ⟨some 1, .mv (.t 14), none⟩])
 (.seq
 (.seq
 (.reg [⟨some 15, .mv (.t 1), none⟩,
 ⟨some 16, .bin .lss (.t 15) (.c (.int .i64 0)), none⟩])
 (.cond (.t 16)
  (.seq
  (.reg [⟨some 4, .mv (.c (.int .i64 (-1))), none⟩])
  (.ret [4]))
  .skip))
 (.seq
 (.reg [⟨some 17, .faddr 2 (.t 2), none⟩,
 ⟨some 18, .load none (.t 17), none⟩,
 ⟨some 19, .mv (.t 1), none⟩,
 ⟨some 20, .call 131 .frz [(.t 18), (.t 19)], none⟩,
 ⟨some 1, .mv (.t 20), none⟩])
 (.seq
 (.seq
 (.reg [⟨some 21, .mv (.t 1), none⟩,
 ⟨some 22, .bin .lss (.t 21) (.c (.int .i64 0)), none⟩])
 (.cond (.t 22)
  (.seq
  (.reg [⟨some 4, .mv (.c (.int .i64 (-1))), none⟩])
  (.ret [4]))
  .skip))
 (.seq
 (.reg [⟨some 23, .faddr 3 (.t 2), none⟩,
 ⟨some 24, .load none (.t 23), none⟩,
 ⟨some 25, .mv (.t 1), none⟩,
 ⟨some 26, .call 128 .frz [(.t 24), (.t 25)], none⟩,
 ⟨some 1, .mv (.t 26), none⟩])
 (.seq
 (.seq
 (.reg [⟨some 27, .mv (.t 1), none⟩,
 ⟨some 28, .bin .lss (.t 27) (.c (.int .i64 0)), none⟩])
 (.cond (.t 28)
  (.seq
  (.reg [⟨some 4, .mv (.c (.int .i64 (-1))), none⟩])
  (.ret [4]))
  .skip))
 (.seq
 (.reg [⟨some 29, .faddr 4 (.t 2), none⟩,
 ⟨some 30, .load none (.t 29), none⟩,
 ⟨some 31, .mv (.t 1), none⟩,
 ⟨some 32, .call 132 .frz [(.t 30), (.t 31)], none⟩,
 ⟨some 1, .mv (.t 32), none⟩])
 (.seq
 (.seq
 (.reg [⟨some 33, .mv (.t 1), none⟩,
 ⟨some 34, .bin .lss (.t 33) (.c (.int .i64 0)), none⟩])
 (.cond (.t 34)
  (.seq
  (.reg [⟨some 4, .mv (.c (.int .i64 (-1))), none⟩])
  (.ret [4]))
  .skip))
 (.seq
 (.reg [⟨some 35, .mv (.t 1), none⟩,
 ⟨some 4, .mv (.t 35), none⟩])
 (.ret [4])))))))))))))⟩
structure H125 (Γ : Tab) : Prop where
  e125 : Γ 125 = some (.code f125)
  c128 : H128 Γ
  c129 : H129 Γ
  c130 : H130 Γ
  c131 : H131 Γ
  c132 : H132 Γ
/- loop.example/g00751/laws.toIndex -/
def f167 : DFn := ⟨1, false, [.cell 2 (some 4)],
 (.seq
 (.reg [⟨some 1, .boxf (.t 0), none⟩,
 ⟨some 2, .alloc [.str [], .str [], .nils, .bool false], none⟩])
 (.seq
 (.reg [⟨some 3, .alloc [.str [], .str [], .nils, .bool false], none⟩])
 (.seq
 (.reg [⟨some 4, .faddr 0 (.t 1), none⟩,
 ⟨some 5, .load none (.t 4), none⟩,
 ⟨some 6, .faddr 0 (.t 3), none⟩,
 ⟨none, .store 1 (.t 6) (.t 5), none⟩])
 (.seq
 (.reg [⟨some 7, .faddr 1 (.t 1), none⟩,
 ⟨some 8, .load none (.t 7), none⟩,
 ⟨some 9, .faddr 1 (.t 3), none⟩,
 ⟨none, .store 1 (.t 9) (.t 8), none⟩])
 (.seq
 (.reg [⟨some 10, .faddr 2 (.t 1), none⟩,
 ⟨some 11, .load none (.t 10), none⟩,
 ⟨some 12, .call 55 .frz [(.t 11)], none⟩,
 ⟨some 13, .faddr 2 (.t 3), none⟩,
 ⟨none, .store 1 (.t 13) (.t 12), none⟩])
 (.seq
 (.reg [⟨some 14, .faddr 3 (.t 1), none⟩,
 ⟨some 15, .load none (.t 14), none⟩,
 ⟨some 16, .faddr 3 (.t 3), none⟩,
 ⟨none, .store 1 (.t 16) (.t 15), none⟩])
 (.seq
 (.reg [⟨some 17, .load (some 4) (.t 3), none⟩,
 ⟨none, .store 4 (.t 2) (.t 17), none⟩])
 (.ret [2]))))))))⟩
structure H167 (Γ : Tab) : Prop where
  e167 : Γ 167 = some (.code f167)
  c55 : H55 Γ
/- loop.example/g00751/laws.toIndexS -/
def f137l1 : DCode :=
 (.seq
 (.seq
 (.reg [⟨some 8, .mv (.t 4), none⟩,
 ⟨some 9, .mv (.t 0), none⟩,
 ⟨some 10, .len (.t 9), none⟩,
 ⟨some 11, .bin .lss (.t 8) (.t 10), none⟩])
 (.cond (.t 11)
  .skip
  (.exit 0)))
 (.seq
 (.block 1 [0, 3, 4]
  (.reg [⟨some 14, .mv (.t 3), none⟩,
  ⟨some 15, .mv (.t 4), none⟩,
  ⟨some 16, .mv (.t 0), none⟩,
  ⟨some 17, .mv (.t 4), none⟩,
  ⟨some 18, .iaddr 4 (.t 16) (.t 17), none⟩,
  ⟨some 19, .load (some 4) (.t 18), none⟩,
  ⟨some 20, .call 167 .frz [(.t 19)], none⟩,
  ⟨some 21, .iaddr 4 (.t 14) (.t 15), none⟩,
  ⟨none, .store 4 (.t 21) (.t 20), none⟩]))
 (.reg [⟨some 12, .mv (.t 4), none⟩,
 ⟨some 13, .bin .add (.t 12) (.c (.int .i64 1)), none⟩,
 ⟨some 4, .mv (.t 13), none⟩])))
def f137L1 : DCode := .loop [0, 3, 4] none f137l1
def f137 : DFn := ⟨1, false, [.t 2],
 (.seq
 (.reg [⟨some 2, .mv (.c .nils), none⟩])
 (.seq
 (.reg [⟨some 5, .mv (.t 0), none⟩,
 ⟨some 6, .len (.t 5), none⟩,
 ⟨some 7, .mkSl 4 64 (.agg [.str [], .str [], .nils, .bool false]) (.t 6) (.t 6), none⟩,
 ⟨some 3, .mv (.t 7), none⟩])
 (.seq
 (.seq
 (.reg [⟨some 4, .mv (.c (.int .i64 0)), none⟩])
 (.block 0 [3]
  f137L1))
 (.seq
 (.reg [⟨some 22, .mv (.t 3), none⟩,
 ⟨some 2, .mv (.t 22), none⟩])
 (.ret [2])))))⟩
structure H137 (Γ : Tab) : Prop where
  e137 : Γ 137 = some (.code f137)
  c167 : H167 Γ
/- loop.example/g00751/laws.toLabels -/
def f164 : DFn := ⟨1, false, [.cell 2 (some 2)],
 (.seq
 (.reg [⟨some 1, .boxf (.t 0), none⟩,
 ⟨some 2, .alloc [.str [], .nils], none⟩])
 (.seq
 (.reg [⟨some 3, .alloc [.str [], .nils], none⟩])
 (.seq
 (.reg [⟨some 4, .faddr 0 (.t 1), none⟩,
 ⟨some 5, .load none (.t 4), none⟩,
 ⟨some 6, .faddr 0 (.t 3), none⟩,
 ⟨none, .store 1 (.t 6) (.t 5), none⟩])
 (.seq
 (.reg [⟨some 7, .faddr 1 (.t 1), none⟩,
 ⟨some 8, .load none (.t 7), none⟩,
 ⟨some 9, .call 55 .frz [(.t 8)], none⟩,
 ⟨some 10, .faddr 1 (.t 3), none⟩,
 ⟨none, .store 1 (.t 10) (.t 9), none⟩])
 (.seq
 (.reg [⟨some 11, .load (some 2) (.t 3), none⟩,
 ⟨none, .store 2 (.t 2) (.t 11), none⟩])
 (.ret [2]))))))⟩
structure H164 (Γ : Tab) : Prop where
  e164 : Γ 164 = some (.code f164)
  c55 : H55 Γ
/- loop.example/g00751/laws.toLabelsS -/
def f138l1 : DCode :=
 (.seq
 (.seq
 (.reg [⟨some 8, .mv (.t 4), none⟩,
 ⟨some 9, .mv (.t 0), none⟩,
 ⟨some 10, .len (.t 9), none⟩,
 ⟨some 11, .bin .lss (.t 8) (.t 10), none⟩])
 (.cond (.t 11)
  .skip
  (.exit 0)))
 (.seq
 (.block 1 [0, 3, 4]
  (.reg [⟨some 14, .mv (.t 3), none⟩,
  ⟨some 15, .mv (.t 4), none⟩,
  ⟨some 16, .mv (.t 0), none⟩,
  ⟨some 17, .mv (.t 4), none⟩,
  ⟨some 18, .iaddr 2 (.t 16) (.t 17), none⟩,
  ⟨some 19, .load (some 2) (.t 18), none⟩,
  ⟨some 20, .call 164 .frz [(.t 19)], none⟩,
  ⟨some 21, .iaddr 2 (.t 14) (.t 15), none⟩,
  ⟨none, .store 2 (.t 21) (.t 20), none⟩]))
 (.reg [⟨some 12, .mv (.t 4), none⟩,
 ⟨some 13, .bin .add (.t 12) (.c (.int .i64 1)), none⟩,
 ⟨some 4, .mv (.t 13), none⟩])))
def f138L1 : DCode := .loop [0, 3, 4] none f138l1
def f138 : DFn := ⟨1, false, [.t 2],
 (.seq
 (.reg [⟨some 2, .mv (.c .nils), none⟩])
 (.seq
 (.reg [⟨some 5, .mv (.t 0), none⟩,
 ⟨some 6, .len (.t 5), none⟩,
 ⟨some 7, .mkSl 2 40 (.agg [.str [], .nils]) (.t 6) (.t 6), none⟩,
 ⟨some 3, .mv (.t 7), none⟩])
 (.seq
 (.seq
 (.reg [⟨some 4, .mv (.c (.int .i64 0)), none⟩])
 (.block 0 [3]
  f138L1))
 (.seq
 (.reg [⟨some 22, .mv (.t 3), none⟩,
 ⟨some 2, .mv (.t 22), none⟩])
 (.ret [2])))))⟩
structure H138 (Γ : Tab) : Prop where
  e138 : Γ 138 = some (.code f138)
  c164 : H164 Γ
/- loop.example/g00751/laws.toSeq -/
def f165 : DFn := ⟨1, false, [.cell 2 (some 2)],
 (.seq
 (.reg [⟨some 1, .boxf (.t 0), none⟩,
 ⟨some 2, .alloc [.str [], .int .i64 0], none⟩])
 (.seq
 (.reg [⟨some 3, .alloc [.str [], .int .i64 0], none⟩])
 (.seq
 (.reg [⟨some 4, .faddr 0 (.t 1), none⟩,
 ⟨some 5, .load none (.t 4), none⟩,
 ⟨some 6, .faddr 0 (.t 3), none⟩,
 ⟨none, .store 1 (.t 6) (.t 5), none⟩])
 (.seq
 (.reg [⟨some 7, .faddr 1 (.t 1), none⟩,
 ⟨some 8, .load none (.t 7), none⟩,
 ⟨some 9, .faddr 1 (.t 3), none⟩,
 ⟨none, .store 1 (.t 9) (.t 8), none⟩])
 (.seq
 (.reg [⟨some 10, .load (some 2) (.t 3), none⟩,
 ⟨none, .store 2 (.t 2) (.t 10), none⟩])
 (.ret [2]))))))⟩
structure H165 (Γ : Tab) : Prop where
  e165 : Γ 165 = some (.code f165)
/- loop.example/g00751/laws.toSeqS -/
def f139l1 : DCode :=
 (.seq
 (.seq
 (.reg [⟨some 8, .mv (.t 4), none⟩,
 ⟨some 9, .mv (.t 0), none⟩,
 ⟨some 10, .len (.t 9), none⟩,
 ⟨some 11, .bin .lss (.t 8) (.t 10), none⟩])
 (.cond (.t 11)
  .skip
  (.exit 0)))
 (.seq
 (.block 1 [0, 3, 4]
  (.reg [⟨some 14, .mv (.t 3), none⟩,
  ⟨some 15, .mv (.t 4), none⟩,
  ⟨some 16, .mv (.t 0), none⟩,
  ⟨some 17, .mv (.t 4), none⟩,
  ⟨some 18, .iaddr 2 (.t 16) (.t 17), none⟩,
  ⟨some 19, .load (some 2) (.t 18), none⟩,
  ⟨some 20, .call 165 .frz [(.t 19)], none⟩,
  ⟨some 21, .iaddr 2 (.t 14) (.t 15), none⟩,
  ⟨none, .store 2 (.t 21) (.t 20), none⟩]))
 (.reg [⟨some 12, .mv (.t 4), none⟩,
 ⟨some 13, .bin .add (.t 12) (.c (.int .i64 1)), none⟩,
 ⟨some 4, .mv (.t 13), none⟩])))
def f139L1 : DCode := .loop [0, 3, 4] none f139l1
def f139 : DFn := ⟨1, false, [.t 2],
 (.seq
 (.reg [⟨some 2, .mv (.c .nils), none⟩])
 (.seq
 (.reg [⟨some 5, .mv (.t 0), none⟩,
 ⟨some 6, .len (.t 5), none⟩,
 ⟨some 7, .mkSl 2 24 (.agg [.str [], .int .i64 0]) (.t 6) (.t 6), none⟩,
 ⟨some 3, .mv (.t 7), none⟩])
 (.seq
 (.seq
 (.reg [⟨some 4, .mv (.c (.int .i64 0)), none⟩])
 (.block 0 [3]
  f139L1))
 (.seq
 (.reg [⟨some 22, .mv (.t 3), none⟩,
 ⟨some 2, .mv (.t 22), none⟩])
 (.ret [2])))))⟩
structure H139 (Γ : Tab) : Prop where
  e139 : Γ 139 = some (.code f139)
  c165 : H165 Γ
/- loop.example/g00751/laws.toTable -/
def f166 : DFn := ⟨1, false, [.cell 2 (some 4)],
 (.seq
 (.reg [⟨some 1, .boxf (.t 0), none⟩,
 ⟨some 2, .alloc [.str [], .nils, .nils, .int .i64 0], none⟩])
 (.seq
 (.reg [⟨some 3, .alloc [.str [], .nils, .nils, .int .i64 0], none⟩])
 (.seq
 (.reg [⟨some 4, .faddr 0 (.t 1), none⟩,
 ⟨some 5, .load none (.t 4), none⟩,
 ⟨some 6, .faddr 0 (.t 3), none⟩,
 ⟨none, .store 1 (.t 6) (.t 5), none⟩])
 (.seq
 (.reg [⟨some 7, .faddr 1 (.t 1), none⟩,
 ⟨some 8, .load none (.t 7), none⟩,
 ⟨some 9, .call 52 .frz [(.t 8)], none⟩,
 ⟨some 10, .faddr 1 (.t 3), none⟩,
 ⟨none, .store 1 (.t 10) (.t 9), none⟩])
 (.seq
 (.reg [⟨some 11, .faddr 2 (.t 1), none⟩,
 ⟨some 12, .load none (.t 11), none⟩,
 ⟨some 13, .call 54 .frz [(.t 12)], none⟩,
 ⟨some 14, .faddr 2 (.t 3), none⟩,
 ⟨none, .store 1 (.t 14) (.t 13), none⟩])
 (.seq
 (.reg [⟨some 15, .faddr 3 (.t 1), none⟩,
 ⟨some 16, .load none (.t 15), none⟩,
 ⟨some 17, .faddr 3 (.t 3), none⟩,
 ⟨none, .store 1 (.t 17) (.t 16), none⟩])
 (.seq
 (.reg [⟨some 18, .load (some 4) (.t 3), none⟩,
 ⟨none, .store 4 (.t 2) (.t 18), none⟩])
 (.ret [2]))))))))⟩
structure H166 (Γ : Tab) : Prop where
  e166 : Γ 166 = some (.code f166)
  c52 : H52 Γ
  c54 : H54 Γ
/- loop.example/g00751/laws.toTableS -/
def f140l1 : DCode :=
 (.seq
 (.seq
 (.reg [⟨some 8, .mv (.t 4), none⟩,
 ⟨some 9, .mv (.t 0), none⟩,
 ⟨some 10, .len (.t 9), none⟩,
 ⟨some 11, .bin .lss (.t 8) (.t 10), none⟩])
 (.cond (.t 11)
  .skip
  (.exit 0)))
 (.seq
 (.block 1 [0, 3, 4]
  (.reg [⟨some 14, .mv (.t 3), none⟩,
  ⟨some 15, .mv (.t 4), none⟩,
  ⟨some 16, .mv (.t 0), none⟩,
  ⟨some 17, .mv (.t 4), none⟩,
  ⟨some 18, .iaddr 4 (.t 16) (.t 17), none⟩,
  ⟨some 19, .load (some 4) (.t 18), none⟩,
  ⟨some 20, .call 166 .frz [(.t 19)], none⟩,
  ⟨some 21, .iaddr 4 (.t 14) (.t 15), none⟩,
  ⟨none, .store 4 (.t 21) (.t 20), none⟩]))
 (.reg [⟨some 12, .mv (.t 4), none⟩,
 ⟨some 13, .bin .add (.t 12) (.c (.int .i64 1)), none⟩,
 ⟨some 4, .mv (.t 13), none⟩])))
def f140L1 : DCode := .loop [0, 3, 4] none f140l1
def f140 : DFn := ⟨1, false, [.t 2],
 (.seq
 (.reg [⟨some 2, .mv (.c .nils), none⟩])
 (.seq
 (.reg [⟨some 5, .mv (.t 0), none⟩,
 ⟨some 6, .len (.t 5), none⟩,
 ⟨some 7, .mkSl 4 72 (.agg [.str [], .nils, .nils, .int .i64 0]) (.t 6) (.t 6), none⟩,
 ⟨some 3, .mv (.t 7), none⟩])
 (.seq
 (.seq
 (.reg [⟨some 4, .mv (.c (.int .i64 0)), none⟩])
 (.block 0 [3]
  f140L1))
 (.seq
 (.reg [⟨some 22, .mv (.t 3), none⟩,
 ⟨some 2, .mv (.t 22), none⟩])
 (.ret [2])))))⟩
structure H140 (Γ : Tab) : Prop where
  e140 : Γ 140 = some (.code f140)
  c166 : H166 Γ
/- loop.example/g00751/laws.toView -/
def f168 : DFn := ⟨1, false, [.cell 2 (some 4)],
 (.seq
 (.reg [⟨some 1, .boxf (.t 0), none⟩,
 ⟨some 2, .alloc [.str [], .str [], .nils, .nils], none⟩])
 (.seq
 (.reg [⟨some 3, .alloc [.str [], .str [], .nils, .nils], none⟩])
 (.seq
 (.reg [⟨some 4, .faddr 0 (.t 1), none⟩,
 ⟨some 5, .load none (.t 4), none⟩,
 ⟨some 6, .faddr 0 (.t 3), none⟩,
 ⟨none, .store 1 (.t 6) (.t 5), none⟩])
 (.seq
 (.reg [⟨some 7, .faddr 1 (.t 1), none⟩,
 ⟨some 8, .load none (.t 7), none⟩,
 ⟨some 9, .faddr 1 (.t 3), none⟩,
 ⟨none, .store 1 (.t 9) (.t 8), none⟩])
 (.seq
 (.reg [⟨some 10, .faddr 2 (.t 1), none⟩,
 ⟨some 11, .load none (.t 10), none⟩,
 ⟨some 12, .call 55 .frz [(.t 11)], none⟩,
 ⟨some 13, .faddr 2 (.t 3), none⟩,
 ⟨none, .store 1 (.t 13) (.t 12), none⟩])
 (.seq
 (.reg [⟨some 14, .faddr 3 (.t 1), none⟩,
 ⟨some 15, .load none (.t 14), none⟩,
 ⟨some 16, .call 53 .frz [(.t 15)], none⟩,
 ⟨some 17, .faddr 3 (.t 3), none⟩,
 ⟨none, .store 1 (.t 17) (.t 16), none⟩])
 (.seq
 (.reg [⟨some 18, .load (some 4) (.t 3), none⟩,
 ⟨none, .store 4 (.t 2) (.t 18), none⟩])
 (.ret [2]))))))))⟩
structure H168 (Γ : Tab) : Prop where
  e168 : Γ 168 = some (.code f168)
  c53 : H53 Γ
  c55 : H55 Γ
/- loop.example/g00751/laws.toViewS -/
def f141l1 : DCode :=
 (.seq
 (.seq
 (.reg [⟨some 8, .mv (.t 4), none⟩,
 ⟨some 9, .mv (.t 0), none⟩,
 ⟨some 10, .len (.t 9), none⟩,
 ⟨some 11, .bin .lss (.t 8) (.t 10), none⟩])
 (.cond (.t 11)
  .skip
  (.exit 0)))
 (.seq
 (.block 1 [0, 3, 4]
  (.reg [⟨some 14, .mv (.t 3), none⟩,
  ⟨some 15, .mv (.t 4), none⟩,
  ⟨some 16, .mv (.t 0), none⟩,
  ⟨some 17, .mv (.t 4), none⟩,
  ⟨some 18, .iaddr 4 (.t 16) (.t 17), none⟩,
  ⟨some 19, .load (some 4) (.t 18), none⟩,
  ⟨some 20, .call 168 .frz [(.t 19)], none⟩,
  ⟨some 21, .iaddr 4 (.t 14) (.t 15), none⟩,
  ⟨none, .store 4 (.t 21) (.t 20), none⟩]))
 (.reg [⟨some 12, .mv (.t 4), none⟩,
 ⟨some 13, .bin .add (.t 12) (.c (.int .i64 1)), none⟩,
 ⟨some 4, .mv (.t 13), none⟩])))
def f141L1 : DCode := .loop [0, 3, 4] none f141l1
def f141 : DFn := ⟨1, false, [.t 2],
 (.seq
 (.reg [⟨some 2, .mv (.c .nils), none⟩])
 (.seq
 (.reg [⟨some 5, .mv (.t 0), none⟩,
 ⟨some 6, .len (.t 5), none⟩,
 ⟨some 7, .mkSl 4 80 (.agg [.str [], .str [], .nils, .nils]) (.t 6) (.t 6), none⟩,
 ⟨some 3, .mv (.t 7), none⟩])
 (.seq
 (.seq
 (.reg [⟨some 4, .mv (.c (.int .i64 0)), none⟩])
 (.block 0 [3]
  f141L1))
 (.seq
 (.reg [⟨some 22, .mv (.t 3), none⟩,
 ⟨some 2, .mv (.t 22), none⟩])
 (.ret [2])))))⟩
structure H141 (Γ : Tab) : Prop where
  e141 : Γ 141 = some (.code f141)
  c168 : H168 Γ
/- loop.example/g00751/laws.toPlan -/
def f126 : DFn := ⟨1, false, [.cell 2 (some 6)],
 (.seq
 (.reg [⟨some 1, .boxf (.t 0), none⟩,
 ⟨some 2, .alloc [.nils, .nils, .nils, .nils, .nils, .int .i64 0], none⟩])
 (.seq
 (.reg [⟨some 3, .alloc [.nils, .nils, .nils, .nils, .nils, .int .i64 0], none⟩])
 (.seq
 (.reg [⟨some 4, .faddr 0 (.t 1), none⟩,
 ⟨some 5, .load none (.t 4), none⟩,
 ⟨some 6, .call 138 .frz [(.t 5)], none⟩,
 ⟨some 7, .faddr 0 (.t 3), none⟩,
 ⟨none, .store 1 (.t 7) (.t 6), none⟩])
 (.seq
 (.reg [⟨some 8, .faddr 1 (.t 1), none⟩,
 ⟨some 9, .load none (.t 8), none⟩,
 ⟨some 10, .call 139 .frz [(.t 9)], none⟩,
 ⟨some 11, .faddr 1 (.t 3), none⟩,
 ⟨none, .store 1 (.t 11) (.t 10), none⟩])
 (.seq
 (.reg [⟨some 12, .faddr 2 (.t 1), none⟩,
 ⟨some 13, .load none (.t 12), none⟩,
 ⟨some 14, .call 140 .frz [(.t 13)], none⟩,
 ⟨some 15, .faddr 2 (.t 3), none⟩,
 ⟨none, .store 1 (.t 15) (.t 14), none⟩])
 (.seq
 (.reg [⟨some 16, .faddr 3 (.t 1), none⟩,
 ⟨some 17, .load none (.t 16), none⟩,
 ⟨some 18, .call 137 .frz [(.t 17)], none⟩,
 ⟨some 19, .faddr 3 (.t 3), none⟩,
 ⟨none, .store 1 (.t 19) (.t 18), none⟩])
 (.seq
 (.reg [⟨some 20, .faddr 4 (.t 1), none⟩,
 ⟨some 21, .load none (.t 20), none⟩,
 ⟨some 22, .call 141 .frz [(.t 21)], none⟩,
 ⟨some 23, .faddr 4 (.t 3), none⟩,
 ⟨none, .store 1 (.t 23) (.t 22), none⟩])
 (.seq
 (.reg [⟨some 24, .faddr 5 (.t 1), none⟩,
 ⟨some 25, .load none (.t 24), none⟩,
 ⟨some 26, .faddr 5 (.t 3), none⟩,
 ⟨none, .store 1 (.t 26) (.t 25), none⟩])
 (.seq
 (.reg [⟨some 27, .load (some 6) (.t 3), none⟩,
 ⟨none, .store 6 (.t 2) (.t 27), none⟩])
 (.ret [2]))))))))))⟩
structure H126 (Γ : Tab) : Prop where
  e126 : Γ 126 = some (.code f126)
  c137 : H137 Γ
  c138 : H138 Γ
  c139 : H139 Γ
  c140 : H140 Γ
  c141 : H141 Γ
/- loop.example/g00751/spec.l06Same -/
def f133l1 : DCode :=
 (.seq
 (.seq
 (.reg [⟨some 11, .mv (.t 5), none⟩,
 ⟨some 12, .mv (.t 0), none⟩,
 ⟨some 13, .len (.t 12), none⟩,
 ⟨some 14, .bin .lss (.t 11) (.t 13), none⟩])
 (.cond (.t 14)
  .skip
  (.exit 0)))
 (.seq
 (.block 1 [0, 1, 5]
  (.seq
  (.any [false, false, false, false, false, false, false, false, false] [(1, ⟨some 17, .mv (.t 0), none⟩),
  (1, ⟨some 18, .mv (.t 5), none⟩),
  (1, ⟨some 19, .iaddr 1 (.t 17) (.t 18), none⟩),
  (1, ⟨some 20, .load none (.t 19), none⟩),
  (1, ⟨some 21, .mv (.t 1), none⟩),
  (1, ⟨some 22, .mv (.t 5), none⟩),
  (1, ⟨some 23, .iaddr 1 (.t 21) (.t 22), none⟩),
  (1, ⟨some 24, .load none (.t 23), none⟩),
  (1, ⟨some 25, .bin .neq (.t 20) (.t 24), none⟩)]
  [])
  (.cond (.t 25)
   (.seq
   (.reg [⟨some 4, .mv (.c (.bool false)), none⟩])
   (.ret [4]))
   .skip)))
 (.reg [⟨some 15, .mv (.t 5), none⟩,
 ⟨some 16, .bin .add (.t 15) (.c (.int .i64 1)), none⟩,
 ⟨some 5, .mv (.t 16), none⟩])))
def f133L1 : DCode := .loop [0, 1, 5] none f133l1
def f133 : DFn := ⟨2, false, [.t 4],
 (.seq
 (.reg [⟨some 4, .mv (.c (.bool false)), none⟩])
 (.seq
 (.seq
 (.reg [⟨some 6, .mv (.t 0), none⟩,
 ⟨some 7, .len (.t 6), none⟩,
 ⟨some 8, .mv (.t 1), none⟩,
 ⟨some 9, .len (.t 8), none⟩,
 ⟨some 10, .bin .neq (.t 7) (.t 9), none⟩])
 (.cond (.t 10)
  (.seq
  (.reg [⟨some 4, .mv (.c (.bool false)), none⟩])
  (.ret [4]))
  .skip))
 (.seq
 (.seq
 (.reg [⟨some 5, .mv (.c (.int .i64 0)), none⟩])
 (.block 0 []
  f133L1))
 (.seq
 (.reg [⟨some 4, .mv (.c (.bool true)), none⟩])
 (.ret [4])))))⟩
structure H133 (Γ : Tab) : Prop where
  e133 : Γ 133 = some (.code f133)
/- loop.example/g00751/spec.l12By -/
def f134 : DFn := ⟨2, false, [.t 4],
 (.seq
 (.reg [⟨some 2, .boxf (.t 0), none⟩,
 ⟨some 3, .boxf (.t 1), none⟩,
 ⟨some 4, .mv (.c (.bool false)), none⟩])
 (.seq
 (.reg [⟨some 5, .faddr 0 (.t 2), none⟩,
 ⟨some 6, .load none (.t 5), none⟩,
 ⟨some 7, .faddr 0 (.t 3), none⟩,
 ⟨some 8, .load none (.t 7), none⟩,
 ⟨some 9, .bin .eql (.t 6) (.t 8), none⟩,
 ⟨some 10, .mv (.t 9), none⟩,
 ⟨some 11, .faddr 1 (.t 2), some (10, true)⟩,
 ⟨some 12, .load none (.t 11), some (10, true)⟩,
 ⟨some 13, .faddr 1 (.t 3), some (10, true)⟩,
 ⟨some 14, .load none (.t 13), some (10, true)⟩,
 ⟨some 15, .bin .eql (.t 12) (.t 14), some (10, true)⟩,
 ⟨some 16, .pick (.t 10) (.t 15) (.c (.bool false)), none⟩,
 ⟨some 17, .mv (.t 16), none⟩,
 ⟨some 18, .faddr 2 (.t 2), some (17, true)⟩,
 ⟨some 19, .load none (.t 18), some (17, true)⟩,
 ⟨some 20, .faddr 2 (.t 3), some (17, true)⟩,
 ⟨some 21, .load none (.t 20), some (17, true)⟩,
 ⟨some 22, .call 133 .frz [(.t 19), (.t 21)], some (17, true)⟩,
 ⟨some 23, .pick (.t 17) (.t 22) (.c (.bool false)), none⟩,
 ⟨some 24, .mv (.t 23), none⟩,
 ⟨some 25, .faddr 3 (.t 2), some (24, true)⟩,
 ⟨some 26, .load none (.t 25), some (24, true)⟩,
 ⟨some 27, .faddr 3 (.t 3), some (24, true)⟩,
 ⟨some 28, .load none (.t 27), some (24, true)⟩,
 ⟨some 29, .binb .eql (.t 26) (.t 28), some (24, true)⟩,
 ⟨some 30, .pick (.t 24) (.t 29) (.c (.bool false)), none⟩,
 ⟨some 4, .mv (.t 30), none⟩])
 (.ret [4])))⟩
structure H134 (Γ : Tab) : Prop where
  e134 : Γ 134 = some (.code f134)
  c133 : H133 Γ
/- loop.example/g00751/spec.l12Exprs -/
def f163l1 : DCode :=
 (.seq
 (.seq
 (.reg [⟨some 11, .mv (.t 5), none⟩,
 ⟨some 12, .mv (.t 0), none⟩,
 ⟨some 13, .len (.t 12), none⟩,
 ⟨some 14, .bin .lss (.t 11) (.t 13), none⟩])
 (.cond (.t 14)
  .skip
  (.exit 0)))
 (.seq
 (.block 1 [0, 1, 5]
  (.seq
  (.any [false, false, false, false, false, false, false, false, false, false] [(1, ⟨some 17, .mv (.t 0), none⟩),
  (1, ⟨some 18, .mv (.t 5), none⟩),
  (1, ⟨some 19, .iaddr 4 (.t 17) (.t 18), none⟩),
  (1, ⟨some 20, .load (some 4) (.t 19), none⟩),
  (1, ⟨some 21, .mv (.t 1), none⟩),
  (1, ⟨some 22, .mv (.t 5), none⟩),
  (1, ⟨some 23, .iaddr 4 (.t 21) (.t 22), none⟩),
  (1, ⟨some 24, .load (some 4) (.t 23), none⟩),
  (1, ⟨some 25, .call 180 .frz [(.t 20), (.t 24)], none⟩),
  (1, ⟨some 26, .un .not (.t 25), none⟩)]
  [])
  (.cond (.t 26)
   (.seq
   (.reg [⟨some 4, .mv (.c (.bool false)), none⟩])
   (.ret [4]))
   .skip)))
 (.reg [⟨some 15, .mv (.t 5), none⟩,
 ⟨some 16, .bin .add (.t 15) (.c (.int .i64 1)), none⟩,
 ⟨some 5, .mv (.t 16), none⟩])))
def f163L1 : DCode := .loop [0, 1, 5] none f163l1
def f163 : DFn := ⟨2, false, [.t 4],
 (.seq
 (.reg [⟨some 4, .mv (.c (.bool false)), none⟩])
 (.seq
 (.seq
 (.reg [⟨some 6, .mv (.t 0), none⟩,
 ⟨some 7, .len (.t 6), none⟩,
 ⟨some 8, .mv (.t 1), none⟩,
 ⟨some 9, .len (.t 8), none⟩,
 ⟨some 10, .bin .neq (.t 7) (.t 9), none⟩])
 (.cond (.t 10)
  (.seq
  (.reg [⟨some 4, .mv (.c (.bool false)), none⟩])
  (.ret [4]))
  .skip))
 (.seq
 (.seq
 (.reg [⟨some 5, .mv (.c (.int .i64 0)), none⟩])
 (.block 0 []
  f163L1))
 (.seq
 (.reg [⟨some 4, .mv (.c (.bool true)), none⟩])
 (.ret [4])))))⟩
/- loop.example/g00751/spec.l12Expr -/
def f180 : DFn := ⟨2, false, [.t 4],
 (.seq
 (.reg [⟨some 2, .boxf (.t 0), none⟩,
 ⟨some 3, .boxf (.t 1), none⟩,
 ⟨some 4, .mv (.c (.bool false)), none⟩])
 (.seq
 (.seq
 (.reg [⟨some 5, .faddr 0 (.t 2), none⟩,
 ⟨some 6, .load none (.t 5), none⟩,
 ⟨some 7, .faddr 0 (.t 3), none⟩,
 ⟨some 8, .load none (.t 7), none⟩,
 ⟨some 9, .bin .neq (.t 6) (.t 8), none⟩,
 ⟨some 10, .mv (.t 9), none⟩,
 ⟨some 11, .faddr 1 (.t 2), some (10, false)⟩,
 ⟨some 12, .load none (.t 11), some (10, false)⟩,
 ⟨some 13, .faddr 1 (.t 3), some (10, false)⟩,
 ⟨some 14, .load none (.t 13), some (10, false)⟩,
 ⟨some 15, .bin .neq (.t 12) (.t 14), some (10, false)⟩,
 ⟨some 16, .pick (.t 10) (.c (.bool true)) (.t 15), none⟩,
 ⟨some 17, .mv (.t 16), none⟩,
 ⟨some 18, .faddr 2 (.t 2), some (17, false)⟩,
 ⟨some 19, .load none (.t 18), some (17, false)⟩,
 ⟨some 20, .faddr 2 (.t 3), some (17, false)⟩,
 ⟨some 21, .load none (.t 20), some (17, false)⟩,
 ⟨some 22, .bin .neq (.t 19) (.t 21), some (17, false)⟩,
 ⟨some 23, .pick (.t 17) (.c (.bool true)) (.t 22), none⟩])
 (.cond (.t 23)
  (.seq
  (.reg [⟨some 4, .mv (.c (.bool false)), none⟩])
  (.ret [4]))
  .skip))
 (.seq
 (.reg [⟨some 24, .faddr 3 (.t 2), none⟩,
 ⟨some 25, .load none (.t 24), none⟩,
 ⟨some 26, .faddr 3 (.t 3), none⟩,
 ⟨some 27, .load none (.t 26), none⟩,
 ⟨some 28, .call 163 .frz [(.t 25), (.t 27)], none⟩,
 ⟨some 4, .mv (.t 28), none⟩])
 (.ret [4]))))⟩
structure H163 (Γ : Tab) : Prop where
  e163 : Γ 163 = some (.code f163)
  e180 : Γ 180 = some (.code f180)
abbrev H180 := H163
/- loop.example/g00751/spec.l12Look -/
def f135 : DFn := ⟨2, false, [.t 4],
 (.seq
 (.reg [⟨some 2, .boxf (.t 0), none⟩,
 ⟨some 3, .boxf (.t 1), none⟩,
 ⟨some 4, .mv (.c (.bool false)), none⟩])
 (.seq
 (.reg [⟨some 5, .faddr 0 (.t 2), none⟩,
 ⟨some 6, .load none (.t 5), none⟩,
 ⟨some 7, .faddr 0 (.t 3), none⟩,
 ⟨some 8, .load none (.t 7), none⟩,
 ⟨some 9, .bin .eql (.t 6) (.t 8), none⟩,
 ⟨some 10, .mv (.t 9), none⟩,
 ⟨some 11, .faddr 1 (.t 2), some (10, true)⟩,
 ⟨some 12, .load none (.t 11), some (10, true)⟩,
 ⟨some 13, .faddr 1 (.t 3), some (10, true)⟩,
 ⟨some 14, .load none (.t 13), some (10, true)⟩,
 ⟨some 15, .bin .eql (.t 12) (.t 14), some (10, true)⟩,
 ⟨some 16, .pick (.t 10) (.t 15) (.c (.bool false)), none⟩,
 ⟨some 17, .mv (.t 16), none⟩,
 ⟨some 18, .faddr 2 (.t 2), some (17, true)⟩,
 ⟨some 19, .load none (.t 18), some (17, true)⟩,
 ⟨some 20, .faddr 2 (.t 3), some (17, true)⟩,
 ⟨some 21, .load none (.t 20), some (17, true)⟩,
 ⟨some 22, .call 133 .frz [(.t 19), (.t 21)], some (17, true)⟩,
 ⟨some 23, .pick (.t 17) (.t 22) (.c (.bool false)), none⟩,
 ⟨some 24, .mv (.t 23), none⟩,
 ⟨some 25, .faddr 3 (.t 2), some (24, true)⟩,
 ⟨some 26, .load none (.t 25), some (24, true)⟩,
 ⟨some 27, .faddr 3 (.t 3), some (24, true)⟩,
 ⟨some 28, .load none (.t 27), some (24, true)⟩,
 ⟨some 29, .call 163 .frz [(.t 26), (.t 28)], some (24, true)⟩,
 ⟨some 30, .pick (.t 24) (.t 29) (.c (.bool false)), none⟩,
 ⟨some 4, .mv (.t 30), none⟩])
 (.ret [4])))⟩
structure H135 (Γ : Tab) : Prop where
  e135 : Γ 135 = some (.code f135)
  c133 : H133 Γ
  c163 : H163 Γ
/- loop.example/g00751/spec.l12Col -/
def f161 : DFn := ⟨2, false, [.t 4],
 (.seq
 (.reg [⟨some 2, .boxf (.t 0), none⟩,
 ⟨some 3, .boxf (.t 1), none⟩,
 ⟨some 4, .mv (.c (.bool false)), none⟩])
 (.seq
 (.reg [⟨some 5, .faddr 0 (.t 2), none⟩,
 ⟨some 6, .load none (.t 5), none⟩,
 ⟨some 7, .faddr 0 (.t 3), none⟩,
 ⟨some 8, .load none (.t 7), none⟩,
 ⟨some 9, .bin .eql (.t 6) (.t 8), none⟩,
 ⟨some 10, .mv (.t 9), none⟩,
 ⟨some 11, .faddr 1 (.t 2), some (10, true)⟩,
 ⟨some 12, .load (some 3) (.t 11), some (10, true)⟩,
 ⟨some 13, .faddr 1 (.t 3), some (10, true)⟩,
 ⟨some 14, .load (some 3) (.t 13), some (10, true)⟩,
 ⟨some 15, .eqs false [.i, .i, .s] (.t 12) (.t 14), some (10, true)⟩,
 ⟨some 16, .pick (.t 10) (.t 15) (.c (.bool false)), none⟩,
 ⟨some 17, .mv (.t 16), none⟩,
 ⟨some 18, .faddr 4 (.t 2), some (17, true)⟩,
 ⟨some 19, .load none (.t 18), some (17, true)⟩,
 ⟨some 20, .faddr 4 (.t 3), some (17, true)⟩,
 ⟨some 21, .load none (.t 20), some (17, true)⟩,
 ⟨some 22, .binb .eql (.t 19) (.t 21), some (17, true)⟩,
 ⟨some 23, .pick (.t 17) (.t 22) (.c (.bool false)), none⟩,
 ⟨some 24, .mv (.t 23), none⟩,
 ⟨some 25, .faddr 5 (.t 2), some (24, true)⟩,
 ⟨some 26, .load none (.t 25), some (24, true)⟩,
 ⟨some 27, .faddr 5 (.t 3), some (24, true)⟩,
 ⟨some 28, .load none (.t 27), some (24, true)⟩,
 ⟨some 29, .call 163 .frz [(.t 26), (.t 28)], some (24, true)⟩,
 ⟨some 30, .pick (.t 24) (.t 29) (.c (.bool false)), none⟩,
 ⟨some 4, .mv (.t 30), none⟩])
 (.ret [4])))⟩
structure H161 (Γ : Tab) : Prop where
  e161 : Γ 161 = some (.code f161)
  c163 : H163 Γ
/- loop.example/g00751/spec.l12One -/
def f162 : DFn := ⟨2, false, [.t 4],
 (.seq
 (.reg [⟨some 2, .boxf (.t 0), none⟩,
 ⟨some 3, .boxf (.t 1), none⟩,
 ⟨some 4, .mv (.c (.bool false)), none⟩])
 (.seq
 (.reg [⟨some 5, .faddr 0 (.t 2), none⟩,
 ⟨some 6, .load none (.t 5), none⟩,
 ⟨some 7, .faddr 0 (.t 3), none⟩,
 ⟨some 8, .load none (.t 7), none⟩,
 ⟨some 9, .bin .eql (.t 6) (.t 8), none⟩,
 ⟨some 10, .mv (.t 9), none⟩,
 ⟨some 11, .faddr 1 (.t 2), some (10, true)⟩,
 ⟨some 12, .load none (.t 11), some (10, true)⟩,
 ⟨some 13, .faddr 1 (.t 3), some (10, true)⟩,
 ⟨some 14, .load none (.t 13), some (10, true)⟩,
 ⟨some 15, .bin .eql (.t 12) (.t 14), some (10, true)⟩,
 ⟨some 16, .pick (.t 10) (.t 15) (.c (.bool false)), none⟩,
 ⟨some 17, .mv (.t 16), none⟩,
 ⟨some 18, .faddr 2 (.t 2), some (17, true)⟩,
 ⟨some 19, .load none (.t 18), some (17, true)⟩,
 ⟨some 20, .faddr 2 (.t 3), some (17, true)⟩,
 ⟨some 21, .load none (.t 20), some (17, true)⟩,
 ⟨some 22, .call 133 .frz [(.t 19), (.t 21)], some (17, true)⟩,
 ⟨some 23, .pick (.t 17) (.t 22) (.c (.bool false)), none⟩,
 ⟨some 24, .mv (.t 23), none⟩,
 ⟨some 25, .faddr 3 (.t 2), some (24, true)⟩,
 ⟨some 26, .load none (.t 25), some (24, true)⟩,
 ⟨some 27, .faddr 3 (.t 3), some (24, true)⟩,
 ⟨some 28, .load none (.t 27), some (24, true)⟩,
 ⟨some 29, .call 163 .frz [(.t 26), (.t 28)], some (24, true)⟩,
 ⟨some 30, .pick (.t 24) (.t 29) (.c (.bool false)), none⟩,
 ⟨some 31, .mv (.t 30), none⟩,
 ⟨some 32, .faddr 4 (.t 2), some (31, true)⟩,
 ⟨some 33, .load none (.t 32), some (31, true)⟩,
 ⟨some 34, .faddr 4 (.t 3), some (31, true)⟩,
 ⟨some 35, .load none (.t 34), some (31, true)⟩,
 ⟨some 36, .bin .eql (.t 33) (.t 35), some (31, true)⟩,
 ⟨some 37, .pick (.t 31) (.t 36) (.c (.bool false)), none⟩,
 ⟨some 38, .mv (.t 37), none⟩,
 ⟨some 39, .faddr 5 (.t 2), some (38, true)⟩,
 ⟨some 40, .load none (.t 39), some (38, true)⟩,
 ⟨some 41, .faddr 5 (.t 3), some (38, true)⟩,
 ⟨some 42, .load none (.t 41), some (38, true)⟩,
 ⟨some 43, .call 133 .frz [(.t 40), (.t 42)], some (38, true)⟩,
 ⟨some 44, .pick (.t 38) (.t 43) (.c (.bool false)), none⟩,
 ⟨some 4, .mv (.t 44), none⟩])
 (.ret [4])))⟩
structure H162 (Γ : Tab) : Prop where
  e162 : Γ 162 = some (.code f162)
  c133 : H133 Γ
  c163 : H163 Γ
/- loop.example/g00751/spec.l12Same -/
def f136l1 : DCode :=
 (.seq
 (.seq
 (.reg [⟨some 30, .mv (.t 5), none⟩,
 ⟨some 31, .faddr 1 (.t 2), none⟩,
 ⟨some 32, .load none (.t 31), none⟩,
 ⟨some 33, .len (.t 32), none⟩,
 ⟨some 34, .bin .lss (.t 30) (.t 33), none⟩])
 (.cond (.t 34)
  .skip
  (.exit 0)))
 (.seq
 (.block 1 [2, 3, 5]
  (.seq
  (.any [false, false, false, false, false, false, false, false, false, false, false, false] [(1, ⟨some 37, .faddr 1 (.t 2), none⟩),
  (1, ⟨some 38, .load none (.t 37), none⟩),
  (1, ⟨some 39, .mv (.t 5), none⟩),
  (1, ⟨some 40, .iaddr 6 (.t 38) (.t 39), none⟩),
  (1, ⟨some 41, .load (some 6) (.t 40), none⟩),
  (1, ⟨some 42, .faddr 1 (.t 3), none⟩),
  (1, ⟨some 43, .load none (.t 42), none⟩),
  (1, ⟨some 44, .mv (.t 5), none⟩),
  (1, ⟨some 45, .iaddr 6 (.t 43) (.t 44), none⟩),
  (1, ⟨some 46, .load (some 6) (.t 45), none⟩),
  (1, ⟨some 47, .call 161 .frz [(.t 41), (.t 46)], none⟩),
  (1, ⟨some 48, .un .not (.t 47), none⟩)]
  [])
  (.cond (.t 48)
   (.seq
   (.reg [⟨some 4, .mv (.c (.bool false)), none⟩])
   (.ret [4]))
   .skip)))
 (.reg [⟨some 35, .mv (.t 5), none⟩,
 ⟨some 36, .bin .add (.t 35) (.c (.int .i64 1)), none⟩,
 ⟨some 5, .mv (.t 36), none⟩])))
def f136L1 : DCode := .loop [2, 3, 5] none f136l1
def f136l2 : DCode :=
 (.seq
 (.seq
 (.reg [⟨some 49, .mv (.t 6), none⟩,
 ⟨some 50, .faddr 2 (.t 2), none⟩,
 ⟨some 51, .load none (.t 50), none⟩,
 ⟨some 52, .len (.t 51), none⟩,
 ⟨some 53, .bin .lss (.t 49) (.t 52), none⟩])
 (.cond (.t 53)
  .skip
  (.exit 2)))
 (.seq
 (.block 3 [2, 3, 6]
  (.seq
  (.any [false, false, false, false, false, false, false, false, false, false, false, false] [(1, ⟨some 56, .faddr 2 (.t 2), none⟩),
  (1, ⟨some 57, .load none (.t 56), none⟩),
  (1, ⟨some 58, .mv (.t 6), none⟩),
  (1, ⟨some 59, .iaddr 6 (.t 57) (.t 58), none⟩),
  (1, ⟨some 60, .load (some 6) (.t 59), none⟩),
  (1, ⟨some 61, .faddr 2 (.t 3), none⟩),
  (1, ⟨some 62, .load none (.t 61), none⟩),
  (1, ⟨some 63, .mv (.t 6), none⟩),
  (1, ⟨some 64, .iaddr 6 (.t 62) (.t 63), none⟩),
  (1, ⟨some 65, .load (some 6) (.t 64), none⟩),
  (1, ⟨some 66, .call 162 .frz [(.t 60), (.t 65)], none⟩),
  (1, ⟨some 67, .un .not (.t 66), none⟩)]
  [])
  (.cond (.t 67)
   (.seq
   (.reg [⟨some 4, .mv (.c (.bool false)), none⟩])
   (.ret [4]))
   .skip)))
 (.reg [⟨some 54, .mv (.t 6), none⟩,
 ⟨some 55, .bin .add (.t 54) (.c (.int .i64 1)), none⟩,
 ⟨some 6, .mv (.t 55), none⟩])))
def f136L2 : DCode := .loop [2, 3, 6] none f136l2
def f136 : DFn := ⟨2, false, [.t 4],
 (.seq
 (.reg [⟨some 2, .boxf (.t 0), none⟩,
 ⟨some 3, .boxf (.t 1), none⟩,
 ⟨some 4, .mv (.c (.bool false)), none⟩])
 (.seq
 (.seq
 (.reg [⟨some 7, .faddr 0 (.t 2), none⟩,
 ⟨some 8, .load none (.t 7), none⟩,
 ⟨some 9, .faddr 0 (.t 3), none⟩,
 ⟨some 10, .load none (.t 9), none⟩,
 ⟨some 11, .bin .neq (.t 8) (.t 10), none⟩,
 ⟨some 12, .mv (.t 11), none⟩,
 ⟨some 13, .faddr 1 (.t 2), some (12, false)⟩,
 ⟨some 14, .load none (.t 13), some (12, false)⟩,
 ⟨some 15, .len (.t 14), some (12, false)⟩,
 ⟨some 16, .faddr 1 (.t 3), some (12, false)⟩,
 ⟨some 17, .load none (.t 16), some (12, false)⟩,
 ⟨some 18, .len (.t 17), some (12, false)⟩,
 ⟨some 19, .bin .neq (.t 15) (.t 18), some (12, false)⟩,
 ⟨some 20, .pick (.t 12) (.c (.bool true)) (.t 19), none⟩,
 ⟨some 21, .mv (.t 20), none⟩,
 ⟨some 22, .faddr 2 (.t 2), some (21, false)⟩,
 ⟨some 23, .load none (.t 22), some (21, false)⟩,
 ⟨some 24, .len (.t 23), some (21, false)⟩,
 ⟨some 25, .faddr 2 (.t 3), some (21, false)⟩,
 ⟨some 26, .load none (.t 25), some (21, false)⟩,
 ⟨some 27, .len (.t 26), some (21, false)⟩,
 ⟨some 28, .bin .neq (.t 24) (.t 27), some (21, false)⟩,
 ⟨some 29, .pick (.t 21) (.c (.bool true)) (.t 28), none⟩])
 (.cond (.t 29)
  (.seq
  (.reg [⟨some 4, .mv (.c (.bool false)), none⟩])
  (.ret [4]))
  .skip))
 (.seq
 (.seq
 (.reg [⟨some 5, .mv (.c (.int .i64 0)), none⟩])
 (.block 0 [2, 3]
  f136L1))
 (.seq
 (.seq
 (.reg [⟨some 6, .mv (.c (.int .i64 0)), none⟩])
 (.block 2 []
  f136L2))
 (.seq
 (.reg [⟨some 4, .mv (.c (.bool true)), none⟩])
 (.ret [4]))))))⟩
structure H136 (Γ : Tab) : Prop where
  e136 : Γ 136 = some (.code f136)
  c161 : H161 Γ
  c162 : H162 Γ
/- loop.example/g00751/spec.Same -/
def f127l1 : DCode :=
 (.seq
 (.seq
 (.reg [⟨some 53, .mv (.t 5), none⟩,
 ⟨some 54, .faddr 0 (.t 2), none⟩,
 ⟨some 55, .load none (.t 54), none⟩,
 ⟨some 56, .len (.t 55), none⟩,
 ⟨some 57, .bin .lss (.t 53) (.t 56), none⟩])
 (.cond (.t 57)
  .skip
  (.exit 0)))
 (.seq
 (.block 1 [2, 3, 5]
  (.seq
  (.any [false, false, false, false, false, false, false, false, false, false, false, false, false, false, false, false, false, false, false, false, false, false, false, false, false, false, false, false, false] [(1, ⟨some 60, .faddr 0 (.t 2), none⟩),
  (1, ⟨some 61, .load none (.t 60), none⟩),
  (1, ⟨some 62, .mv (.t 5), none⟩),
  (1, ⟨some 63, .iaddr 2 (.t 61) (.t 62), none⟩),
  (1, ⟨some 64, .faddr 0 (.t 63), none⟩),
  (1, ⟨some 65, .load none (.t 64), none⟩),
  (1, ⟨some 66, .faddr 0 (.t 3), none⟩),
  (1, ⟨some 67, .load none (.t 66), none⟩),
  (1, ⟨some 68, .mv (.t 5), none⟩),
  (1, ⟨some 69, .iaddr 2 (.t 67) (.t 68), none⟩),
  (1, ⟨some 70, .faddr 0 (.t 69), none⟩),
  (1, ⟨some 71, .load none (.t 70), none⟩),
  (1, ⟨some 72, .bin .neq (.t 65) (.t 71), none⟩),
  (1, ⟨some 73, .mv (.t 72), none⟩),
  (1, ⟨some 74, .faddr 0 (.t 2), some (73, false)⟩),
  (1, ⟨some 75, .load none (.t 74), some (73, false)⟩),
  (1, ⟨some 76, .mv (.t 5), some (73, false)⟩),
  (1, ⟨some 77, .iaddr 2 (.t 75) (.t 76), some (73, false)⟩),
  (1, ⟨some 78, .faddr 1 (.t 77), some (73, false)⟩),
  (1, ⟨some 79, .load none (.t 78), some (73, false)⟩),
  (1, ⟨some 80, .faddr 0 (.t 3), some (73, false)⟩),
  (1, ⟨some 81, .load none (.t 80), some (73, false)⟩),
  (1, ⟨some 82, .mv (.t 5), some (73, false)⟩),
  (1, ⟨some 83, .iaddr 2 (.t 81) (.t 82), some (73, false)⟩),
  (1, ⟨some 84, .faddr 1 (.t 83), some (73, false)⟩),
  (1, ⟨some 85, .load none (.t 84), some (73, false)⟩),
  (1, ⟨some 86, .call 133 .frz [(.t 79), (.t 85)], some (73, false)⟩),
  (1, ⟨some 87, .un .not (.t 86), some (73, false)⟩),
  (1, ⟨some 88, .pick (.t 73) (.c (.bool true)) (.t 87), none⟩)]
  [])
  (.cond (.t 88)
   (.seq
   (.reg [⟨some 4, .mv (.c (.bool false)), none⟩])
   (.ret [4]))
   .skip)))
 (.reg [⟨some 58, .mv (.t 5), none⟩,
 ⟨some 59, .bin .add (.t 58) (.c (.int .i64 1)), none⟩,
 ⟨some 5, .mv (.t 59), none⟩])))
def f127L1 : DCode := .loop [2, 3, 5] none f127l1
def f127l2 : DCode :=
 (.seq
 (.seq
 (.reg [⟨some 89, .mv (.t 6), none⟩,
 ⟨some 90, .faddr 1 (.t 2), none⟩,
 ⟨some 91, .load none (.t 90), none⟩,
 ⟨some 92, .len (.t 91), none⟩,
 ⟨some 93, .bin .lss (.t 89) (.t 92), none⟩])
 (.cond (.t 93)
  .skip
  (.exit 2)))
 (.seq
 (.block 3 [2, 3, 6]
  (.seq
  (.any [false, false, false, false, false, false, false, false, false, false, false] [(1, ⟨some 96, .faddr 1 (.t 2), none⟩),
  (1, ⟨some 97, .load none (.t 96), none⟩),
  (1, ⟨some 98, .mv (.t 6), none⟩),
  (1, ⟨some 99, .iaddr 2 (.t 97) (.t 98), none⟩),
  (1, ⟨some 100, .load (some 2) (.t 99), none⟩),
  (1, ⟨some 101, .faddr 1 (.t 3), none⟩),
  (1, ⟨some 102, .load none (.t 101), none⟩),
  (1, ⟨some 103, .mv (.t 6), none⟩),
  (1, ⟨some 104, .iaddr 2 (.t 102) (.t 103), none⟩),
  (1, ⟨some 105, .load (some 2) (.t 104), none⟩),
  (1, ⟨some 106, .eqs true [.s, .i] (.t 100) (.t 105), none⟩)]
  [])
  (.cond (.t 106)
   (.seq
   (.reg [⟨some 4, .mv (.c (.bool false)), none⟩])
   (.ret [4]))
   .skip)))
 (.reg [⟨some 94, .mv (.t 6), none⟩,
 ⟨some 95, .bin .add (.t 94) (.c (.int .i64 1)), none⟩,
 ⟨some 6, .mv (.t 95), none⟩])))
def f127L2 : DCode := .loop [2, 3, 6] none f127l2
def f127l3 : DCode :=
 (.seq
 (.seq
 (.reg [⟨some 107, .mv (.t 7), none⟩,
 ⟨some 108, .faddr 2 (.t 2), none⟩,
 ⟨some 109, .load none (.t 108), none⟩,
 ⟨some 110, .len (.t 109), none⟩,
 ⟨some 111, .bin .lss (.t 107) (.t 110), none⟩])
 (.cond (.t 111)
  .skip
  (.exit 4)))
 (.seq
 (.block 5 [2, 3, 7]
  (.seq
  (.any [false, false, false, false, false, false, false, false, false, false, false, false] [(1, ⟨some 114, .faddr 2 (.t 2), none⟩),
  (1, ⟨some 115, .load none (.t 114), none⟩),
  (1, ⟨some 116, .mv (.t 7), none⟩),
  (1, ⟨some 117, .iaddr 4 (.t 115) (.t 116), none⟩),
  (1, ⟨some 118, .load (some 4) (.t 117), none⟩),
  (1, ⟨some 119, .faddr 2 (.t 3), none⟩),
  (1, ⟨some 120, .load none (.t 119), none⟩),
  (1, ⟨some 121, .mv (.t 7), none⟩),
  (1, ⟨some 122, .iaddr 4 (.t 120) (.t 121), none⟩),
  (1, ⟨some 123, .load (some 4) (.t 122), none⟩),
  (1, ⟨some 124, .call 136 .frz [(.t 118), (.t 123)], none⟩),
  (1, ⟨some 125, .un .not (.t 124), none⟩)]
  [])
  (.cond (.t 125)
   (.seq
   (.reg [⟨some 4, .mv (.c (.bool false)), none⟩])
   (.ret [4]))
   .skip)))
 (.reg [⟨some 112, .mv (.t 7), none⟩,
 ⟨some 113, .bin .add (.t 112) (.c (.int .i64 1)), none⟩,
 ⟨some 7, .mv (.t 113), none⟩])))
def f127L3 : DCode := .loop [2, 3, 7] none f127l3
def f127l4 : DCode :=
 (.seq
 (.seq
 (.reg [⟨some 126, .mv (.t 8), none⟩,
 ⟨some 127, .faddr 3 (.t 2), none⟩,
 ⟨some 128, .load none (.t 127), none⟩,
 ⟨some 129, .len (.t 128), none⟩,
 ⟨some 130, .bin .lss (.t 126) (.t 129), none⟩])
 (.cond (.t 130)
  .skip
  (.exit 6)))
 (.seq
 (.block 7 [2, 3, 8]
  (.seq
  (.any [false, false, false, false, false, false, false, false, false, false, false, false] [(1, ⟨some 133, .faddr 3 (.t 2), none⟩),
  (1, ⟨some 134, .load none (.t 133), none⟩),
  (1, ⟨some 135, .mv (.t 8), none⟩),
  (1, ⟨some 136, .iaddr 4 (.t 134) (.t 135), none⟩),
  (1, ⟨some 137, .load (some 4) (.t 136), none⟩),
  (1, ⟨some 138, .faddr 3 (.t 3), none⟩),
  (1, ⟨some 139, .load none (.t 138), none⟩),
  (1, ⟨some 140, .mv (.t 8), none⟩),
  (1, ⟨some 141, .iaddr 4 (.t 139) (.t 140), none⟩),
  (1, ⟨some 142, .load (some 4) (.t 141), none⟩),
  (1, ⟨some 143, .call 134 .frz [(.t 137), (.t 142)], none⟩),
  (1, ⟨some 144, .un .not (.t 143), none⟩)]
  [])
  (.cond (.t 144)
   (.seq
   (.reg [⟨some 4, .mv (.c (.bool false)), none⟩])
   (.ret [4]))
   .skip)))
 (.reg [⟨some 131, .mv (.t 8), none⟩,
 ⟨some 132, .bin .add (.t 131) (.c (.int .i64 1)), none⟩,
 ⟨some 8, .mv (.t 132), none⟩])))
def f127L4 : DCode := .loop [2, 3, 8] none f127l4
def f127l5 : DCode :=
 (.seq
 (.seq
 (.reg [⟨some 145, .mv (.t 9), none⟩,
 ⟨some 146, .faddr 4 (.t 2), none⟩,
 ⟨some 147, .load none (.t 146), none⟩,
 ⟨some 148, .len (.t 147), none⟩,
 ⟨some 149, .bin .lss (.t 145) (.t 148), none⟩])
 (.cond (.t 149)
  .skip
  (.exit 8)))
 (.seq
 (.block 9 [2, 3, 9]
  (.seq
  (.any [false, false, false, false, false, false, false, false, false, false, false, false] [(1, ⟨some 152, .faddr 4 (.t 2), none⟩),
  (1, ⟨some 153, .load none (.t 152), none⟩),
  (1, ⟨some 154, .mv (.t 9), none⟩),
  (1, ⟨some 155, .iaddr 4 (.t 153) (.t 154), none⟩),
  (1, ⟨some 156, .load (some 4) (.t 155), none⟩),
  (1, ⟨some 157, .faddr 4 (.t 3), none⟩),
  (1, ⟨some 158, .load none (.t 157), none⟩),
  (1, ⟨some 159, .mv (.t 9), none⟩),
  (1, ⟨some 160, .iaddr 4 (.t 158) (.t 159), none⟩),
  (1, ⟨some 161, .load (some 4) (.t 160), none⟩),
  (1, ⟨some 162, .call 135 .frz [(.t 156), (.t 161)], none⟩),
  (1, ⟨some 163, .un .not (.t 162), none⟩)]
  [])
  (.cond (.t 163)
   (.seq
   (.reg [⟨some 4, .mv (.c (.bool false)), none⟩])
   (.ret [4]))
   .skip)))
 (.reg [⟨some 150, .mv (.t 9), none⟩,
 ⟨some 151, .bin .add (.t 150) (.c (.int .i64 1)), none⟩,
 ⟨some 9, .mv (.t 151), none⟩])))
def f127L5 : DCode := .loop [2, 3, 9] none f127l5
def f127 : DFn := ⟨2, false, [.t 4],
 (.seq
 (.reg [⟨some 2, .boxf (.t 0), none⟩,
 ⟨some 3, .boxf (.t 1), none⟩,
 ⟨some 4, .mv (.c (.bool false)), none⟩])
 (.seq
 (.seq
 (.reg [⟨some 10, .faddr 0 (.t 2), none⟩,
 ⟨some 11, .load none (.t 10), none⟩,
 ⟨some 12, .len (.t 11), none⟩,
 ⟨some 13, .faddr 0 (.t 3), none⟩,
 ⟨some 14, .load none (.t 13), none⟩,
 ⟨some 15, .len (.t 14), none⟩,
 ⟨some 16, .bin .neq (.t 12) (.t 15), none⟩,
 ⟨some 17, .mv (.t 16), none⟩,
 ⟨some 18, .faddr 1 (.t 2), some (17, false)⟩,
 ⟨some 19, .load none (.t 18), some (17, false)⟩,
 ⟨some 20, .len (.t 19), some (17, false)⟩,
 ⟨some 21, .faddr 1 (.t 3), some (17, false)⟩,
 ⟨some 22, .load none (.t 21), some (17, false)⟩,
 ⟨some 23, .len (.t 22), some (17, false)⟩,
 ⟨some 24, .bin .neq (.t 20) (.t 23), some (17, false)⟩,
 ⟨some 25, .pick (.t 17) (.c (.bool true)) (.t 24), none⟩,
 ⟨some 26, .mv (.t 25), none⟩,
 ⟨some 27, .faddr 2 (.t 2), some (26, false)⟩,
 ⟨some 28, .load none (.t 27), some (26, false)⟩,
 ⟨some 29, .len (.t 28), some (26, false)⟩,
 ⟨some 30, .faddr 2 (.t 3), some (26, false)⟩,
 ⟨some 31, .load none (.t 30), some (26, false)⟩,
 ⟨some 32, .len (.t 31), some (26, false)⟩,
 ⟨some 33, .bin .neq (.t 29) (.t 32), some (26, false)⟩,
 ⟨some 34, .pick (.t 26) (.c (.bool true)) (.t 33), none⟩,
 ⟨some 35, .mv (.t 34), none⟩,
 ⟨some 36, .faddr 3 (.t 2), some (35, false)⟩,
 ⟨some 37, .load none (.t 36), some (35, false)⟩,
 ⟨some 38, .len (.t 37), some (35, false)⟩,
 ⟨some 39, .faddr 3 (.t 3), some (35, false)⟩,
 ⟨some 40, .load none (.t 39), some (35, false)⟩,
 ⟨some 41, .len (.t 40), some (35, false)⟩,
 ⟨some 42, .bin .neq (.t 38) (.t 41), some (35, false)⟩,
 ⟨some 43, .pick (.t 35) (.c (.bool true)) (.t 42), none⟩,
 ⟨some 44, .mv (.t 43), none⟩,
 ⟨some 45, .faddr 4 (.t 2), some (44, false)⟩,
 ⟨some 46, .load none (.t 45), some (44, false)⟩,
 ⟨some 47, .len (.t 46), some (44, false)⟩,
 ⟨some 48, .faddr 4 (.t 3), some (44, false)⟩,
 ⟨some 49, .load none (.t 48), some (44, false)⟩,
 ⟨some 50, .len (.t 49), some (44, false)⟩,
 ⟨some 51, .bin .neq (.t 47) (.t 50), some (44, false)⟩,
 ⟨some 52, .pick (.t 44) (.c (.bool true)) (.t 51), none⟩])
 (.cond (.t 52)
  (.seq
  (.reg [⟨some 4, .mv (.c (.bool false)), none⟩])
  (.ret [4]))
  .skip))
 (.seq
 (.seq
 (.reg [⟨some 5, .mv (.c (.int .i64 0)), none⟩])
 (.block 0 [2, 3]
  f127L1))
 (.seq
 (.seq
 (.reg [⟨some 6, .mv (.c (.int .i64 0)), none⟩])
 (.block 2 [2, 3]
  f127L2))
 (.seq
 (.seq
 (.reg [⟨some 7, .mv (.c (.int .i64 0)), none⟩])
 (.block 4 [2, 3]
  f127L3))
 (.seq
 (.seq
 (.reg [⟨some 8, .mv (.c (.int .i64 0)), none⟩])
 (.block 6 [2, 3]
  f127L4))
 (.seq
 (.seq
 (.reg [⟨some 9, .mv (.c (.int .i64 0)), none⟩])
 (.block 8 []
  f127L5))
 (.seq
 (.reg [⟨some 4, .mv (.c (.bool true)), none⟩])
 (.ret [4])))))))))⟩
structure H127 (Γ : Tab) : Prop where
  e127 : Γ 127 = some (.code f127)
  c133 : H133 Γ
  c134 : H134 Γ
  c135 : H135 Γ
  c136 : H136 Γ
/- loop.example/g00751/laws.FnExactSame -/
def f122 : DFn := ⟨2, false, [.t 4],
 (.seq
 (.reg [⟨some 2, .boxf (.t 0), none⟩,
 ⟨some 3, .boxf (.t 1), none⟩,
 ⟨some 4, .mv (.c (.bool false)), none⟩])
 (.seq
 (.reg [⟨some 5, .mv (.c (.int .i64 1048576)), none⟩])
 (.seq
 (.reg [⟨some 10, .load (some 6) (.t 2), none⟩,
 ⟨some 11, .mv (.t 5), none⟩,
 ⟨some 12, .call 125 .frz [(.t 10), (.t 11)], none⟩,
 ⟨some 5, .mv (.t 12), none⟩])
 (.seq
 (.seq
 (.reg [⟨some 13, .mv (.t 5), none⟩,
 ⟨some 14, .bin .lss (.t 13) (.c (.int .i64 0)), none⟩])
 (.cond (.t 14)
  (.seq
  (.reg [⟨some 4, .mv (.c (.bool true)), none⟩])
  (.ret [4]))
  .skip))
 (.seq
 (.reg [⟨some 15, .load (some 6) (.t 3), none⟩,
 ⟨some 16, .mv (.t 5), none⟩,
 ⟨some 17, .call 125 .frz [(.t 15), (.t 16)], none⟩,
 ⟨some 5, .mv (.t 17), none⟩])
 (.seq
 (.seq
 (.reg [⟨some 18, .mv (.t 5), none⟩,
 ⟨some 19, .bin .lss (.t 18) (.c (.int .i64 0)), none⟩])
 (.cond (.t 19)
  (.seq
  (.reg [⟨some 4, .mv (.c (.bool true)), none⟩])
  (.ret [4]))
  .skip))
 (.seq
 (.any [false, false, false, false, false, false] [(1, ⟨some 20, .load (some 6) (.t 2), none⟩),
 (1, ⟨some 21, .call 126 .frz [(.t 20)], none⟩),
 (1, ⟨some 22, .load (some 6) (.t 3), none⟩),
 (1, ⟨some 23, .call 126 .frz [(.t 22)], none⟩),
 (1, ⟨some 24, .call 127 .frz [(.t 21), (.t 23)], none⟩),
 (1, ⟨some 6, .mv (.t 24), none⟩)]
 [])
 (.seq
 (.reg [⟨some 25, .load (some 6) (.t 2), none⟩,
 ⟨some 26, .call 126 .frz [(.t 25)], none⟩,
 ⟨some 7, .pend [.nils, .nils, .nils, .nils, .nils, .int .i64 0], none⟩,
 ⟨none, .init 6 7 (.t 26), none⟩])
 (.seq
 (.reg [⟨some 27, .load (some 6) (.t 3), none⟩,
 ⟨some 28, .call 126 .frz [(.t 27)], none⟩,
 ⟨some 8, .pend [.nils, .nils, .nils, .nils, .nils, .int .i64 0], none⟩,
 ⟨none, .init 6 8 (.t 28), none⟩])
 (.seq
 (.reg [⟨some 29, .load (some 6) (.t 7), none⟩,
 ⟨some 30, .load (some 6) (.t 8), none⟩,
 ⟨some 31, .call 123 .frz [(.t 29), (.t 30)], none⟩,
 ⟨some 9, .mv (.t 31), none⟩])
 (.seq
 (.seq
 (.reg [⟨some 32, .mv (.t 9), none⟩,
 ⟨some 33, .mv (.t 6), none⟩,
 ⟨some 34, .binb .neq (.t 32) (.t 33), none⟩])
 (.cond (.t 34)
  (.seq
  (.reg [⟨some 4, .mv (.c (.bool false)), none⟩])
  (.ret [4]))
  .skip))
 (.seq
 (.seq
 (.any [false, false, false, false, false] [(1, ⟨some 35, .load (some 6) (.t 7), none⟩),
 (1, ⟨some 36, .load (some 6) (.t 2), none⟩),
 (1, ⟨some 37, .call 126 .frz [(.t 36)], none⟩),
 (1, ⟨some 38, .call 124 .frz [(.t 35), (.t 37)], none⟩),
 (1, ⟨some 39, .un .not (.t 38), none⟩)]
 [])
 (.cond (.t 39)
  (.seq
  (.reg [⟨some 4, .mv (.c (.bool false)), none⟩])
  (.ret [4]))
  .skip))
 (.seq
 (.seq
 (.any [false, false, false, false, false] [(1, ⟨some 40, .load (some 6) (.t 8), none⟩),
 (1, ⟨some 41, .load (some 6) (.t 3), none⟩),
 (1, ⟨some 42, .call 126 .frz [(.t 41)], none⟩),
 (1, ⟨some 43, .call 124 .frz [(.t 40), (.t 42)], none⟩),
 (1, ⟨some 44, .un .not (.t 43), none⟩)]
 [])
 (.cond (.t 44)
  (.seq
  (.reg [⟨some 4, .mv (.c (.bool false)), none⟩])
  (.ret [4]))
  .skip))
 (.seq
 (.reg [⟨some 4, .mv (.c (.bool true)), none⟩])
 (.ret [4])))))))))))))))⟩
structure H122 (Γ : Tab) : Prop where
  e122 : Γ 122 = some (.code f122)
  c123 : H123 Γ
  c124 : H124 Γ
  c125 : H125 Γ
  c126 : H126 Γ
  c127 : H127 Γ
end Go.DM
