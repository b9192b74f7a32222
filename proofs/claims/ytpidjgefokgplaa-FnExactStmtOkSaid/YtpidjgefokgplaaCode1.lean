/- The machine's code of the functions that the law reaches (printed by a program out of the elaborated ones), and what a table has to hold of them. -/
import Derived.Test.YtpidjgefokgplaaLaws
set_option linter.unusedVariables false
set_option maxRecDepth 100000
namespace Go.DM
open Go
/- loop.example/g00751/impl.Crc -/
def f2l1 : DCode :=
 (.seq
 (.reg [⟨some 18, .bin .lss (.t 17) (.c (.int .i64 8)), none⟩])
 (.seq
 (.cond (.t 18)
  .skip
  (.exit 2))
 (.seq
 (.block 3 [0, 3, 7, 8, 17]
  (.seq
  (.reg [⟨some 19, .mv (.t 3), none⟩,
  ⟨some 20, .bin .and (.t 19) (.c (.int .u32 1)), none⟩,
  ⟨some 5, .mv (.t 20), none⟩])
  (.seq
  (.reg [⟨some 21, .mv (.t 3), none⟩,
  ⟨some 22, .bin .shr (.t 21) (.c (.int .u64 1)), none⟩,
  ⟨some 3, .mv (.t 22), none⟩])
  (.seq
  (.reg [⟨some 23, .mv (.t 5), none⟩,
  ⟨some 24, .bin .eql (.t 23) (.c (.int .u32 1)), none⟩])
  (.cond (.t 24)
   (.reg [⟨some 25, .mv (.t 3), none⟩,
   ⟨some 26, .bin .xor (.t 25) (.c (.int .u32 3988292384)), none⟩,
   ⟨some 3, .mv (.t 26), none⟩])
   .skip)))))
 (.reg [⟨some 27, .bin .add (.t 17) (.c (.int .i64 1)), none⟩,
 ⟨some 17, .mv (.t 27), none⟩]))))
def f2L1 : DCode := .loop [0, 3, 7, 8, 17] none f2l1
def f2l2 : DCode :=
 (.seq
 (.reg [⟨some 9, .bin .lss (.t 8) (.t 7), none⟩])
 (.seq
 (.cond (.t 9)
  .skip
  (.exit 0))
 (.seq
 (.block 1 [0, 3, 7, 8]
  (.seq
  (.reg [⟨some 10, .mv (.t 8), none⟩,
  ⟨some 4, .mv (.t 10), none⟩])
  (.seq
  (.reg [⟨some 11, .mv (.t 3), none⟩,
  ⟨some 12, .mv (.t 0), none⟩,
  ⟨some 13, .mv (.t 4), none⟩,
  ⟨some 14, .sidx (.t 12) (.t 13), none⟩,
  ⟨some 15, .conv .u32 (.t 14), none⟩,
  ⟨some 16, .bin .xor (.t 11) (.t 15), none⟩,
  ⟨some 3, .mv (.t 16), none⟩])
  (.seq
  (.reg [⟨some 17, .mv (.c (.int .i64 0)), none⟩])
  (.block 2 [0, 3, 7, 8]
   f2L1)))))
 (.reg [⟨some 28, .bin .add (.t 8) (.c (.int .i64 1)), none⟩,
 ⟨some 8, .mv (.t 28), none⟩]))))
def f2L2 : DCode := .loop [0, 3, 7, 8] none f2l2
def f2 : DFn := ⟨1, false, [.t 2],
 (.seq
 (.reg [⟨some 2, .mv (.c (.int .i64 0)), none⟩])
 (.seq
 (.reg [⟨some 3, .mv (.c (.int .u32 4294967295)), none⟩])
 (.seq
 (.seq
 (.reg [⟨some 6, .mv (.t 0), none⟩,
 ⟨some 7, .lens (.t 6), none⟩,
 ⟨some 8, .mv (.c (.int .i64 0)), none⟩])
 (.block 0 [3]
  f2L2))
 (.seq
 (.reg [⟨some 29, .mv (.t 3), none⟩,
 ⟨some 30, .un .xor (.t 29), none⟩,
 ⟨some 31, .conv .i64 (.t 30), none⟩,
 ⟨some 2, .mv (.t 31), none⟩])
 (.ret [2])))))⟩
structure H2 (Γ : Tab) : Prop where
  e2 : Γ 2 = some (.code f2)
/- loop.example/g00751/spec.Crc -/
def f3l1 : DCode :=
 (.seq
 (.seq
 (.reg [⟨some 18, .mv (.t 5), none⟩,
 ⟨some 19, .bin .lss (.t 18) (.c (.int .i64 8)), none⟩])
 (.cond (.t 19)
  .skip
  (.exit 2)))
 (.seq
 (.block 3 [0, 3, 4, 5]
  (.seq
  (.reg [⟨some 22, .mv (.t 3), none⟩,
  ⟨some 23, .bin .and (.t 22) (.c (.int .u32 1)), none⟩,
  ⟨some 24, .bin .eql (.t 23) (.c (.int .u32 1)), none⟩])
  (.cond (.t 24)
   (.reg [⟨some 25, .mv (.t 3), none⟩,
   ⟨some 26, .bin .shr (.t 25) (.c (.int .u64 1)), none⟩,
   ⟨some 27, .bin .xor (.t 26) (.c (.int .u32 3988292384)), none⟩,
   ⟨some 3, .mv (.t 27), none⟩])
   (.reg [⟨some 28, .mv (.t 3), none⟩,
   ⟨some 29, .bin .shr (.t 28) (.c (.int .u64 1)), none⟩,
   ⟨some 3, .mv (.t 29), none⟩]))))
 (.reg [⟨some 20, .mv (.t 5), none⟩,
 ⟨some 21, .bin .add (.t 20) (.c (.int .i64 1)), none⟩,
 ⟨some 5, .mv (.t 21), none⟩])))
def f3L1 : DCode := .loop [0, 3, 4, 5] none f3l1
def f3l2 : DCode :=
 (.seq
 (.seq
 (.reg [⟨some 6, .mv (.t 4), none⟩,
 ⟨some 7, .mv (.t 0), none⟩,
 ⟨some 8, .lens (.t 7), none⟩,
 ⟨some 9, .bin .lss (.t 6) (.t 8), none⟩])
 (.cond (.t 9)
  .skip
  (.exit 0)))
 (.seq
 (.block 1 [0, 3, 4]
  (.seq
  (.reg [⟨some 12, .mv (.t 3), none⟩,
  ⟨some 13, .mv (.t 0), none⟩,
  ⟨some 14, .mv (.t 4), none⟩,
  ⟨some 15, .sidx (.t 13) (.t 14), none⟩,
  ⟨some 16, .conv .u32 (.t 15), none⟩,
  ⟨some 17, .bin .xor (.t 12) (.t 16), none⟩,
  ⟨some 3, .mv (.t 17), none⟩])
  (.seq
  (.reg [⟨some 5, .mv (.c (.int .i64 0)), none⟩])
  (.block 2 [0, 3, 4]
   f3L1))))
 (.reg [⟨some 10, .mv (.t 4), none⟩,
 ⟨some 11, .bin .add (.t 10) (.c (.int .i64 1)), none⟩,
 ⟨some 4, .mv (.t 11), none⟩])))
def f3L2 : DCode := .loop [0, 3, 4] none f3l2
def f3 : DFn := ⟨1, false, [.t 2],
 (.seq
 (.reg [⟨some 2, .mv (.c (.int .i64 0)), none⟩])
 (.seq
 (.reg [⟨some 3, .mv (.c (.int .u32 4294967295)), none⟩])
 (.seq
 (.seq
 (.reg [⟨some 4, .mv (.c (.int .i64 0)), none⟩])
 (.block 0 [3]
  f3L2))
 (.seq
 (.reg [⟨some 30, .mv (.t 3), none⟩,
 ⟨some 31, .un .xor (.t 30), none⟩,
 ⟨some 32, .conv .i64 (.t 31), none⟩,
 ⟨some 2, .mv (.t 32), none⟩])
 (.ret [2])))))⟩
structure H3 (Γ : Tab) : Prop where
  e3 : Γ 3 = some (.code f3)
/- loop.example/g00751/impl.within -/
def f29 : DFn := ⟨3, false, [.t 6],
 (.seq
 (.reg [⟨some 6, .mv (.c (.bool false)), none⟩])
 (.seq
 (.reg [⟨some 7, .mv (.t 0), none⟩,
 ⟨some 8, .mv (.t 1), none⟩,
 ⟨some 9, .bin .geq (.t 7) (.t 8), none⟩,
 ⟨some 10, .mv (.t 9), none⟩,
 ⟨some 11, .mv (.t 0), some (10, true)⟩,
 ⟨some 12, .mv (.t 2), some (10, true)⟩,
 ⟨some 13, .bin .leq (.t 11) (.t 12), some (10, true)⟩,
 ⟨some 14, .pick (.t 10) (.t 13) (.c (.bool false)), none⟩,
 ⟨some 6, .mv (.t 14), none⟩])
 (.ret [6])))⟩
structure H29 (Γ : Tab) : Prop where
  e29 : Γ 29 = some (.code f29)
/- loop.example/g00751/spec.l01In -/
def f28 : DFn := ⟨3, false, [.t 6],
 (.seq
 (.reg [⟨some 6, .mv (.c (.bool false)), none⟩])
 (.seq
 (.reg [⟨some 7, .mv (.t 0), none⟩,
 ⟨some 8, .mv (.t 1), none⟩,
 ⟨some 9, .bin .geq (.t 7) (.t 8), none⟩,
 ⟨some 10, .mv (.t 9), none⟩,
 ⟨some 11, .mv (.t 0), some (10, true)⟩,
 ⟨some 12, .mv (.t 2), some (10, true)⟩,
 ⟨some 13, .bin .leq (.t 11) (.t 12), some (10, true)⟩,
 ⟨some 14, .pick (.t 10) (.t 13) (.c (.bool false)), none⟩,
 ⟨some 6, .mv (.t 14), none⟩])
 (.ret [6])))⟩
structure H28 (Γ : Tab) : Prop where
  e28 : Γ 28 = some (.code f28)
/- loop.example/g00751/impl.crcBytes -/
def f31 : DFn := ⟨1, false, [.t 2],
 (.seq
 (.reg [⟨some 2, .mv (.c (.str [])), none⟩])
 (.seq
 (.reg [⟨some 4, .mv (.t 0), none⟩,
 ⟨some 5, .call 2 .frz [(.t 4)], none⟩,
 ⟨some 3, .mv (.t 5), none⟩])
 (.seq
 (.reg [⟨some 6, .mv (.t 3), none⟩,
 ⟨some 7, .conv .u8 (.t 6), none⟩,
 ⟨some 8, .mv (.t 3), none⟩,
 ⟨some 9, .bin .shr (.t 8) (.c (.int .u64 8)), none⟩,
 ⟨some 10, .conv .u8 (.t 9), none⟩,
 ⟨some 11, .mv (.t 3), none⟩,
 ⟨some 12, .bin .shr (.t 11) (.c (.int .u64 16)), none⟩,
 ⟨some 13, .conv .u8 (.t 12), none⟩,
 ⟨some 14, .mv (.t 3), none⟩,
 ⟨some 15, .bin .shr (.t 14) (.c (.int .u64 24)), none⟩,
 ⟨some 16, .conv .u8 (.t 15), none⟩,
 ⟨some 17, .buildSl 1 [.int .u8 0, .int .u8 0, .int .u8 0, .int .u8 0] [(0, (.t 7)), (1, (.t 10)), (2, (.t 13)), (3, (.t 16))], none⟩,
 ⟨some 18, .b2s (.t 17), none⟩,
 ⟨some 2, .mv (.t 18), none⟩])
 (.ret [2]))))⟩
structure H31 (Γ : Tab) : Prop where
  e31 : Γ 31 = some (.code f31)
  c2 : H2 Γ
/- internal/stringslite.HasPrefix -/
def f72 : DFn := ⟨2, false, [.t 4],
 (.seq
 (.reg [⟨some 4, .mv (.c (.bool false)), none⟩])
 (.seq
 (.reg [⟨some 5, .mv (.t 0), none⟩,
 ⟨some 6, .lens (.t 5), none⟩,
 ⟨some 7, .mv (.t 1), none⟩,
 ⟨some 8, .lens (.t 7), none⟩,
 ⟨some 9, .bin .geq (.t 6) (.t 8), none⟩,
 ⟨some 10, .mv (.t 9), none⟩,
 ⟨some 11, .mv (.t 0), some (10, true)⟩,
 ⟨some 12, .mv (.t 1), some (10, true)⟩,
 ⟨some 13, .lens (.t 12), some (10, true)⟩,
 ⟨some 14, .subs (.t 11) none (some (.t 13)), some (10, true)⟩,
 ⟨some 15, .mv (.t 1), some (10, true)⟩,
 ⟨some 16, .bin .eql (.t 14) (.t 15), some (10, true)⟩,
 ⟨some 17, .pick (.t 10) (.t 16) (.c (.bool false)), none⟩,
 ⟨some 4, .mv (.t 17), none⟩])
 (.ret [4])))⟩
structure H72 (Γ : Tab) : Prop where
  e72 : Γ 72 = some (.code f72)
/- strings.HasPrefix -/
def f32 : DFn := ⟨2, false, [.t 4],
 (.seq
 (.reg [⟨some 4, .mv (.c (.bool false)), none⟩])
 (.seq
 (.reg [⟨some 5, .mv (.t 0), none⟩,
 ⟨some 6, .mv (.t 1), none⟩,
 ⟨some 7, .call 72 .frz [(.t 5), (.t 6)], none⟩,
 ⟨some 4, .mv (.t 7), none⟩])
 (.ret [4])))⟩
structure H32 (Γ : Tab) : Prop where
  e32 : Γ 32 = some (.code f32)
  c72 : H72 Γ
structure H83 (Γ : Tab) : Prop where
  e83 : Γ 83 = some (.law lawContains)
/- loop.example/g00751/impl.NameOk -/
def f44 : DFn := ⟨1, false, [.t 2],
 (.seq
 (.reg [⟨some 2, .mv (.c (.bool false)), none⟩])
 (.seq
 (.reg [⟨some 3, .mv (.t 0), none⟩,
 ⟨some 4, .lens (.t 3), none⟩,
 ⟨some 5, .call 29 .frz [(.t 4), (.c (.int .i64 1)), (.c (.int .i64 40))], none⟩,
 ⟨some 6, .mv (.t 5), none⟩,
 ⟨some 7, .mv (.t 0), some (6, true)⟩,
 ⟨some 8, .call 83 .frz [(.t 7), (.c (.str [0]))], some (6, true)⟩,
 ⟨some 9, .un .not (.t 8), some (6, true)⟩,
 ⟨some 10, .pick (.t 6) (.t 9) (.c (.bool false)), none⟩,
 ⟨some 2, .mv (.t 10), none⟩])
 (.ret [2])))⟩
structure H44 (Γ : Tab) : Prop where
  e44 : Γ 44 = some (.code f44)
  c29 : H29 Γ
  c83 : H83 Γ
/- loop.example/g00751/impl.TypeOk -/
def f18 : DFn := ⟨1, false, [.t 2],
 (.seq
 (.reg [⟨some 1, .boxf (.t 0), none⟩,
 ⟨some 2, .mv (.c (.bool false)), none⟩])
 (.seq
 (.seq
 (.reg [⟨some 3, .faddr 0 (.t 1), none⟩,
 ⟨some 4, .load none (.t 3), none⟩])
 (.block 0 []
  (.seq
  (.seq
  (.reg [⟨some 6, .bin .eql (.t 4) (.c (.int .i64 0)), none⟩,
  ⟨some 5, .mv (.t 6), none⟩])
  (.cond (.t 5)
   .skip
   (.seq
   (.reg [⟨some 7, .bin .eql (.t 4) (.c (.int .i64 1)), none⟩,
   ⟨some 5, .mv (.t 7), none⟩])
   (.cond (.t 5)
    .skip
    (.reg [⟨some 8, .bin .eql (.t 4) (.c (.int .i64 2)), none⟩,
    ⟨some 5, .mv (.t 8), none⟩])))))
  (.cond (.t 5)
   (.seq
   (.reg [⟨some 9, .faddr 1 (.t 1), none⟩,
   ⟨some 10, .load none (.t 9), none⟩,
   ⟨some 11, .bin .eql (.t 10) (.c (.int .i64 0)), none⟩,
   ⟨some 12, .mv (.t 11), none⟩,
   ⟨some 13, .faddr 2 (.t 1), some (12, true)⟩,
   ⟨some 14, .load none (.t 13), some (12, true)⟩,
   ⟨some 15, .bin .eql (.t 14) (.c (.str [])), some (12, true)⟩,
   ⟨some 16, .pick (.t 12) (.t 15) (.c (.bool false)), none⟩,
   ⟨some 2, .mv (.t 16), none⟩])
   (.ret [2]))
   (.seq
   (.reg [⟨some 18, .bin .eql (.t 4) (.c (.int .i64 3)), none⟩,
   ⟨some 17, .mv (.t 18), none⟩])
   (.cond (.t 17)
    (.seq
    (.reg [⟨some 19, .faddr 1 (.t 1), none⟩,
    ⟨some 20, .load none (.t 19), none⟩,
    ⟨some 21, .call 29 .frz [(.t 20), (.c (.int .i64 1)), (.c (.int .i64 100))], none⟩,
    ⟨some 22, .mv (.t 21), none⟩,
    ⟨some 23, .faddr 2 (.t 1), some (22, true)⟩,
    ⟨some 24, .load none (.t 23), some (22, true)⟩,
    ⟨some 25, .bin .eql (.t 24) (.c (.str [])), some (22, true)⟩,
    ⟨some 26, .pick (.t 22) (.t 25) (.c (.bool false)), none⟩,
    ⟨some 2, .mv (.t 26), none⟩])
    (.ret [2]))
    (.seq
    (.reg [⟨some 28, .bin .eql (.t 4) (.c (.int .i64 4)), none⟩,
    ⟨some 27, .mv (.t 28), none⟩])
    (.cond (.t 27)
     (.seq
     (.reg [⟨some 29, .faddr 1 (.t 1), none⟩,
     ⟨some 30, .load none (.t 29), none⟩,
     ⟨some 31, .bin .eql (.t 30) (.c (.int .i64 0)), none⟩,
     ⟨some 32, .mv (.t 31), none⟩,
     ⟨some 33, .faddr 2 (.t 1), some (32, true)⟩,
     ⟨some 34, .load none (.t 33), some (32, true)⟩,
     ⟨some 35, .call 44 .frz [(.t 34)], some (32, true)⟩,
     ⟨some 36, .pick (.t 32) (.t 35) (.c (.bool false)), none⟩,
     ⟨some 2, .mv (.t 36), none⟩])
     (.ret [2]))
     .skip))))))))
 (.seq
 (.reg [⟨some 2, .mv (.c (.bool false)), none⟩])
 (.ret [2]))))⟩
structure H18 (Γ : Tab) : Prop where
  e18 : Γ 18 = some (.code f18)
  c29 : H29 Γ
  c44 : H44 Γ
/- loop.example/g00751/spec.l02Name -/
def f82l1 : DCode :=
 (.seq
 (.seq
 (.reg [⟨some 4, .mv (.t 3), none⟩,
 ⟨some 5, .mv (.t 0), none⟩,
 ⟨some 6, .lens (.t 5), none⟩,
 ⟨some 7, .bin .lss (.t 4) (.t 6), none⟩])
 (.cond (.t 7)
  .skip
  (.exit 0)))
 (.seq
 (.block 1 [0, 3]
  (.seq
  (.reg [⟨some 10, .mv (.t 0), none⟩,
  ⟨some 11, .mv (.t 3), none⟩,
  ⟨some 12, .sidx (.t 10) (.t 11), none⟩,
  ⟨some 13, .bin .eql (.t 12) (.c (.int .u8 0)), none⟩])
  (.cond (.t 13)
   (.seq
   (.reg [⟨some 2, .mv (.c (.bool false)), none⟩])
   (.ret [2]))
   .skip)))
 (.reg [⟨some 8, .mv (.t 3), none⟩,
 ⟨some 9, .bin .add (.t 8) (.c (.int .i64 1)), none⟩,
 ⟨some 3, .mv (.t 9), none⟩])))
def f82L1 : DCode := .loop [0, 3] none f82l1
def f82 : DFn := ⟨1, false, [.t 2],
 (.seq
 (.reg [⟨some 2, .mv (.c (.bool false)), none⟩])
 (.seq
 (.seq
 (.reg [⟨some 3, .mv (.c (.int .i64 0)), none⟩])
 (.block 0 [0]
  f82L1))
 (.seq
 (.reg [⟨some 14, .mv (.t 0), none⟩,
 ⟨some 15, .lens (.t 14), none⟩,
 ⟨some 16, .call 28 .frz [(.t 15), (.c (.int .i64 1)), (.c (.int .i64 40))], none⟩,
 ⟨some 2, .mv (.t 16), none⟩])
 (.ret [2]))))⟩
structure H82 (Γ : Tab) : Prop where
  e82 : Γ 82 = some (.code f82)
  c28 : H28 Γ
/- loop.example/g00751/spec.NameOk -/
def f43 : DFn := ⟨1, false, [.t 2],
 (.seq
 (.reg [⟨some 2, .mv (.c (.bool false)), none⟩])
 (.seq
 (.reg [⟨some 3, .mv (.t 0), none⟩,
 ⟨some 4, .call 82 .frz [(.t 3)], none⟩,
 ⟨some 2, .mv (.t 4), none⟩])
 (.ret [2])))⟩
structure H43 (Γ : Tab) : Prop where
  e43 : Γ 43 = some (.code f43)
  c82 : H82 Γ
/- loop.example/g00751/spec.TypeOk -/
def f21 : DFn := ⟨1, false, [.t 2],
 (.seq
 (.reg [⟨some 1, .boxf (.t 0), none⟩,
 ⟨some 2, .mv (.c (.bool false)), none⟩])
 (.seq
 (.seq
 (.reg [⟨some 3, .faddr 0 (.t 1), none⟩,
 ⟨some 4, .load none (.t 3), none⟩,
 ⟨some 5, .call 28 .frz [(.t 4), (.c (.int .i64 0)), (.c (.int .i64 4))], none⟩,
 ⟨some 6, .un .not (.t 5), none⟩])
 (.cond (.t 6)
  (.seq
  (.reg [⟨some 2, .mv (.c (.bool false)), none⟩])
  (.ret [2]))
  .skip))
 (.seq
 (.reg [⟨some 7, .faddr 0 (.t 1), none⟩,
 ⟨some 8, .load none (.t 7), none⟩,
 ⟨some 9, .bin .eql (.t 8) (.c (.int .i64 3)), none⟩,
 ⟨some 10, .mv (.t 9), none⟩,
 ⟨some 11, .faddr 1 (.t 1), some (10, true)⟩,
 ⟨some 12, .load none (.t 11), some (10, true)⟩,
 ⟨some 13, .call 28 .frz [(.t 12), (.c (.int .i64 1)), (.c (.int .i64 100))], some (10, true)⟩,
 ⟨some 14, .pick (.t 10) (.t 13) (.c (.bool false)), none⟩,
 ⟨some 15, .mv (.t 14), none⟩,
 ⟨some 16, .faddr 0 (.t 1), some (15, false)⟩,
 ⟨some 17, .load none (.t 16), some (15, false)⟩,
 ⟨some 18, .bin .neq (.t 17) (.c (.int .i64 3)), some (15, false)⟩,
 ⟨some 19, .mv (.t 18), some (15, false)⟩,
 ⟨some 20, .faddr 1 (.t 1), some (19, true)⟩,
 ⟨some 21, .load none (.t 20), some (19, true)⟩,
 ⟨some 22, .bin .eql (.t 21) (.c (.int .i64 0)), some (19, true)⟩,
 ⟨some 23, .pick (.t 19) (.t 22) (.c (.bool false)), some (15, false)⟩,
 ⟨some 24, .pick (.t 15) (.c (.bool true)) (.t 23), none⟩,
 ⟨some 25, .mv (.t 24), none⟩,
 ⟨some 26, .faddr 0 (.t 1), some (25, true)⟩,
 ⟨some 27, .load none (.t 26), some (25, true)⟩,
 ⟨some 28, .bin .eql (.t 27) (.c (.int .i64 4)), some (25, true)⟩,
 ⟨some 29, .mv (.t 28), some (25, true)⟩,
 ⟨some 30, .faddr 2 (.t 1), some (29, true)⟩,
 ⟨some 31, .load none (.t 30), some (29, true)⟩,
 ⟨some 32, .call 43 .frz [(.t 31)], some (29, true)⟩,
 ⟨some 33, .pick (.t 29) (.t 32) (.c (.bool false)), some (25, true)⟩,
 ⟨some 34, .mv (.t 33), some (25, true)⟩,
 ⟨some 35, .faddr 0 (.t 1), some (34, false)⟩,
 ⟨some 36, .load none (.t 35), some (34, false)⟩,
 ⟨some 37, .bin .neq (.t 36) (.c (.int .i64 4)), some (34, false)⟩,
 ⟨some 38, .mv (.t 37), some (34, false)⟩,
 ⟨some 39, .faddr 2 (.t 1), some (38, true)⟩,
 ⟨some 40, .load none (.t 39), some (38, true)⟩,
 ⟨some 41, .bin .eql (.t 40) (.c (.str [])), some (38, true)⟩,
 ⟨some 42, .pick (.t 38) (.t 41) (.c (.bool false)), some (34, false)⟩,
 ⟨some 43, .pick (.t 34) (.c (.bool true)) (.t 42), some (25, true)⟩,
 ⟨some 44, .pick (.t 25) (.t 43) (.c (.bool false)), none⟩,
 ⟨some 2, .mv (.t 44), none⟩])
 (.ret [2]))))⟩
structure H21 (Γ : Tab) : Prop where
  e21 : Γ 21 = some (.code f21)
  c28 : H28 Γ
  c43 : H43 Γ
/- loop.example/g00751/impl.kidsOf -/
def f113 : DFn := ⟨1, false, [.t 2],
 (.seq
 (.reg [⟨some 2, .mv (.c (.int .i64 0)), none⟩])
 (.seq
 (.block 0 []
  (.seq
  (.reg [⟨some 4, .mv (.t 0), none⟩,
  ⟨some 5, .bin .leq (.t 4) (.c (.int .i64 5)), none⟩,
  ⟨some 3, .mv (.t 5), none⟩])
  (.cond (.t 3)
   (.seq
   (.reg [⟨some 2, .mv (.c (.int .i64 0)), none⟩])
   (.ret [2]))
   (.seq
   (.reg [⟨some 7, .mv (.t 0), none⟩,
   ⟨some 8, .bin .leq (.t 7) (.c (.int .i64 7)), none⟩,
   ⟨some 6, .mv (.t 8), none⟩])
   (.cond (.t 6)
    (.seq
    (.reg [⟨some 2, .mv (.c (.int .i64 1)), none⟩])
    (.ret [2]))
    .skip)))))
 (.seq
 (.reg [⟨some 2, .mv (.c (.int .i64 2)), none⟩])
 (.ret [2]))))⟩
structure H113 (Γ : Tab) : Prop where
  e113 : Γ 113 = some (.code f113)
/- slices.IndexFunc[[]loop.example/g00751/impl.Expr,loop.example/g00751/impl.Expr] -/
def f101l1 : DCode :=
 (.seq
 (.reg [⟨some 9, .bin .lss (.t 8) (.t 7), none⟩])
 (.seq
 (.cond (.t 9)
  .skip
  (.exit 0))
 (.seq
 (.block 1 [0, 1, 7, 8]
  (.seq
  (.reg [⟨some 10, .mv (.t 8), none⟩,
  ⟨some 5, .mv (.t 10), none⟩])
  (.seq
  (.reg [⟨some 11, .mv (.t 1), none⟩,
  ⟨some 12, .mv (.t 0), none⟩,
  ⟨some 13, .mv (.t 5), none⟩,
  ⟨some 14, .iaddr 4 (.t 12) (.t 13), none⟩,
  ⟨some 15, .load (some 4) (.t 14), none⟩,
  ⟨some 16, .callv (.t 11) .all [(.t 15)], none⟩])
  (.cond (.t 16)
   (.seq
   (.reg [⟨some 17, .mv (.t 5), none⟩,
   ⟨some 4, .mv (.t 17), none⟩])
   (.ret [4]))
   .skip))))
 (.reg [⟨some 18, .bin .add (.t 8) (.c (.int .i64 1)), none⟩,
 ⟨some 8, .mv (.t 18), none⟩]))))
def f101L1 : DCode := .loop [0, 1, 7, 8] none f101l1
def f101 : DFn := ⟨2, false, [.t 4],
 (.seq
 (.reg [⟨some 4, .mv (.c (.int .i64 0)), none⟩])
 (.seq
 (.seq
 (.reg [⟨some 6, .mv (.t 0), none⟩,
 ⟨some 7, .len (.t 6), none⟩,
 ⟨some 8, .mv (.c (.int .i64 0)), none⟩])
 (.block 0 []
  f101L1))
 (.seq
 (.reg [⟨some 4, .mv (.c (.int .i64 (-1))), none⟩])
 (.ret [4]))))⟩
structure H101 (Γ : Tab) : Prop where
  e101 : Γ 101 = some (.code f101)
/- slices.ContainsFunc[[]loop.example/g00751/impl.Expr,loop.example/g00751/impl.Expr] -/
def f64 : DFn := ⟨2, false, [.t 4],
 (.seq
 (.reg [⟨some 4, .mv (.c (.bool false)), none⟩])
 (.seq
 (.reg [⟨some 5, .mv (.t 0), none⟩,
 ⟨some 6, .mv (.t 1), none⟩,
 ⟨some 7, .call 101 .all [(.t 5), (.t 6)], none⟩,
 ⟨some 8, .bin .geq (.t 7) (.c (.int .i64 0)), none⟩,
 ⟨some 4, .mv (.t 8), none⟩])
 (.ret [4])))⟩
structure H64 (Γ : Tab) : Prop where
  e64 : Γ 64 = some (.code f64)
  c101 : H101 Γ
/- loop.example/g00751/impl.isExpr -/
def f102 : DFn := ⟨2, false, [.t 4],
 (.seq
 (.reg [⟨some 2, .boxf (.t 0), none⟩,
 ⟨some 3, .box (.t 1), none⟩,
 ⟨some 4, .mv (.c (.bool false)), none⟩])
 (.seq
 (.seq
 (.reg [⟨some 5, .load none (.t 3), none⟩,
 ⟨some 6, .nilck (.t 5), none⟩,
 ⟨some 7, .load none (.t 6), none⟩,
 ⟨some 8, .bin .sub (.t 7) (.c (.int .i64 1)), none⟩,
 ⟨some 9, .nilck (.t 5), none⟩,
 ⟨none, .store 1 (.t 9) (.t 8), none⟩])
 (.seq
 (.any [false, false, false, false, false, false, false, false, false, false, false, false, false, false, false, false, false, false, false] [(1, ⟨some 10, .load none (.t 3), none⟩),
 (1, ⟨some 11, .nilck (.t 10), none⟩),
 (1, ⟨some 12, .load none (.t 11), none⟩),
 (1, ⟨some 13, .bin .lss (.t 12) (.c (.int .i64 0)), none⟩),
 (1, ⟨some 14, .mv (.t 13), none⟩),
 (1, ⟨some 15, .faddr 0 (.t 2), some (14, false)⟩),
 (1, ⟨some 16, .load none (.t 15), some (14, false)⟩),
 (1, ⟨some 17, .call 29 .frz [(.t 16), (.c (.int .i64 0)), (.c (.int .i64 18))], some (14, false)⟩),
 (1, ⟨some 18, .un .not (.t 17), some (14, false)⟩),
 (1, ⟨some 19, .pick (.t 14) (.c (.bool true)) (.t 18), none⟩),
 (1, ⟨some 20, .mv (.t 19), none⟩),
 (1, ⟨some 21, .faddr 3 (.t 2), some (20, false)⟩),
 (1, ⟨some 22, .load none (.t 21), some (20, false)⟩),
 (1, ⟨some 23, .len (.t 22), some (20, false)⟩),
 (1, ⟨some 24, .faddr 0 (.t 2), some (20, false)⟩),
 (1, ⟨some 25, .load none (.t 24), some (20, false)⟩),
 (1, ⟨some 26, .call 113 .frz [(.t 25)], some (20, false)⟩),
 (1, ⟨some 27, .bin .neq (.t 23) (.t 26), some (20, false)⟩),
 (1, ⟨some 28, .pick (.t 20) (.c (.bool true)) (.t 27), none⟩)]
 [])
 (.cond (.t 28)
  (.seq
  (.reg [⟨some 4, .mv (.c (.bool false)), none⟩])
  (.ret [4]))
  .skip)))
 (.seq
 (.block 0 [2, 3]
  (.seq
  (.seq
  (.reg [⟨some 30, .faddr 0 (.t 2), none⟩,
  ⟨some 31, .load none (.t 30), none⟩,
  ⟨some 32, .bin .eql (.t 31) (.c (.int .i64 0)), none⟩,
  ⟨some 33, .mv (.t 32), none⟩,
  ⟨some 34, .faddr 1 (.t 2), some (33, true)⟩,
  ⟨some 35, .load none (.t 34), some (33, true)⟩,
  ⟨some 36, .call 44 .frz [(.t 35)], some (33, true)⟩,
  ⟨some 37, .un .not (.t 36), some (33, true)⟩,
  ⟨some 38, .pick (.t 33) (.t 37) (.c (.bool false)), none⟩,
  ⟨some 29, .mv (.t 38), none⟩])
  (.cond (.t 29)
   .skip
   (.seq
   (.reg [⟨some 39, .faddr 0 (.t 2), none⟩,
   ⟨some 40, .load none (.t 39), none⟩,
   ⟨some 41, .bin .eql (.t 40) (.c (.int .i64 2)), none⟩,
   ⟨some 42, .mv (.t 41), none⟩,
   ⟨some 43, .faddr 1 (.t 2), some (42, true)⟩,
   ⟨some 44, .load none (.t 43), some (42, true)⟩,
   ⟨some 45, .lens (.t 44), some (42, true)⟩,
   ⟨some 46, .bin .gtr (.t 45) (.c (.int .i64 100)), some (42, true)⟩,
   ⟨some 47, .pick (.t 42) (.t 46) (.c (.bool false)), none⟩,
   ⟨some 29, .mv (.t 47), none⟩])
   (.cond (.t 29)
    .skip
    (.reg [⟨some 48, .faddr 0 (.t 2), none⟩,
    ⟨some 49, .load none (.t 48), none⟩,
    ⟨some 50, .bin .neq (.t 49) (.c (.int .i64 0)), none⟩,
    ⟨some 51, .mv (.t 50), none⟩,
    ⟨some 52, .faddr 0 (.t 2), some (51, true)⟩,
    ⟨some 53, .load none (.t 52), some (51, true)⟩,
    ⟨some 54, .bin .neq (.t 53) (.c (.int .i64 2)), some (51, true)⟩,
    ⟨some 55, .pick (.t 51) (.t 54) (.c (.bool false)), none⟩,
    ⟨some 56, .mv (.t 55), none⟩,
    ⟨some 57, .faddr 1 (.t 2), some (56, true)⟩,
    ⟨some 58, .load none (.t 57), some (56, true)⟩,
    ⟨some 59, .bin .neq (.t 58) (.c (.str [])), some (56, true)⟩,
    ⟨some 60, .pick (.t 56) (.t 59) (.c (.bool false)), none⟩,
    ⟨some 29, .mv (.t 60), none⟩])))))
  (.cond (.t 29)
   (.seq
   (.reg [⟨some 4, .mv (.c (.bool false)), none⟩])
   (.ret [4]))
   (.seq
   (.seq
   (.reg [⟨some 62, .faddr 0 (.t 2), none⟩,
   ⟨some 63, .load none (.t 62), none⟩,
   ⟨some 64, .bin .eql (.t 63) (.c (.int .i64 1)), none⟩,
   ⟨some 65, .mv (.t 64), none⟩,
   ⟨some 66, .faddr 2 (.t 2), some (65, true)⟩,
   ⟨some 67, .load none (.t 66), some (65, true)⟩,
   ⟨some 68, .call 29 .frz [(.t 67), (.c (.int .i64 0)), (.c (.int .i64 999999999))], some (65, true)⟩,
   ⟨some 69, .un .not (.t 68), some (65, true)⟩,
   ⟨some 70, .pick (.t 65) (.t 69) (.c (.bool false)), none⟩,
   ⟨some 61, .mv (.t 70), none⟩])
   (.cond (.t 61)
    .skip
    (.reg [⟨some 71, .faddr 0 (.t 2), none⟩,
    ⟨some 72, .load none (.t 71), none⟩,
    ⟨some 73, .bin .neq (.t 72) (.c (.int .i64 1)), none⟩,
    ⟨some 74, .mv (.t 73), none⟩,
    ⟨some 75, .faddr 2 (.t 2), some (74, true)⟩,
    ⟨some 76, .load none (.t 75), some (74, true)⟩,
    ⟨some 77, .bin .neq (.t 76) (.c (.int .i64 0)), some (74, true)⟩,
    ⟨some 78, .pick (.t 74) (.t 77) (.c (.bool false)), none⟩,
    ⟨some 61, .mv (.t 78), none⟩])))
   (.cond (.t 61)
    (.seq
    (.reg [⟨some 4, .mv (.c (.bool false)), none⟩])
    (.ret [4]))
    .skip)))))
 (.seq
 (.reg [⟨some 79, .faddr 3 (.t 2), none⟩,
 ⟨some 80, .load none (.t 79), none⟩,
 ⟨some 81, .mkfn 112 [(.t 3)], none⟩,
 ⟨some 82, .call 64 .frz [(.t 80), (.t 81)], none⟩,
 ⟨some 83, .un .not (.t 82), none⟩,
 ⟨some 4, .mv (.t 83), none⟩])
 (.ret [4])))))⟩
/- loop.example/g00751/impl.isExpr$1 -/
def f112 : DFn := ⟨2, false, [.t 3],
 (.seq
 (.reg [⟨some 2, .boxf (.t 0), none⟩,
 ⟨some 3, .mv (.c (.bool false)), none⟩])
 (.seq
 (.reg [⟨some 4, .load (some 4) (.t 2), none⟩,
 ⟨some 5, .load none (.t 1), none⟩,
 ⟨some 6, .call 102 .frz [(.t 4), (.t 5)], none⟩,
 ⟨some 7, .un .not (.t 6), none⟩,
 ⟨some 3, .mv (.t 7), none⟩])
 (.ret [3])))⟩
structure H102 (Γ : Tab) : Prop where
  e102 : Γ 102 = some (.code f102)
  e112 : Γ 112 = some (.code f112)
  c29 : H29 Γ
  c44 : H44 Γ
  c64 : H64 Γ
  c113 : H113 Γ
abbrev H112 := H102
/- loop.example/g00751/impl.ExprOk -/
def f100 : DFn := ⟨1, false, [.t 2],
 (.seq
 (.reg [⟨some 1, .boxf (.t 0), none⟩,
 ⟨some 2, .mv (.c (.bool false)), none⟩])
 (.seq
 (.reg [⟨some 3, .alloc [.int .i64 0], none⟩,
 ⟨none, .store 1 (.t 3) (.c (.int .i64 40)), none⟩])
 (.seq
 (.reg [⟨some 4, .load (some 4) (.t 1), none⟩,
 ⟨some 5, .call 102 .frz [(.t 4), (.t 3)], none⟩,
 ⟨some 2, .mv (.t 5), none⟩])
 (.ret [2]))))⟩
structure H100 (Γ : Tab) : Prop where
  e100 : Γ 100 = some (.code f100)
  c102 : H102 Γ
/- loop.example/g00751/impl.isStmtCol$1 -/
def f97 : DFn := ⟨1, false, [.t 2],
 (.seq
 (.reg [⟨some 1, .boxf (.t 0), none⟩,
 ⟨some 2, .mv (.c (.bool false)), none⟩])
 (.seq
 (.reg [⟨some 3, .load (some 4) (.t 1), none⟩,
 ⟨some 4, .call 100 .frz [(.t 3)], none⟩,
 ⟨some 5, .un .not (.t 4), none⟩,
 ⟨some 2, .mv (.t 5), none⟩])
 (.ret [2])))⟩
structure H97 (Γ : Tab) : Prop where
  e97 : Γ 97 = some (.code f97)
  c100 : H100 Γ
/- loop.example/g00751/impl.isStmtCol -/
def f96 : DFn := ⟨1, false, [.t 2],
 (.seq
 (.reg [⟨some 1, .boxf (.t 0), none⟩,
 ⟨some 2, .mv (.c (.bool false)), none⟩])
 (.seq
 (.reg [⟨some 3, .faddr 0 (.t 1), none⟩,
 ⟨some 4, .load none (.t 3), none⟩,
 ⟨some 5, .call 44 .frz [(.t 4)], none⟩,
 ⟨some 6, .mv (.t 5), none⟩,
 ⟨some 7, .faddr 1 (.t 1), some (6, true)⟩,
 ⟨some 8, .load (some 3) (.t 7), some (6, true)⟩,
 ⟨some 9, .call 18 .frz [(.t 8)], some (6, true)⟩,
 ⟨some 10, .pick (.t 6) (.t 9) (.c (.bool false)), none⟩,
 ⟨some 11, .mv (.t 10), none⟩,
 ⟨some 12, .faddr 5 (.t 1), some (11, true)⟩,
 ⟨some 13, .load none (.t 12), some (11, true)⟩,
 ⟨some 14, .len (.t 13), some (11, true)⟩,
 ⟨some 15, .bin .leq (.t 14) (.c (.int .i64 1)), some (11, true)⟩,
 ⟨some 16, .pick (.t 11) (.t 15) (.c (.bool false)), none⟩,
 ⟨some 17, .mv (.t 16), none⟩,
 ⟨some 18, .faddr 5 (.t 1), some (17, true)⟩,
 ⟨some 19, .load none (.t 18), some (17, true)⟩,
 ⟨some 20, .call 64 .frz [(.t 19), (.c (.fn 97 []))], some (17, true)⟩,
 ⟨some 21, .un .not (.t 20), some (17, true)⟩,
 ⟨some 22, .pick (.t 17) (.t 21) (.c (.bool false)), none⟩,
 ⟨some 2, .mv (.t 22), none⟩])
 (.ret [2])))⟩
structure H96 (Γ : Tab) : Prop where
  e96 : Γ 96 = some (.code f96)
  c18 : H18 Γ
  c44 : H44 Γ
  c64 : H64 Γ
  c97 : H97 Γ
/- loop.example/g00751/impl.StmtOk$1 -/
def f57 : DFn := ⟨1, false, [.t 2],
 (.seq
 (.reg [⟨some 1, .boxf (.t 0), none⟩,
 ⟨some 2, .mv (.c (.bool false)), none⟩])
 (.seq
 (.reg [⟨some 3, .load (some 6) (.t 1), none⟩,
 ⟨some 4, .call 96 .frz [(.t 3)], none⟩,
 ⟨some 5, .un .not (.t 4), none⟩,
 ⟨some 2, .mv (.t 5), none⟩])
 (.ret [2])))⟩
structure H57 (Γ : Tab) : Prop where
  e57 : Γ 57 = some (.code f57)
  c96 : H96 Γ
/- loop.example/g00751/impl.areIds$1 -/
def f103 : DFn := ⟨1, false, [.t 2],
 (.seq
 (.reg [⟨some 2, .mv (.c (.bool false)), none⟩])
 (.seq
 (.reg [⟨some 3, .mv (.t 0), none⟩,
 ⟨some 4, .call 44 .frz [(.t 3)], none⟩,
 ⟨some 5, .un .not (.t 4), none⟩,
 ⟨some 2, .mv (.t 5), none⟩])
 (.ret [2])))⟩
structure H103 (Γ : Tab) : Prop where
  e103 : Γ 103 = some (.code f103)
  c44 : H44 Γ
/- slices.IndexFunc[[]string,string] -/
def f114l1 : DCode :=
 (.seq
 (.reg [⟨some 9, .bin .lss (.t 8) (.t 7), none⟩])
 (.seq
 (.cond (.t 9)
  .skip
  (.exit 0))
 (.seq
 (.block 1 [0, 1, 7, 8]
  (.seq
  (.reg [⟨some 10, .mv (.t 8), none⟩,
  ⟨some 5, .mv (.t 10), none⟩])
  (.seq
  (.reg [⟨some 11, .mv (.t 1), none⟩,
  ⟨some 12, .mv (.t 0), none⟩,
  ⟨some 13, .mv (.t 5), none⟩,
  ⟨some 14, .iaddr 1 (.t 12) (.t 13), none⟩,
  ⟨some 15, .load none (.t 14), none⟩,
  ⟨some 16, .callv (.t 11) .all [(.t 15)], none⟩])
  (.cond (.t 16)
   (.seq
   (.reg [⟨some 17, .mv (.t 5), none⟩,
   ⟨some 4, .mv (.t 17), none⟩])
   (.ret [4]))
   .skip))))
 (.reg [⟨some 18, .bin .add (.t 8) (.c (.int .i64 1)), none⟩,
 ⟨some 8, .mv (.t 18), none⟩]))))
def f114L1 : DCode := .loop [0, 1, 7, 8] none f114l1
def f114 : DFn := ⟨2, false, [.t 4],
 (.seq
 (.reg [⟨some 4, .mv (.c (.int .i64 0)), none⟩])
 (.seq
 (.seq
 (.reg [⟨some 6, .mv (.t 0), none⟩,
 ⟨some 7, .len (.t 6), none⟩,
 ⟨some 8, .mv (.c (.int .i64 0)), none⟩])
 (.block 0 []
  f114L1))
 (.seq
 (.reg [⟨some 4, .mv (.c (.int .i64 (-1))), none⟩])
 (.ret [4]))))⟩
structure H114 (Γ : Tab) : Prop where
  e114 : Γ 114 = some (.code f114)
/- slices.ContainsFunc[[]string,string] -/
def f104 : DFn := ⟨2, false, [.t 4],
 (.seq
 (.reg [⟨some 4, .mv (.c (.bool false)), none⟩])
 (.seq
 (.reg [⟨some 5, .mv (.t 0), none⟩,
 ⟨some 6, .mv (.t 1), none⟩,
 ⟨some 7, .call 114 .all [(.t 5), (.t 6)], none⟩,
 ⟨some 8, .bin .geq (.t 7) (.c (.int .i64 0)), none⟩,
 ⟨some 4, .mv (.t 8), none⟩])
 (.ret [4])))⟩
structure H104 (Γ : Tab) : Prop where
  e104 : Γ 104 = some (.code f104)
  c114 : H114 Γ
/- loop.example/g00751/impl.areIds -/
def f60 : DFn := ⟨1, false, [.t 2],
 (.seq
 (.reg [⟨some 2, .mv (.c (.bool false)), none⟩])
 (.seq
 (.reg [⟨some 3, .mv (.t 0), none⟩,
 ⟨some 4, .call 104 .frz [(.t 3), (.c (.fn 103 []))], none⟩,
 ⟨some 5, .un .not (.t 4), none⟩,
 ⟨some 2, .mv (.t 5), none⟩])
 (.ret [2])))⟩
structure H60 (Γ : Tab) : Prop where
  e60 : Γ 60 = some (.code f60)
  c103 : H103 Γ
  c104 : H104 Γ
/- loop.example/g00751/impl.isStmtRule -/
def f99 : DFn := ⟨1, false, [.t 2],
 (.seq
 (.reg [⟨some 1, .boxf (.t 0), none⟩,
 ⟨some 2, .mv (.c (.bool false)), none⟩])
 (.seq
 (.seq
 (.reg [⟨some 3, .faddr 0 (.t 1), none⟩,
 ⟨some 4, .load none (.t 3), none⟩,
 ⟨some 5, .call 44 .frz [(.t 4)], none⟩,
 ⟨some 6, .un .not (.t 5), none⟩,
 ⟨some 7, .mv (.t 6), none⟩,
 ⟨some 8, .faddr 1 (.t 1), some (7, false)⟩,
 ⟨some 9, .load none (.t 8), some (7, false)⟩,
 ⟨some 10, .bin .neq (.t 9) (.c (.int .i64 2)), some (7, false)⟩,
 ⟨some 11, .mv (.t 10), some (7, false)⟩,
 ⟨some 12, .faddr 3 (.t 1), some (11, true)⟩,
 ⟨some 13, .load none (.t 12), some (11, true)⟩,
 ⟨some 14, .len (.t 13), some (11, true)⟩,
 ⟨some 15, .bin .gtr (.t 14) (.c (.int .i64 0)), some (11, true)⟩,
 ⟨some 16, .pick (.t 11) (.t 15) (.c (.bool false)), some (7, false)⟩,
 ⟨some 17, .pick (.t 7) (.c (.bool true)) (.t 16), none⟩,
 ⟨some 18, .mv (.t 17), none⟩,
 ⟨some 19, .faddr 1 (.t 1), some (18, false)⟩,
 ⟨some 20, .load none (.t 19), some (18, false)⟩,
 ⟨some 21, .bin .neq (.t 20) (.c (.int .i64 3)), some (18, false)⟩,
 ⟨some 22, .mv (.t 21), some (18, false)⟩,
 ⟨some 23, .faddr 4 (.t 1), some (22, true)⟩,
 ⟨some 24, .load none (.t 23), some (22, true)⟩,
 ⟨some 25, .bin .neq (.t 24) (.c (.str [])), some (22, true)⟩,
 ⟨some 26, .mv (.t 25), some (22, true)⟩,
 ⟨some 27, .faddr 5 (.t 1), some (26, false)⟩,
 ⟨some 28, .load none (.t 27), some (26, false)⟩,
 ⟨some 29, .len (.t 28), some (26, false)⟩,
 ⟨some 30, .bin .gtr (.t 29) (.c (.int .i64 0)), some (26, false)⟩,
 ⟨some 31, .pick (.t 26) (.c (.bool true)) (.t 30), some (22, true)⟩,
 ⟨some 32, .pick (.t 22) (.t 31) (.c (.bool false)), some (18, false)⟩,
 ⟨some 33, .pick (.t 18) (.c (.bool true)) (.t 32), none⟩])
 (.cond (.t 33)
  (.seq
  (.reg [⟨some 2, .mv (.c (.bool false)), none⟩])
  (.ret [2]))
  .skip))
 (.seq
 (.seq
 (.reg [⟨some 34, .faddr 1 (.t 1), none⟩,
 ⟨some 35, .load none (.t 34), none⟩])
 (.block 0 []
  (.seq
  (.seq
  (.reg [⟨some 37, .bin .eql (.t 35) (.c (.int .i64 0)), none⟩,
  ⟨some 36, .mv (.t 37), none⟩])
  (.cond (.t 36)
   .skip
   (.reg [⟨some 38, .bin .eql (.t 35) (.c (.int .i64 1)), none⟩,
   ⟨some 36, .mv (.t 38), none⟩])))
  (.cond (.t 36)
   (.seq
   (.reg [⟨some 39, .faddr 2 (.t 1), none⟩,
   ⟨some 40, .load none (.t 39), none⟩,
   ⟨some 41, .len (.t 40), none⟩,
   ⟨some 42, .call 29 .frz [(.t 41), (.c (.int .i64 1)), (.c (.int .i64 4))], none⟩,
   ⟨some 43, .mv (.t 42), none⟩,
   ⟨some 44, .faddr 2 (.t 1), some (43, true)⟩,
   ⟨some 45, .load none (.t 44), some (43, true)⟩,
   ⟨some 46, .call 60 .frz [(.t 45)], some (43, true)⟩,
   ⟨some 47, .pick (.t 43) (.t 46) (.c (.bool false)), none⟩,
   ⟨some 2, .mv (.t 47), none⟩])
   (.ret [2]))
   (.seq
   (.reg [⟨some 49, .bin .eql (.t 35) (.c (.int .i64 2)), none⟩,
   ⟨some 48, .mv (.t 49), none⟩])
   (.cond (.t 48)
    (.seq
    (.reg [⟨some 50, .faddr 2 (.t 1), none⟩,
    ⟨some 51, .load none (.t 50), none⟩,
    ⟨some 52, .len (.t 51), none⟩,
    ⟨some 53, .bin .eql (.t 52) (.c (.int .i64 0)), none⟩,
    ⟨some 54, .mv (.t 53), none⟩,
    ⟨some 55, .faddr 3 (.t 1), some (54, true)⟩,
    ⟨some 56, .load none (.t 55), some (54, true)⟩,
    ⟨some 57, .len (.t 56), some (54, true)⟩,
    ⟨some 58, .bin .eql (.t 57) (.c (.int .i64 1)), some (54, true)⟩,
    ⟨some 59, .pick (.t 54) (.t 58) (.c (.bool false)), none⟩,
    ⟨some 60, .mv (.t 59), none⟩,
    ⟨some 61, .faddr 3 (.t 1), some (60, true)⟩,
    ⟨some 62, .load none (.t 61), some (60, true)⟩,
    ⟨some 63, .iaddr 4 (.t 62) (.c (.int .i64 0)), some (60, true)⟩,
    ⟨some 64, .load (some 4) (.t 63), some (60, true)⟩,
    ⟨some 65, .call 100 .frz [(.t 64)], some (60, true)⟩,
    ⟨some 66, .pick (.t 60) (.t 65) (.c (.bool false)), none⟩,
    ⟨some 2, .mv (.t 66), none⟩])
    (.ret [2]))
    (.seq
    (.reg [⟨some 68, .bin .eql (.t 35) (.c (.int .i64 3)), none⟩,
    ⟨some 67, .mv (.t 68), none⟩])
    (.cond (.t 67)
     (.seq
     (.reg [⟨some 69, .faddr 2 (.t 1), none⟩,
     ⟨some 70, .load none (.t 69), none⟩,
     ⟨some 71, .len (.t 70), none⟩,
     ⟨some 72, .call 29 .frz [(.t 71), (.c (.int .i64 1)), (.c (.int .i64 4))], none⟩,
     ⟨some 73, .mv (.t 72), none⟩,
     ⟨some 74, .faddr 5 (.t 1), some (73, true)⟩,
     ⟨some 75, .load none (.t 74), some (73, true)⟩,
     ⟨some 76, .len (.t 75), some (73, true)⟩,
     ⟨some 77, .faddr 2 (.t 1), some (73, true)⟩,
     ⟨some 78, .load none (.t 77), some (73, true)⟩,
     ⟨some 79, .len (.t 78), some (73, true)⟩,
     ⟨some 80, .bin .eql (.t 76) (.t 79), some (73, true)⟩,
     ⟨some 81, .pick (.t 73) (.t 80) (.c (.bool false)), none⟩,
     ⟨some 82, .mv (.t 81), none⟩,
     ⟨some 83, .faddr 2 (.t 1), some (82, true)⟩,
     ⟨some 84, .load none (.t 83), some (82, true)⟩,
     ⟨some 85, .call 60 .frz [(.t 84)], some (82, true)⟩,
     ⟨some 86, .pick (.t 82) (.t 85) (.c (.bool false)), none⟩,
     ⟨some 87, .mv (.t 86), none⟩,
     ⟨some 88, .faddr 5 (.t 1), some (87, true)⟩,
     ⟨some 89, .load none (.t 88), some (87, true)⟩,
     ⟨some 90, .call 60 .frz [(.t 89)], some (87, true)⟩,
     ⟨some 91, .pick (.t 87) (.t 90) (.c (.bool false)), none⟩,
     ⟨some 92, .mv (.t 91), none⟩,
     ⟨some 93, .faddr 4 (.t 1), some (92, true)⟩,
     ⟨some 94, .load none (.t 93), some (92, true)⟩,
     ⟨some 95, .call 44 .frz [(.t 94)], some (92, true)⟩,
     ⟨some 96, .pick (.t 92) (.t 95) (.c (.bool false)), none⟩,
     ⟨some 2, .mv (.t 96), none⟩])
     (.ret [2]))
     .skip))))))))
 (.seq
 (.reg [⟨some 2, .mv (.c (.bool false)), none⟩])
 (.ret [2])))))⟩
structure H99 (Γ : Tab) : Prop where
  e99 : Γ 99 = some (.code f99)
  c29 : H29 Γ
  c44 : H44 Γ
  c60 : H60 Γ
  c100 : H100 Γ
/- loop.example/g00751/impl.StmtOk$2 -/
def f58 : DFn := ⟨1, false, [.t 2],
 (.seq
 (.reg [⟨some 1, .boxf (.t 0), none⟩,
 ⟨some 2, .mv (.c (.bool false)), none⟩])
 (.seq
 (.reg [⟨some 3, .load (some 6) (.t 1), none⟩,
 ⟨some 4, .call 99 .frz [(.t 3)], none⟩,
 ⟨some 5, .un .not (.t 4), none⟩,
 ⟨some 2, .mv (.t 5), none⟩])
 (.ret [2])))⟩
structure H58 (Γ : Tab) : Prop where
  e58 : Γ 58 = some (.code f58)
  c99 : H99 Γ
/- loop.example/g00751/impl.StmtOk$3 -/
def f59 : DFn := ⟨1, false, [.t 2],
 (.seq
 (.reg [⟨some 1, .boxf (.t 0), none⟩,
 ⟨some 2, .mv (.c (.bool false)), none⟩])
 (.seq
 (.reg [⟨some 3, .load (some 4) (.t 1), none⟩,
 ⟨some 4, .call 100 .frz [(.t 3)], none⟩,
 ⟨some 5, .un .not (.t 4), none⟩,
 ⟨some 2, .mv (.t 5), none⟩])
 (.ret [2])))⟩
structure H59 (Γ : Tab) : Prop where
  e59 : Γ 59 = some (.code f59)
  c100 : H100 Γ
/- loop.example/g00751/impl.used -/
def f62 : DFn := ⟨1, false, [.t 2],
 (.seq
 (.reg [⟨some 2, .mv (.c (.str [])), none⟩])
 (.seq
 (.seq
 (.reg [⟨some 3, .mv (.t 0), none⟩])
 (.block 0 []
  (.seq
  (.reg [⟨some 5, .bin .eql (.t 3) (.c (.int .i64 0)), none⟩,
  ⟨some 4, .mv (.t 5), none⟩])
  (.cond (.t 4)
   (.seq
   (.reg [⟨some 2, .mv (.c (.str [108, 105, 115, 116])), none⟩])
   (.ret [2]))
   (.seq
   (.reg [⟨some 7, .bin .eql (.t 3) (.c (.int .i64 2)), none⟩,
   ⟨some 6, .mv (.t 7), none⟩])
   (.cond (.t 6)
    (.seq
    (.reg [⟨some 2, .mv (.c (.str [110, 117, 109])), none⟩])
    (.ret [2]))
    (.seq
    (.reg [⟨some 9, .bin .eql (.t 3) (.c (.int .i64 4)), none⟩,
    ⟨some 8, .mv (.t 9), none⟩])
    (.cond (.t 8)
     (.seq
     (.reg [⟨some 2, .mv (.c (.str [99, 111, 108, 115, 32, 114, 117, 108, 101, 115])), none⟩])
     (.ret [2]))
     (.seq
     (.reg [⟨some 11, .bin .eql (.t 3) (.c (.int .i64 6)), none⟩,
     ⟨some 10, .mv (.t 11), none⟩])
     (.cond (.t 10)
      (.seq
      (.reg [⟨some 2, .mv (.c (.str [99, 111, 108, 115])), none⟩])
      (.ret [2]))
      (.seq
      (.reg [⟨some 13, .bin .eql (.t 3) (.c (.int .i64 11)), none⟩,
      ⟨some 12, .mv (.t 13), none⟩])
      (.cond (.t 12)
       (.seq
       (.reg [⟨some 2, .mv (.c (.str [114, 117, 108, 101, 115])), none⟩])
       (.ret [2]))
       (.seq
       (.seq
       (.reg [⟨some 15, .bin .eql (.t 3) (.c (.int .i64 7)), none⟩,
       ⟨some 14, .mv (.t 15), none⟩])
       (.cond (.t 14)
        .skip
        (.reg [⟨some 16, .bin .eql (.t 3) (.c (.int .i64 12)), none⟩,
        ⟨some 14, .mv (.t 16), none⟩])))
       (.cond (.t 14)
        (.seq
        (.reg [⟨some 2, .mv (.c (.str [111, 110])), none⟩])
        (.ret [2]))
        (.seq
        (.reg [⟨some 18, .bin .eql (.t 3) (.c (.int .i64 8)), none⟩,
        ⟨some 17, .mv (.t 18), none⟩])
        (.cond (.t 17)
         (.seq
         (.reg [⟨some 2, .mv (.c (.str [111, 110, 32, 116, 121, 112, 101])), none⟩])
         (.ret [2]))
         (.seq
         (.reg [⟨some 20, .bin .eql (.t 3) (.c (.int .i64 9)), none⟩,
         ⟨some 19, .mv (.t 20), none⟩])
         (.cond (.t 19)
          (.seq
          (.reg [⟨some 2, .mv (.c (.str [111, 110, 32, 102, 108, 97, 103])), none⟩])
          (.ret [2]))
          (.seq
          (.reg [⟨some 22, .bin .eql (.t 3) (.c (.int .i64 10)), none⟩,
          ⟨some 21, .mv (.t 22), none⟩])
          (.cond (.t 21)
           (.seq
           (.reg [⟨some 2, .mv (.c (.str [111, 110, 32, 101, 120, 112, 114, 115])), none⟩])
           (.ret [2]))
           (.seq
           (.reg [⟨some 24, .bin .eql (.t 3) (.c (.int .i64 13)), none⟩,
           ⟨some 23, .mv (.t 24), none⟩])
           (.cond (.t 23)
            (.seq
            (.reg [⟨some 2, .mv (.c (.str [111, 110, 32, 108, 105, 115, 116, 32, 102, 108, 97, 103])), none⟩])
            (.ret [2]))
            (.seq
            (.reg [⟨some 26, .bin .eql (.t 3) (.c (.int .i64 15)), none⟩,
            ⟨some 25, .mv (.t 26), none⟩])
            (.cond (.t 25)
             (.seq
             (.reg [⟨some 2, .mv (.c (.str [111, 110, 32, 108, 105, 115, 116, 32, 101, 120, 112, 114, 115])), none⟩])
             (.ret [2]))
             .skip))))))))))))))))))))))))
 (.seq
 (.reg [⟨some 2, .mv (.c (.str [])), none⟩])
 (.ret [2]))))⟩
structure H62 (Γ : Tab) : Prop where
  e62 : Γ 62 = some (.code f62)
/- loop.example/g00751/impl.isOnly$1 -/
def f94 : DFn := ⟨3, false, [.t 5],
 (.seq
 (.reg [⟨some 5, .mv (.c (.bool false)), none⟩])
 (.seq
 (.reg [⟨some 6, .mv (.t 1), none⟩,
 ⟨some 7, .mv (.t 6), none⟩,
 ⟨some 8, .faddr 0 (.t 2), some (7, false)⟩,
 ⟨some 9, .load none (.t 8), some (7, false)⟩,
 ⟨some 10, .call 62 .frz [(.t 9)], some (7, false)⟩,
 ⟨some 11, .mv (.t 0), some (7, false)⟩,
 ⟨some 12, .call 83 .frz [(.t 10), (.t 11)], some (7, false)⟩,
 ⟨some 13, .pick (.t 7) (.c (.bool true)) (.t 12), none⟩,
 ⟨some 5, .mv (.t 13), none⟩])
 (.ret [5])))⟩
structure H94 (Γ : Tab) : Prop where
  e94 : Γ 94 = some (.code f94)
  c62 : H62 Γ
  c83 : H83 Γ
/- loop.example/g00751/impl.isOnly -/
def f61 : DFn := ⟨1, false, [.t 2],
 (.seq
 (.reg [⟨some 1, .boxf (.t 0), none⟩,
 ⟨some 2, .mv (.c (.bool false)), none⟩])
 (.seq
 (.reg [⟨some 4, .mkfn 94 [(.t 1)], none⟩,
 ⟨some 3, .mv (.t 4), none⟩])
 (.seq
 (.reg [⟨some 5, .mv (.t 3), none⟩,
 ⟨some 6, .faddr 2 (.t 1), none⟩,
 ⟨some 7, .load none (.t 6), none⟩,
 ⟨some 8, .bin .eql (.t 7) (.c (.str [])), none⟩,
 ⟨some 9, .callv (.t 5) .frz [(.c (.str [111, 110])), (.t 8)], none⟩,
 ⟨some 10, .mv (.t 9), none⟩,
 ⟨some 11, .mv (.t 3), some (10, true)⟩,
 ⟨some 12, .faddr 3 (.t 1), some (10, true)⟩,
 ⟨some 13, .load none (.t 12), some (10, true)⟩,
 ⟨some 14, .len (.t 13), some (10, true)⟩,
 ⟨some 15, .bin .eql (.t 14) (.c (.int .i64 0)), some (10, true)⟩,
 ⟨some 16, .callv (.t 11) .frz [(.c (.str [108, 105, 115, 116])), (.t 15)], some (10, true)⟩,
 ⟨some 17, .pick (.t 10) (.t 16) (.c (.bool false)), none⟩,
 ⟨some 18, .mv (.t 17), none⟩,
 ⟨some 19, .mv (.t 3), some (18, true)⟩,
 ⟨some 20, .faddr 4 (.t 1), some (18, true)⟩,
 ⟨some 21, .load none (.t 20), some (18, true)⟩,
 ⟨some 22, .bin .eql (.t 21) (.c (.int .i64 0)), some (18, true)⟩,
 ⟨some 23, .callv (.t 19) .frz [(.c (.str [110, 117, 109])), (.t 22)], some (18, true)⟩,
 ⟨some 24, .pick (.t 18) (.t 23) (.c (.bool false)), none⟩,
 ⟨some 25, .mv (.t 24), none⟩,
 ⟨some 26, .mv (.t 3), some (25, true)⟩,
 ⟨some 27, .faddr 5 (.t 1), some (25, true)⟩,
 ⟨some 28, .load none (.t 27), some (25, true)⟩,
 ⟨some 29, .un .not (.t 28), some (25, true)⟩,
 ⟨some 30, .callv (.t 26) .frz [(.c (.str [102, 108, 97, 103])), (.t 29)], some (25, true)⟩,
 ⟨some 31, .pick (.t 25) (.t 30) (.c (.bool false)), none⟩,
 ⟨some 32, .mv (.t 31), none⟩,
 ⟨some 33, .mv (.t 3), some (32, true)⟩,
 ⟨some 34, .faddr 6 (.t 1), some (32, true)⟩,
 ⟨some 35, .load (some 3) (.t 34), some (32, true)⟩,
 ⟨some 36, .build [.int .i64 0, .int .i64 0, .str []] [], some (32, true)⟩,
 ⟨some 37, .eqs false [.i, .i, .s] (.t 35) (.t 36), some (32, true)⟩,
 ⟨some 38, .callv (.t 33) .frz [(.c (.str [116, 121, 112, 101])), (.t 37)], some (32, true)⟩,
 ⟨some 39, .pick (.t 32) (.t 38) (.c (.bool false)), none⟩,
 ⟨some 40, .mv (.t 39), none⟩,
 ⟨some 41, .mv (.t 3), some (40, true)⟩,
 ⟨some 42, .faddr 9 (.t 1), some (40, true)⟩,
 ⟨some 43, .load none (.t 42), some (40, true)⟩,
 ⟨some 44, .len (.t 43), some (40, true)⟩,
 ⟨some 45, .bin .eql (.t 44) (.c (.int .i64 0)), some (40, true)⟩,
 ⟨some 46, .callv (.t 41) .frz [(.c (.str [99, 111, 108, 115])), (.t 45)], some (40, true)⟩,
 ⟨some 47, .pick (.t 40) (.t 46) (.c (.bool false)), none⟩,
 ⟨some 48, .mv (.t 47), none⟩,
 ⟨some 49, .mv (.t 3), some (48, true)⟩,
 ⟨some 50, .faddr 10 (.t 1), some (48, true)⟩,
 ⟨some 51, .load none (.t 50), some (48, true)⟩,
 ⟨some 52, .len (.t 51), some (48, true)⟩,
 ⟨some 53, .bin .eql (.t 52) (.c (.int .i64 0)), some (48, true)⟩,
 ⟨some 54, .callv (.t 49) .frz [(.c (.str [114, 117, 108, 101, 115])), (.t 53)], some (48, true)⟩,
 ⟨some 55, .pick (.t 48) (.t 54) (.c (.bool false)), none⟩,
 ⟨some 56, .mv (.t 55), none⟩,
 ⟨some 57, .mv (.t 3), some (56, true)⟩,
 ⟨some 58, .faddr 11 (.t 1), some (56, true)⟩,
 ⟨some 59, .load none (.t 58), some (56, true)⟩,
 ⟨some 60, .len (.t 59), some (56, true)⟩,
 ⟨some 61, .bin .eql (.t 60) (.c (.int .i64 0)), some (56, true)⟩,
 ⟨some 62, .callv (.t 57) .frz [(.c (.str [101, 120, 112, 114, 115])), (.t 61)], some (56, true)⟩,
 ⟨some 63, .pick (.t 56) (.t 62) (.c (.bool false)), none⟩,
 ⟨some 2, .mv (.t 63), none⟩])
 (.ret [2]))))⟩
structure H61 (Γ : Tab) : Prop where
  e61 : Γ 61 = some (.code f61)
  c94 : H94 Γ
/- slices.IndexFunc[[]loop.example/g00751/impl.Col,loop.example/g00751/impl.Col] -/
def f95l1 : DCode :=
 (.seq
 (.reg [⟨some 9, .bin .lss (.t 8) (.t 7), none⟩])
 (.seq
 (.cond (.t 9)
  .skip
  (.exit 0))
 (.seq
 (.block 1 [0, 1, 7, 8]
  (.seq
  (.reg [⟨some 10, .mv (.t 8), none⟩,
  ⟨some 5, .mv (.t 10), none⟩])
  (.seq
  (.reg [⟨some 11, .mv (.t 1), none⟩,
  ⟨some 12, .mv (.t 0), none⟩,
  ⟨some 13, .mv (.t 5), none⟩,
  ⟨some 14, .iaddr 6 (.t 12) (.t 13), none⟩,
  ⟨some 15, .load (some 6) (.t 14), none⟩,
  ⟨some 16, .callv (.t 11) .all [(.t 15)], none⟩])
  (.cond (.t 16)
   (.seq
   (.reg [⟨some 17, .mv (.t 5), none⟩,
   ⟨some 4, .mv (.t 17), none⟩])
   (.ret [4]))
   .skip))))
 (.reg [⟨some 18, .bin .add (.t 8) (.c (.int .i64 1)), none⟩,
 ⟨some 8, .mv (.t 18), none⟩]))))
def f95L1 : DCode := .loop [0, 1, 7, 8] none f95l1
def f95 : DFn := ⟨2, false, [.t 4],
 (.seq
 (.reg [⟨some 4, .mv (.c (.int .i64 0)), none⟩])
 (.seq
 (.seq
 (.reg [⟨some 6, .mv (.t 0), none⟩,
 ⟨some 7, .len (.t 6), none⟩,
 ⟨some 8, .mv (.c (.int .i64 0)), none⟩])
 (.block 0 []
  f95L1))
 (.seq
 (.reg [⟨some 4, .mv (.c (.int .i64 (-1))), none⟩])
 (.ret [4]))))⟩
structure H95 (Γ : Tab) : Prop where
  e95 : Γ 95 = some (.code f95)
/- slices.ContainsFunc[[]loop.example/g00751/impl.Col,loop.example/g00751/impl.Col] -/
def f63 : DFn := ⟨2, false, [.t 4],
 (.seq
 (.reg [⟨some 4, .mv (.c (.bool false)), none⟩])
 (.seq
 (.reg [⟨some 5, .mv (.t 0), none⟩,
 ⟨some 6, .mv (.t 1), none⟩,
 ⟨some 7, .call 95 .all [(.t 5), (.t 6)], none⟩,
 ⟨some 8, .bin .geq (.t 7) (.c (.int .i64 0)), none⟩,
 ⟨some 4, .mv (.t 8), none⟩])
 (.ret [4])))⟩
structure H63 (Γ : Tab) : Prop where
  e63 : Γ 63 = some (.code f63)
  c95 : H95 Γ
/- slices.IndexFunc[[]loop.example/g00751/impl.Rule,loop.example/g00751/impl.Rule] -/
def f98l1 : DCode :=
 (.seq
 (.reg [⟨some 9, .bin .lss (.t 8) (.t 7), none⟩])
 (.seq
 (.cond (.t 9)
  .skip
  (.exit 0))
 (.seq
 (.block 1 [0, 1, 7, 8]
  (.seq
  (.reg [⟨some 10, .mv (.t 8), none⟩,
  ⟨some 5, .mv (.t 10), none⟩])
  (.seq
  (.reg [⟨some 11, .mv (.t 1), none⟩,
  ⟨some 12, .mv (.t 0), none⟩,
  ⟨some 13, .mv (.t 5), none⟩,
  ⟨some 14, .iaddr 6 (.t 12) (.t 13), none⟩,
  ⟨some 15, .load (some 6) (.t 14), none⟩,
  ⟨some 16, .callv (.t 11) .all [(.t 15)], none⟩])
  (.cond (.t 16)
   (.seq
   (.reg [⟨some 17, .mv (.t 5), none⟩,
   ⟨some 4, .mv (.t 17), none⟩])
   (.ret [4]))
   .skip))))
 (.reg [⟨some 18, .bin .add (.t 8) (.c (.int .i64 1)), none⟩,
 ⟨some 8, .mv (.t 18), none⟩]))))
def f98L1 : DCode := .loop [0, 1, 7, 8] none f98l1
def f98 : DFn := ⟨2, false, [.t 4],
 (.seq
 (.reg [⟨some 4, .mv (.c (.int .i64 0)), none⟩])
 (.seq
 (.seq
 (.reg [⟨some 6, .mv (.t 0), none⟩,
 ⟨some 7, .len (.t 6), none⟩,
 ⟨some 8, .mv (.c (.int .i64 0)), none⟩])
 (.block 0 []
  f98L1))
 (.seq
 (.reg [⟨some 4, .mv (.c (.int .i64 (-1))), none⟩])
 (.ret [4]))))⟩
structure H98 (Γ : Tab) : Prop where
  e98 : Γ 98 = some (.code f98)
/- slices.ContainsFunc[[]loop.example/g00751/impl.Rule,loop.example/g00751/impl.Rule] -/
def f65 : DFn := ⟨2, false, [.t 4],
 (.seq
 (.reg [⟨some 4, .mv (.c (.bool false)), none⟩])
 (.seq
 (.reg [⟨some 5, .mv (.t 0), none⟩,
 ⟨some 6, .mv (.t 1), none⟩,
 ⟨some 7, .call 98 .all [(.t 5), (.t 6)], none⟩,
 ⟨some 8, .bin .geq (.t 7) (.c (.int .i64 0)), none⟩,
 ⟨some 4, .mv (.t 8), none⟩])
 (.ret [4])))⟩
structure H65 (Γ : Tab) : Prop where
  e65 : Γ 65 = some (.code f65)
  c98 : H98 Γ
/- loop.example/g00751/impl.StmtOk -/
def f23 : DFn := ⟨1, false, [.t 2],
 (.seq
 (.reg [⟨some 1, .boxf (.t 0), none⟩,
 ⟨some 2, .mv (.c (.bool false)), none⟩])
 (.seq
 (.seq
 (.reg [⟨some 3, .faddr 0 (.t 1), none⟩,
 ⟨some 4, .load none (.t 3), none⟩,
 ⟨some 5, .call 29 .frz [(.t 4), (.c (.int .i64 0)), (.c (.int .i64 16))], none⟩,
 ⟨some 6, .un .not (.t 5), none⟩,
 ⟨some 7, .mv (.t 6), none⟩,
 ⟨some 8, .faddr 1 (.t 1), some (7, false)⟩,
 ⟨some 9, .load none (.t 8), some (7, false)⟩,
 ⟨some 10, .call 44 .frz [(.t 9)], some (7, false)⟩,
 ⟨some 11, .un .not (.t 10), some (7, false)⟩,
 ⟨some 12, .pick (.t 7) (.c (.bool true)) (.t 11), none⟩,
 ⟨some 13, .mv (.t 12), none⟩,
 ⟨some 14, .load (some 12) (.t 1), some (13, false)⟩,
 ⟨some 15, .call 61 .frz [(.t 14)], some (13, false)⟩,
 ⟨some 16, .un .not (.t 15), some (13, false)⟩,
 ⟨some 17, .pick (.t 13) (.c (.bool true)) (.t 16), none⟩])
 (.cond (.t 17)
  (.seq
  (.reg [⟨some 2, .mv (.c (.bool false)), none⟩])
  (.ret [2]))
  .skip))
 (.seq
 (.seq
 (.reg [⟨some 18, .faddr 0 (.t 1), none⟩,
 ⟨some 19, .load none (.t 18), none⟩,
 ⟨some 20, .call 62 .frz [(.t 19)], none⟩,
 ⟨some 21, .call 32 .frz [(.t 20), (.c (.str [111, 110]))], none⟩,
 ⟨some 22, .mv (.t 21), none⟩,
 ⟨some 23, .faddr 2 (.t 1), some (22, true)⟩,
 ⟨some 24, .load none (.t 23), some (22, true)⟩,
 ⟨some 25, .call 44 .frz [(.t 24)], some (22, true)⟩,
 ⟨some 26, .un .not (.t 25), some (22, true)⟩,
 ⟨some 27, .pick (.t 22) (.t 26) (.c (.bool false)), none⟩])
 (.cond (.t 27)
  (.seq
  (.reg [⟨some 2, .mv (.c (.bool false)), none⟩])
  (.ret [2]))
  .skip))
 (.seq
 (.seq
 (.reg [⟨some 28, .faddr 9 (.t 1), none⟩,
 ⟨some 29, .load none (.t 28), none⟩,
 ⟨some 30, .call 63 .frz [(.t 29), (.c (.fn 57 []))], none⟩,
 ⟨some 31, .mv (.t 30), none⟩,
 ⟨some 32, .faddr 10 (.t 1), some (31, false)⟩,
 ⟨some 33, .load none (.t 32), some (31, false)⟩,
 ⟨some 34, .call 65 .frz [(.t 33), (.c (.fn 58 []))], some (31, false)⟩,
 ⟨some 35, .pick (.t 31) (.c (.bool true)) (.t 34), none⟩,
 ⟨some 36, .mv (.t 35), none⟩,
 ⟨some 37, .faddr 11 (.t 1), some (36, false)⟩,
 ⟨some 38, .load none (.t 37), some (36, false)⟩,
 ⟨some 39, .call 64 .frz [(.t 38), (.c (.fn 59 []))], some (36, false)⟩,
 ⟨some 40, .pick (.t 36) (.c (.bool true)) (.t 39), none⟩])
 (.cond (.t 40)
  (.seq
  (.reg [⟨some 2, .mv (.c (.bool false)), none⟩])
  (.ret [2]))
  .skip))
 (.seq
 (.seq
 (.reg [⟨some 41, .faddr 0 (.t 1), none⟩,
 ⟨some 42, .load none (.t 41), none⟩])
 (.block 0 []
  (.seq
  (.seq
  (.reg [⟨some 44, .bin .eql (.t 42) (.c (.int .i64 0)), none⟩,
  ⟨some 43, .mv (.t 44), none⟩])
  (.cond (.t 43)
   .skip
   (.reg [⟨some 45, .bin .eql (.t 42) (.c (.int .i64 13)), none⟩,
   ⟨some 43, .mv (.t 45), none⟩])))
  (.cond (.t 43)
   (.seq
   (.reg [⟨some 46, .faddr 3 (.t 1), none⟩,
   ⟨some 47, .load none (.t 46), none⟩,
   ⟨some 48, .len (.t 47), none⟩,
   ⟨some 49, .call 29 .frz [(.t 48), (.c (.int .i64 1)), (.c (.int .i64 12))], none⟩,
   ⟨some 50, .mv (.t 49), none⟩,
   ⟨some 51, .faddr 3 (.t 1), some (50, true)⟩,
   ⟨some 52, .load none (.t 51), some (50, true)⟩,
   ⟨some 53, .call 60 .frz [(.t 52)], some (50, true)⟩,
   ⟨some 54, .pick (.t 50) (.t 53) (.c (.bool false)), none⟩,
   ⟨some 2, .mv (.t 54), none⟩])
   (.ret [2]))
   (.seq
   (.reg [⟨some 56, .bin .eql (.t 42) (.c (.int .i64 2)), none⟩,
   ⟨some 55, .mv (.t 56), none⟩])
   (.cond (.t 55)
    (.seq
    (.reg [⟨some 57, .faddr 4 (.t 1), none⟩,
    ⟨some 58, .load none (.t 57), none⟩,
    ⟨some 59, .call 29 .frz [(.t 58), (.c (.int .i64 0)), (.c (.int .i64 999999999))], none⟩,
    ⟨some 2, .mv (.t 59), none⟩])
    (.ret [2]))
    (.seq
    (.reg [⟨some 61, .bin .eql (.t 42) (.c (.int .i64 4)), none⟩,
    ⟨some 60, .mv (.t 61), none⟩])
    (.cond (.t 60)
     (.seq
     (.reg [⟨some 62, .faddr 9 (.t 1), none⟩,
     ⟨some 63, .load none (.t 62), none⟩,
     ⟨some 64, .len (.t 63), none⟩,
     ⟨some 65, .bin .leq (.t 64) (.c (.int .i64 12)), none⟩,
     ⟨some 66, .mv (.t 65), none⟩,
     ⟨some 67, .faddr 10 (.t 1), some (66, true)⟩,
     ⟨some 68, .load none (.t 67), some (66, true)⟩,
     ⟨some 69, .len (.t 68), some (66, true)⟩,
     ⟨some 70, .bin .leq (.t 69) (.c (.int .i64 8)), some (66, true)⟩,
     ⟨some 71, .pick (.t 66) (.t 70) (.c (.bool false)), none⟩,
     ⟨some 2, .mv (.t 71), none⟩])
     (.ret [2]))
     (.seq
     (.reg [⟨some 73, .bin .eql (.t 42) (.c (.int .i64 6)), none⟩,
     ⟨some 72, .mv (.t 73), none⟩])
     (.cond (.t 72)
      (.seq
      (.reg [⟨some 74, .faddr 9 (.t 1), none⟩,
      ⟨some 75, .load none (.t 74), none⟩,
      ⟨some 76, .len (.t 75), none⟩,
      ⟨some 77, .bin .eql (.t 76) (.c (.int .i64 1)), none⟩,
      ⟨some 2, .mv (.t 77), none⟩])
      (.ret [2]))
      (.seq
      (.reg [⟨some 79, .bin .eql (.t 42) (.c (.int .i64 11)), none⟩,
      ⟨some 78, .mv (.t 79), none⟩])
      (.cond (.t 78)
       (.seq
       (.reg [⟨some 80, .faddr 10 (.t 1), none⟩,
       ⟨some 81, .load none (.t 80), none⟩,
       ⟨some 82, .len (.t 81), none⟩,
       ⟨some 83, .bin .eql (.t 82) (.c (.int .i64 1)), none⟩,
       ⟨some 2, .mv (.t 83), none⟩])
       (.ret [2]))
       (.seq
       (.reg [⟨some 85, .bin .eql (.t 42) (.c (.int .i64 8)), none⟩,
       ⟨some 84, .mv (.t 85), none⟩])
       (.cond (.t 84)
        (.seq
        (.reg [⟨some 86, .faddr 6 (.t 1), none⟩,
        ⟨some 87, .load (some 3) (.t 86), none⟩,
        ⟨some 88, .call 18 .frz [(.t 87)], none⟩,
        ⟨some 2, .mv (.t 88), none⟩])
        (.ret [2]))
        (.seq
        (.reg [⟨some 90, .bin .eql (.t 42) (.c (.int .i64 10)), none⟩,
        ⟨some 89, .mv (.t 90), none⟩])
        (.cond (.t 89)
         (.seq
         (.reg [⟨some 91, .faddr 11 (.t 1), none⟩,
         ⟨some 92, .load none (.t 91), none⟩,
         ⟨some 93, .len (.t 92), none⟩,
         ⟨some 94, .bin .leq (.t 93) (.c (.int .i64 1)), none⟩,
         ⟨some 2, .mv (.t 94), none⟩])
         (.ret [2]))
         (.seq
         (.reg [⟨some 96, .bin .eql (.t 42) (.c (.int .i64 15)), none⟩,
         ⟨some 95, .mv (.t 96), none⟩])
         (.cond (.t 95)
          (.seq
          (.reg [⟨some 97, .faddr 3 (.t 1), none⟩,
          ⟨some 98, .load none (.t 97), none⟩,
          ⟨some 99, .len (.t 98), none⟩,
          ⟨some 100, .call 29 .frz [(.t 99), (.c (.int .i64 1)), (.c (.int .i64 12))], none⟩,
          ⟨some 101, .mv (.t 100), none⟩,
          ⟨some 102, .faddr 3 (.t 1), some (101, true)⟩,
          ⟨some 103, .load none (.t 102), some (101, true)⟩,
          ⟨some 104, .call 60 .frz [(.t 103)], some (101, true)⟩,
          ⟨some 105, .pick (.t 101) (.t 104) (.c (.bool false)), none⟩,
          ⟨some 106, .mv (.t 105), none⟩,
          ⟨some 107, .faddr 11 (.t 1), some (106, true)⟩,
          ⟨some 108, .load none (.t 107), some (106, true)⟩,
          ⟨some 109, .len (.t 108), some (106, true)⟩,
          ⟨some 110, .bin .leq (.t 109) (.c (.int .i64 1)), some (106, true)⟩,
          ⟨some 111, .pick (.t 106) (.t 110) (.c (.bool false)), none⟩,
          ⟨some 2, .mv (.t 111), none⟩])
          (.ret [2]))
          .skip))))))))))))))))))
 (.seq
 (.reg [⟨some 2, .mv (.c (.bool true)), none⟩])
 (.ret [2])))))))⟩
structure H23 (Γ : Tab) : Prop where
  e23 : Γ 23 = some (.code f23)
  c18 : H18 Γ
  c29 : H29 Γ
  c32 : H32 Γ
  c44 : H44 Γ
  c57 : H57 Γ
  c58 : H58 Γ
  c59 : H59 Γ
  c60 : H60 Γ
  c61 : H61 Γ
  c62 : H62 Γ
  c63 : H63 Γ
  c64 : H64 Γ
  c65 : H65 Γ
/- loop.example/g00751/laws.eqExprS -/
def f67l1 : DCode :=
 (.seq
 (.seq
 (.reg [⟨some 11, .mv (.t 5), none⟩,
 ⟨some 12, .mv (.t 0), none⟩,
 ⟨some 13, .len (.t 12), none⟩,
 ⟨some 14, .bin .lss (.t 11) (.t 13), none⟩])
 (.cond (.t 14)
  .skip
  (.exit 0)))
 (.seq
 (.block 1 [0, 1, 5]
  (.seq
  (.any [false, false, false, false, false, false, false, false, false, false] [(1, ⟨some 17, .mv (.t 0), none⟩),
  (1, ⟨some 18, .mv (.t 5), none⟩),
  (1, ⟨some 19, .iaddr 4 (.t 17) (.t 18), none⟩),
  (1, ⟨some 20, .load (some 4) (.t 19), none⟩),
  (1, ⟨some 21, .mv (.t 1), none⟩),
  (1, ⟨some 22, .mv (.t 5), none⟩),
  (1, ⟨some 23, .iaddr 4 (.t 21) (.t 22), none⟩),
  (1, ⟨some 24, .load (some 4) (.t 23), none⟩),
  (1, ⟨some 25, .call 107 .frz [(.t 20), (.t 24)], none⟩),
  (1, ⟨some 26, .un .not (.t 25), none⟩)]
  [])
  (.cond (.t 26)
   (.seq
   (.reg [⟨some 4, .mv (.c (.bool false)), none⟩])
   (.ret [4]))
   .skip)))
 (.reg [⟨some 15, .mv (.t 5), none⟩,
 ⟨some 16, .bin .add (.t 15) (.c (.int .i64 1)), none⟩,
 ⟨some 5, .mv (.t 16), none⟩])))
def f67L1 : DCode := .loop [0, 1, 5] none f67l1
def f67 : DFn := ⟨2, false, [.t 4],
 (.seq
 (.reg [⟨some 4, .mv (.c (.bool false)), none⟩])
 (.seq
 (.seq
 (.reg [⟨some 6, .mv (.t 0), none⟩,
 ⟨some 7, .len (.t 6), none⟩,
 ⟨some 8, .mv (.t 1), none⟩,
 ⟨some 9, .len (.t 8), none⟩,
 ⟨some 10, .bin .neq (.t 7) (.t 9), none⟩])
 (.cond (.t 10)
  (.seq
  (.reg [⟨some 4, .mv (.c (.bool false)), none⟩])
  (.ret [4]))
  .skip))
 (.seq
 (.seq
 (.reg [⟨some 5, .mv (.c (.int .i64 0)), none⟩])
 (.block 0 []
  f67L1))
 (.seq
 (.reg [⟨some 4, .mv (.c (.bool true)), none⟩])
 (.ret [4])))))⟩
/- loop.example/g00751/laws.eqExpr -/
def f107 : DFn := ⟨2, false, [.t 4],
 (.seq
 (.reg [⟨some 2, .boxf (.t 0), none⟩,
 ⟨some 3, .boxf (.t 1), none⟩,
 ⟨some 4, .mv (.c (.bool false)), none⟩])
 (.seq
 (.seq
 (.reg [⟨some 5, .faddr 0 (.t 2), none⟩,
 ⟨some 6, .load none (.t 5), none⟩,
 ⟨some 7, .faddr 0 (.t 3), none⟩,
 ⟨some 8, .load none (.t 7), none⟩,
 ⟨some 9, .bin .neq (.t 6) (.t 8), none⟩])
 (.cond (.t 9)
  (.seq
  (.reg [⟨some 4, .mv (.c (.bool false)), none⟩])
  (.ret [4]))
  .skip))
 (.seq
 (.seq
 (.reg [⟨some 10, .faddr 1 (.t 2), none⟩,
 ⟨some 11, .load none (.t 10), none⟩,
 ⟨some 12, .faddr 1 (.t 3), none⟩,
 ⟨some 13, .load none (.t 12), none⟩,
 ⟨some 14, .bin .neq (.t 11) (.t 13), none⟩])
 (.cond (.t 14)
  (.seq
  (.reg [⟨some 4, .mv (.c (.bool false)), none⟩])
  (.ret [4]))
  .skip))
 (.seq
 (.seq
 (.reg [⟨some 15, .faddr 2 (.t 2), none⟩,
 ⟨some 16, .load none (.t 15), none⟩,
 ⟨some 17, .faddr 2 (.t 3), none⟩,
 ⟨some 18, .load none (.t 17), none⟩,
 ⟨some 19, .bin .neq (.t 16) (.t 18), none⟩])
 (.cond (.t 19)
  (.seq
  (.reg [⟨some 4, .mv (.c (.bool false)), none⟩])
  (.ret [4]))
  .skip))
 (.seq
 (.seq
 (.reg [⟨some 20, .faddr 3 (.t 2), none⟩,
 ⟨some 21, .load none (.t 20), none⟩,
 ⟨some 22, .faddr 3 (.t 3), none⟩,
 ⟨some 23, .load none (.t 22), none⟩,
 ⟨some 24, .call 67 .frz [(.t 21), (.t 23)], none⟩,
 ⟨some 25, .un .not (.t 24), none⟩])
 (.cond (.t 25)
  (.seq
  (.reg [⟨some 4, .mv (.c (.bool false)), none⟩])
  (.ret [4]))
  .skip))
 (.seq
 (.reg [⟨some 4, .mv (.c (.bool true)), none⟩])
 (.ret [4])))))))⟩
structure H67 (Γ : Tab) : Prop where
  e67 : Γ 67 = some (.code f67)
  e107 : Γ 107 = some (.code f107)
abbrev H107 := H67
/- loop.example/g00751/laws.eqType -/
def f70 : DFn := ⟨2, false, [.t 4],
 (.seq
 (.reg [⟨some 2, .boxf (.t 0), none⟩,
 ⟨some 3, .boxf (.t 1), none⟩,
 ⟨some 4, .mv (.c (.bool false)), none⟩])
 (.seq
 (.seq
 (.reg [⟨some 5, .faddr 0 (.t 2), none⟩,
 ⟨some 6, .load none (.t 5), none⟩,
 ⟨some 7, .faddr 0 (.t 3), none⟩,
 ⟨some 8, .load none (.t 7), none⟩,
 ⟨some 9, .bin .neq (.t 6) (.t 8), none⟩])
 (.cond (.t 9)
  (.seq
  (.reg [⟨some 4, .mv (.c (.bool false)), none⟩])
  (.ret [4]))
  .skip))
 (.seq
 (.seq
 (.reg [⟨some 10, .faddr 1 (.t 2), none⟩,
 ⟨some 11, .load none (.t 10), none⟩,
 ⟨some 12, .faddr 1 (.t 3), none⟩,
 ⟨some 13, .load none (.t 12), none⟩,
 ⟨some 14, .bin .neq (.t 11) (.t 13), none⟩])
 (.cond (.t 14)
  (.seq
  (.reg [⟨some 4, .mv (.c (.bool false)), none⟩])
  (.ret [4]))
  .skip))
 (.seq
 (.seq
 (.reg [⟨some 15, .faddr 2 (.t 2), none⟩,
 ⟨some 16, .load none (.t 15), none⟩,
 ⟨some 17, .faddr 2 (.t 3), none⟩,
 ⟨some 18, .load none (.t 17), none⟩,
 ⟨some 19, .bin .neq (.t 16) (.t 18), none⟩])
 (.cond (.t 19)
  (.seq
  (.reg [⟨some 4, .mv (.c (.bool false)), none⟩])
  (.ret [4]))
  .skip))
 (.seq
 (.reg [⟨some 4, .mv (.c (.bool true)), none⟩])
 (.ret [4]))))))⟩
structure H70 (Γ : Tab) : Prop where
  e70 : Γ 70 = some (.code f70)
/- loop.example/g00751/laws.eqCol -/
def f105 : DFn := ⟨2, false, [.t 4],
 (.seq
 (.reg [⟨some 2, .boxf (.t 0), none⟩,
 ⟨some 3, .boxf (.t 1), none⟩,
 ⟨some 4, .mv (.c (.bool false)), none⟩])
 (.seq
 (.seq
 (.reg [⟨some 5, .faddr 0 (.t 2), none⟩,
 ⟨some 6, .load none (.t 5), none⟩,
 ⟨some 7, .faddr 0 (.t 3), none⟩,
 ⟨some 8, .load none (.t 7), none⟩,
 ⟨some 9, .bin .neq (.t 6) (.t 8), none⟩])
 (.cond (.t 9)
  (.seq
  (.reg [⟨some 4, .mv (.c (.bool false)), none⟩])
  (.ret [4]))
  .skip))
 (.seq
 (.seq
 (.reg [⟨some 10, .faddr 1 (.t 2), none⟩,
 ⟨some 11, .load (some 3) (.t 10), none⟩,
 ⟨some 12, .faddr 1 (.t 3), none⟩,
 ⟨some 13, .load (some 3) (.t 12), none⟩,
 ⟨some 14, .call 70 .frz [(.t 11), (.t 13)], none⟩,
 ⟨some 15, .un .not (.t 14), none⟩])
 (.cond (.t 15)
  (.seq
  (.reg [⟨some 4, .mv (.c (.bool false)), none⟩])
  (.ret [4]))
  .skip))
 (.seq
 (.seq
 (.reg [⟨some 16, .faddr 4 (.t 2), none⟩,
 ⟨some 17, .load none (.t 16), none⟩,
 ⟨some 18, .faddr 4 (.t 3), none⟩,
 ⟨some 19, .load none (.t 18), none⟩,
 ⟨some 20, .binb .neq (.t 17) (.t 19), none⟩])
 (.cond (.t 20)
  (.seq
  (.reg [⟨some 4, .mv (.c (.bool false)), none⟩])
  (.ret [4]))
  .skip))
 (.seq
 (.seq
 (.reg [⟨some 21, .faddr 5 (.t 2), none⟩,
 ⟨some 22, .load none (.t 21), none⟩,
 ⟨some 23, .faddr 5 (.t 3), none⟩,
 ⟨some 24, .load none (.t 23), none⟩,
 ⟨some 25, .call 67 .frz [(.t 22), (.t 24)], none⟩,
 ⟨some 26, .un .not (.t 25), none⟩])
 (.cond (.t 26)
  (.seq
  (.reg [⟨some 4, .mv (.c (.bool false)), none⟩])
  (.ret [4]))
  .skip))
 (.seq
 (.reg [⟨some 4, .mv (.c (.bool true)), none⟩])
 (.ret [4])))))))⟩
structure H105 (Γ : Tab) : Prop where
  e105 : Γ 105 = some (.code f105)
  c67 : H67 Γ
  c70 : H70 Γ
/- loop.example/g00751/laws.eqColS -/
def f66l1 : DCode :=
 (.seq
 (.seq
 (.reg [⟨some 11, .mv (.t 5), none⟩,
 ⟨some 12, .mv (.t 0), none⟩,
 ⟨some 13, .len (.t 12), none⟩,
 ⟨some 14, .bin .lss (.t 11) (.t 13), none⟩])
 (.cond (.t 14)
  .skip
  (.exit 0)))
 (.seq
 (.block 1 [0, 1, 5]
  (.seq
  (.any [false, false, false, false, false, false, false, false, false, false] [(1, ⟨some 17, .mv (.t 0), none⟩),
  (1, ⟨some 18, .mv (.t 5), none⟩),
  (1, ⟨some 19, .iaddr 6 (.t 17) (.t 18), none⟩),
  (1, ⟨some 20, .load (some 6) (.t 19), none⟩),
  (1, ⟨some 21, .mv (.t 1), none⟩),
  (1, ⟨some 22, .mv (.t 5), none⟩),
  (1, ⟨some 23, .iaddr 6 (.t 21) (.t 22), none⟩),
  (1, ⟨some 24, .load (some 6) (.t 23), none⟩),
  (1, ⟨some 25, .call 105 .frz [(.t 20), (.t 24)], none⟩),
  (1, ⟨some 26, .un .not (.t 25), none⟩)]
  [])
  (.cond (.t 26)
   (.seq
   (.reg [⟨some 4, .mv (.c (.bool false)), none⟩])
   (.ret [4]))
   .skip)))
 (.reg [⟨some 15, .mv (.t 5), none⟩,
 ⟨some 16, .bin .add (.t 15) (.c (.int .i64 1)), none⟩,
 ⟨some 5, .mv (.t 16), none⟩])))
def f66L1 : DCode := .loop [0, 1, 5] none f66l1
def f66 : DFn := ⟨2, false, [.t 4],
 (.seq
 (.reg [⟨some 4, .mv (.c (.bool false)), none⟩])
 (.seq
 (.seq
 (.reg [⟨some 6, .mv (.t 0), none⟩,
 ⟨some 7, .len (.t 6), none⟩,
 ⟨some 8, .mv (.t 1), none⟩,
 ⟨some 9, .len (.t 8), none⟩,
 ⟨some 10, .bin .neq (.t 7) (.t 9), none⟩])
 (.cond (.t 10)
  (.seq
  (.reg [⟨some 4, .mv (.c (.bool false)), none⟩])
  (.ret [4]))
  .skip))
 (.seq
 (.seq
 (.reg [⟨some 5, .mv (.c (.int .i64 0)), none⟩])
 (.block 0 []
  f66L1))
 (.seq
 (.reg [⟨some 4, .mv (.c (.bool true)), none⟩])
 (.ret [4])))))⟩
structure H66 (Γ : Tab) : Prop where
  e66 : Γ 66 = some (.code f66)
  c105 : H105 Γ
/- loop.example/g00751/laws.eqStringS -/
def f69l1 : DCode :=
 (.seq
 (.seq
 (.reg [⟨some 11, .mv (.t 5), none⟩,
 ⟨some 12, .mv (.t 0), none⟩,
 ⟨some 13, .len (.t 12), none⟩,
 ⟨some 14, .bin .lss (.t 11) (.t 13), none⟩])
 (.cond (.t 14)
  .skip
  (.exit 0)))
 (.seq
 (.block 1 [0, 1, 5]
  (.seq
  (.any [false, false, false, false, false, false, false, false, false] [(1, ⟨some 17, .mv (.t 0), none⟩),
  (1, ⟨some 18, .mv (.t 5), none⟩),
  (1, ⟨some 19, .iaddr 1 (.t 17) (.t 18), none⟩),
  (1, ⟨some 20, .load none (.t 19), none⟩),
  (1, ⟨some 21, .mv (.t 1), none⟩),
  (1, ⟨some 22, .mv (.t 5), none⟩),
  (1, ⟨some 23, .iaddr 1 (.t 21) (.t 22), none⟩),
  (1, ⟨some 24, .load none (.t 23), none⟩),
  (1, ⟨some 25, .bin .neq (.t 20) (.t 24), none⟩)]
  [])
  (.cond (.t 25)
   (.seq
   (.reg [⟨some 4, .mv (.c (.bool false)), none⟩])
   (.ret [4]))
   .skip)))
 (.reg [⟨some 15, .mv (.t 5), none⟩,
 ⟨some 16, .bin .add (.t 15) (.c (.int .i64 1)), none⟩,
 ⟨some 5, .mv (.t 16), none⟩])))
def f69L1 : DCode := .loop [0, 1, 5] none f69l1
def f69 : DFn := ⟨2, false, [.t 4],
 (.seq
 (.reg [⟨some 4, .mv (.c (.bool false)), none⟩])
 (.seq
 (.seq
 (.reg [⟨some 6, .mv (.t 0), none⟩,
 ⟨some 7, .len (.t 6), none⟩,
 ⟨some 8, .mv (.t 1), none⟩,
 ⟨some 9, .len (.t 8), none⟩,
 ⟨some 10, .bin .neq (.t 7) (.t 9), none⟩])
 (.cond (.t 10)
  (.seq
  (.reg [⟨some 4, .mv (.c (.bool false)), none⟩])
  (.ret [4]))
  .skip))
 (.seq
 (.seq
 (.reg [⟨some 5, .mv (.c (.int .i64 0)), none⟩])
 (.block 0 []
  f69L1))
 (.seq
 (.reg [⟨some 4, .mv (.c (.bool true)), none⟩])
 (.ret [4])))))⟩
structure H69 (Γ : Tab) : Prop where
  e69 : Γ 69 = some (.code f69)
/- loop.example/g00751/laws.eqRule -/
def f106 : DFn := ⟨2, false, [.t 4],
 (.seq
 (.reg [⟨some 2, .boxf (.t 0), none⟩,
 ⟨some 3, .boxf (.t 1), none⟩,
 ⟨some 4, .mv (.c (.bool false)), none⟩])
 (.seq
 (.seq
 (.reg [⟨some 5, .faddr 0 (.t 2), none⟩,
 ⟨some 6, .load none (.t 5), none⟩,
 ⟨some 7, .faddr 0 (.t 3), none⟩,
 ⟨some 8, .load none (.t 7), none⟩,
 ⟨some 9, .bin .neq (.t 6) (.t 8), none⟩])
 (.cond (.t 9)
  (.seq
  (.reg [⟨some 4, .mv (.c (.bool false)), none⟩])
  (.ret [4]))
  .skip))
 (.seq
 (.seq
 (.reg [⟨some 10, .faddr 1 (.t 2), none⟩,
 ⟨some 11, .load none (.t 10), none⟩,
 ⟨some 12, .faddr 1 (.t 3), none⟩,
 ⟨some 13, .load none (.t 12), none⟩,
 ⟨some 14, .bin .neq (.t 11) (.t 13), none⟩])
 (.cond (.t 14)
  (.seq
  (.reg [⟨some 4, .mv (.c (.bool false)), none⟩])
  (.ret [4]))
  .skip))
 (.seq
 (.seq
 (.reg [⟨some 15, .faddr 2 (.t 2), none⟩,
 ⟨some 16, .load none (.t 15), none⟩,
 ⟨some 17, .faddr 2 (.t 3), none⟩,
 ⟨some 18, .load none (.t 17), none⟩,
 ⟨some 19, .call 69 .frz [(.t 16), (.t 18)], none⟩,
 ⟨some 20, .un .not (.t 19), none⟩])
 (.cond (.t 20)
  (.seq
  (.reg [⟨some 4, .mv (.c (.bool false)), none⟩])
  (.ret [4]))
  .skip))
 (.seq
 (.seq
 (.reg [⟨some 21, .faddr 3 (.t 2), none⟩,
 ⟨some 22, .load none (.t 21), none⟩,
 ⟨some 23, .faddr 3 (.t 3), none⟩,
 ⟨some 24, .load none (.t 23), none⟩,
 ⟨some 25, .call 67 .frz [(.t 22), (.t 24)], none⟩,
 ⟨some 26, .un .not (.t 25), none⟩])
 (.cond (.t 26)
  (.seq
  (.reg [⟨some 4, .mv (.c (.bool false)), none⟩])
  (.ret [4]))
  .skip))
 (.seq
 (.seq
 (.reg [⟨some 27, .faddr 4 (.t 2), none⟩,
 ⟨some 28, .load none (.t 27), none⟩,
 ⟨some 29, .faddr 4 (.t 3), none⟩,
 ⟨some 30, .load none (.t 29), none⟩,
 ⟨some 31, .bin .neq (.t 28) (.t 30), none⟩])
 (.cond (.t 31)
  (.seq
  (.reg [⟨some 4, .mv (.c (.bool false)), none⟩])
  (.ret [4]))
  .skip))
 (.seq
 (.seq
 (.reg [⟨some 32, .faddr 5 (.t 2), none⟩,
 ⟨some 33, .load none (.t 32), none⟩,
 ⟨some 34, .faddr 5 (.t 3), none⟩,
 ⟨some 35, .load none (.t 34), none⟩,
 ⟨some 36, .call 69 .frz [(.t 33), (.t 35)], none⟩,
 ⟨some 37, .un .not (.t 36), none⟩])
 (.cond (.t 37)
  (.seq
  (.reg [⟨some 4, .mv (.c (.bool false)), none⟩])
  (.ret [4]))
  .skip))
 (.seq
 (.reg [⟨some 4, .mv (.c (.bool true)), none⟩])
 (.ret [4])))))))))⟩
structure H106 (Γ : Tab) : Prop where
  e106 : Γ 106 = some (.code f106)
  c67 : H67 Γ
  c69 : H69 Γ
/- loop.example/g00751/laws.eqRuleS -/
def f68l1 : DCode :=
 (.seq
 (.seq
 (.reg [⟨some 11, .mv (.t 5), none⟩,
 ⟨some 12, .mv (.t 0), none⟩,
 ⟨some 13, .len (.t 12), none⟩,
 ⟨some 14, .bin .lss (.t 11) (.t 13), none⟩])
 (.cond (.t 14)
  .skip
  (.exit 0)))
 (.seq
 (.block 1 [0, 1, 5]
  (.seq
  (.any [false, false, false, false, false, false, false, false, false, false] [(1, ⟨some 17, .mv (.t 0), none⟩),
  (1, ⟨some 18, .mv (.t 5), none⟩),
  (1, ⟨some 19, .iaddr 6 (.t 17) (.t 18), none⟩),
  (1, ⟨some 20, .load (some 6) (.t 19), none⟩),
  (1, ⟨some 21, .mv (.t 1), none⟩),
  (1, ⟨some 22, .mv (.t 5), none⟩),
  (1, ⟨some 23, .iaddr 6 (.t 21) (.t 22), none⟩),
  (1, ⟨some 24, .load (some 6) (.t 23), none⟩),
  (1, ⟨some 25, .call 106 .frz [(.t 20), (.t 24)], none⟩),
  (1, ⟨some 26, .un .not (.t 25), none⟩)]
  [])
  (.cond (.t 26)
   (.seq
   (.reg [⟨some 4, .mv (.c (.bool false)), none⟩])
   (.ret [4]))
   .skip)))
 (.reg [⟨some 15, .mv (.t 5), none⟩,
 ⟨some 16, .bin .add (.t 15) (.c (.int .i64 1)), none⟩,
 ⟨some 5, .mv (.t 16), none⟩])))
def f68L1 : DCode := .loop [0, 1, 5] none f68l1
def f68 : DFn := ⟨2, false, [.t 4],
 (.seq
 (.reg [⟨some 4, .mv (.c (.bool false)), none⟩])
 (.seq
 (.seq
 (.reg [⟨some 6, .mv (.t 0), none⟩,
 ⟨some 7, .len (.t 6), none⟩,
 ⟨some 8, .mv (.t 1), none⟩,
 ⟨some 9, .len (.t 8), none⟩,
 ⟨some 10, .bin .neq (.t 7) (.t 9), none⟩])
 (.cond (.t 10)
  (.seq
  (.reg [⟨some 4, .mv (.c (.bool false)), none⟩])
  (.ret [4]))
  .skip))
 (.seq
 (.seq
 (.reg [⟨some 5, .mv (.c (.int .i64 0)), none⟩])
 (.block 0 []
  f68L1))
 (.seq
 (.reg [⟨some 4, .mv (.c (.bool true)), none⟩])
 (.ret [4])))))⟩
structure H68 (Γ : Tab) : Prop where
  e68 : Γ 68 = some (.code f68)
  c106 : H106 Γ
/- loop.example/g00751/laws.eqStmt -/
def f24 : DFn := ⟨2, false, [.t 4],
 (.seq
 (.reg [⟨some 2, .boxf (.t 0), none⟩,
 ⟨some 3, .boxf (.t 1), none⟩,
 ⟨some 4, .mv (.c (.bool false)), none⟩])
 (.seq
 (.seq
 (.reg [⟨some 5, .faddr 0 (.t 2), none⟩,
 ⟨some 6, .load none (.t 5), none⟩,
 ⟨some 7, .faddr 0 (.t 3), none⟩,
 ⟨some 8, .load none (.t 7), none⟩,
 ⟨some 9, .bin .neq (.t 6) (.t 8), none⟩])
 (.cond (.t 9)
  (.seq
  (.reg [⟨some 4, .mv (.c (.bool false)), none⟩])
  (.ret [4]))
  .skip))
 (.seq
 (.seq
 (.reg [⟨some 10, .faddr 1 (.t 2), none⟩,
 ⟨some 11, .load none (.t 10), none⟩,
 ⟨some 12, .faddr 1 (.t 3), none⟩,
 ⟨some 13, .load none (.t 12), none⟩,
 ⟨some 14, .bin .neq (.t 11) (.t 13), none⟩])
 (.cond (.t 14)
  (.seq
  (.reg [⟨some 4, .mv (.c (.bool false)), none⟩])
  (.ret [4]))
  .skip))
 (.seq
 (.seq
 (.reg [⟨some 15, .faddr 2 (.t 2), none⟩,
 ⟨some 16, .load none (.t 15), none⟩,
 ⟨some 17, .faddr 2 (.t 3), none⟩,
 ⟨some 18, .load none (.t 17), none⟩,
 ⟨some 19, .bin .neq (.t 16) (.t 18), none⟩])
 (.cond (.t 19)
  (.seq
  (.reg [⟨some 4, .mv (.c (.bool false)), none⟩])
  (.ret [4]))
  .skip))
 (.seq
 (.seq
 (.reg [⟨some 20, .faddr 3 (.t 2), none⟩,
 ⟨some 21, .load none (.t 20), none⟩,
 ⟨some 22, .faddr 3 (.t 3), none⟩,
 ⟨some 23, .load none (.t 22), none⟩,
 ⟨some 24, .call 69 .frz [(.t 21), (.t 23)], none⟩,
 ⟨some 25, .un .not (.t 24), none⟩])
 (.cond (.t 25)
  (.seq
  (.reg [⟨some 4, .mv (.c (.bool false)), none⟩])
  (.ret [4]))
  .skip))
 (.seq
 (.seq
 (.reg [⟨some 26, .faddr 4 (.t 2), none⟩,
 ⟨some 27, .load none (.t 26), none⟩,
 ⟨some 28, .faddr 4 (.t 3), none⟩,
 ⟨some 29, .load none (.t 28), none⟩,
 ⟨some 30, .bin .neq (.t 27) (.t 29), none⟩])
 (.cond (.t 30)
  (.seq
  (.reg [⟨some 4, .mv (.c (.bool false)), none⟩])
  (.ret [4]))
  .skip))
 (.seq
 (.seq
 (.reg [⟨some 31, .faddr 5 (.t 2), none⟩,
 ⟨some 32, .load none (.t 31), none⟩,
 ⟨some 33, .faddr 5 (.t 3), none⟩,
 ⟨some 34, .load none (.t 33), none⟩,
 ⟨some 35, .binb .neq (.t 32) (.t 34), none⟩])
 (.cond (.t 35)
  (.seq
  (.reg [⟨some 4, .mv (.c (.bool false)), none⟩])
  (.ret [4]))
  .skip))
 (.seq
 (.seq
 (.reg [⟨some 36, .faddr 6 (.t 2), none⟩,
 ⟨some 37, .load (some 3) (.t 36), none⟩,
 ⟨some 38, .faddr 6 (.t 3), none⟩,
 ⟨some 39, .load (some 3) (.t 38), none⟩,
 ⟨some 40, .call 70 .frz [(.t 37), (.t 39)], none⟩,
 ⟨some 41, .un .not (.t 40), none⟩])
 (.cond (.t 41)
  (.seq
  (.reg [⟨some 4, .mv (.c (.bool false)), none⟩])
  (.ret [4]))
  .skip))
 (.seq
 (.seq
 (.reg [⟨some 42, .faddr 9 (.t 2), none⟩,
 ⟨some 43, .load none (.t 42), none⟩,
 ⟨some 44, .faddr 9 (.t 3), none⟩,
 ⟨some 45, .load none (.t 44), none⟩,
 ⟨some 46, .call 66 .frz [(.t 43), (.t 45)], none⟩,
 ⟨some 47, .un .not (.t 46), none⟩])
 (.cond (.t 47)
  (.seq
  (.reg [⟨some 4, .mv (.c (.bool false)), none⟩])
  (.ret [4]))
  .skip))
 (.seq
 (.seq
 (.reg [⟨some 48, .faddr 10 (.t 2), none⟩,
 ⟨some 49, .load none (.t 48), none⟩,
 ⟨some 50, .faddr 10 (.t 3), none⟩,
 ⟨some 51, .load none (.t 50), none⟩,
 ⟨some 52, .call 68 .frz [(.t 49), (.t 51)], none⟩,
 ⟨some 53, .un .not (.t 52), none⟩])
 (.cond (.t 53)
  (.seq
  (.reg [⟨some 4, .mv (.c (.bool false)), none⟩])
  (.ret [4]))
  .skip))
 (.seq
 (.seq
 (.reg [⟨some 54, .faddr 11 (.t 2), none⟩,
 ⟨some 55, .load none (.t 54), none⟩,
 ⟨some 56, .faddr 11 (.t 3), none⟩,
 ⟨some 57, .load none (.t 56), none⟩,
 ⟨some 58, .call 67 .frz [(.t 55), (.t 57)], none⟩,
 ⟨some 59, .un .not (.t 58), none⟩])
 (.cond (.t 59)
  (.seq
  (.reg [⟨some 4, .mv (.c (.bool false)), none⟩])
  (.ret [4]))
  .skip))
 (.seq
 (.reg [⟨some 4, .mv (.c (.bool true)), none⟩])
 (.ret [4])))))))))))))⟩
structure H24 (Γ : Tab) : Prop where
  e24 : Γ 24 = some (.code f24)
  c66 : H66 Γ
  c67 : H67 Γ
  c68 : H68 Γ
  c69 : H69 Γ
  c70 : H70 Γ
/- loop.example/g00751/laws.szExprS -/
def f46l1 : DCode :=
 (.seq
 (.seq
 (.reg [⟨some 12, .mv (.t 5), none⟩,
 ⟨some 13, .mv (.t 0), none⟩,
 ⟨some 14, .len (.t 13), none⟩,
 ⟨some 15, .bin .lss (.t 12) (.t 14), none⟩])
 (.cond (.t 15)
  .skip
  (.exit 0)))
 (.seq
 (.block 1 [0, 1, 5]
  (.seq
  (.reg [⟨some 18, .mv (.t 0), none⟩,
  ⟨some 19, .mv (.t 5), none⟩,
  ⟨some 20, .iaddr 4 (.t 18) (.t 19), none⟩,
  ⟨some 21, .load (some 4) (.t 20), none⟩,
  ⟨some 22, .mv (.t 1), none⟩,
  ⟨some 23, .call 86 .frz [(.t 21), (.t 22)], none⟩,
  ⟨some 1, .mv (.t 23), none⟩])
  (.seq
  (.reg [⟨some 24, .mv (.t 1), none⟩,
  ⟨some 25, .bin .lss (.t 24) (.c (.int .i64 0)), none⟩])
  (.cond (.t 25)
   (.seq
   (.reg [⟨some 4, .mv (.c (.int .i64 (-1))), none⟩])
   (.ret [4]))
   .skip))))
 (.reg [⟨some 16, .mv (.t 5), none⟩,
 ⟨some 17, .bin .add (.t 16) (.c (.int .i64 1)), none⟩,
 ⟨some 5, .mv (.t 17), none⟩])))
def f46L1 : DCode := .loop [0, 1, 5] none f46l1
def f46 : DFn := ⟨2, false, [.t 4],
 (.seq
 (.reg [⟨some 4, .mv (.c (.int .i64 0)), none⟩])
 (.seq
 (.reg [⟨some 6, .mv (.t 1), none⟩,
 ⟨some 7, .mv (.t 0), none⟩,
 ⟨some 8, .len (.t 7), none⟩,
 ⟨some 9, .bin .sub (.t 6) (.t 8), none⟩,
 ⟨some 1, .mv (.t 9), none⟩])
 (.seq
 (.seq
 (.reg [⟨some 10, .mv (.t 1), none⟩,
 ⟨some 11, .bin .lss (.t 10) (.c (.int .i64 0)), none⟩])
 (.cond (.t 11)
  (.seq
  (.reg [⟨some 4, .mv (.c (.int .i64 (-1))), none⟩])
  (.ret [4]))
  .skip))
 (.seq
 (.seq
 (.reg [⟨some 5, .mv (.c (.int .i64 0)), none⟩])
 (.block 0 [1]
  f46L1))
 (.seq
 (.reg [⟨some 26, .mv (.t 1), none⟩,
 ⟨some 4, .mv (.t 26), none⟩])
 (.ret [4]))))))⟩
/- loop.example/g00751/laws.szExpr -/
def f86 : DFn := ⟨2, false, [.t 4],
 (.seq
 (.reg [⟨some 2, .boxf (.t 0), none⟩,
 ⟨some 4, .mv (.c (.int .i64 0)), none⟩])
 (.seq
 (.reg [⟨some 5, .mv (.t 1), none⟩,
 ⟨some 6, .faddr 1 (.t 2), none⟩,
 ⟨some 7, .load none (.t 6), none⟩,
 ⟨some 8, .lens (.t 7), none⟩,
 ⟨some 9, .bin .sub (.t 5) (.t 8), none⟩,
 ⟨some 1, .mv (.t 9), none⟩])
 (.seq
 (.seq
 (.reg [⟨some 10, .mv (.t 1), none⟩,
 ⟨some 11, .bin .lss (.t 10) (.c (.int .i64 0)), none⟩])
 (.cond (.t 11)
  (.seq
  (.reg [⟨some 4, .mv (.c (.int .i64 (-1))), none⟩])
  (.ret [4]))
  .skip))
 (.seq
 (.reg [⟨some 12, .faddr 3 (.t 2), none⟩,
 ⟨some 13, .load none (.t 12), none⟩,
 ⟨some 14, .mv (.t 1), none⟩,
 ⟨some 15, .call 46 .frz [(.t 13), (.t 14)], none⟩,
 ⟨some 1, .mv (.t 15), none⟩])
 (.seq
 (.seq
 (.reg [⟨some 16, .mv (.t 1), none⟩,
 ⟨some 17, .bin .lss (.t 16) (.c (.int .i64 0)), none⟩])
 (.cond (.t 17)
  (.seq
  (.reg [⟨some 4, .mv (.c (.int .i64 (-1))), none⟩])
  (.ret [4]))
  .skip))
 (.seq
 (.reg [⟨some 18, .mv (.t 1), none⟩,
 ⟨some 4, .mv (.t 18), none⟩])
 (.ret [4])))))))⟩
structure H46 (Γ : Tab) : Prop where
  e46 : Γ 46 = some (.code f46)
  e86 : Γ 86 = some (.code f86)
abbrev H86 := H46
/- loop.example/g00751/laws.szType -/
def f49 : DFn := ⟨2, false, [.t 4],
 (.seq
 (.reg [⟨some 2, .boxf (.t 0), none⟩,
 ⟨some 4, .mv (.c (.int .i64 0)), none⟩])
 (.seq
 (.reg [⟨some 5, .mv (.t 1), none⟩,
 ⟨some 6, .faddr 2 (.t 2), none⟩,
 ⟨some 7, .load none (.t 6), none⟩,
 ⟨some 8, .lens (.t 7), none⟩,
 ⟨some 9, .bin .sub (.t 5) (.t 8), none⟩,
 ⟨some 1, .mv (.t 9), none⟩])
 (.seq
 (.seq
 (.reg [⟨some 10, .mv (.t 1), none⟩,
 ⟨some 11, .bin .lss (.t 10) (.c (.int .i64 0)), none⟩])
 (.cond (.t 11)
  (.seq
  (.reg [⟨some 4, .mv (.c (.int .i64 (-1))), none⟩])
  (.ret [4]))
  .skip))
 (.seq
 (.reg [⟨some 12, .mv (.t 1), none⟩,
 ⟨some 4, .mv (.t 12), none⟩])
 (.ret [4])))))⟩
structure H49 (Γ : Tab) : Prop where
  e49 : Γ 49 = some (.code f49)
/- loop.example/g00751/laws.szCol -/
def f84 : DFn := ⟨2, false, [.t 4],
 (.seq
 (.reg [⟨some 2, .boxf (.t 0), none⟩,
 ⟨some 4, .mv (.c (.int .i64 0)), none⟩])
 (.seq
 (.reg [⟨some 5, .mv (.t 1), none⟩,
 ⟨some 6, .faddr 0 (.t 2), none⟩,
 ⟨some 7, .load none (.t 6), none⟩,
 ⟨some 8, .lens (.t 7), none⟩,
 ⟨some 9, .bin .sub (.t 5) (.t 8), none⟩,
 ⟨some 1, .mv (.t 9), none⟩])
 (.seq
 (.seq
 (.reg [⟨some 10, .mv (.t 1), none⟩,
 ⟨some 11, .bin .lss (.t 10) (.c (.int .i64 0)), none⟩])
 (.cond (.t 11)
  (.seq
  (.reg [⟨some 4, .mv (.c (.int .i64 (-1))), none⟩])
  (.ret [4]))
  .skip))
 (.seq
 (.reg [⟨some 12, .faddr 1 (.t 2), none⟩,
 ⟨some 13, .load (some 3) (.t 12), none⟩,
 ⟨some 14, .mv (.t 1), none⟩,
 ⟨some 15, .call 49 .frz [(.t 13), (.t 14)], none⟩,
 ⟨some 1, .mv (.t 15), none⟩])
 (.seq
 (.seq
 (.reg [⟨some 16, .mv (.t 1), none⟩,
 ⟨some 17, .bin .lss (.t 16) (.c (.int .i64 0)), none⟩])
 (.cond (.t 17)
  (.seq
  (.reg [⟨some 4, .mv (.c (.int .i64 (-1))), none⟩])
  (.ret [4]))
  .skip))
 (.seq
 (.reg [⟨some 18, .faddr 5 (.t 2), none⟩,
 ⟨some 19, .load none (.t 18), none⟩,
 ⟨some 20, .mv (.t 1), none⟩,
 ⟨some 21, .call 46 .frz [(.t 19), (.t 20)], none⟩,
 ⟨some 1, .mv (.t 21), none⟩])
 (.seq
 (.seq
 (.reg [⟨some 22, .mv (.t 1), none⟩,
 ⟨some 23, .bin .lss (.t 22) (.c (.int .i64 0)), none⟩])
 (.cond (.t 23)
  (.seq
  (.reg [⟨some 4, .mv (.c (.int .i64 (-1))), none⟩])
  (.ret [4]))
  .skip))
 (.seq
 (.reg [⟨some 24, .mv (.t 1), none⟩,
 ⟨some 4, .mv (.t 24), none⟩])
 (.ret [4])))))))))⟩
structure H84 (Γ : Tab) : Prop where
  e84 : Γ 84 = some (.code f84)
  c46 : H46 Γ
  c49 : H49 Γ
/- loop.example/g00751/laws.szColS -/
def f45l1 : DCode :=
 (.seq
 (.seq
 (.reg [⟨some 12, .mv (.t 5), none⟩,
 ⟨some 13, .mv (.t 0), none⟩,
 ⟨some 14, .len (.t 13), none⟩,
 ⟨some 15, .bin .lss (.t 12) (.t 14), none⟩])
 (.cond (.t 15)
  .skip
  (.exit 0)))
 (.seq
 (.block 1 [0, 1, 5]
  (.seq
  (.reg [⟨some 18, .mv (.t 0), none⟩,
  ⟨some 19, .mv (.t 5), none⟩,
  ⟨some 20, .iaddr 6 (.t 18) (.t 19), none⟩,
  ⟨some 21, .load (some 6) (.t 20), none⟩,
  ⟨some 22, .mv (.t 1), none⟩,
  ⟨some 23, .call 84 .frz [(.t 21), (.t 22)], none⟩,
  ⟨some 1, .mv (.t 23), none⟩])
  (.seq
  (.reg [⟨some 24, .mv (.t 1), none⟩,
  ⟨some 25, .bin .lss (.t 24) (.c (.int .i64 0)), none⟩])
  (.cond (.t 25)
   (.seq
   (.reg [⟨some 4, .mv (.c (.int .i64 (-1))), none⟩])
   (.ret [4]))
   .skip))))
 (.reg [⟨some 16, .mv (.t 5), none⟩,
 ⟨some 17, .bin .add (.t 16) (.c (.int .i64 1)), none⟩,
 ⟨some 5, .mv (.t 17), none⟩])))
def f45L1 : DCode := .loop [0, 1, 5] none f45l1
def f45 : DFn := ⟨2, false, [.t 4],
 (.seq
 (.reg [⟨some 4, .mv (.c (.int .i64 0)), none⟩])
 (.seq
 (.reg [⟨some 6, .mv (.t 1), none⟩,
 ⟨some 7, .mv (.t 0), none⟩,
 ⟨some 8, .len (.t 7), none⟩,
 ⟨some 9, .bin .sub (.t 6) (.t 8), none⟩,
 ⟨some 1, .mv (.t 9), none⟩])
 (.seq
 (.seq
 (.reg [⟨some 10, .mv (.t 1), none⟩,
 ⟨some 11, .bin .lss (.t 10) (.c (.int .i64 0)), none⟩])
 (.cond (.t 11)
  (.seq
  (.reg [⟨some 4, .mv (.c (.int .i64 (-1))), none⟩])
  (.ret [4]))
  .skip))
 (.seq
 (.seq
 (.reg [⟨some 5, .mv (.c (.int .i64 0)), none⟩])
 (.block 0 [1]
  f45L1))
 (.seq
 (.reg [⟨some 26, .mv (.t 1), none⟩,
 ⟨some 4, .mv (.t 26), none⟩])
 (.ret [4]))))))⟩
structure H45 (Γ : Tab) : Prop where
  e45 : Γ 45 = some (.code f45)
  c84 : H84 Γ
/- loop.example/g00751/laws.szStringS -/
def f48l1 : DCode :=
 (.seq
 (.seq
 (.reg [⟨some 12, .mv (.t 5), none⟩,
 ⟨some 13, .mv (.t 0), none⟩,
 ⟨some 14, .len (.t 13), none⟩,
 ⟨some 15, .bin .lss (.t 12) (.t 14), none⟩])
 (.cond (.t 15)
  .skip
  (.exit 0)))
 (.seq
 (.block 1 [0, 1, 5]
  (.seq
  (.reg [⟨some 18, .mv (.t 1), none⟩,
  ⟨some 19, .mv (.t 0), none⟩,
  ⟨some 20, .mv (.t 5), none⟩,
  ⟨some 21, .iaddr 1 (.t 19) (.t 20), none⟩,
  ⟨some 22, .load none (.t 21), none⟩,
  ⟨some 23, .lens (.t 22), none⟩,
  ⟨some 24, .bin .sub (.t 18) (.t 23), none⟩,
  ⟨some 1, .mv (.t 24), none⟩])
  (.seq
  (.reg [⟨some 25, .mv (.t 1), none⟩,
  ⟨some 26, .bin .lss (.t 25) (.c (.int .i64 0)), none⟩])
  (.cond (.t 26)
   (.seq
   (.reg [⟨some 4, .mv (.c (.int .i64 (-1))), none⟩])
   (.ret [4]))
   .skip))))
 (.reg [⟨some 16, .mv (.t 5), none⟩,
 ⟨some 17, .bin .add (.t 16) (.c (.int .i64 1)), none⟩,
 ⟨some 5, .mv (.t 17), none⟩])))
def f48L1 : DCode := .loop [0, 1, 5] none f48l1
def f48 : DFn := ⟨2, false, [.t 4],
 (.seq
 (.reg [⟨some 4, .mv (.c (.int .i64 0)), none⟩])
 (.seq
 (.reg [⟨some 6, .mv (.t 1), none⟩,
 ⟨some 7, .mv (.t 0), none⟩,
 ⟨some 8, .len (.t 7), none⟩,
 ⟨some 9, .bin .sub (.t 6) (.t 8), none⟩,
 ⟨some 1, .mv (.t 9), none⟩])
 (.seq
 (.seq
 (.reg [⟨some 10, .mv (.t 1), none⟩,
 ⟨some 11, .bin .lss (.t 10) (.c (.int .i64 0)), none⟩])
 (.cond (.t 11)
  (.seq
  (.reg [⟨some 4, .mv (.c (.int .i64 (-1))), none⟩])
  (.ret [4]))
  .skip))
 (.seq
 (.seq
 (.reg [⟨some 5, .mv (.c (.int .i64 0)), none⟩])
 (.block 0 [1]
  f48L1))
 (.seq
 (.reg [⟨some 27, .mv (.t 1), none⟩,
 ⟨some 4, .mv (.t 27), none⟩])
 (.ret [4]))))))⟩
structure H48 (Γ : Tab) : Prop where
  e48 : Γ 48 = some (.code f48)
/- loop.example/g00751/laws.szRule -/
def f85 : DFn := ⟨2, false, [.t 4],
 (.seq
 (.reg [⟨some 2, .boxf (.t 0), none⟩,
 ⟨some 4, .mv (.c (.int .i64 0)), none⟩])
 (.seq
 (.reg [⟨some 5, .mv (.t 1), none⟩,
 ⟨some 6, .faddr 0 (.t 2), none⟩,
 ⟨some 7, .load none (.t 6), none⟩,
 ⟨some 8, .lens (.t 7), none⟩,
 ⟨some 9, .bin .sub (.t 5) (.t 8), none⟩,
 ⟨some 1, .mv (.t 9), none⟩])
 (.seq
 (.seq
 (.reg [⟨some 10, .mv (.t 1), none⟩,
 ⟨some 11, .bin .lss (.t 10) (.c (.int .i64 0)), none⟩])
 (.cond (.t 11)
  (.seq
  (.reg [⟨some 4, .mv (.c (.int .i64 (-1))), none⟩])
  (.ret [4]))
  .skip))
 (.seq
 (.reg [⟨some 12, .faddr 2 (.t 2), none⟩,
 ⟨some 13, .load none (.t 12), none⟩,
 ⟨some 14, .mv (.t 1), none⟩,
 ⟨some 15, .call 48 .frz [(.t 13), (.t 14)], none⟩,
 ⟨some 1, .mv (.t 15), none⟩])
 (.seq
 (.seq
 (.reg [⟨some 16, .mv (.t 1), none⟩,
 ⟨some 17, .bin .lss (.t 16) (.c (.int .i64 0)), none⟩])
 (.cond (.t 17)
  (.seq
  (.reg [⟨some 4, .mv (.c (.int .i64 (-1))), none⟩])
  (.ret [4]))
  .skip))
 (.seq
 (.reg [⟨some 18, .faddr 3 (.t 2), none⟩,
 ⟨some 19, .load none (.t 18), none⟩,
 ⟨some 20, .mv (.t 1), none⟩,
 ⟨some 21, .call 46 .frz [(.t 19), (.t 20)], none⟩,
 ⟨some 1, .mv (.t 21), none⟩])
 (.seq
 (.seq
 (.reg [⟨some 22, .mv (.t 1), none⟩,
 ⟨some 23, .bin .lss (.t 22) (.c (.int .i64 0)), none⟩])
 (.cond (.t 23)
  (.seq
  (.reg [⟨some 4, .mv (.c (.int .i64 (-1))), none⟩])
  (.ret [4]))
  .skip))
 (.seq
 (.reg [⟨some 24, .mv (.t 1), none⟩,
 ⟨some 25, .faddr 4 (.t 2), none⟩,
 ⟨some 26, .load none (.t 25), none⟩,
 ⟨some 27, .lens (.t 26), none⟩,
 ⟨some 28, .bin .sub (.t 24) (.t 27), none⟩,
 ⟨some 1, .mv (.t 28), none⟩])
 (.seq
 (.seq
 (.reg [⟨some 29, .mv (.t 1), none⟩,
 ⟨some 30, .bin .lss (.t 29) (.c (.int .i64 0)), none⟩])
 (.cond (.t 30)
  (.seq
  (.reg [⟨some 4, .mv (.c (.int .i64 (-1))), none⟩])
  (.ret [4]))
  .skip))
 (.seq
 (.reg [⟨some 31, .faddr 5 (.t 2), none⟩,
 ⟨some 32, .load none (.t 31), none⟩,
 ⟨some 33, .mv (.t 1), none⟩,
 ⟨some 34, .call 48 .frz [(.t 32), (.t 33)], none⟩,
 ⟨some 1, .mv (.t 34), none⟩])
 (.seq
 (.seq
 (.reg [⟨some 35, .mv (.t 1), none⟩,
 ⟨some 36, .bin .lss (.t 35) (.c (.int .i64 0)), none⟩])
 (.cond (.t 36)
  (.seq
  (.reg [⟨some 4, .mv (.c (.int .i64 (-1))), none⟩])
  (.ret [4]))
  .skip))
 (.seq
 (.reg [⟨some 37, .mv (.t 1), none⟩,
 ⟨some 4, .mv (.t 37), none⟩])
 (.ret [4])))))))))))))⟩
structure H85 (Γ : Tab) : Prop where
  e85 : Γ 85 = some (.code f85)
  c46 : H46 Γ
  c48 : H48 Γ
/- loop.example/g00751/laws.szRuleS -/
def f47l1 : DCode :=
 (.seq
 (.seq
 (.reg [⟨some 12, .mv (.t 5), none⟩,
 ⟨some 13, .mv (.t 0), none⟩,
 ⟨some 14, .len (.t 13), none⟩,
 ⟨some 15, .bin .lss (.t 12) (.t 14), none⟩])
 (.cond (.t 15)
  .skip
  (.exit 0)))
 (.seq
 (.block 1 [0, 1, 5]
  (.seq
  (.reg [⟨some 18, .mv (.t 0), none⟩,
  ⟨some 19, .mv (.t 5), none⟩,
  ⟨some 20, .iaddr 6 (.t 18) (.t 19), none⟩,
  ⟨some 21, .load (some 6) (.t 20), none⟩,
  ⟨some 22, .mv (.t 1), none⟩,
  ⟨some 23, .call 85 .frz [(.t 21), (.t 22)], none⟩,
  ⟨some 1, .mv (.t 23), none⟩])
  (.seq
  (.reg [⟨some 24, .mv (.t 1), none⟩,
  ⟨some 25, .bin .lss (.t 24) (.c (.int .i64 0)), none⟩])
  (.cond (.t 25)
   (.seq
   (.reg [⟨some 4, .mv (.c (.int .i64 (-1))), none⟩])
   (.ret [4]))
   .skip))))
 (.reg [⟨some 16, .mv (.t 5), none⟩,
 ⟨some 17, .bin .add (.t 16) (.c (.int .i64 1)), none⟩,
 ⟨some 5, .mv (.t 17), none⟩])))
def f47L1 : DCode := .loop [0, 1, 5] none f47l1
def f47 : DFn := ⟨2, false, [.t 4],
 (.seq
 (.reg [⟨some 4, .mv (.c (.int .i64 0)), none⟩])
 (.seq
 (.reg [⟨some 6, .mv (.t 1), none⟩,
 ⟨some 7, .mv (.t 0), none⟩,
 ⟨some 8, .len (.t 7), none⟩,
 ⟨some 9, .bin .sub (.t 6) (.t 8), none⟩,
 ⟨some 1, .mv (.t 9), none⟩])
 (.seq
 (.seq
 (.reg [⟨some 10, .mv (.t 1), none⟩,
 ⟨some 11, .bin .lss (.t 10) (.c (.int .i64 0)), none⟩])
 (.cond (.t 11)
  (.seq
  (.reg [⟨some 4, .mv (.c (.int .i64 (-1))), none⟩])
  (.ret [4]))
  .skip))
 (.seq
 (.seq
 (.reg [⟨some 5, .mv (.c (.int .i64 0)), none⟩])
 (.block 0 [1]
  f47L1))
 (.seq
 (.reg [⟨some 26, .mv (.t 1), none⟩,
 ⟨some 4, .mv (.t 26), none⟩])
 (.ret [4]))))))⟩
structure H47 (Γ : Tab) : Prop where
  e47 : Γ 47 = some (.code f47)
  c85 : H85 Γ
/- loop.example/g00751/laws.szStmt -/
def f25 : DFn := ⟨2, false, [.t 4],
 (.seq
 (.reg [⟨some 2, .boxf (.t 0), none⟩,
 ⟨some 4, .mv (.c (.int .i64 0)), none⟩])
 (.seq
 (.reg [⟨some 5, .mv (.t 1), none⟩,
 ⟨some 6, .faddr 1 (.t 2), none⟩,
 ⟨some 7, .load none (.t 6), none⟩,
 ⟨some 8, .lens (.t 7), none⟩,
 ⟨some 9, .bin .sub (.t 5) (.t 8), none⟩,
 ⟨some 1, .mv (.t 9), none⟩])
 (.seq
 (.seq
 (.reg [⟨some 10, .mv (.t 1), none⟩,
 ⟨some 11, .bin .lss (.t 10) (.c (.int .i64 0)), none⟩])
 (.cond (.t 11)
  (.seq
  (.reg [⟨some 4, .mv (.c (.int .i64 (-1))), none⟩])
  (.ret [4]))
  .skip))
 (.seq
 (.reg [⟨some 12, .mv (.t 1), none⟩,
 ⟨some 13, .faddr 2 (.t 2), none⟩,
 ⟨some 14, .load none (.t 13), none⟩,
 ⟨some 15, .lens (.t 14), none⟩,
 ⟨some 16, .bin .sub (.t 12) (.t 15), none⟩,
 ⟨some 1, .mv (.t 16), none⟩])
 (.seq
 (.seq
 (.reg [⟨some 17, .mv (.t 1), none⟩,
 ⟨some 18, .bin .lss (.t 17) (.c (.int .i64 0)), none⟩])
 (.cond (.t 18)
  (.seq
  (.reg [⟨some 4, .mv (.c (.int .i64 (-1))), none⟩])
  (.ret [4]))
  .skip))
 (.seq
 (.reg [⟨some 19, .faddr 3 (.t 2), none⟩,
 ⟨some 20, .load none (.t 19), none⟩,
 ⟨some 21, .mv (.t 1), none⟩,
 ⟨some 22, .call 48 .frz [(.t 20), (.t 21)], none⟩,
 ⟨some 1, .mv (.t 22), none⟩])
 (.seq
 (.seq
 (.reg [⟨some 23, .mv (.t 1), none⟩,
 ⟨some 24, .bin .lss (.t 23) (.c (.int .i64 0)), none⟩])
 (.cond (.t 24)
  (.seq
  (.reg [⟨some 4, .mv (.c (.int .i64 (-1))), none⟩])
  (.ret [4]))
  .skip))
 (.seq
 (.reg [⟨some 25, .faddr 6 (.t 2), none⟩,
 ⟨some 26, .load (some 3) (.t 25), none⟩,
 ⟨some 27, .mv (.t 1), none⟩,
 ⟨some 28, .call 49 .frz [(.t 26), (.t 27)], none⟩,
 ⟨some 1, .mv (.t 28), none⟩])
 (.seq
 (.seq
 (.reg [⟨some 29, .mv (.t 1), none⟩,
 ⟨some 30, .bin .lss (.t 29) (.c (.int .i64 0)), none⟩])
 (.cond (.t 30)
  (.seq
  (.reg [⟨some 4, .mv (.c (.int .i64 (-1))), none⟩])
  (.ret [4]))
  .skip))
 (.seq
 (.reg [⟨some 31, .faddr 9 (.t 2), none⟩,
 ⟨some 32, .load none (.t 31), none⟩,
 ⟨some 33, .mv (.t 1), none⟩,
 ⟨some 34, .call 45 .frz [(.t 32), (.t 33)], none⟩,
 ⟨some 1, .mv (.t 34), none⟩])
 (.seq
 (.seq
 (.reg [⟨some 35, .mv (.t 1), none⟩,
 ⟨some 36, .bin .lss (.t 35) (.c (.int .i64 0)), none⟩])
 (.cond (.t 36)
  (.seq
  (.reg [⟨some 4, .mv (.c (.int .i64 (-1))), none⟩])
  (.ret [4]))
  .skip))
 (.seq
 (.reg [⟨some 37, .faddr 10 (.t 2), none⟩,
 ⟨some 38, .load none (.t 37), none⟩,
 ⟨some 39, .mv (.t 1), none⟩,
 ⟨some 40, .call 47 .frz [(.t 38), (.t 39)], none⟩,
 ⟨some 1, .mv (.t 40), none⟩])
 (.seq
 (.seq
 (.reg [⟨some 41, .mv (.t 1), none⟩,
 ⟨some 42, .bin .lss (.t 41) (.c (.int .i64 0)), none⟩])
 (.cond (.t 42)
  (.seq
  (.reg [⟨some 4, .mv (.c (.int .i64 (-1))), none⟩])
  (.ret [4]))
  .skip))
 (.seq
 (.reg [⟨some 43, .faddr 11 (.t 2), none⟩,
 ⟨some 44, .load none (.t 43), none⟩,
 ⟨some 45, .mv (.t 1), none⟩,
 ⟨some 46, .call 46 .frz [(.t 44), (.t 45)], none⟩,
 ⟨some 1, .mv (.t 46), none⟩])
 (.seq
 (.seq
 (.reg [⟨some 47, .mv (.t 1), none⟩,
 ⟨some 48, .bin .lss (.t 47) (.c (.int .i64 0)), none⟩])
 (.cond (.t 48)
  (.seq
  (.reg [⟨some 4, .mv (.c (.int .i64 (-1))), none⟩])
  (.ret [4]))
  .skip))
 (.seq
 (.reg [⟨some 49, .mv (.t 1), none⟩,
 ⟨some 4, .mv (.t 49), none⟩])
 (.ret [4])))))))))))))))))⟩
structure H25 (Γ : Tab) : Prop where
  e25 : Γ 25 = some (.code f25)
  c45 : H45 Γ
  c46 : H46 Γ
  c47 : H47 Γ
  c48 : H48 Γ
  c49 : H49 Γ
/- loop.example/g00751/laws.toExprS -/
def f53l1 : DCode :=
 (.seq
 (.seq
 (.reg [⟨some 8, .mv (.t 4), none⟩,
 ⟨some 9, .mv (.t 0), none⟩,
 ⟨some 10, .len (.t 9), none⟩,
 ⟨some 11, .bin .lss (.t 8) (.t 10), none⟩])
 (.cond (.t 11)
  .skip
  (.exit 0)))
 (.seq
 (.block 1 [0, 3, 4]
  (.reg [⟨some 14, .mv (.t 3), none⟩,
  ⟨some 15, .mv (.t 4), none⟩,
  ⟨some 16, .mv (.t 0), none⟩,
  ⟨some 17, .mv (.t 4), none⟩,
  ⟨some 18, .iaddr 4 (.t 16) (.t 17), none⟩,
  ⟨some 19, .load (some 4) (.t 18), none⟩,
  ⟨some 20, .call 93 .frz [(.t 19)], none⟩,
  ⟨some 21, .iaddr 4 (.t 14) (.t 15), none⟩,
  ⟨none, .store 4 (.t 21) (.t 20), none⟩]))
 (.reg [⟨some 12, .mv (.t 4), none⟩,
 ⟨some 13, .bin .add (.t 12) (.c (.int .i64 1)), none⟩,
 ⟨some 4, .mv (.t 13), none⟩])))
def f53L1 : DCode := .loop [0, 3, 4] none f53l1
def f53 : DFn := ⟨1, false, [.t 2],
 (.seq
 (.reg [⟨some 2, .mv (.c .nils), none⟩])
 (.seq
 (.reg [⟨some 5, .mv (.t 0), none⟩,
 ⟨some 6, .len (.t 5), none⟩,
 ⟨some 7, .mkSl 4 56 (.agg [.int .i64 0, .str [], .int .i64 0, .nils]) (.t 6) (.t 6), none⟩,
 ⟨some 3, .mv (.t 7), none⟩])
 (.seq
 (.seq
 (.reg [⟨some 4, .mv (.c (.int .i64 0)), none⟩])
 (.block 0 [3]
  f53L1))
 (.seq
 (.reg [⟨some 22, .mv (.t 3), none⟩,
 ⟨some 2, .mv (.t 22), none⟩])
 (.ret [2])))))⟩
/- loop.example/g00751/laws.toExpr -/
def f93 : DFn := ⟨1, false, [.cell 2 (some 4)],
 (.seq
 (.reg [⟨some 1, .boxf (.t 0), none⟩,
 ⟨some 2, .alloc [.int .i64 0, .str [], .int .i64 0, .nils], none⟩])
 (.seq
 (.reg [⟨some 3, .alloc [.int .i64 0, .str [], .int .i64 0, .nils], none⟩])
 (.seq
 (.reg [⟨some 4, .faddr 0 (.t 1), none⟩,
 ⟨some 5, .load none (.t 4), none⟩,
 ⟨some 6, .faddr 0 (.t 3), none⟩,
 ⟨none, .store 1 (.t 6) (.t 5), none⟩])
 (.seq
 (.reg [⟨some 7, .faddr 1 (.t 1), none⟩,
 ⟨some 8, .load none (.t 7), none⟩,
 ⟨some 9, .faddr 1 (.t 3), none⟩,
 ⟨none, .store 1 (.t 9) (.t 8), none⟩])
 (.seq
 (.reg [⟨some 10, .faddr 2 (.t 1), none⟩,
 ⟨some 11, .load none (.t 10), none⟩,
 ⟨some 12, .faddr 2 (.t 3), none⟩,
 ⟨none, .store 1 (.t 12) (.t 11), none⟩])
 (.seq
 (.reg [⟨some 13, .faddr 3 (.t 1), none⟩,
 ⟨some 14, .load none (.t 13), none⟩,
 ⟨some 15, .call 53 .frz [(.t 14)], none⟩,
 ⟨some 16, .faddr 3 (.t 3), none⟩,
 ⟨none, .store 1 (.t 16) (.t 15), none⟩])
 (.seq
 (.reg [⟨some 17, .load (some 4) (.t 3), none⟩,
 ⟨none, .store 4 (.t 2) (.t 17), none⟩])
 (.ret [2]))))))))⟩
structure H53 (Γ : Tab) : Prop where
  e53 : Γ 53 = some (.code f53)
  e93 : Γ 93 = some (.code f93)
abbrev H93 := H53
/- loop.example/g00751/laws.toType -/
def f56 : DFn := ⟨1, false, [.cell 2 (some 3)],
 (.seq
 (.reg [⟨some 1, .boxf (.t 0), none⟩,
 ⟨some 2, .alloc [.int .i64 0, .int .i64 0, .str []], none⟩])
 (.seq
 (.reg [⟨some 3, .alloc [.int .i64 0, .int .i64 0, .str []], none⟩])
 (.seq
 (.reg [⟨some 4, .faddr 0 (.t 1), none⟩,
 ⟨some 5, .load none (.t 4), none⟩,
 ⟨some 6, .faddr 0 (.t 3), none⟩,
 ⟨none, .store 1 (.t 6) (.t 5), none⟩])
 (.seq
 (.reg [⟨some 7, .faddr 1 (.t 1), none⟩,
 ⟨some 8, .load none (.t 7), none⟩,
 ⟨some 9, .faddr 1 (.t 3), none⟩,
 ⟨none, .store 1 (.t 9) (.t 8), none⟩])
 (.seq
 (.reg [⟨some 10, .faddr 2 (.t 1), none⟩,
 ⟨some 11, .load none (.t 10), none⟩,
 ⟨some 12, .faddr 2 (.t 3), none⟩,
 ⟨none, .store 1 (.t 12) (.t 11), none⟩])
 (.seq
 (.reg [⟨some 13, .load (some 3) (.t 3), none⟩,
 ⟨none, .store 3 (.t 2) (.t 13), none⟩])
 (.ret [2])))))))⟩
structure H56 (Γ : Tab) : Prop where
  e56 : Γ 56 = some (.code f56)
/- loop.example/g00751/laws.toCol -/
def f91 : DFn := ⟨1, false, [.cell 2 (some 6)],
 (.seq
 (.reg [⟨some 1, .boxf (.t 0), none⟩,
 ⟨some 2, .alloc [.str [], .int .i64 0, .int .i64 0, .str [], .bool false, .nils], none⟩])
 (.seq
 (.reg [⟨some 3, .alloc [.str [], .int .i64 0, .int .i64 0, .str [], .bool false, .nils], none⟩])
 (.seq
 (.reg [⟨some 4, .faddr 0 (.t 1), none⟩,
 ⟨some 5, .load none (.t 4), none⟩,
 ⟨some 6, .faddr 0 (.t 3), none⟩,
 ⟨none, .store 1 (.t 6) (.t 5), none⟩])
 (.seq
 (.reg [⟨some 7, .faddr 1 (.t 1), none⟩,
 ⟨some 8, .load (some 3) (.t 7), none⟩,
 ⟨some 9, .call 56 .frz [(.t 8)], none⟩,
 ⟨some 10, .faddr 1 (.t 3), none⟩,
 ⟨none, .store 3 (.t 10) (.t 9), none⟩])
 (.seq
 (.reg [⟨some 11, .faddr 4 (.t 1), none⟩,
 ⟨some 12, .load none (.t 11), none⟩,
 ⟨some 13, .faddr 4 (.t 3), none⟩,
 ⟨none, .store 1 (.t 13) (.t 12), none⟩])
 (.seq
 (.reg [⟨some 14, .faddr 5 (.t 1), none⟩,
 ⟨some 15, .load none (.t 14), none⟩,
 ⟨some 16, .call 53 .frz [(.t 15)], none⟩,
 ⟨some 17, .faddr 5 (.t 3), none⟩,
 ⟨none, .store 1 (.t 17) (.t 16), none⟩])
 (.seq
 (.reg [⟨some 18, .load (some 6) (.t 3), none⟩,
 ⟨none, .store 6 (.t 2) (.t 18), none⟩])
 (.ret [2]))))))))⟩
structure H91 (Γ : Tab) : Prop where
  e91 : Γ 91 = some (.code f91)
  c53 : H53 Γ
  c56 : H56 Γ
/- loop.example/g00751/laws.toColS -/
def f52l1 : DCode :=
 (.seq
 (.seq
 (.reg [⟨some 8, .mv (.t 4), none⟩,
 ⟨some 9, .mv (.t 0), none⟩,
 ⟨some 10, .len (.t 9), none⟩,
 ⟨some 11, .bin .lss (.t 8) (.t 10), none⟩])
 (.cond (.t 11)
  .skip
  (.exit 0)))
 (.seq
 (.block 1 [0, 3, 4]
  (.reg [⟨some 14, .mv (.t 3), none⟩,
  ⟨some 15, .mv (.t 4), none⟩,
  ⟨some 16, .mv (.t 0), none⟩,
  ⟨some 17, .mv (.t 4), none⟩,
  ⟨some 18, .iaddr 6 (.t 16) (.t 17), none⟩,
  ⟨some 19, .load (some 6) (.t 18), none⟩,
  ⟨some 20, .call 91 .frz [(.t 19)], none⟩,
  ⟨some 21, .iaddr 6 (.t 14) (.t 15), none⟩,
  ⟨none, .store 6 (.t 21) (.t 20), none⟩]))
 (.reg [⟨some 12, .mv (.t 4), none⟩,
 ⟨some 13, .bin .add (.t 12) (.c (.int .i64 1)), none⟩,
 ⟨some 4, .mv (.t 13), none⟩])))
def f52L1 : DCode := .loop [0, 3, 4] none f52l1
def f52 : DFn := ⟨1, false, [.t 2],
 (.seq
 (.reg [⟨some 2, .mv (.c .nils), none⟩])
 (.seq
 (.reg [⟨some 5, .mv (.t 0), none⟩,
 ⟨some 6, .len (.t 5), none⟩,
 ⟨some 7, .mkSl 6 80 (.agg [.str [], .int .i64 0, .int .i64 0, .str [], .bool false, .nils]) (.t 6) (.t 6), none⟩,
 ⟨some 3, .mv (.t 7), none⟩])
 (.seq
 (.seq
 (.reg [⟨some 4, .mv (.c (.int .i64 0)), none⟩])
 (.block 0 [3]
  f52L1))
 (.seq
 (.reg [⟨some 22, .mv (.t 3), none⟩,
 ⟨some 2, .mv (.t 22), none⟩])
 (.ret [2])))))⟩
structure H52 (Γ : Tab) : Prop where
  e52 : Γ 52 = some (.code f52)
  c91 : H91 Γ
/- loop.example/g00751/laws.toStringS -/
def f55l1 : DCode :=
 (.seq
 (.seq
 (.reg [⟨some 8, .mv (.t 4), none⟩,
 ⟨some 9, .mv (.t 0), none⟩,
 ⟨some 10, .len (.t 9), none⟩,
 ⟨some 11, .bin .lss (.t 8) (.t 10), none⟩])
 (.cond (.t 11)
  .skip
  (.exit 0)))
 (.seq
 (.block 1 [0, 3, 4]
  (.reg [⟨some 14, .mv (.t 3), none⟩,
  ⟨some 15, .mv (.t 4), none⟩,
  ⟨some 16, .mv (.t 0), none⟩,
  ⟨some 17, .mv (.t 4), none⟩,
  ⟨some 18, .iaddr 1 (.t 16) (.t 17), none⟩,
  ⟨some 19, .load none (.t 18), none⟩,
  ⟨some 20, .iaddr 1 (.t 14) (.t 15), none⟩,
  ⟨none, .store 1 (.t 20) (.t 19), none⟩]))
 (.reg [⟨some 12, .mv (.t 4), none⟩,
 ⟨some 13, .bin .add (.t 12) (.c (.int .i64 1)), none⟩,
 ⟨some 4, .mv (.t 13), none⟩])))
def f55L1 : DCode := .loop [0, 3, 4] none f55l1
def f55 : DFn := ⟨1, false, [.t 2],
 (.seq
 (.reg [⟨some 2, .mv (.c .nils), none⟩])
 (.seq
 (.reg [⟨some 5, .mv (.t 0), none⟩,
 ⟨some 6, .len (.t 5), none⟩,
 ⟨some 7, .mkSl 1 16 (.str []) (.t 6) (.t 6), none⟩,
 ⟨some 3, .mv (.t 7), none⟩])
 (.seq
 (.seq
 (.reg [⟨some 4, .mv (.c (.int .i64 0)), none⟩])
 (.block 0 [3]
  f55L1))
 (.seq
 (.reg [⟨some 21, .mv (.t 3), none⟩,
 ⟨some 2, .mv (.t 21), none⟩])
 (.ret [2])))))⟩
structure H55 (Γ : Tab) : Prop where
  e55 : Γ 55 = some (.code f55)
/- loop.example/g00751/laws.toRule -/
def f92 : DFn := ⟨1, false, [.cell 2 (some 6)],
 (.seq
 (.reg [⟨some 1, .boxf (.t 0), none⟩,
 ⟨some 2, .alloc [.str [], .int .i64 0, .nils, .nils, .str [], .nils], none⟩])
 (.seq
 (.reg [⟨some 3, .alloc [.str [], .int .i64 0, .nils, .nils, .str [], .nils], none⟩])
 (.seq
 (.reg [⟨some 4, .faddr 0 (.t 1), none⟩,
 ⟨some 5, .load none (.t 4), none⟩,
 ⟨some 6, .faddr 0 (.t 3), none⟩,
 ⟨none, .store 1 (.t 6) (.t 5), none⟩])
 (.seq
 (.reg [⟨some 7, .faddr 1 (.t 1), none⟩,
 ⟨some 8, .load none (.t 7), none⟩,
 ⟨some 9, .faddr 1 (.t 3), none⟩,
 ⟨none, .store 1 (.t 9) (.t 8), none⟩])
 (.seq
 (.reg [⟨some 10, .faddr 2 (.t 1), none⟩,
 ⟨some 11, .load none (.t 10), none⟩,
 ⟨some 12, .call 55 .frz [(.t 11)], none⟩,
 ⟨some 13, .faddr 2 (.t 3), none⟩,
 ⟨none, .store 1 (.t 13) (.t 12), none⟩])
 (.seq
 (.reg [⟨some 14, .faddr 3 (.t 1), none⟩,
 ⟨some 15, .load none (.t 14), none⟩,
 ⟨some 16, .call 53 .frz [(.t 15)], none⟩,
 ⟨some 17, .faddr 3 (.t 3), none⟩,
 ⟨none, .store 1 (.t 17) (.t 16), none⟩])
 (.seq
 (.reg [⟨some 18, .faddr 4 (.t 1), none⟩,
 ⟨some 19, .load none (.t 18), none⟩,
 ⟨some 20, .faddr 4 (.t 3), none⟩,
 ⟨none, .store 1 (.t 20) (.t 19), none⟩])
 (.seq
 (.reg [⟨some 21, .faddr 5 (.t 1), none⟩,
 ⟨some 22, .load none (.t 21), none⟩,
 ⟨some 23, .call 55 .frz [(.t 22)], none⟩,
 ⟨some 24, .faddr 5 (.t 3), none⟩,
 ⟨none, .store 1 (.t 24) (.t 23), none⟩])
 (.seq
 (.reg [⟨some 25, .load (some 6) (.t 3), none⟩,
 ⟨none, .store 6 (.t 2) (.t 25), none⟩])
 (.ret [2]))))))))))⟩
structure H92 (Γ : Tab) : Prop where
  e92 : Γ 92 = some (.code f92)
  c53 : H53 Γ
  c55 : H55 Γ
/- loop.example/g00751/laws.toRuleS -/
def f54l1 : DCode :=
 (.seq
 (.seq
 (.reg [⟨some 8, .mv (.t 4), none⟩,
 ⟨some 9, .mv (.t 0), none⟩,
 ⟨some 10, .len (.t 9), none⟩,
 ⟨some 11, .bin .lss (.t 8) (.t 10), none⟩])
 (.cond (.t 11)
  .skip
  (.exit 0)))
 (.seq
 (.block 1 [0, 3, 4]
  (.reg [⟨some 14, .mv (.t 3), none⟩,
  ⟨some 15, .mv (.t 4), none⟩,
  ⟨some 16, .mv (.t 0), none⟩,
  ⟨some 17, .mv (.t 4), none⟩,
  ⟨some 18, .iaddr 6 (.t 16) (.t 17), none⟩,
  ⟨some 19, .load (some 6) (.t 18), none⟩,
  ⟨some 20, .call 92 .frz [(.t 19)], none⟩,
  ⟨some 21, .iaddr 6 (.t 14) (.t 15), none⟩,
  ⟨none, .store 6 (.t 21) (.t 20), none⟩]))
 (.reg [⟨some 12, .mv (.t 4), none⟩,
 ⟨some 13, .bin .add (.t 12) (.c (.int .i64 1)), none⟩,
 ⟨some 4, .mv (.t 13), none⟩])))
def f54L1 : DCode := .loop [0, 3, 4] none f54l1
def f54 : DFn := ⟨1, false, [.t 2],
 (.seq
 (.reg [⟨some 2, .mv (.c .nils), none⟩])
 (.seq
 (.reg [⟨some 5, .mv (.t 0), none⟩,
 ⟨some 6, .len (.t 5), none⟩,
 ⟨some 7, .mkSl 6 112 (.agg [.str [], .int .i64 0, .nils, .nils, .str [], .nils]) (.t 6) (.t 6), none⟩,
 ⟨some 3, .mv (.t 7), none⟩])
 (.seq
 (.seq
 (.reg [⟨some 4, .mv (.c (.int .i64 0)), none⟩])
 (.block 0 [3]
  f54L1))
 (.seq
 (.reg [⟨some 22, .mv (.t 3), none⟩,
 ⟨some 2, .mv (.t 22), none⟩])
 (.ret [2])))))⟩
structure H54 (Γ : Tab) : Prop where
  e54 : Γ 54 = some (.code f54)
  c92 : H92 Γ
/- loop.example/g00751/laws.toStmt -/
def f26 : DFn := ⟨1, false, [.cell 2 (some 12)],
 (.seq
 (.reg [⟨some 1, .boxf (.t 0), none⟩,
 ⟨some 2, .alloc [.int .i64 0, .str [], .str [], .nils, .int .i64 0, .bool false, .int .i64 0, .int .i64 0, .str [], .nils, .nils, .nils], none⟩])
 (.seq
 (.reg [⟨some 3, .alloc [.int .i64 0, .str [], .str [], .nils, .int .i64 0, .bool false, .int .i64 0, .int .i64 0, .str [], .nils, .nils, .nils], none⟩])
 (.seq
 (.reg [⟨some 4, .faddr 0 (.t 1), none⟩,
 ⟨some 5, .load none (.t 4), none⟩,
 ⟨some 6, .faddr 0 (.t 3), none⟩,
 ⟨none, .store 1 (.t 6) (.t 5), none⟩])
 (.seq
 (.reg [⟨some 7, .faddr 1 (.t 1), none⟩,
 ⟨some 8, .load none (.t 7), none⟩,
 ⟨some 9, .faddr 1 (.t 3), none⟩,
 ⟨none, .store 1 (.t 9) (.t 8), none⟩])
 (.seq
 (.reg [⟨some 10, .faddr 2 (.t 1), none⟩,
 ⟨some 11, .load none (.t 10), none⟩,
 ⟨some 12, .faddr 2 (.t 3), none⟩,
 ⟨none, .store 1 (.t 12) (.t 11), none⟩])
 (.seq
 (.reg [⟨some 13, .faddr 3 (.t 1), none⟩,
 ⟨some 14, .load none (.t 13), none⟩,
 ⟨some 15, .call 55 .frz [(.t 14)], none⟩,
 ⟨some 16, .faddr 3 (.t 3), none⟩,
 ⟨none, .store 1 (.t 16) (.t 15), none⟩])
 (.seq
 (.reg [⟨some 17, .faddr 4 (.t 1), none⟩,
 ⟨some 18, .load none (.t 17), none⟩,
 ⟨some 19, .faddr 4 (.t 3), none⟩,
 ⟨none, .store 1 (.t 19) (.t 18), none⟩])
 (.seq
 (.reg [⟨some 20, .faddr 5 (.t 1), none⟩,
 ⟨some 21, .load none (.t 20), none⟩,
 ⟨some 22, .faddr 5 (.t 3), none⟩,
 ⟨none, .store 1 (.t 22) (.t 21), none⟩])
 (.seq
 (.reg [⟨some 23, .faddr 6 (.t 1), none⟩,
 ⟨some 24, .load (some 3) (.t 23), none⟩,
 ⟨some 25, .call 56 .frz [(.t 24)], none⟩,
 ⟨some 26, .faddr 6 (.t 3), none⟩,
 ⟨none, .store 3 (.t 26) (.t 25), none⟩])
 (.seq
 (.reg [⟨some 27, .faddr 9 (.t 1), none⟩,
 ⟨some 28, .load none (.t 27), none⟩,
 ⟨some 29, .call 52 .frz [(.t 28)], none⟩,
 ⟨some 30, .faddr 9 (.t 3), none⟩,
 ⟨none, .store 1 (.t 30) (.t 29), none⟩])
 (.seq
 (.reg [⟨some 31, .faddr 10 (.t 1), none⟩,
 ⟨some 32, .load none (.t 31), none⟩,
 ⟨some 33, .call 54 .frz [(.t 32)], none⟩,
 ⟨some 34, .faddr 10 (.t 3), none⟩,
 ⟨none, .store 1 (.t 34) (.t 33), none⟩])
 (.seq
 (.reg [⟨some 35, .faddr 11 (.t 1), none⟩,
 ⟨some 36, .load none (.t 35), none⟩,
 ⟨some 37, .call 53 .frz [(.t 36)], none⟩,
 ⟨some 38, .faddr 11 (.t 3), none⟩,
 ⟨none, .store 1 (.t 38) (.t 37), none⟩])
 (.seq
 (.reg [⟨some 39, .load (some 12) (.t 3), none⟩,
 ⟨none, .store 12 (.t 2) (.t 39), none⟩])
 (.ret [2]))))))))))))))⟩
structure H26 (Γ : Tab) : Prop where
  e26 : Γ 26 = some (.code f26)
  c52 : H52 Γ
  c53 : H53 Γ
  c54 : H54 Γ
  c55 : H55 Γ
  c56 : H56 Γ
/- loop.example/g00751/spec.Nodes -/
def f116l1 : DCode :=
 (.seq
 (.seq
 (.reg [⟨some 5, .mv (.t 4), none⟩,
 ⟨some 6, .faddr 3 (.t 1), none⟩,
 ⟨some 7, .load none (.t 6), none⟩,
 ⟨some 8, .len (.t 7), none⟩,
 ⟨some 9, .bin .lss (.t 5) (.t 8), none⟩])
 (.cond (.t 9)
  .skip
  (.exit 0)))
 (.seq
 (.block 1 [1, 3, 4]
  (.reg [⟨some 12, .mv (.t 3), none⟩,
  ⟨some 13, .faddr 3 (.t 1), none⟩,
  ⟨some 14, .load none (.t 13), none⟩,
  ⟨some 15, .mv (.t 4), none⟩,
  ⟨some 16, .iaddr 4 (.t 14) (.t 15), none⟩,
  ⟨some 17, .load (some 4) (.t 16), none⟩,
  ⟨some 18, .call 116 .frz [(.t 17)], none⟩,
  ⟨some 19, .bin .add (.t 12) (.t 18), none⟩,
  ⟨some 3, .mv (.t 19), none⟩]))
 (.reg [⟨some 10, .mv (.t 4), none⟩,
 ⟨some 11, .bin .add (.t 10) (.c (.int .i64 1)), none⟩,
 ⟨some 4, .mv (.t 11), none⟩])))
def f116L1 : DCode := .loop [1, 3, 4] none f116l1
def f116 : DFn := ⟨1, false, [.t 2],
 (.seq
 (.reg [⟨some 1, .boxf (.t 0), none⟩,
 ⟨some 2, .mv (.c (.int .i64 0)), none⟩])
 (.seq
 (.reg [⟨some 3, .mv (.c (.int .i64 1)), none⟩])
 (.seq
 (.seq
 (.reg [⟨some 4, .mv (.c (.int .i64 0)), none⟩])
 (.block 0 [3]
  f116L1))
 (.seq
 (.reg [⟨some 20, .mv (.t 3), none⟩,
 ⟨some 2, .mv (.t 20), none⟩])
 (.ret [2])))))⟩
structure H116 (Γ : Tab) : Prop where
  e116 : Γ 116 = some (.code f116)
/- loop.example/g00751/spec.l04Kids -/
def f118 : DFn := ⟨1, false, [.t 2],
 (.seq
 (.reg [⟨some 2, .mv (.c (.int .i64 0)), none⟩])
 (.seq
 (.block 0 []
  (.seq
  (.reg [⟨some 4, .mv (.t 0), none⟩,
  ⟨some 5, .call 28 .frz [(.t 4), (.c (.int .i64 0)), (.c (.int .i64 18))], none⟩,
  ⟨some 6, .un .not (.t 5), none⟩,
  ⟨some 3, .mv (.t 6), none⟩])
  (.cond (.t 3)
   (.seq
   (.reg [⟨some 2, .mv (.c (.int .i64 (-1))), none⟩])
   (.ret [2]))
   (.seq
   (.reg [⟨some 8, .mv (.t 0), none⟩,
   ⟨some 9, .bin .leq (.t 8) (.c (.int .i64 5)), none⟩,
   ⟨some 7, .mv (.t 9), none⟩])
   (.cond (.t 7)
    (.seq
    (.reg [⟨some 2, .mv (.c (.int .i64 0)), none⟩])
    (.ret [2]))
    (.seq
    (.reg [⟨some 11, .mv (.t 0), none⟩,
    ⟨some 12, .bin .leq (.t 11) (.c (.int .i64 7)), none⟩,
    ⟨some 10, .mv (.t 12), none⟩])
    (.cond (.t 10)
     (.seq
     (.reg [⟨some 2, .mv (.c (.int .i64 1)), none⟩])
     (.ret [2]))
     .skip)))))))
 (.seq
 (.reg [⟨some 2, .mv (.c (.int .i64 2)), none⟩])
 (.ret [2]))))⟩
structure H118 (Γ : Tab) : Prop where
  e118 : Γ 118 = some (.code f118)
  c28 : H28 Γ
/- loop.example/g00751/spec.l04Shape -/
def f117l1 : DCode :=
 (.seq
 (.seq
 (.reg [⟨some 47, .mv (.t 3), none⟩,
 ⟨some 48, .faddr 3 (.t 1), none⟩,
 ⟨some 49, .load none (.t 48), none⟩,
 ⟨some 50, .len (.t 49), none⟩,
 ⟨some 51, .bin .lss (.t 47) (.t 50), none⟩])
 (.cond (.t 51)
  .skip
  (.exit 1)))
 (.seq
 (.block 2 [1, 3]
  (.seq
  (.reg [⟨some 54, .faddr 3 (.t 1), none⟩,
  ⟨some 55, .load none (.t 54), none⟩,
  ⟨some 56, .mv (.t 3), none⟩,
  ⟨some 57, .iaddr 4 (.t 55) (.t 56), none⟩,
  ⟨some 58, .load (some 4) (.t 57), none⟩,
  ⟨some 59, .call 117 .frz [(.t 58)], none⟩,
  ⟨some 60, .un .not (.t 59), none⟩])
  (.cond (.t 60)
   (.seq
   (.reg [⟨some 2, .mv (.c (.bool false)), none⟩])
   (.ret [2]))
   .skip)))
 (.reg [⟨some 52, .mv (.t 3), none⟩,
 ⟨some 53, .bin .add (.t 52) (.c (.int .i64 1)), none⟩,
 ⟨some 3, .mv (.t 53), none⟩])))
def f117L1 : DCode := .loop [1, 3] none f117l1
def f117 : DFn := ⟨1, false, [.t 2],
 (.seq
 (.reg [⟨some 1, .boxf (.t 0), none⟩,
 ⟨some 2, .mv (.c (.bool false)), none⟩])
 (.seq
 (.seq
 (.any [false, false, false, false, false, false, false] [(1, ⟨some 4, .faddr 3 (.t 1), none⟩),
 (1, ⟨some 5, .load none (.t 4), none⟩),
 (1, ⟨some 6, .len (.t 5), none⟩),
 (1, ⟨some 7, .faddr 0 (.t 1), none⟩),
 (1, ⟨some 8, .load none (.t 7), none⟩),
 (1, ⟨some 9, .call 118 .frz [(.t 8)], none⟩),
 (1, ⟨some 10, .bin .neq (.t 6) (.t 9), none⟩)]
 [])
 (.cond (.t 10)
  (.seq
  (.reg [⟨some 2, .mv (.c (.bool false)), none⟩])
  (.ret [2]))
  .skip))
 (.seq
 (.seq
 (.reg [⟨some 11, .faddr 0 (.t 1), none⟩,
 ⟨some 12, .load none (.t 11), none⟩])
 (.block 0 [1]
  (.seq
  (.reg [⟨some 17, .bin .eql (.t 12) (.c (.int .i64 0)), none⟩,
  ⟨some 16, .mv (.t 17), none⟩])
  (.cond (.t 16)
   (.seq
   (.reg [⟨some 18, .faddr 1 (.t 1), none⟩,
   ⟨some 19, .load none (.t 18), none⟩,
   ⟨some 20, .call 43 .frz [(.t 19)], none⟩,
   ⟨some 21, .un .not (.t 20), none⟩])
   (.cond (.t 21)
    (.seq
    (.reg [⟨some 2, .mv (.c (.bool false)), none⟩])
    (.ret [2]))
    .skip))
   (.seq
   (.reg [⟨some 23, .bin .eql (.t 12) (.c (.int .i64 2)), none⟩,
   ⟨some 22, .mv (.t 23), none⟩])
   (.cond (.t 22)
    (.seq
    (.reg [⟨some 24, .faddr 1 (.t 1), none⟩,
    ⟨some 25, .load none (.t 24), none⟩,
    ⟨some 26, .lens (.t 25), none⟩,
    ⟨some 27, .bin .gtr (.t 26) (.c (.int .i64 100)), none⟩])
    (.cond (.t 27)
     (.seq
     (.reg [⟨some 2, .mv (.c (.bool false)), none⟩])
     (.ret [2]))
     .skip))
    (.seq
    (.reg [⟨some 13, .faddr 1 (.t 1), none⟩,
    ⟨some 14, .load none (.t 13), none⟩,
    ⟨some 15, .bin .neq (.t 14) (.c (.str [])), none⟩])
    (.cond (.t 15)
     (.seq
     (.reg [⟨some 2, .mv (.c (.bool false)), none⟩])
     (.ret [2]))
     .skip))))))))
 (.seq
 (.seq
 (.reg [⟨some 28, .faddr 0 (.t 1), none⟩,
 ⟨some 29, .load none (.t 28), none⟩,
 ⟨some 30, .bin .eql (.t 29) (.c (.int .i64 1)), none⟩,
 ⟨some 31, .mv (.t 30), none⟩,
 ⟨some 32, .faddr 2 (.t 1), some (31, true)⟩,
 ⟨some 33, .load none (.t 32), some (31, true)⟩,
 ⟨some 34, .call 28 .frz [(.t 33), (.c (.int .i64 0)), (.c (.int .i64 999999999))], some (31, true)⟩,
 ⟨some 35, .un .not (.t 34), some (31, true)⟩,
 ⟨some 36, .pick (.t 31) (.t 35) (.c (.bool false)), none⟩,
 ⟨some 37, .mv (.t 36), none⟩,
 ⟨some 38, .faddr 0 (.t 1), some (37, false)⟩,
 ⟨some 39, .load none (.t 38), some (37, false)⟩,
 ⟨some 40, .bin .neq (.t 39) (.c (.int .i64 1)), some (37, false)⟩,
 ⟨some 41, .mv (.t 40), some (37, false)⟩,
 ⟨some 42, .faddr 2 (.t 1), some (41, true)⟩,
 ⟨some 43, .load none (.t 42), some (41, true)⟩,
 ⟨some 44, .bin .neq (.t 43) (.c (.int .i64 0)), some (41, true)⟩,
 ⟨some 45, .pick (.t 41) (.t 44) (.c (.bool false)), some (37, false)⟩,
 ⟨some 46, .pick (.t 37) (.c (.bool true)) (.t 45), none⟩])
 (.cond (.t 46)
  (.seq
  (.reg [⟨some 2, .mv (.c (.bool false)), none⟩])
  (.ret [2]))
  .skip))
 (.seq
 (.seq
 (.reg [⟨some 3, .mv (.c (.int .i64 0)), none⟩])
 (.block 1 []
  f117L1))
 (.seq
 (.reg [⟨some 2, .mv (.c (.bool true)), none⟩])
 (.ret [2])))))))⟩
structure H117 (Γ : Tab) : Prop where
  e117 : Γ 117 = some (.code f117)
  c28 : H28 Γ
  c43 : H43 Γ
  c118 : H118 Γ
/- loop.example/g00751/spec.ExprOk -/
def f111 : DFn := ⟨1, false, [.t 2],
 (.seq
 (.reg [⟨some 1, .boxf (.t 0), none⟩,
 ⟨some 2, .mv (.c (.bool false)), none⟩])
 (.seq
 (.reg [⟨some 3, .load (some 4) (.t 1), none⟩,
 ⟨some 4, .call 116 .frz [(.t 3)], none⟩,
 ⟨some 5, .bin .leq (.t 4) (.c (.int .i64 40)), none⟩,
 ⟨some 6, .mv (.t 5), none⟩,
 ⟨some 7, .load (some 4) (.t 1), some (6, true)⟩,
 ⟨some 8, .call 117 .frz [(.t 7)], some (6, true)⟩,
 ⟨some 9, .pick (.t 6) (.t 8) (.c (.bool false)), none⟩,
 ⟨some 2, .mv (.t 9), none⟩])
 (.ret [2])))⟩
structure H111 (Γ : Tab) : Prop where
  e111 : Γ 111 = some (.code f111)
  c116 : H116 Γ
  c117 : H117 Γ
/- loop.example/g00751/spec.l08Exprs -/
def f89l1 : DCode :=
 (.seq
 (.seq
 (.reg [⟨some 8, .mv (.t 7), none⟩,
 ⟨some 9, .mv (.t 0), none⟩,
 ⟨some 10, .len (.t 9), none⟩,
 ⟨some 11, .bin .lss (.t 8) (.t 10), none⟩,
 ⟨some 12, .mv (.t 11), none⟩,
 ⟨some 13, .mv (.t 7), some (12, true)⟩,
 ⟨some 14, .mv (.t 2), some (12, true)⟩,
 ⟨some 15, .bin .leq (.t 13) (.t 14), some (12, true)⟩,
 ⟨some 16, .pick (.t 12) (.t 15) (.c (.bool false)), none⟩])
 (.cond (.t 16)
  .skip
  (.exit 0)))
 (.seq
 (.block 1 [0, 1, 2, 7]
  (.seq
  (.reg [⟨some 19, .mv (.t 0), none⟩,
  ⟨some 20, .mv (.t 7), none⟩,
  ⟨some 21, .iaddr 4 (.t 19) (.t 20), none⟩,
  ⟨some 22, .load (some 4) (.t 21), none⟩,
  ⟨some 23, .call 111 .frz [(.t 22)], none⟩,
  ⟨some 24, .un .not (.t 23), none⟩])
  (.cond (.t 24)
   (.seq
   (.reg [⟨some 6, .mv (.c (.bool false)), none⟩])
   (.ret [6]))
   .skip)))
 (.reg [⟨some 17, .mv (.t 7), none⟩,
 ⟨some 18, .bin .add (.t 17) (.c (.int .i64 1)), none⟩,
 ⟨some 7, .mv (.t 18), none⟩])))
def f89L1 : DCode := .loop [0, 1, 2, 7] none f89l1
def f89 : DFn := ⟨3, false, [.t 6],
 (.seq
 (.reg [⟨some 6, .mv (.c (.bool false)), none⟩])
 (.seq
 (.seq
 (.reg [⟨some 7, .mv (.c (.int .i64 0)), none⟩])
 (.block 0 [0, 1, 2]
  f89L1))
 (.seq
 (.reg [⟨some 25, .mv (.t 0), none⟩,
 ⟨some 26, .len (.t 25), none⟩,
 ⟨some 27, .mv (.t 1), none⟩,
 ⟨some 28, .mv (.t 2), none⟩,
 ⟨some 29, .call 28 .frz [(.t 26), (.t 27), (.t 28)], none⟩,
 ⟨some 6, .mv (.t 29), none⟩])
 (.ret [6]))))⟩
structure H89 (Γ : Tab) : Prop where
  e89 : Γ 89 = some (.code f89)
  c28 : H28 Γ
  c111 : H111 Γ
/- loop.example/g00751/spec.l08Col -/
def f87 : DFn := ⟨1, false, [.t 2],
 (.seq
 (.reg [⟨some 1, .boxf (.t 0), none⟩,
 ⟨some 2, .mv (.c (.bool false)), none⟩])
 (.seq
 (.reg [⟨some 3, .faddr 0 (.t 1), none⟩,
 ⟨some 4, .load none (.t 3), none⟩,
 ⟨some 5, .call 43 .frz [(.t 4)], none⟩,
 ⟨some 6, .mv (.t 5), none⟩,
 ⟨some 7, .faddr 1 (.t 1), some (6, true)⟩,
 ⟨some 8, .load (some 3) (.t 7), some (6, true)⟩,
 ⟨some 9, .call 21 .frz [(.t 8)], some (6, true)⟩,
 ⟨some 10, .pick (.t 6) (.t 9) (.c (.bool false)), none⟩,
 ⟨some 11, .mv (.t 10), none⟩,
 ⟨some 12, .faddr 5 (.t 1), some (11, true)⟩,
 ⟨some 13, .load none (.t 12), some (11, true)⟩,
 ⟨some 14, .call 89 .frz [(.t 13), (.c (.int .i64 0)), (.c (.int .i64 1))], some (11, true)⟩,
 ⟨some 15, .pick (.t 11) (.t 14) (.c (.bool false)), none⟩,
 ⟨some 2, .mv (.t 15), none⟩])
 (.ret [2])))⟩
structure H87 (Γ : Tab) : Prop where
  e87 : Γ 87 = some (.code f87)
  c21 : H21 Γ
  c43 : H43 Γ
  c89 : H89 Γ
/- loop.example/g00751/spec.l08Names -/
def f90l1 : DCode :=
 (.seq
 (.seq
 (.reg [⟨some 6, .mv (.t 5), none⟩,
 ⟨some 7, .mv (.t 0), none⟩,
 ⟨some 8, .len (.t 7), none⟩,
 ⟨some 9, .bin .lss (.t 6) (.t 8), none⟩,
 ⟨some 10, .mv (.t 9), none⟩,
 ⟨some 11, .mv (.t 5), some (10, true)⟩,
 ⟨some 12, .mv (.t 1), some (10, true)⟩,
 ⟨some 13, .bin .leq (.t 11) (.t 12), some (10, true)⟩,
 ⟨some 14, .pick (.t 10) (.t 13) (.c (.bool false)), none⟩])
 (.cond (.t 14)
  .skip
  (.exit 0)))
 (.seq
 (.block 1 [0, 1, 5]
  (.seq
  (.reg [⟨some 17, .mv (.t 0), none⟩,
  ⟨some 18, .mv (.t 5), none⟩,
  ⟨some 19, .iaddr 1 (.t 17) (.t 18), none⟩,
  ⟨some 20, .load none (.t 19), none⟩,
  ⟨some 21, .call 43 .frz [(.t 20)], none⟩,
  ⟨some 22, .un .not (.t 21), none⟩])
  (.cond (.t 22)
   (.seq
   (.reg [⟨some 4, .mv (.c (.bool false)), none⟩])
   (.ret [4]))
   .skip)))
 (.reg [⟨some 15, .mv (.t 5), none⟩,
 ⟨some 16, .bin .add (.t 15) (.c (.int .i64 1)), none⟩,
 ⟨some 5, .mv (.t 16), none⟩])))
def f90L1 : DCode := .loop [0, 1, 5] none f90l1
def f90 : DFn := ⟨2, false, [.t 4],
 (.seq
 (.reg [⟨some 4, .mv (.c (.bool false)), none⟩])
 (.seq
 (.seq
 (.reg [⟨some 5, .mv (.c (.int .i64 0)), none⟩])
 (.block 0 [0, 1]
  f90L1))
 (.seq
 (.reg [⟨some 23, .mv (.t 0), none⟩,
 ⟨some 24, .len (.t 23), none⟩,
 ⟨some 25, .mv (.t 1), none⟩,
 ⟨some 26, .call 28 .frz [(.t 24), (.c (.int .i64 1)), (.t 25)], none⟩,
 ⟨some 4, .mv (.t 26), none⟩])
 (.ret [4]))))⟩
structure H90 (Γ : Tab) : Prop where
  e90 : Γ 90 = some (.code f90)
  c28 : H28 Γ
  c43 : H43 Γ
/- loop.example/g00751/spec.l08Rule -/
def f88 : DFn := ⟨1, false, [.t 2],
 (.seq
 (.reg [⟨some 1, .boxf (.t 0), none⟩,
 ⟨some 2, .mv (.c (.bool false)), none⟩])
 (.seq
 (.seq
 (.reg [⟨some 3, .faddr 0 (.t 1), none⟩,
 ⟨some 4, .load none (.t 3), none⟩,
 ⟨some 5, .call 43 .frz [(.t 4)], none⟩,
 ⟨some 6, .un .not (.t 5), none⟩])
 (.cond (.t 6)
  (.seq
  (.reg [⟨some 2, .mv (.c (.bool false)), none⟩])
  (.ret [2]))
  .skip))
 (.seq
 (.seq
 (.reg [⟨some 7, .faddr 1 (.t 1), none⟩,
 ⟨some 8, .load none (.t 7), none⟩])
 (.block 0 []
  (.seq
  (.seq
  (.reg [⟨some 10, .bin .eql (.t 8) (.c (.int .i64 0)), none⟩,
  ⟨some 9, .mv (.t 10), none⟩])
  (.cond (.t 9)
   .skip
   (.reg [⟨some 11, .bin .eql (.t 8) (.c (.int .i64 1)), none⟩,
   ⟨some 9, .mv (.t 11), none⟩])))
  (.cond (.t 9)
   (.seq
   (.reg [⟨some 12, .faddr 2 (.t 1), none⟩,
   ⟨some 13, .load none (.t 12), none⟩,
   ⟨some 14, .call 90 .frz [(.t 13), (.c (.int .i64 4))], none⟩,
   ⟨some 15, .mv (.t 14), none⟩,
   ⟨some 16, .faddr 3 (.t 1), some (15, true)⟩,
   ⟨some 17, .load none (.t 16), some (15, true)⟩,
   ⟨some 18, .len (.t 17), some (15, true)⟩,
   ⟨some 19, .bin .eql (.t 18) (.c (.int .i64 0)), some (15, true)⟩,
   ⟨some 20, .pick (.t 15) (.t 19) (.c (.bool false)), none⟩,
   ⟨some 21, .mv (.t 20), none⟩,
   ⟨some 22, .faddr 4 (.t 1), some (21, true)⟩,
   ⟨some 23, .load none (.t 22), some (21, true)⟩,
   ⟨some 24, .bin .eql (.t 23) (.c (.str [])), some (21, true)⟩,
   ⟨some 25, .pick (.t 21) (.t 24) (.c (.bool false)), none⟩,
   ⟨some 26, .mv (.t 25), none⟩,
   ⟨some 27, .faddr 5 (.t 1), some (26, true)⟩,
   ⟨some 28, .load none (.t 27), some (26, true)⟩,
   ⟨some 29, .len (.t 28), some (26, true)⟩,
   ⟨some 30, .bin .eql (.t 29) (.c (.int .i64 0)), some (26, true)⟩,
   ⟨some 31, .pick (.t 26) (.t 30) (.c (.bool false)), none⟩,
   ⟨some 2, .mv (.t 31), none⟩])
   (.ret [2]))
   (.seq
   (.reg [⟨some 33, .bin .eql (.t 8) (.c (.int .i64 2)), none⟩,
   ⟨some 32, .mv (.t 33), none⟩])
   (.cond (.t 32)
    (.seq
    (.reg [⟨some 34, .faddr 2 (.t 1), none⟩,
    ⟨some 35, .load none (.t 34), none⟩,
    ⟨some 36, .len (.t 35), none⟩,
    ⟨some 37, .bin .eql (.t 36) (.c (.int .i64 0)), none⟩,
    ⟨some 38, .mv (.t 37), none⟩,
    ⟨some 39, .faddr 3 (.t 1), some (38, true)⟩,
    ⟨some 40, .load none (.t 39), some (38, true)⟩,
    ⟨some 41, .call 89 .frz [(.t 40), (.c (.int .i64 1)), (.c (.int .i64 1))], some (38, true)⟩,
    ⟨some 42, .pick (.t 38) (.t 41) (.c (.bool false)), none⟩,
    ⟨some 43, .mv (.t 42), none⟩,
    ⟨some 44, .faddr 4 (.t 1), some (43, true)⟩,
    ⟨some 45, .load none (.t 44), some (43, true)⟩,
    ⟨some 46, .bin .eql (.t 45) (.c (.str [])), some (43, true)⟩,
    ⟨some 47, .pick (.t 43) (.t 46) (.c (.bool false)), none⟩,
    ⟨some 48, .mv (.t 47), none⟩,
    ⟨some 49, .faddr 5 (.t 1), some (48, true)⟩,
    ⟨some 50, .load none (.t 49), some (48, true)⟩,
    ⟨some 51, .len (.t 50), some (48, true)⟩,
    ⟨some 52, .bin .eql (.t 51) (.c (.int .i64 0)), some (48, true)⟩,
    ⟨some 53, .pick (.t 48) (.t 52) (.c (.bool false)), none⟩,
    ⟨some 2, .mv (.t 53), none⟩])
    (.ret [2]))
    (.seq
    (.reg [⟨some 55, .bin .eql (.t 8) (.c (.int .i64 3)), none⟩,
    ⟨some 54, .mv (.t 55), none⟩])
    (.cond (.t 54)
     (.seq
     (.reg [⟨some 56, .faddr 2 (.t 1), none⟩,
     ⟨some 57, .load none (.t 56), none⟩,
     ⟨some 58, .call 90 .frz [(.t 57), (.c (.int .i64 4))], none⟩,
     ⟨some 59, .mv (.t 58), none⟩,
     ⟨some 60, .faddr 3 (.t 1), some (59, true)⟩,
     ⟨some 61, .load none (.t 60), some (59, true)⟩,
     ⟨some 62, .len (.t 61), some (59, true)⟩,
     ⟨some 63, .bin .eql (.t 62) (.c (.int .i64 0)), some (59, true)⟩,
     ⟨some 64, .pick (.t 59) (.t 63) (.c (.bool false)), none⟩,
     ⟨some 65, .mv (.t 64), none⟩,
     ⟨some 66, .faddr 4 (.t 1), some (65, true)⟩,
     ⟨some 67, .load none (.t 66), some (65, true)⟩,
     ⟨some 68, .call 43 .frz [(.t 67)], some (65, true)⟩,
     ⟨some 69, .pick (.t 65) (.t 68) (.c (.bool false)), none⟩,
     ⟨some 70, .mv (.t 69), none⟩,
     ⟨some 71, .faddr 5 (.t 1), some (70, true)⟩,
     ⟨some 72, .load none (.t 71), some (70, true)⟩,
     ⟨some 73, .call 90 .frz [(.t 72), (.c (.int .i64 4))], some (70, true)⟩,
     ⟨some 74, .pick (.t 70) (.t 73) (.c (.bool false)), none⟩,
     ⟨some 75, .mv (.t 74), none⟩,
     ⟨some 76, .faddr 5 (.t 1), some (75, true)⟩,
     ⟨some 77, .load none (.t 76), some (75, true)⟩,
     ⟨some 78, .len (.t 77), some (75, true)⟩,
     ⟨some 79, .faddr 2 (.t 1), some (75, true)⟩,
     ⟨some 80, .load none (.t 79), some (75, true)⟩,
     ⟨some 81, .len (.t 80), some (75, true)⟩,
     ⟨some 82, .bin .eql (.t 78) (.t 81), some (75, true)⟩,
     ⟨some 83, .pick (.t 75) (.t 82) (.c (.bool false)), none⟩,
     ⟨some 2, .mv (.t 83), none⟩])
     (.ret [2]))
     .skip))))))))
 (.seq
 (.reg [⟨some 2, .mv (.c (.bool false)), none⟩])
 (.ret [2])))))⟩
structure H88 (Γ : Tab) : Prop where
  e88 : Γ 88 = some (.code f88)
  c43 : H43 Γ
  c89 : H89 Γ
  c90 : H90 Γ
/- loop.example/g00751/spec.l08Parts -/
def f50l1 : DCode :=
 (.seq
 (.seq
 (.reg [⟨some 16, .mv (.t 6), none⟩,
 ⟨some 17, .faddr 9 (.t 1), none⟩,
 ⟨some 18, .load none (.t 17), none⟩,
 ⟨some 19, .len (.t 18), none⟩,
 ⟨some 20, .bin .lss (.t 16) (.t 19), none⟩,
 ⟨some 21, .mv (.t 20), none⟩,
 ⟨some 22, .mv (.t 6), some (21, true)⟩,
 ⟨some 23, .mv (.t 3), some (21, true)⟩,
 ⟨some 24, .bin .leq (.t 22) (.t 23), some (21, true)⟩,
 ⟨some 25, .pick (.t 21) (.t 24) (.c (.bool false)), none⟩])
 (.cond (.t 25)
  .skip
  (.exit 1)))
 (.seq
 (.block 2 [1, 3, 4, 5, 6]
  (.seq
  (.reg [⟨some 28, .faddr 9 (.t 1), none⟩,
  ⟨some 29, .load none (.t 28), none⟩,
  ⟨some 30, .mv (.t 6), none⟩,
  ⟨some 31, .iaddr 6 (.t 29) (.t 30), none⟩,
  ⟨some 32, .load (some 6) (.t 31), none⟩,
  ⟨some 33, .call 87 .frz [(.t 32)], none⟩,
  ⟨some 34, .un .not (.t 33), none⟩])
  (.cond (.t 34)
   (.seq
   (.reg [⟨some 2, .mv (.c (.bool false)), none⟩])
   (.ret [2]))
   .skip)))
 (.reg [⟨some 26, .mv (.t 6), none⟩,
 ⟨some 27, .bin .add (.t 26) (.c (.int .i64 1)), none⟩,
 ⟨some 6, .mv (.t 27), none⟩])))
def f50L1 : DCode := .loop [1, 3, 4, 5, 6] none f50l1
def f50l2 : DCode :=
 (.seq
 (.seq
 (.reg [⟨some 35, .mv (.t 7), none⟩,
 ⟨some 36, .faddr 10 (.t 1), none⟩,
 ⟨some 37, .load none (.t 36), none⟩,
 ⟨some 38, .len (.t 37), none⟩,
 ⟨some 39, .bin .lss (.t 35) (.t 38), none⟩,
 ⟨some 40, .mv (.t 39), none⟩,
 ⟨some 41, .mv (.t 7), some (40, true)⟩,
 ⟨some 42, .mv (.t 4), some (40, true)⟩,
 ⟨some 43, .bin .leq (.t 41) (.t 42), some (40, true)⟩,
 ⟨some 44, .pick (.t 40) (.t 43) (.c (.bool false)), none⟩])
 (.cond (.t 44)
  .skip
  (.exit 3)))
 (.seq
 (.block 4 [1, 3, 4, 5, 7]
  (.seq
  (.reg [⟨some 47, .faddr 10 (.t 1), none⟩,
  ⟨some 48, .load none (.t 47), none⟩,
  ⟨some 49, .mv (.t 7), none⟩,
  ⟨some 50, .iaddr 6 (.t 48) (.t 49), none⟩,
  ⟨some 51, .load (some 6) (.t 50), none⟩,
  ⟨some 52, .call 88 .frz [(.t 51)], none⟩,
  ⟨some 53, .un .not (.t 52), none⟩])
  (.cond (.t 53)
   (.seq
   (.reg [⟨some 2, .mv (.c (.bool false)), none⟩])
   (.ret [2]))
   .skip)))
 (.reg [⟨some 45, .mv (.t 7), none⟩,
 ⟨some 46, .bin .add (.t 45) (.c (.int .i64 1)), none⟩,
 ⟨some 7, .mv (.t 46), none⟩])))
def f50L2 : DCode := .loop [1, 3, 4, 5, 7] none f50l2
def f50 : DFn := ⟨1, false, [.t 2],
 (.seq
 (.reg [⟨some 1, .boxf (.t 0), none⟩,
 ⟨some 2, .mv (.c (.bool false)), none⟩])
 (.seq
 (.reg [⟨some 3, .mv (.c (.int .i64 0)), none⟩,
 ⟨some 4, .mv (.c (.int .i64 0)), none⟩,
 ⟨some 5, .mv (.c (.int .i64 0)), none⟩])
 (.seq
 (.seq
 (.reg [⟨some 8, .faddr 0 (.t 1), none⟩,
 ⟨some 9, .load none (.t 8), none⟩])
 (.block 0 [1, 3, 4, 5]
  (.seq
  (.reg [⟨some 11, .bin .eql (.t 9) (.c (.int .i64 4)), none⟩,
  ⟨some 10, .mv (.t 11), none⟩])
  (.cond (.t 10)
   (.reg [⟨some 3, .mv (.c (.int .i64 12)), none⟩,
   ⟨some 4, .mv (.c (.int .i64 8)), none⟩])
   (.seq
   (.reg [⟨some 13, .bin .eql (.t 9) (.c (.int .i64 6)), none⟩,
   ⟨some 12, .mv (.t 13), none⟩])
   (.cond (.t 12)
    (.reg [⟨some 3, .mv (.c (.int .i64 1)), none⟩,
    ⟨some 5, .mv (.c (.int .i64 1)), none⟩])
    (.seq
    (.reg [⟨some 15, .bin .eql (.t 9) (.c (.int .i64 11)), none⟩,
    ⟨some 14, .mv (.t 15), none⟩])
    (.cond (.t 14)
     (.reg [⟨some 4, .mv (.c (.int .i64 1)), none⟩,
     ⟨some 5, .mv (.c (.int .i64 1)), none⟩])
     .skip))))))))
 (.seq
 (.seq
 (.reg [⟨some 6, .mv (.c (.int .i64 0)), none⟩])
 (.block 1 [1, 3, 4, 5]
  f50L1))
 (.seq
 (.seq
 (.reg [⟨some 7, .mv (.c (.int .i64 0)), none⟩])
 (.block 3 [1, 3, 4, 5]
  f50L2))
 (.seq
 (.reg [⟨some 54, .faddr 9 (.t 1), none⟩,
 ⟨some 55, .load none (.t 54), none⟩,
 ⟨some 56, .len (.t 55), none⟩,
 ⟨some 57, .mv (.t 3), none⟩,
 ⟨some 58, .bin .leq (.t 56) (.t 57), none⟩,
 ⟨some 59, .mv (.t 58), none⟩,
 ⟨some 60, .faddr 10 (.t 1), some (59, true)⟩,
 ⟨some 61, .load none (.t 60), some (59, true)⟩,
 ⟨some 62, .len (.t 61), some (59, true)⟩,
 ⟨some 63, .mv (.t 4), some (59, true)⟩,
 ⟨some 64, .bin .leq (.t 62) (.t 63), some (59, true)⟩,
 ⟨some 65, .pick (.t 59) (.t 64) (.c (.bool false)), none⟩,
 ⟨some 66, .mv (.t 65), none⟩,
 ⟨some 67, .faddr 9 (.t 1), some (66, true)⟩,
 ⟨some 68, .load none (.t 67), some (66, true)⟩,
 ⟨some 69, .len (.t 68), some (66, true)⟩,
 ⟨some 70, .faddr 10 (.t 1), some (66, true)⟩,
 ⟨some 71, .load none (.t 70), some (66, true)⟩,
 ⟨some 72, .len (.t 71), some (66, true)⟩,
 ⟨some 73, .bin .add (.t 69) (.t 72), some (66, true)⟩,
 ⟨some 74, .mv (.t 5), some (66, true)⟩,
 ⟨some 75, .bin .geq (.t 73) (.t 74), some (66, true)⟩,
 ⟨some 76, .pick (.t 66) (.t 75) (.c (.bool false)), none⟩,
 ⟨some 2, .mv (.t 76), none⟩])
 (.ret [2])))))))⟩
structure H50 (Γ : Tab) : Prop where
  e50 : Γ 50 = some (.code f50)
  c87 : H87 Γ
  c88 : H88 Γ
/- loop.example/g00751/spec.l08Rest -/
def f51l1 : DCode :=
 (.seq
 (.seq
 (.reg [⟨some 33, .mv (.t 9), none⟩,
 ⟨some 34, .faddr 3 (.t 1), none⟩,
 ⟨some 35, .load none (.t 34), none⟩,
 ⟨some 36, .len (.t 35), none⟩,
 ⟨some 37, .bin .lss (.t 33) (.t 36), none⟩,
 ⟨some 38, .mv (.t 37), none⟩,
 ⟨some 39, .mv (.t 6), some (38, true)⟩,
 ⟨some 40, .pick (.t 38) (.t 39) (.c (.bool false)), none⟩])
 (.cond (.t 40)
  .skip
  (.exit 1)))
 (.seq
 (.block 2 [1, 3, 4, 5, 6, 7, 8, 9]
  (.reg [⟨some 43, .faddr 3 (.t 1), none⟩,
  ⟨some 44, .load none (.t 43), none⟩,
  ⟨some 45, .mv (.t 9), none⟩,
  ⟨some 46, .iaddr 1 (.t 44) (.t 45), none⟩,
  ⟨some 47, .load none (.t 46), none⟩,
  ⟨some 48, .call 82 .frz [(.t 47)], none⟩,
  ⟨some 6, .mv (.t 48), none⟩]))
 (.reg [⟨some 41, .mv (.t 9), none⟩,
 ⟨some 42, .bin .add (.t 41) (.c (.int .i64 1)), none⟩,
 ⟨some 9, .mv (.t 42), none⟩])))
def f51L1 : DCode := .loop [1, 3, 4, 5, 6, 7, 8, 9] none f51l1
def f51 : DFn := ⟨1, false, [.t 2],
 (.seq
 (.reg [⟨some 1, .boxf (.t 0), none⟩,
 ⟨some 2, .mv (.c (.bool false)), none⟩])
 (.seq
 (.reg [⟨some 3, .mv (.c (.int .i64 0)), none⟩,
 ⟨some 4, .mv (.c (.int .i64 0)), none⟩])
 (.seq
 (.reg [⟨some 11, .faddr 2 (.t 1), none⟩,
 ⟨some 12, .load none (.t 11), none⟩,
 ⟨some 13, .bin .eql (.t 12) (.c (.str [])), none⟩,
 ⟨some 5, .mv (.t 13), none⟩])
 (.seq
 (.reg [⟨some 14, .faddr 3 (.t 1), none⟩,
 ⟨some 15, .load none (.t 14), none⟩,
 ⟨some 16, .len (.t 15), none⟩,
 ⟨some 17, .bin .eql (.t 16) (.c (.int .i64 0)), none⟩,
 ⟨some 6, .mv (.t 17), none⟩])
 (.seq
 (.reg [⟨some 18, .faddr 5 (.t 1), none⟩,
 ⟨some 19, .load none (.t 18), none⟩,
 ⟨some 20, .un .not (.t 19), none⟩,
 ⟨some 7, .mv (.t 20), none⟩])
 (.seq
 (.reg [⟨some 21, .faddr 6 (.t 1), none⟩,
 ⟨some 22, .load (some 3) (.t 21), none⟩,
 ⟨some 23, .build [.int .i64 0, .int .i64 0, .str []] [], none⟩,
 ⟨some 24, .eqs false [.i, .i, .s] (.t 22) (.t 23), none⟩,
 ⟨some 8, .mv (.t 24), none⟩])
 (.seq
 (.seq
 (.reg [⟨some 25, .faddr 0 (.t 1), none⟩,
 ⟨some 26, .load none (.t 25), none⟩])
 (.block 0 [1, 3, 4, 5, 6, 7, 8]
  (.seq
  (.reg [⟨some 28, .bin .eql (.t 26) (.c (.int .i64 0)), none⟩,
  ⟨some 27, .mv (.t 28), none⟩])
  (.cond (.t 27)
   (.seq
   (.reg [⟨some 29, .faddr 3 (.t 1), none⟩,
   ⟨some 30, .load none (.t 29), none⟩,
   ⟨some 31, .len (.t 30), none⟩,
   ⟨some 32, .call 28 .frz [(.t 31), (.c (.int .i64 1)), (.c (.int .i64 12))], none⟩,
   ⟨some 6, .mv (.t 32), none⟩])
   (.seq
   (.reg [⟨some 9, .mv (.c (.int .i64 0)), none⟩])
   (.block 1 [1, 3, 4, 5, 6, 7, 8]
    f51L1)))
   (.seq
   (.seq
   (.reg [⟨some 50, .bin .eql (.t 26) (.c (.int .i64 7)), none⟩,
   ⟨some 49, .mv (.t 50), none⟩])
   (.cond (.t 49)
    .skip
    (.reg [⟨some 51, .bin .eql (.t 26) (.c (.int .i64 12)), none⟩,
    ⟨some 49, .mv (.t 51), none⟩])))
   (.cond (.t 49)
    (.reg [⟨some 52, .faddr 2 (.t 1), none⟩,
    ⟨some 53, .load none (.t 52), none⟩,
    ⟨some 54, .call 43 .frz [(.t 53)], none⟩,
    ⟨some 5, .mv (.t 54), none⟩])
    (.seq
    (.reg [⟨some 56, .bin .eql (.t 26) (.c (.int .i64 8)), none⟩,
    ⟨some 55, .mv (.t 56), none⟩])
    (.cond (.t 55)
     (.seq
     (.reg [⟨some 57, .faddr 2 (.t 1), none⟩,
     ⟨some 58, .load none (.t 57), none⟩,
     ⟨some 59, .call 43 .frz [(.t 58)], none⟩,
     ⟨some 5, .mv (.t 59), none⟩])
     (.reg [⟨some 60, .faddr 6 (.t 1), none⟩,
     ⟨some 61, .load (some 3) (.t 60), none⟩,
     ⟨some 62, .call 21 .frz [(.t 61)], none⟩,
     ⟨some 8, .mv (.t 62), none⟩]))
     (.seq
     (.reg [⟨some 64, .bin .eql (.t 26) (.c (.int .i64 9)), none⟩,
     ⟨some 63, .mv (.t 64), none⟩])
     (.cond (.t 63)
      (.seq
      (.reg [⟨some 65, .faddr 2 (.t 1), none⟩,
      ⟨some 66, .load none (.t 65), none⟩,
      ⟨some 67, .call 43 .frz [(.t 66)], none⟩,
      ⟨some 5, .mv (.t 67), none⟩])
      (.reg [⟨some 7, .mv (.c (.bool true)), none⟩]))
      (.seq
      (.reg [⟨some 69, .bin .eql (.t 26) (.c (.int .i64 10)), none⟩,
      ⟨some 68, .mv (.t 69), none⟩])
      (.cond (.t 68)
       (.seq
       (.reg [⟨some 70, .faddr 2 (.t 1), none⟩,
       ⟨some 71, .load none (.t 70), none⟩,
       ⟨some 72, .call 43 .frz [(.t 71)], none⟩,
       ⟨some 5, .mv (.t 72), none⟩])
       (.reg [⟨some 4, .mv (.c (.int .i64 1)), none⟩]))
       (.seq
       (.reg [⟨some 74, .bin .eql (.t 26) (.c (.int .i64 13)), none⟩,
       ⟨some 73, .mv (.t 74), none⟩])
       (.cond (.t 73)
        (.seq
        (.reg [⟨some 75, .faddr 2 (.t 1), none⟩,
        ⟨some 76, .load none (.t 75), none⟩,
        ⟨some 77, .call 43 .frz [(.t 76)], none⟩,
        ⟨some 5, .mv (.t 77), none⟩])
        (.seq
        (.reg [⟨some 7, .mv (.c (.bool true)), none⟩])
        (.reg [⟨some 78, .faddr 3 (.t 1), none⟩,
        ⟨some 79, .load none (.t 78), none⟩,
        ⟨some 80, .call 90 .frz [(.t 79), (.c (.int .i64 12))], none⟩,
        ⟨some 6, .mv (.t 80), none⟩])))
        (.seq
        (.reg [⟨some 82, .bin .eql (.t 26) (.c (.int .i64 15)), none⟩,
        ⟨some 81, .mv (.t 82), none⟩])
        (.cond (.t 81)
         (.seq
         (.reg [⟨some 83, .faddr 2 (.t 1), none⟩,
         ⟨some 84, .load none (.t 83), none⟩,
         ⟨some 85, .call 43 .frz [(.t 84)], none⟩,
         ⟨some 5, .mv (.t 85), none⟩])
         (.seq
         (.reg [⟨some 4, .mv (.c (.int .i64 1)), none⟩])
         (.reg [⟨some 86, .faddr 3 (.t 1), none⟩,
         ⟨some 87, .load none (.t 86), none⟩,
         ⟨some 88, .call 90 .frz [(.t 87), (.c (.int .i64 12))], none⟩,
         ⟨some 6, .mv (.t 88), none⟩])))
         .skip))))))))))))))))
 (.seq
 (.reg [⟨some 89, .faddr 4 (.t 1), none⟩,
 ⟨some 90, .load none (.t 89), none⟩,
 ⟨some 91, .bin .eql (.t 90) (.c (.int .i64 0)), none⟩,
 ⟨some 92, .mv (.t 91), none⟩,
 ⟨some 93, .faddr 0 (.t 1), some (92, false)⟩,
 ⟨some 94, .load none (.t 93), some (92, false)⟩,
 ⟨some 95, .bin .eql (.t 94) (.c (.int .i64 2)), some (92, false)⟩,
 ⟨some 96, .mv (.t 95), some (92, false)⟩,
 ⟨some 97, .faddr 4 (.t 1), some (96, true)⟩,
 ⟨some 98, .load none (.t 97), some (96, true)⟩,
 ⟨some 99, .call 28 .frz [(.t 98), (.c (.int .i64 0)), (.c (.int .i64 999999999))], some (96, true)⟩,
 ⟨some 100, .pick (.t 96) (.t 99) (.c (.bool false)), some (92, false)⟩,
 ⟨some 101, .pick (.t 92) (.c (.bool true)) (.t 100), none⟩,
 ⟨some 10, .mv (.t 101), none⟩])
 (.seq
 (.reg [⟨some 102, .mv (.t 5), none⟩,
 ⟨some 103, .mv (.t 102), none⟩,
 ⟨some 104, .mv (.t 6), some (103, true)⟩,
 ⟨some 105, .pick (.t 103) (.t 104) (.c (.bool false)), none⟩,
 ⟨some 106, .mv (.t 105), none⟩,
 ⟨some 107, .mv (.t 7), some (106, true)⟩,
 ⟨some 108, .pick (.t 106) (.t 107) (.c (.bool false)), none⟩,
 ⟨some 109, .mv (.t 108), none⟩,
 ⟨some 110, .mv (.t 8), some (109, true)⟩,
 ⟨some 111, .pick (.t 109) (.t 110) (.c (.bool false)), none⟩,
 ⟨some 112, .mv (.t 111), none⟩,
 ⟨some 113, .mv (.t 10), some (112, true)⟩,
 ⟨some 114, .pick (.t 112) (.t 113) (.c (.bool false)), none⟩,
 ⟨some 115, .mv (.t 114), none⟩,
 ⟨some 116, .faddr 11 (.t 1), some (115, true)⟩,
 ⟨some 117, .load none (.t 116), some (115, true)⟩,
 ⟨some 118, .mv (.t 3), some (115, true)⟩,
 ⟨some 119, .mv (.t 4), some (115, true)⟩,
 ⟨some 120, .call 89 .frz [(.t 117), (.t 118), (.t 119)], some (115, true)⟩,
 ⟨some 121, .pick (.t 115) (.t 120) (.c (.bool false)), none⟩,
 ⟨some 2, .mv (.t 121), none⟩])
 (.ret [2]))))))))))⟩
structure H51 (Γ : Tab) : Prop where
  e51 : Γ 51 = some (.code f51)
  c21 : H21 Γ
  c28 : H28 Γ
  c43 : H43 Γ
  c82 : H82 Γ
  c89 : H89 Γ
  c90 : H90 Γ
/- loop.example/g00751/spec.StmtOk -/
def f27 : DFn := ⟨1, false, [.t 2],
 (.seq
 (.reg [⟨some 1, .boxf (.t 0), none⟩,
 ⟨some 2, .mv (.c (.bool false)), none⟩])
 (.seq
 (.reg [⟨some 3, .faddr 0 (.t 1), none⟩,
 ⟨some 4, .load none (.t 3), none⟩,
 ⟨some 5, .call 28 .frz [(.t 4), (.c (.int .i64 0)), (.c (.int .i64 16))], none⟩,
 ⟨some 6, .mv (.t 5), none⟩,
 ⟨some 7, .faddr 1 (.t 1), some (6, true)⟩,
 ⟨some 8, .load none (.t 7), some (6, true)⟩,
 ⟨some 9, .call 43 .frz [(.t 8)], some (6, true)⟩,
 ⟨some 10, .pick (.t 6) (.t 9) (.c (.bool false)), none⟩,
 ⟨some 11, .mv (.t 10), none⟩,
 ⟨some 12, .load (some 12) (.t 1), some (11, true)⟩,
 ⟨some 13, .call 50 .frz [(.t 12)], some (11, true)⟩,
 ⟨some 14, .pick (.t 11) (.t 13) (.c (.bool false)), none⟩,
 ⟨some 15, .mv (.t 14), none⟩,
 ⟨some 16, .load (some 12) (.t 1), some (15, true)⟩,
 ⟨some 17, .call 51 .frz [(.t 16)], some (15, true)⟩,
 ⟨some 18, .pick (.t 15) (.t 17) (.c (.bool false)), none⟩,
 ⟨some 2, .mv (.t 18), none⟩])
 (.ret [2])))⟩
structure H27 (Γ : Tab) : Prop where
  e27 : Γ 27 = some (.code f27)
  c28 : H28 Γ
  c43 : H43 Γ
  c50 : H50 Γ
  c51 : H51 Γ
/- loop.example/g00751/laws.FnExactStmtOk -/
def f22 : DFn := ⟨1, false, [.t 2],
 (.seq
 (.reg [⟨some 1, .boxf (.t 0), none⟩,
 ⟨some 2, .mv (.c (.bool false)), none⟩])
 (.seq
 (.reg [⟨some 3, .mv (.c (.int .i64 1048576)), none⟩])
 (.seq
 (.reg [⟨some 7, .load (some 12) (.t 1), none⟩,
 ⟨some 8, .mv (.t 3), none⟩,
 ⟨some 9, .call 25 .frz [(.t 7), (.t 8)], none⟩,
 ⟨some 3, .mv (.t 9), none⟩])
 (.seq
 (.seq
 (.reg [⟨some 10, .mv (.t 3), none⟩,
 ⟨some 11, .bin .lss (.t 10) (.c (.int .i64 0)), none⟩])
 (.cond (.t 11)
  (.seq
  (.reg [⟨some 2, .mv (.c (.bool true)), none⟩])
  (.ret [2]))
  .skip))
 (.seq
 (.reg [⟨some 12, .load (some 12) (.t 1), none⟩,
 ⟨some 13, .call 26 .frz [(.t 12)], none⟩,
 ⟨some 14, .call 27 .frz [(.t 13)], none⟩,
 ⟨some 4, .mv (.t 14), none⟩])
 (.seq
 (.reg [⟨some 15, .load (some 12) (.t 1), none⟩,
 ⟨some 16, .call 26 .frz [(.t 15)], none⟩,
 ⟨some 5, .pend [.int .i64 0, .str [], .str [], .nils, .int .i64 0, .bool false, .int .i64 0, .int .i64 0, .str [], .nils, .nils, .nils], none⟩,
 ⟨none, .init 12 5 (.t 16), none⟩])
 (.seq
 (.reg [⟨some 17, .load (some 12) (.t 5), none⟩,
 ⟨some 18, .call 23 .frz [(.t 17)], none⟩,
 ⟨some 6, .mv (.t 18), none⟩])
 (.seq
 (.seq
 (.reg [⟨some 19, .mv (.t 6), none⟩,
 ⟨some 20, .mv (.t 4), none⟩,
 ⟨some 21, .binb .neq (.t 19) (.t 20), none⟩])
 (.cond (.t 21)
  (.seq
  (.reg [⟨some 2, .mv (.c (.bool false)), none⟩])
  (.ret [2]))
  .skip))
 (.seq
 (.seq
 (.any [false, false, false, false, false] [(1, ⟨some 22, .load (some 12) (.t 5), none⟩),
 (1, ⟨some 23, .load (some 12) (.t 1), none⟩),
 (1, ⟨some 24, .call 26 .frz [(.t 23)], none⟩),
 (1, ⟨some 25, .call 24 .frz [(.t 22), (.t 24)], none⟩),
 (1, ⟨some 26, .un .not (.t 25), none⟩)]
 [])
 (.cond (.t 26)
  (.seq
  (.reg [⟨some 2, .mv (.c (.bool false)), none⟩])
  (.ret [2]))
  .skip))
 (.seq
 (.reg [⟨some 2, .mv (.c (.bool true)), none⟩])
 (.ret [2])))))))))))⟩
structure H22 (Γ : Tab) : Prop where
  e22 : Γ 22 = some (.code f22)
  c23 : H23 Γ
  c24 : H24 Γ
  c25 : H25 Γ
  c26 : H26 Γ
  c27 : H27 Γ
end Go.DM
