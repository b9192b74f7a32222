/- The machine's code of the program's functions (printed by a program out of the elaborated ones), and what a table has to hold of them. -/
import Derived.Test.YtimekmohoobndaaLim
set_option linter.unusedVariables false
namespace Go.DM
open Go
/- loop.example/g00751/impl.Crc -/
def f2l1 : DCode :=
      (.seq
      (.reg [⟨some 18, .bin .lss (.t 17) (.c (.int .i64 8)), none⟩])
      (.seq
      (.cond (.t 18)
       .skip
       (.exit 2))
      (.seq
      (.block 3
       (.seq
       (.reg [⟨some 19, .mv (.t 3), none⟩,
       ⟨some 20, .bin .and (.t 19) (.c (.int .u32 1)), none⟩,
       ⟨some 5, .mv (.t 20), none⟩])
       (.seq
       (.reg [⟨some 21, .mv (.t 3), none⟩,
       ⟨some 22, .bin .shr (.t 21) (.c (.int .u64 1)), none⟩,
       ⟨some 3, .mv (.t 22), none⟩])
       (.seq
       (.reg [⟨some 23, .mv (.t 5), none⟩,
       ⟨some 24, .bin .eql (.t 23) (.c (.int .u32 1)), none⟩])
       (.cond (.t 24)
        (.reg [⟨some 25, .mv (.t 3), none⟩,
        ⟨some 26, .bin .xor (.t 25) (.c (.int .u32 3988292384)), none⟩,
        ⟨some 3, .mv (.t 26), none⟩])
        .skip)))))
      (.reg [⟨some 27, .bin .add (.t 17) (.c (.int .i64 1)), none⟩,
      ⟨some 17, .mv (.t 27), none⟩]))))
def f2l2 : DCode :=
   (.seq
   (.reg [⟨some 9, .bin .lss (.t 8) (.t 7), none⟩])
   (.seq
   (.cond (.t 9)
    .skip
    (.exit 0))
   (.seq
   (.block 1
    (.seq
    (.reg [⟨some 10, .mv (.t 8), none⟩,
    ⟨some 4, .mv (.t 10), none⟩])
    (.seq
    (.reg [⟨some 11, .mv (.t 3), none⟩,
    ⟨some 12, .mv (.t 0), none⟩,
    ⟨some 13, .mv (.t 4), none⟩,
    ⟨some 14, .sidx (.t 12) (.t 13), none⟩,
    ⟨some 15, .conv .u32 (.t 14), none⟩,
    ⟨some 16, .bin .xor (.t 11) (.t 15), none⟩,
    ⟨some 3, .mv (.t 16), none⟩])
    (.seq
    (.reg [⟨some 17, .mv (.c (.int .i64 0)), none⟩])
    (.block 2
     (.loop [0, 7, 8, 17, 3] f2l1))))))
   (.reg [⟨some 28, .bin .add (.t 8) (.c (.int .i64 1)), none⟩,
   ⟨some 8, .mv (.t 28), none⟩]))))
def f2 : DFn := ⟨1, false, [.t 2],
 (.seq
 (.reg [⟨some 2, .mv (.c (.int .i64 0)), none⟩])
 (.seq
 (.reg [⟨some 3, .mv (.c (.int .u32 4294967295)), none⟩])
 (.seq
 (.seq
 (.reg [⟨some 6, .mv (.t 0), none⟩,
 ⟨some 7, .lens (.t 6), none⟩,
 ⟨some 8, .mv (.c (.int .i64 0)), none⟩])
 (.block 0
  (.loop [0, 7, 8, 3] f2l2)))
 (.seq
 (.reg [⟨some 29, .mv (.t 3), none⟩,
 ⟨some 30, .un .xor (.t 29), none⟩,
 ⟨some 31, .conv .i64 (.t 30), none⟩,
 ⟨some 2, .mv (.t 31), none⟩])
 .ret))))⟩
structure H2 (Γ : Tab) : Prop where
  e2 : Γ 2 = some (.code f2)
/- loop.example/g00751/spec.Crc -/
def f3l1 : DCode :=
      (.seq
      (.seq
      (.reg [⟨some 18, .mv (.t 5), none⟩,
      ⟨some 19, .bin .lss (.t 18) (.c (.int .i64 8)), none⟩])
      (.cond (.t 19)
       .skip
       (.exit 2)))
      (.seq
      (.block 3
       (.seq
       (.reg [⟨some 22, .mv (.t 3), none⟩,
       ⟨some 23, .bin .and (.t 22) (.c (.int .u32 1)), none⟩,
       ⟨some 24, .bin .eql (.t 23) (.c (.int .u32 1)), none⟩])
       (.cond (.t 24)
        (.reg [⟨some 25, .mv (.t 3), none⟩,
        ⟨some 26, .bin .shr (.t 25) (.c (.int .u64 1)), none⟩,
        ⟨some 27, .bin .xor (.t 26) (.c (.int .u32 3988292384)), none⟩,
        ⟨some 3, .mv (.t 27), none⟩])
        (.reg [⟨some 28, .mv (.t 3), none⟩,
        ⟨some 29, .bin .shr (.t 28) (.c (.int .u64 1)), none⟩,
        ⟨some 3, .mv (.t 29), none⟩]))))
      (.reg [⟨some 20, .mv (.t 5), none⟩,
      ⟨some 21, .bin .add (.t 20) (.c (.int .i64 1)), none⟩,
      ⟨some 5, .mv (.t 21), none⟩])))
def f3l2 : DCode :=
   (.seq
   (.seq
   (.reg [⟨some 6, .mv (.t 4), none⟩,
   ⟨some 7, .mv (.t 0), none⟩,
   ⟨some 8, .lens (.t 7), none⟩,
   ⟨some 9, .bin .lss (.t 6) (.t 8), none⟩])
   (.cond (.t 9)
    .skip
    (.exit 0)))
   (.seq
   (.block 1
    (.seq
    (.reg [⟨some 12, .mv (.t 3), none⟩,
    ⟨some 13, .mv (.t 0), none⟩,
    ⟨some 14, .mv (.t 4), none⟩,
    ⟨some 15, .sidx (.t 13) (.t 14), none⟩,
    ⟨some 16, .conv .u32 (.t 15), none⟩,
    ⟨some 17, .bin .xor (.t 12) (.t 16), none⟩,
    ⟨some 3, .mv (.t 17), none⟩])
    (.seq
    (.reg [⟨some 5, .mv (.c (.int .i64 0)), none⟩])
    (.block 2
     (.loop [0, 4, 5, 3] f3l1)))))
   (.reg [⟨some 10, .mv (.t 4), none⟩,
   ⟨some 11, .bin .add (.t 10) (.c (.int .i64 1)), none⟩,
   ⟨some 4, .mv (.t 11), none⟩])))
def f3 : DFn := ⟨1, false, [.t 2],
 (.seq
 (.reg [⟨some 2, .mv (.c (.int .i64 0)), none⟩])
 (.seq
 (.reg [⟨some 3, .mv (.c (.int .u32 4294967295)), none⟩])
 (.seq
 (.seq
 (.reg [⟨some 4, .mv (.c (.int .i64 0)), none⟩])
 (.block 0
  (.loop [0, 4, 3] f3l2)))
 (.seq
 (.reg [⟨some 30, .mv (.t 3), none⟩,
 ⟨some 31, .un .xor (.t 30), none⟩,
 ⟨some 32, .conv .i64 (.t 31), none⟩,
 ⟨some 2, .mv (.t 32), none⟩])
 .ret))))⟩
structure H3 (Γ : Tab) : Prop where
  e3 : Γ 3 = some (.code f3)
/- loop.example/g00751/laws.FnExactCrc -/
def f1 : DFn := ⟨1, false, [.t 2],
 (.seq
 (.reg [⟨some 2, .mv (.c (.bool false)), none⟩])
 (.seq
 (.seq
 (.reg [⟨some 5, .mv (.t 0), none⟩,
 ⟨some 6, .lens (.t 5), none⟩,
 ⟨some 7, .bin .gtr (.t 6) (.c (.int .i64 1048576)), none⟩])
 (.cond (.t 7)
  (.seq
  (.reg [⟨some 2, .mv (.c (.bool true)), none⟩])
  .ret)
  .skip))
 (.seq
 (.reg [⟨some 8, .mv (.t 0), none⟩,
 ⟨some 9, .call 3 false [(.t 8)], none⟩,
 ⟨some 3, .mv (.t 9), none⟩])
 (.seq
 (.reg [⟨some 10, .mv (.t 0), none⟩,
 ⟨some 11, .call 2 false [(.t 10)], none⟩,
 ⟨some 4, .mv (.t 11), none⟩])
 (.seq
 (.seq
 (.reg [⟨some 12, .mv (.t 4), none⟩,
 ⟨some 13, .mv (.t 3), none⟩,
 ⟨some 14, .bin .neq (.t 12) (.t 13), none⟩])
 (.cond (.t 14)
  (.seq
  (.reg [⟨some 2, .mv (.c (.bool false)), none⟩])
  .ret)
  .skip))
 (.seq
 (.reg [⟨some 2, .mv (.c (.bool true)), none⟩])
 .ret))))))⟩
structure H1 (Γ : Tab) : Prop where
  e1 : Γ 1 = some (.code f1)
  c2 : H2 Γ
  c3 : H3 Γ
/- loop.example/g00751/impl.within -/
def f29 : DFn := ⟨3, false, [.t 6],
 (.seq
 (.reg [⟨some 6, .mv (.c (.bool false)), none⟩])
 (.seq
 (.reg [⟨some 7, .mv (.t 0), none⟩,
 ⟨some 8, .mv (.t 1), none⟩,
 ⟨some 9, .bin .geq (.t 7) (.t 8), none⟩,
 ⟨some 10, .mv (.t 9), none⟩,
 ⟨some 11, .mv (.t 0), some (10, true)⟩,
 ⟨some 12, .mv (.t 2), some (10, true)⟩,
 ⟨some 13, .bin .leq (.t 11) (.t 12), some (10, true)⟩,
 ⟨some 14, .pick (.t 10) (.t 13) (.c (.bool false)), none⟩,
 ⟨some 6, .mv (.t 14), none⟩])
 .ret))⟩
structure H29 (Γ : Tab) : Prop where
  e29 : Γ 29 = some (.code f29)
/- loop.example/g00751/impl.ValueOk -/
def f5 : DFn := ⟨1, false, [.t 2],
 (.seq
 (.reg [⟨some 1, .box (.t 0), none⟩,
 ⟨some 2, .mv (.c (.bool false)), none⟩])
 (.seq
 (.seq
 (.reg [⟨some 3, .faddr 0 (.t 1), none⟩,
 ⟨some 4, .load none (.t 3), none⟩])
 (.block 0
  (.seq
  (.reg [⟨some 6, .bin .eql (.t 4) (.c (.int .i64 0)), none⟩,
  ⟨some 5, .mv (.t 6), none⟩])
  (.cond (.t 5)
   (.seq
   (.reg [⟨some 7, .faddr 1 (.t 1), none⟩,
   ⟨some 8, .load none (.t 7), none⟩,
   ⟨some 9, .bin .eql (.t 8) (.c (.int .i64 0)), none⟩,
   ⟨some 10, .mv (.t 9), none⟩,
   ⟨some 11, .faddr 2 (.t 1), some (10, true)⟩,
   ⟨some 12, .load none (.t 11), some (10, true)⟩,
   ⟨some 13, .bin .eql (.t 12) (.c (.str [])), some (10, true)⟩,
   ⟨some 14, .pick (.t 10) (.t 13) (.c (.bool false)), none⟩,
   ⟨some 2, .mv (.t 14), none⟩])
   .ret)
   (.seq
   (.reg [⟨some 16, .bin .eql (.t 4) (.c (.int .i64 1)), none⟩,
   ⟨some 15, .mv (.t 16), none⟩])
   (.cond (.t 15)
    (.seq
    (.reg [⟨some 17, .faddr 1 (.t 1), none⟩,
    ⟨some 18, .load none (.t 17), none⟩,
    ⟨some 19, .call 29 false [(.t 18), (.c (.int .i64 (-999999999999))), (.c (.int .i64 999999999999))], none⟩,
    ⟨some 20, .mv (.t 19), none⟩,
    ⟨some 21, .faddr 2 (.t 1), some (20, true)⟩,
    ⟨some 22, .load none (.t 21), some (20, true)⟩,
    ⟨some 23, .bin .eql (.t 22) (.c (.str [])), some (20, true)⟩,
    ⟨some 24, .pick (.t 20) (.t 23) (.c (.bool false)), none⟩,
    ⟨some 2, .mv (.t 24), none⟩])
    .ret)
    (.seq
    (.reg [⟨some 26, .bin .eql (.t 4) (.c (.int .i64 2)), none⟩,
    ⟨some 25, .mv (.t 26), none⟩])
    (.cond (.t 25)
     (.seq
     (.reg [⟨some 27, .faddr 1 (.t 1), none⟩,
     ⟨some 28, .load none (.t 27), none⟩,
     ⟨some 29, .bin .eql (.t 28) (.c (.int .i64 0)), none⟩,
     ⟨some 30, .mv (.t 29), none⟩,
     ⟨some 31, .faddr 2 (.t 1), some (30, true)⟩,
     ⟨some 32, .load none (.t 31), some (30, true)⟩,
     ⟨some 33, .lens (.t 32), some (30, true)⟩,
     ⟨some 34, .bin .leq (.t 33) (.c (.int .i64 100)), some (30, true)⟩,
     ⟨some 35, .pick (.t 30) (.t 34) (.c (.bool false)), none⟩,
     ⟨some 2, .mv (.t 35), none⟩])
     .ret)
     (.seq
     (.reg [⟨some 37, .bin .eql (.t 4) (.c (.int .i64 3)), none⟩,
     ⟨some 36, .mv (.t 37), none⟩])
     (.cond (.t 36)
      (.seq
      (.reg [⟨some 38, .faddr 1 (.t 1), none⟩,
      ⟨some 39, .load none (.t 38), none⟩,
      ⟨some 40, .call 29 false [(.t 39), (.c (.int .i64 0)), (.c (.int .i64 1))], none⟩,
      ⟨some 41, .mv (.t 40), none⟩,
      ⟨some 42, .faddr 2 (.t 1), some (41, true)⟩,
      ⟨some 43, .load none (.t 42), some (41, true)⟩,
      ⟨some 44, .bin .eql (.t 43) (.c (.str [])), some (41, true)⟩,
      ⟨some 45, .pick (.t 41) (.t 44) (.c (.bool false)), none⟩,
      ⟨some 2, .mv (.t 45), none⟩])
      .ret)
      .skip))))))))))
 (.seq
 (.reg [⟨some 2, .mv (.c (.bool false)), none⟩])
 .ret)))⟩
structure H5 (Γ : Tab) : Prop where
  e5 : Γ 5 = some (.code f5)
  c29 : H29 Γ
/- loop.example/g00751/laws.szValue -/
def f6 : DFn := ⟨2, false, [.t 4],
 (.seq
 (.reg [⟨some 2, .box (.t 0), none⟩,
 ⟨some 4, .mv (.c (.int .i64 0)), none⟩])
 (.seq
 (.reg [⟨some 5, .mv (.t 1), none⟩,
 ⟨some 6, .faddr 2 (.t 2), none⟩,
 ⟨some 7, .load none (.t 6), none⟩,
 ⟨some 8, .lens (.t 7), none⟩,
 ⟨some 9, .bin .sub (.t 5) (.t 8), none⟩,
 ⟨some 1, .mv (.t 9), none⟩])
 (.seq
 (.seq
 (.reg [⟨some 10, .mv (.t 1), none⟩,
 ⟨some 11, .bin .lss (.t 10) (.c (.int .i64 0)), none⟩])
 (.cond (.t 11)
  (.seq
  (.reg [⟨some 4, .mv (.c (.int .i64 (-1))), none⟩])
  .ret)
  .skip))
 (.seq
 (.reg [⟨some 12, .mv (.t 1), none⟩,
 ⟨some 4, .mv (.t 12), none⟩])
 .ret))))⟩
structure H6 (Γ : Tab) : Prop where
  e6 : Γ 6 = some (.code f6)
/- loop.example/g00751/laws.toValue -/
def f7 : DFn := ⟨1, false, [.cell 2 (some 3)],
 (.seq
 (.reg [⟨some 1, .box (.t 0), none⟩,
 ⟨some 2, .alloc [.int .i64 0, .int .i64 0, .str []], none⟩])
 (.seq
 (.reg [⟨some 3, .alloc [.int .i64 0, .int .i64 0, .str []], none⟩])
 (.seq
 (.reg [⟨some 4, .faddr 0 (.t 1), none⟩,
 ⟨some 5, .load none (.t 4), none⟩,
 ⟨some 6, .faddr 0 (.t 3), none⟩,
 ⟨none, .store 1 (.t 6) (.t 5), none⟩])
 (.seq
 (.reg [⟨some 7, .faddr 1 (.t 1), none⟩,
 ⟨some 8, .load none (.t 7), none⟩,
 ⟨some 9, .faddr 1 (.t 3), none⟩,
 ⟨none, .store 1 (.t 9) (.t 8), none⟩])
 (.seq
 (.reg [⟨some 10, .faddr 2 (.t 1), none⟩,
 ⟨some 11, .load none (.t 10), none⟩,
 ⟨some 12, .faddr 2 (.t 3), none⟩,
 ⟨none, .store 1 (.t 12) (.t 11), none⟩])
 (.seq
 (.reg [⟨some 13, .load (some 3) (.t 3), none⟩,
 ⟨none, .store 3 (.t 2) (.t 13), none⟩])
 .ret))))))⟩
structure H7 (Γ : Tab) : Prop where
  e7 : Γ 7 = some (.code f7)
/- loop.example/g00751/spec.l01In -/
def f28 : DFn := ⟨3, false, [.t 6],
 (.seq
 (.reg [⟨some 6, .mv (.c (.bool false)), none⟩])
 (.seq
 (.reg [⟨some 7, .mv (.t 0), none⟩,
 ⟨some 8, .mv (.t 1), none⟩,
 ⟨some 9, .bin .geq (.t 7) (.t 8), none⟩,
 ⟨some 10, .mv (.t 9), none⟩,
 ⟨some 11, .mv (.t 0), some (10, true)⟩,
 ⟨some 12, .mv (.t 2), some (10, true)⟩,
 ⟨some 13, .bin .leq (.t 11) (.t 12), some (10, true)⟩,
 ⟨some 14, .pick (.t 10) (.t 13) (.c (.bool false)), none⟩,
 ⟨some 6, .mv (.t 14), none⟩])
 .ret))⟩
structure H28 (Γ : Tab) : Prop where
  e28 : Γ 28 = some (.code f28)
/- loop.example/g00751/spec.ValueOk -/
def f8 : DFn := ⟨1, false, [.t 2],
 (.seq
 (.reg [⟨some 1, .box (.t 0), none⟩,
 ⟨some 2, .mv (.c (.bool false)), none⟩])
 (.seq
 (.seq
 (.reg [⟨some 3, .faddr 0 (.t 1), none⟩,
 ⟨some 4, .load none (.t 3), none⟩])
 (.block 0
  (.seq
  (.reg [⟨some 6, .bin .eql (.t 4) (.c (.int .i64 0)), none⟩,
  ⟨some 5, .mv (.t 6), none⟩])
  (.cond (.t 5)
   (.seq
   (.reg [⟨some 7, .faddr 1 (.t 1), none⟩,
   ⟨some 8, .load none (.t 7), none⟩,
   ⟨some 9, .bin .eql (.t 8) (.c (.int .i64 0)), none⟩,
   ⟨some 10, .mv (.t 9), none⟩,
   ⟨some 11, .faddr 2 (.t 1), some (10, true)⟩,
   ⟨some 12, .load none (.t 11), some (10, true)⟩,
   ⟨some 13, .bin .eql (.t 12) (.c (.str [])), some (10, true)⟩,
   ⟨some 14, .pick (.t 10) (.t 13) (.c (.bool false)), none⟩,
   ⟨some 2, .mv (.t 14), none⟩])
   .ret)
   (.seq
   (.reg [⟨some 16, .bin .eql (.t 4) (.c (.int .i64 1)), none⟩,
   ⟨some 15, .mv (.t 16), none⟩])
   (.cond (.t 15)
    (.seq
    (.reg [⟨some 17, .faddr 1 (.t 1), none⟩,
    ⟨some 18, .load none (.t 17), none⟩,
    ⟨some 19, .call 28 false [(.t 18), (.c (.int .i64 (-999999999999))), (.c (.int .i64 999999999999))], none⟩,
    ⟨some 20, .mv (.t 19), none⟩,
    ⟨some 21, .faddr 2 (.t 1), some (20, true)⟩,
    ⟨some 22, .load none (.t 21), some (20, true)⟩,
    ⟨some 23, .bin .eql (.t 22) (.c (.str [])), some (20, true)⟩,
    ⟨some 24, .pick (.t 20) (.t 23) (.c (.bool false)), none⟩,
    ⟨some 2, .mv (.t 24), none⟩])
    .ret)
    (.seq
    (.reg [⟨some 26, .bin .eql (.t 4) (.c (.int .i64 2)), none⟩,
    ⟨some 25, .mv (.t 26), none⟩])
    (.cond (.t 25)
     (.seq
     (.reg [⟨some 27, .faddr 1 (.t 1), none⟩,
     ⟨some 28, .load none (.t 27), none⟩,
     ⟨some 29, .bin .eql (.t 28) (.c (.int .i64 0)), none⟩,
     ⟨some 30, .mv (.t 29), none⟩,
     ⟨some 31, .faddr 2 (.t 1), some (30, true)⟩,
     ⟨some 32, .load none (.t 31), some (30, true)⟩,
     ⟨some 33, .lens (.t 32), some (30, true)⟩,
     ⟨some 34, .bin .leq (.t 33) (.c (.int .i64 100)), some (30, true)⟩,
     ⟨some 35, .pick (.t 30) (.t 34) (.c (.bool false)), none⟩,
     ⟨some 2, .mv (.t 35), none⟩])
     .ret)
     (.seq
     (.reg [⟨some 37, .bin .eql (.t 4) (.c (.int .i64 3)), none⟩,
     ⟨some 36, .mv (.t 37), none⟩])
     (.cond (.t 36)
      (.seq
      (.reg [⟨some 38, .faddr 1 (.t 1), none⟩,
      ⟨some 39, .load none (.t 38), none⟩,
      ⟨some 40, .call 28 false [(.t 39), (.c (.int .i64 0)), (.c (.int .i64 1))], none⟩,
      ⟨some 41, .mv (.t 40), none⟩,
      ⟨some 42, .faddr 2 (.t 1), some (41, true)⟩,
      ⟨some 43, .load none (.t 42), some (41, true)⟩,
      ⟨some 44, .bin .eql (.t 43) (.c (.str [])), some (41, true)⟩,
      ⟨some 45, .pick (.t 41) (.t 44) (.c (.bool false)), none⟩,
      ⟨some 2, .mv (.t 45), none⟩])
      .ret)
      .skip))))))))))
 (.seq
 (.reg [⟨some 2, .mv (.c (.bool false)), none⟩])
 .ret)))⟩
structure H8 (Γ : Tab) : Prop where
  e8 : Γ 8 = some (.code f8)
  c28 : H28 Γ
/- loop.example/g00751/laws.FnExactValueOk -/
def f4 : DFn := ⟨1, false, [.t 2],
 (.seq
 (.reg [⟨some 1, .box (.t 0), none⟩,
 ⟨some 2, .mv (.c (.bool false)), none⟩])
 (.seq
 (.reg [⟨some 3, .mv (.c (.int .i64 1048576)), none⟩])
 (.seq
 (.reg [⟨some 6, .load (some 3) (.t 1), none⟩,
 ⟨some 7, .mv (.t 3), none⟩,
 ⟨some 8, .call 6 false [(.t 6), (.t 7)], none⟩,
 ⟨some 3, .mv (.t 8), none⟩])
 (.seq
 (.seq
 (.reg [⟨some 9, .mv (.t 3), none⟩,
 ⟨some 10, .bin .lss (.t 9) (.c (.int .i64 0)), none⟩])
 (.cond (.t 10)
  (.seq
  (.reg [⟨some 2, .mv (.c (.bool true)), none⟩])
  .ret)
  .skip))
 (.seq
 (.reg [⟨some 11, .load (some 3) (.t 1), none⟩,
 ⟨some 12, .call 7 false [(.t 11)], none⟩,
 ⟨some 13, .call 8 false [(.t 12)], none⟩,
 ⟨some 4, .mv (.t 13), none⟩])
 (.seq
 (.reg [⟨some 14, .load (some 3) (.t 1), none⟩,
 ⟨some 15, .call 7 false [(.t 14)], none⟩,
 ⟨some 16, .call 5 false [(.t 15)], none⟩,
 ⟨some 5, .mv (.t 16), none⟩])
 (.seq
 (.seq
 (.reg [⟨some 17, .mv (.t 5), none⟩,
 ⟨some 18, .mv (.t 4), none⟩,
 ⟨some 19, .binb .neq (.t 17) (.t 18), none⟩])
 (.cond (.t 19)
  (.seq
  (.reg [⟨some 2, .mv (.c (.bool false)), none⟩])
  .ret)
  .skip))
 (.seq
 (.reg [⟨some 2, .mv (.c (.bool true)), none⟩])
 .ret))))))))⟩
structure H4 (Γ : Tab) : Prop where
  e4 : Γ 4 = some (.code f4)
  c5 : H5 Γ
  c6 : H6 Γ
  c7 : H7 Γ
  c8 : H8 Γ
/- loop.example/g00751/impl.crcBytes -/
def f31 : DFn := ⟨1, false, [.t 2],
 (.seq
 (.reg [⟨some 2, .mv (.c (.str [])), none⟩])
 (.seq
 (.reg [⟨some 4, .mv (.t 0), none⟩,
 ⟨some 5, .call 2 false [(.t 4)], none⟩,
 ⟨some 3, .mv (.t 5), none⟩])
 (.seq
 (.reg [⟨some 6, .mv (.t 3), none⟩,
 ⟨some 7, .conv .u8 (.t 6), none⟩,
 ⟨some 8, .mv (.t 3), none⟩,
 ⟨some 9, .bin .shr (.t 8) (.c (.int .u64 8)), none⟩,
 ⟨some 10, .conv .u8 (.t 9), none⟩,
 ⟨some 11, .mv (.t 3), none⟩,
 ⟨some 12, .bin .shr (.t 11) (.c (.int .u64 16)), none⟩,
 ⟨some 13, .conv .u8 (.t 12), none⟩,
 ⟨some 14, .mv (.t 3), none⟩,
 ⟨some 15, .bin .shr (.t 14) (.c (.int .u64 24)), none⟩,
 ⟨some 16, .conv .u8 (.t 15), none⟩,
 ⟨some 17, .buildSl 1 [.int .u8 0, .int .u8 0, .int .u8 0, .int .u8 0] [(0, (.t 7)), (1, (.t 10)), (2, (.t 13)), (3, (.t 16))], none⟩,
 ⟨some 18, .b2s (.t 17), none⟩,
 ⟨some 2, .mv (.t 18), none⟩])
 .ret)))⟩
structure H31 (Γ : Tab) : Prop where
  e31 : Γ 31 = some (.code f31)
  c2 : H2 Γ
/- internal/stringslite.HasPrefix -/
def f72 : DFn := ⟨2, false, [.t 4],
 (.seq
 (.reg [⟨some 4, .mv (.c (.bool false)), none⟩])
 (.seq
 (.reg [⟨some 5, .mv (.t 0), none⟩,
 ⟨some 6, .lens (.t 5), none⟩,
 ⟨some 7, .mv (.t 1), none⟩,
 ⟨some 8, .lens (.t 7), none⟩,
 ⟨some 9, .bin .geq (.t 6) (.t 8), none⟩,
 ⟨some 10, .mv (.t 9), none⟩,
 ⟨some 11, .mv (.t 0), some (10, true)⟩,
 ⟨some 12, .mv (.t 1), some (10, true)⟩,
 ⟨some 13, .lens (.t 12), some (10, true)⟩,
 ⟨some 14, .subs (.t 11) none (some (.t 13)), some (10, true)⟩,
 ⟨some 15, .mv (.t 1), some (10, true)⟩,
 ⟨some 16, .bin .eql (.t 14) (.t 15), some (10, true)⟩,
 ⟨some 17, .pick (.t 10) (.t 16) (.c (.bool false)), none⟩,
 ⟨some 4, .mv (.t 17), none⟩])
 .ret))⟩
structure H72 (Γ : Tab) : Prop where
  e72 : Γ 72 = some (.code f72)
/- strings.HasPrefix -/
def f32 : DFn := ⟨2, false, [.t 4],
 (.seq
 (.reg [⟨some 4, .mv (.c (.bool false)), none⟩])
 (.seq
 (.reg [⟨some 5, .mv (.t 0), none⟩,
 ⟨some 6, .mv (.t 1), none⟩,
 ⟨some 7, .call 72 false [(.t 5), (.t 6)], none⟩,
 ⟨some 4, .mv (.t 7), none⟩])
 .ret))⟩
structure H32 (Γ : Tab) : Prop where
  e32 : Γ 32 = some (.code f32)
  c72 : H72 Γ
/- loop.example/g00751/impl.Whole -/
def f10 : DFn := ⟨1, false, [.t 2],
 (.seq
 (.reg [⟨some 2, .mv (.c (.bool false)), none⟩])
 (.seq
 (.any [⟨some 3, .mv (.t 0), none⟩,
 ⟨some 4, .lens (.t 3), none⟩,
 ⟨some 5, .bin .geq (.t 4) (.c (.int .i64 9)), none⟩,
 ⟨some 6, .mv (.t 5), none⟩,
 ⟨some 7, .mv (.t 0), some (6, true)⟩,
 ⟨some 8, .call 32 false [(.t 7), (.c (.str [80, 76, 65, 78, 1]))], some (6, true)⟩,
 ⟨some 9, .pick (.t 6) (.t 8) (.c (.bool false)), none⟩,
 ⟨some 10, .mv (.t 9), none⟩,
 ⟨some 11, .mv (.t 0), some (10, true)⟩,
 ⟨some 12, .mv (.t 0), some (10, true)⟩,
 ⟨some 13, .lens (.t 12), some (10, true)⟩,
 ⟨some 14, .bin .sub (.t 13) (.c (.int .i64 4)), some (10, true)⟩,
 ⟨some 15, .subs (.t 11) none (some (.t 14)), some (10, true)⟩,
 ⟨some 16, .call 31 false [(.t 15)], some (10, true)⟩,
 ⟨some 17, .mv (.t 0), some (10, true)⟩,
 ⟨some 18, .mv (.t 0), some (10, true)⟩,
 ⟨some 19, .lens (.t 18), some (10, true)⟩,
 ⟨some 20, .bin .sub (.t 19) (.c (.int .i64 4)), some (10, true)⟩,
 ⟨some 21, .subs (.t 17) (some (.t 20)) none, some (10, true)⟩,
 ⟨some 22, .bin .eql (.t 16) (.t 21), some (10, true)⟩,
 ⟨some 23, .pick (.t 10) (.t 22) (.c (.bool false)), none⟩,
 ⟨some 2, .mv (.t 23), none⟩]
 [])
 .ret))⟩
structure H10 (Γ : Tab) : Prop where
  e10 : Γ 10 = some (.code f10)
  c31 : H31 Γ
  c32 : H32 Γ
/- loop.example/g00751/spec.l14Num -/
def f71l1 : DCode :=
   (.seq
   (.seq
   (.reg [⟨some 10, .mv (.t 6), none⟩,
   ⟨some 11, .bin .geq (.t 10) (.c (.int .i64 0)), none⟩])
   (.cond (.t 11)
    .skip
    (.exit 0)))
   (.seq
   (.block 1
    (.reg [⟨some 14, .mv (.t 5), none⟩,
    ⟨some 15, .mv (.t 0), none⟩,
    ⟨some 16, .mv (.t 6), none⟩,
    ⟨some 17, .bin .mul (.c (.int .i64 8)) (.t 16), none⟩,
    ⟨some 18, .conv .u64 (.t 17), none⟩,
    ⟨some 19, .bin .shr (.t 15) (.t 18), none⟩,
    ⟨some 20, .conv .u8 (.t 19), none⟩,
    ⟨some 21, .buildSl 1 [.int .u8 0] [(0, (.t 20))], none⟩,
    ⟨some 22, .app 1 1 (.t 14) (.t 21), none⟩,
    ⟨some 5, .mv (.t 22), none⟩]))
   (.reg [⟨some 12, .mv (.t 6), none⟩,
   ⟨some 13, .bin .sub (.t 12) (.c (.int .i64 1)), none⟩,
   ⟨some 6, .mv (.t 13), none⟩])))
def f71 : DFn := ⟨2, false, [.t 4],
 (.seq
 (.reg [⟨some 4, .mv (.c (.str [])), none⟩])
 (.seq
 (.reg [⟨some 7, .buildSl 1 [] [], none⟩,
 ⟨some 5, .mv (.t 7), none⟩])
 (.seq
 (.seq
 (.reg [⟨some 8, .mv (.t 1), none⟩,
 ⟨some 9, .bin .sub (.t 8) (.c (.int .i64 1)), none⟩,
 ⟨some 6, .mv (.t 9), none⟩])
 (.block 0
  (.loop [0, 6, 5] f71l1)))
 (.seq
 (.reg [⟨some 23, .mv (.t 5), none⟩,
 ⟨some 24, .b2s (.t 23), none⟩,
 ⟨some 4, .mv (.t 24), none⟩])
 .ret))))⟩
structure H71 (Γ : Tab) : Prop where
  e71 : Γ 71 = some (.code f71)
/- loop.example/g00751/spec.l14Sum -/
def f30 : DFn := ⟨1, false, [.t 2],
 (.seq
 (.reg [⟨some 2, .mv (.c (.str [])), none⟩])
 (.seq
 (.reg [⟨some 4, .mv (.t 0), none⟩,
 ⟨some 5, .call 3 false [(.t 4)], none⟩,
 ⟨some 6, .call 71 false [(.t 5), (.c (.int .i64 4))], none⟩,
 ⟨some 3, .mv (.t 6), none⟩])
 (.seq
 (.any [⟨some 7, .mv (.t 3), none⟩,
 ⟨some 8, .sidx (.t 7) (.c (.int .i64 3)), none⟩,
 ⟨some 9, .mv (.t 3), none⟩,
 ⟨some 10, .sidx (.t 9) (.c (.int .i64 2)), none⟩,
 ⟨some 11, .mv (.t 3), none⟩,
 ⟨some 12, .sidx (.t 11) (.c (.int .i64 1)), none⟩,
 ⟨some 13, .mv (.t 3), none⟩,
 ⟨some 14, .sidx (.t 13) (.c (.int .i64 0)), none⟩]
 [⟨some 15, .buildSl 1 [.int .u8 0, .int .u8 0, .int .u8 0, .int .u8 0] [(0, (.t 8)), (1, (.t 10)), (2, (.t 12)), (3, (.t 14))], none⟩,
 ⟨some 16, .b2s (.t 15), none⟩,
 ⟨some 2, .mv (.t 16), none⟩])
 .ret)))⟩
structure H30 (Γ : Tab) : Prop where
  e30 : Γ 30 = some (.code f30)
  c3 : H3 Γ
  c71 : H71 Γ
/- loop.example/g00751/spec.Whole -/
def f11 : DFn := ⟨1, false, [.t 2],
 (.seq
 (.reg [⟨some 2, .mv (.c (.bool false)), none⟩])
 (.seq
 (.reg [⟨some 4, .mv (.t 0), none⟩,
 ⟨some 5, .lens (.t 4), none⟩,
 ⟨some 3, .mv (.t 5), none⟩])
 (.seq
 (.any [⟨some 6, .mv (.t 3), none⟩,
 ⟨some 7, .bin .geq (.t 6) (.c (.int .i64 9)), none⟩,
 ⟨some 8, .mv (.t 7), none⟩,
 ⟨some 9, .mv (.t 0), some (8, true)⟩,
 ⟨some 10, .subs (.t 9) none (some (.c (.int .i64 5))), some (8, true)⟩,
 ⟨some 11, .bin .eql (.t 10) (.c (.str [80, 76, 65, 78, 1])), some (8, true)⟩,
 ⟨some 12, .pick (.t 8) (.t 11) (.c (.bool false)), none⟩,
 ⟨some 13, .mv (.t 12), none⟩,
 ⟨some 14, .mv (.t 0), some (13, true)⟩,
 ⟨some 15, .mv (.t 3), some (13, true)⟩,
 ⟨some 16, .bin .sub (.t 15) (.c (.int .i64 4)), some (13, true)⟩,
 ⟨some 17, .subs (.t 14) (some (.t 16)) none, some (13, true)⟩,
 ⟨some 18, .mv (.t 0), some (13, true)⟩,
 ⟨some 19, .mv (.t 3), some (13, true)⟩,
 ⟨some 20, .bin .sub (.t 19) (.c (.int .i64 4)), some (13, true)⟩,
 ⟨some 21, .subs (.t 18) none (some (.t 20)), some (13, true)⟩,
 ⟨some 22, .call 30 false [(.t 21)], some (13, true)⟩,
 ⟨some 23, .bin .eql (.t 17) (.t 22), some (13, true)⟩,
 ⟨some 24, .pick (.t 13) (.t 23) (.c (.bool false)), none⟩,
 ⟨some 2, .mv (.t 24), none⟩]
 [])
 .ret)))⟩
structure H11 (Γ : Tab) : Prop where
  e11 : Γ 11 = some (.code f11)
  c30 : H30 Γ
/- loop.example/g00751/laws.FnExactWhole -/
def f9 : DFn := ⟨1, false, [.t 2],
 (.seq
 (.reg [⟨some 2, .mv (.c (.bool false)), none⟩])
 (.seq
 (.seq
 (.reg [⟨some 5, .mv (.t 0), none⟩,
 ⟨some 6, .lens (.t 5), none⟩,
 ⟨some 7, .bin .gtr (.t 6) (.c (.int .i64 1048576)), none⟩])
 (.cond (.t 7)
  (.seq
  (.reg [⟨some 2, .mv (.c (.bool true)), none⟩])
  .ret)
  .skip))
 (.seq
 (.reg [⟨some 8, .mv (.t 0), none⟩,
 ⟨some 9, .call 11 false [(.t 8)], none⟩,
 ⟨some 3, .mv (.t 9), none⟩])
 (.seq
 (.reg [⟨some 10, .mv (.t 0), none⟩,
 ⟨some 11, .call 10 false [(.t 10)], none⟩,
 ⟨some 4, .mv (.t 11), none⟩])
 (.seq
 (.seq
 (.reg [⟨some 12, .mv (.t 4), none⟩,
 ⟨some 13, .mv (.t 3), none⟩,
 ⟨some 14, .binb .neq (.t 12) (.t 13), none⟩])
 (.cond (.t 14)
  (.seq
  (.reg [⟨some 2, .mv (.c (.bool false)), none⟩])
  .ret)
  .skip))
 (.seq
 (.reg [⟨some 2, .mv (.c (.bool true)), none⟩])
 .ret))))))⟩
structure H9 (Γ : Tab) : Prop where
  e9 : Γ 9 = some (.code f9)
  c10 : H10 Γ
  c11 : H11 Γ
/- loop.example/g00751/laws.at -/
def f13 : DFn := ⟨2, false, [.t 4],
 (.seq
 (.reg [⟨some 4, .mv (.c (.int .i64 0)), none⟩])
 (.seq
 (.seq
 (.reg [⟨some 5, .mv (.t 1), none⟩,
 ⟨some 6, .mv (.t 0), none⟩,
 ⟨some 7, .len (.t 6), none⟩,
 ⟨some 8, .bin .lss (.t 5) (.t 7), none⟩])
 (.cond (.t 8)
  (.seq
  (.reg [⟨some 9, .mv (.t 0), none⟩,
  ⟨some 10, .mv (.t 1), none⟩,
  ⟨some 11, .iaddr 1 (.t 9) (.t 10), none⟩,
  ⟨some 12, .load none (.t 11), none⟩,
  ⟨some 13, .conv .i64 (.t 12), none⟩,
  ⟨some 4, .mv (.t 13), none⟩])
  .ret)
  .skip))
 (.seq
 (.reg [⟨some 14, .mv (.t 1), none⟩,
 ⟨some 15, .bin .mul (.t 14) (.c (.int .i64 7)), none⟩,
 ⟨some 16, .mv (.t 0), none⟩,
 ⟨some 17, .len (.t 16), none⟩,
 ⟨some 18, .bin .add (.t 15) (.t 17), none⟩,
 ⟨some 19, .bin .rem (.t 18) (.c (.int .i64 256)), none⟩,
 ⟨some 4, .mv (.t 19), none⟩])
 .ret)))⟩
structure H13 (Γ : Tab) : Prop where
  e13 : Γ 13 = some (.code f13)
/- loop.example/g00751/laws.big -/
def f14 : DFn := ⟨1, false, [.t 2],
 (.seq
 (.reg [⟨some 2, .mv (.c (.bool false)), none⟩])
 (.seq
 (.reg [⟨some 3, .mv (.t 0), none⟩,
 ⟨some 4, .len (.t 3), none⟩,
 ⟨some 5, .bin .gtr (.t 4) (.c (.int .i64 1048576)), none⟩,
 ⟨some 2, .mv (.t 5), none⟩])
 .ret))⟩
structure H14 (Γ : Tab) : Prop where
  e14 : Γ 14 = some (.code f14)
/- loop.example/g00751/spec.l01Byte -/
def f73 : DFn := ⟨1, false, [.t 2],
 (.seq
 (.reg [⟨some 2, .mv (.c (.int .i64 0)), none⟩])
 (.seq
 (.reg [⟨some 4, .mv (.t 0), none⟩,
 ⟨some 5, .mv (.t 0), none⟩,
 ⟨some 6, .nilck (.t 5), none⟩,
 ⟨some 7, .faddr 2 (.t 6), none⟩,
 ⟨some 8, .load none (.t 7), none⟩,
 ⟨some 9, .bin .mul (.t 8) (.c (.int .i64 6364136223846793005)), none⟩,
 ⟨some 10, .bin .add (.t 9) (.c (.int .i64 1442695040888963407)), none⟩,
 ⟨some 11, .nilck (.t 4), none⟩,
 ⟨some 12, .faddr 2 (.t 11), none⟩,
 ⟨none, .store 1 (.t 12) (.t 10), none⟩])
 (.seq
 (.any [⟨some 13, .mv (.t 0), none⟩,
 ⟨some 14, .nilck (.t 13), none⟩,
 ⟨some 15, .faddr 2 (.t 14), none⟩,
 ⟨some 16, .load none (.t 15), none⟩,
 ⟨some 17, .bin .shr (.t 16) (.c (.int .u64 33)), none⟩,
 ⟨some 18, .mv (.t 0), none⟩,
 ⟨some 19, .nilck (.t 18), none⟩,
 ⟨some 20, .faddr 2 (.t 19), none⟩,
 ⟨some 21, .load none (.t 20), none⟩,
 ⟨some 22, .bin .shr (.t 21) (.c (.int .u64 45)), none⟩,
 ⟨some 23, .bin .xor (.t 17) (.t 22), none⟩,
 ⟨some 24, .bin .and (.t 23) (.c (.int .i64 255)), none⟩,
 ⟨some 3, .mv (.t 24), none⟩]
 [])
 (.seq
 (.seq
 (.any [⟨some 25, .mv (.t 0), none⟩,
 ⟨some 26, .nilck (.t 25), none⟩,
 ⟨some 27, .faddr 1 (.t 26), none⟩,
 ⟨some 28, .load none (.t 27), none⟩,
 ⟨some 29, .mv (.t 0), none⟩,
 ⟨some 30, .nilck (.t 29), none⟩,
 ⟨some 31, .faddr 0 (.t 30), none⟩,
 ⟨some 32, .load none (.t 31), none⟩,
 ⟨some 33, .len (.t 32), none⟩,
 ⟨some 34, .bin .lss (.t 28) (.t 33), none⟩]
 [])
 (.cond (.t 34)
  (.seq
  (.any [⟨some 35, .mv (.t 3), none⟩,
  ⟨some 36, .mv (.t 0), none⟩,
  ⟨some 37, .nilck (.t 36), none⟩,
  ⟨some 38, .faddr 0 (.t 37), none⟩,
  ⟨some 39, .load none (.t 38), none⟩,
  ⟨some 40, .mv (.t 0), none⟩,
  ⟨some 41, .nilck (.t 40), none⟩,
  ⟨some 42, .faddr 1 (.t 41), none⟩,
  ⟨some 43, .load none (.t 42), none⟩,
  ⟨some 44, .iaddr 1 (.t 39) (.t 43), none⟩,
  ⟨some 45, .load none (.t 44), none⟩,
  ⟨some 46, .conv .i64 (.t 45), none⟩,
  ⟨some 47, .bin .add (.t 35) (.t 46), none⟩,
  ⟨some 48, .bin .and (.t 47) (.c (.int .i64 255)), none⟩,
  ⟨some 3, .mv (.t 48), none⟩]
  [])
  (.reg [⟨some 49, .mv (.t 0), none⟩,
  ⟨some 50, .mv (.t 0), none⟩,
  ⟨some 51, .nilck (.t 50), none⟩,
  ⟨some 52, .faddr 1 (.t 51), none⟩,
  ⟨some 53, .load none (.t 52), none⟩,
  ⟨some 54, .bin .add (.t 53) (.c (.int .i64 1)), none⟩,
  ⟨some 55, .nilck (.t 49), none⟩,
  ⟨some 56, .faddr 1 (.t 55), none⟩,
  ⟨none, .store 1 (.t 56) (.t 54), none⟩]))
  .skip))
 (.seq
 (.reg [⟨some 57, .mv (.t 3), none⟩,
 ⟨some 2, .mv (.t 57), none⟩])
 .ret)))))⟩
structure H73 (Γ : Tab) : Prop where
  e73 : Γ 73 = some (.code f73)
/- loop.example/g00751/spec.l01Below -/
def f33 : DFn := ⟨2, false, [.t 4],
 (.seq
 (.reg [⟨some 4, .mv (.c (.int .i64 0)), none⟩])
 (.seq
 (.seq
 (.reg [⟨some 9, .mv (.t 1), none⟩,
 ⟨some 10, .bin .leq (.t 9) (.c (.int .i64 0)), none⟩])
 (.cond (.t 10)
  (.seq
  (.reg [⟨some 4, .mv (.c (.int .i64 0)), none⟩])
  .ret)
  .skip))
 (.seq
 (.seq
 (.reg [⟨some 11, .mv (.t 1), none⟩,
 ⟨some 12, .bin .leq (.t 11) (.c (.int .i64 256)), none⟩])
 (.cond (.t 12)
  (.seq
  (.reg [⟨some 13, .mv (.t 0), none⟩,
  ⟨some 14, .call 73 false [(.t 13)], none⟩,
  ⟨some 15, .mv (.t 1), none⟩,
  ⟨some 16, .bin .rem (.t 14) (.t 15), none⟩,
  ⟨some 4, .mv (.t 16), none⟩])
  .ret)
  .skip))
 (.seq
 (.reg [⟨some 17, .mv (.t 0), none⟩,
 ⟨some 18, .call 73 false [(.t 17)], none⟩,
 ⟨some 5, .mv (.t 18), none⟩])
 (.seq
 (.reg [⟨some 19, .mv (.t 0), none⟩,
 ⟨some 20, .call 73 false [(.t 19)], none⟩,
 ⟨some 6, .mv (.t 20), none⟩])
 (.seq
 (.reg [⟨some 21, .mv (.t 0), none⟩,
 ⟨some 22, .call 73 false [(.t 21)], none⟩,
 ⟨some 7, .mv (.t 22), none⟩])
 (.seq
 (.reg [⟨some 23, .mv (.t 0), none⟩,
 ⟨some 24, .call 73 false [(.t 23)], none⟩,
 ⟨some 8, .mv (.t 24), none⟩])
 (.seq
 (.reg [⟨some 25, .mv (.t 5), none⟩,
 ⟨some 26, .bin .mul (.t 25) (.c (.int .i64 16777216)), none⟩,
 ⟨some 27, .mv (.t 6), none⟩,
 ⟨some 28, .bin .mul (.t 27) (.c (.int .i64 65536)), none⟩,
 ⟨some 29, .bin .add (.t 26) (.t 28), none⟩,
 ⟨some 30, .mv (.t 7), none⟩,
 ⟨some 31, .bin .mul (.t 30) (.c (.int .i64 256)), none⟩,
 ⟨some 32, .bin .add (.t 29) (.t 31), none⟩,
 ⟨some 33, .mv (.t 8), none⟩,
 ⟨some 34, .bin .add (.t 32) (.t 33), none⟩,
 ⟨some 35, .mv (.t 1), none⟩,
 ⟨some 36, .bin .rem (.t 34) (.t 35), none⟩,
 ⟨some 4, .mv (.t 36), none⟩])
 .ret))))))))⟩
structure H33 (Γ : Tab) : Prop where
  e33 : Γ 33 = some (.code f33)
  c73 : H73 Γ
/- loop.example/g00751/spec.l01New -/
def f34l1 : DCode :=
   (.seq
   (.seq
   (.reg [⟨some 8, .mv (.t 4), none⟩,
   ⟨some 9, .mv (.t 0), none⟩,
   ⟨some 10, .len (.t 9), none⟩,
   ⟨some 11, .bin .lss (.t 8) (.t 10), none⟩,
   ⟨some 12, .mv (.t 11), none⟩,
   ⟨some 13, .mv (.t 4), some (12, true)⟩,
   ⟨some 14, .bin .lss (.t 13) (.c (.int .i64 4000)), some (12, true)⟩,
   ⟨some 15, .pick (.t 12) (.t 14) (.c (.bool false)), none⟩])
   (.cond (.t 15)
    .skip
    (.exit 0)))
   (.seq
   (.block 1
    (.reg [⟨some 18, .mv (.t 3), none⟩,
    ⟨some 19, .bin .mul (.t 18) (.c (.int .i64 131)), none⟩,
    ⟨some 20, .mv (.t 0), none⟩,
    ⟨some 21, .mv (.t 4), none⟩,
    ⟨some 22, .iaddr 1 (.t 20) (.t 21), none⟩,
    ⟨some 23, .load none (.t 22), none⟩,
    ⟨some 24, .conv .i64 (.t 23), none⟩,
    ⟨some 25, .bin .add (.t 19) (.t 24), none⟩,
    ⟨some 26, .bin .add (.t 25) (.c (.int .i64 7)), none⟩,
    ⟨some 27, .bin .and (.t 26) (.c (.int .i64 1073741823)), none⟩,
    ⟨some 3, .mv (.t 27), none⟩]))
   (.reg [⟨some 16, .mv (.t 4), none⟩,
   ⟨some 17, .bin .add (.t 16) (.c (.int .i64 1)), none⟩,
   ⟨some 4, .mv (.t 17), none⟩])))
def f34 : DFn := ⟨1, false, [.t 2],
 (.seq
 (.reg [⟨some 2, .mv (.c .nilp), none⟩])
 (.seq
 (.reg [⟨some 5, .mv (.t 0), none⟩,
 ⟨some 6, .len (.t 5), none⟩,
 ⟨some 7, .bin .add (.c (.int .i64 751751)) (.t 6), none⟩,
 ⟨some 3, .mv (.t 7), none⟩])
 (.seq
 (.seq
 (.reg [⟨some 4, .mv (.c (.int .i64 0)), none⟩])
 (.block 0
  (.loop [0, 4, 3] f34l1)))
 (.seq
 (.reg [⟨some 28, .mv (.t 0), none⟩,
 ⟨some 29, .mv (.t 3), none⟩,
 ⟨some 30, .build [.nils, .int .i64 0, .int .i64 0] [(0, 1, (.t 28)), (2, 1, (.t 29))], none⟩,
 ⟨some 31, .box (.t 30), none⟩,
 ⟨some 2, .mv (.t 31), none⟩])
 .ret))))⟩
structure H34 (Γ : Tab) : Prop where
  e34 : Γ 34 = some (.code f34)
/- loop.example/g00751/spec.l01Once -/
def f35 : DFn := ⟨2, false, [.t 4],
 (.seq
 (.reg [⟨some 4, .mv (.c (.bool false)), none⟩])
 (.seq
 (.reg [⟨some 5, .mv (.t 0), none⟩,
 ⟨some 6, .mv (.t 1), none⟩,
 ⟨some 7, .call 33 false [(.t 5), (.t 6)], none⟩,
 ⟨some 8, .bin .eql (.t 7) (.c (.int .i64 0)), none⟩,
 ⟨some 4, .mv (.t 8), none⟩])
 .ret))⟩
structure H35 (Γ : Tab) : Prop where
  e35 : Γ 35 = some (.code f35)
  c33 : H33 Γ
/- loop.example/g00751/spec.l01Pick -/
def f36 : DFn := ⟨2, false, [.t 4],
 (.seq
 (.reg [⟨some 4, .mv (.c (.str [])), none⟩])
 (.seq
 (.reg [⟨some 5, .mv (.t 1), none⟩,
 ⟨some 6, .mv (.t 0), none⟩,
 ⟨some 7, .mv (.t 1), none⟩,
 ⟨some 8, .len (.t 7), none⟩,
 ⟨some 9, .call 33 false [(.t 6), (.t 8)], none⟩,
 ⟨some 10, .iaddr 1 (.t 5) (.t 9), none⟩,
 ⟨some 11, .load none (.t 10), none⟩,
 ⟨some 4, .mv (.t 11), none⟩])
 .ret))⟩
structure H36 (Γ : Tab) : Prop where
  e36 : Γ 36 = some (.code f36)
  c33 : H33 Γ
/- loop.example/g00751/spec.l01Text -/
def f37l1 : DCode :=
           (.seq
           (.seq
           (.reg [⟨some 62, .mv (.t 11), none⟩,
           ⟨some 63, .mv (.t 10), none⟩,
           ⟨some 64, .bin .lss (.t 62) (.t 63), none⟩,
           ⟨some 65, .mv (.t 64), none⟩,
           ⟨some 66, .mv (.t 9), some (65, true)⟩,
           ⟨some 67, .mv (.t 11), some (65, true)⟩,
           ⟨some 68, .bin .add (.t 66) (.t 67), some (65, true)⟩,
           ⟨some 69, .mv (.t 5), some (65, true)⟩,
           ⟨some 70, .len (.t 69), some (65, true)⟩,
           ⟨some 71, .bin .lss (.t 68) (.t 70), some (65, true)⟩,
           ⟨some 72, .pick (.t 65) (.t 71) (.c (.bool false)), none⟩])
           (.cond (.t 72)
            .skip
            (.exit 5)))
           (.seq
           (.block 6
            (.reg [⟨some 75, .mv (.t 5), none⟩,
            ⟨some 76, .mv (.t 5), none⟩,
            ⟨some 77, .mv (.t 9), none⟩,
            ⟨some 78, .mv (.t 11), none⟩,
            ⟨some 79, .bin .add (.t 77) (.t 78), none⟩,
            ⟨some 80, .iaddr 1 (.t 76) (.t 79), none⟩,
            ⟨some 81, .load none (.t 80), none⟩,
            ⟨some 82, .buildSl 1 [.int .u8 0] [(0, (.t 81))], none⟩,
            ⟨some 83, .app 1 1 (.t 75) (.t 82), none⟩,
            ⟨some 5, .mv (.t 83), none⟩]))
           (.reg [⟨some 73, .mv (.t 11), none⟩,
           ⟨some 74, .bin .add (.t 73) (.c (.int .i64 1)), none⟩,
           ⟨some 11, .mv (.t 74), none⟩])))
def f37l2 : DCode :=
         (.seq
         (.seq
         (.reg [⟨some 42, .mv (.t 8), none⟩,
         ⟨some 43, .mv (.t 6), none⟩,
         ⟨some 44, .bin .lss (.t 42) (.t 43), none⟩])
         (.cond (.t 44)
          .skip
          (.exit 3)))
         (.seq
         (.block 4
          (.reg [⟨some 47, .mv (.t 5), none⟩,
          ⟨some 48, .mv (.t 7), none⟩,
          ⟨some 49, .buildSl 1 [.int .u8 0] [(0, (.t 48))], none⟩,
          ⟨some 50, .app 1 1 (.t 47) (.t 49), none⟩,
          ⟨some 5, .mv (.t 50), none⟩]))
         (.reg [⟨some 45, .mv (.t 8), none⟩,
         ⟨some 46, .bin .add (.t 45) (.c (.int .i64 1)), none⟩,
         ⟨some 8, .mv (.t 46), none⟩])))
def f37l3 : DCode :=
   (.seq
   (.seq
   (.reg [⟨some 13, .mv (.t 5), none⟩,
   ⟨some 14, .len (.t 13), none⟩,
   ⟨some 15, .mv (.t 1), none⟩,
   ⟨some 16, .bin .lss (.t 14) (.t 15), none⟩])
   (.cond (.t 16)
    .skip
    (.exit 0)))
   (.block 1
    (.seq
    (.reg [⟨some 17, .mv (.t 0), none⟩,
    ⟨some 18, .call 33 false [(.t 17), (.c (.int .i64 5))], none⟩])
    (.block 2
     (.seq
     (.reg [⟨some 27, .bin .eql (.t 18) (.c (.int .i64 0)), none⟩,
     ⟨some 26, .mv (.t 27), none⟩])
     (.cond (.t 26)
      (.reg [⟨some 28, .mv (.t 5), none⟩,
      ⟨some 29, .mv (.t 0), none⟩,
      ⟨some 30, .call 73 false [(.t 29)], none⟩,
      ⟨some 31, .conv .u8 (.t 30), none⟩,
      ⟨some 32, .buildSl 1 [.int .u8 0] [(0, (.t 31))], none⟩,
      ⟨some 33, .app 1 1 (.t 28) (.t 32), none⟩,
      ⟨some 5, .mv (.t 33), none⟩])
      (.seq
      (.reg [⟨some 35, .bin .eql (.t 18) (.c (.int .i64 1)), none⟩,
      ⟨some 34, .mv (.t 35), none⟩])
      (.cond (.t 34)
       (.seq
       (.reg [⟨some 36, .mv (.t 0), none⟩,
       ⟨some 37, .call 33 false [(.t 36), (.c (.int .i64 9))], none⟩,
       ⟨some 6, .mv (.t 37), none⟩])
       (.seq
       (.reg [⟨some 38, .mv (.t 0), none⟩,
       ⟨some 39, .call 33 false [(.t 38), (.c (.int .i64 4))], none⟩,
       ⟨some 40, .bin .add (.c (.int .i64 97)) (.t 39), none⟩,
       ⟨some 41, .conv .u8 (.t 40), none⟩,
       ⟨some 7, .mv (.t 41), none⟩])
       (.seq
       (.reg [⟨some 8, .mv (.c (.int .i64 0)), none⟩])
       (.block 3
        (.loop [7, 0, 1, 6, 8, 5] f37l2)))))
       (.seq
       (.reg [⟨some 52, .bin .eql (.t 18) (.c (.int .i64 2)), none⟩,
       ⟨some 51, .mv (.t 52), none⟩])
       (.cond (.t 51)
        (.seq
        (.reg [⟨some 53, .mv (.t 5), none⟩,
        ⟨some 54, .len (.t 53), none⟩,
        ⟨some 55, .bin .gtr (.t 54) (.c (.int .i64 0)), none⟩])
        (.cond (.t 55)
         (.seq
         (.reg [⟨some 56, .mv (.t 0), none⟩,
         ⟨some 57, .mv (.t 5), none⟩,
         ⟨some 58, .len (.t 57), none⟩,
         ⟨some 59, .call 33 false [(.t 56), (.t 58)], none⟩,
         ⟨some 9, .mv (.t 59), none⟩])
         (.seq
         (.reg [⟨some 60, .mv (.t 0), none⟩,
         ⟨some 61, .call 33 false [(.t 60), (.c (.int .i64 20))], none⟩,
         ⟨some 10, .mv (.t 61), none⟩])
         (.seq
         (.reg [⟨some 11, .mv (.c (.int .i64 0)), none⟩])
         (.block 5
          (.loop [9, 0, 1, 10, 11, 5] f37l1)))))
         .skip))
        (.reg [⟨some 19, .mv (.t 5), none⟩,
        ⟨some 20, .mv (.t 0), none⟩,
        ⟨some 21, .call 33 false [(.t 20), (.c (.int .i64 26))], none⟩,
        ⟨some 22, .bin .add (.c (.int .i64 97)) (.t 21), none⟩,
        ⟨some 23, .conv .u8 (.t 22), none⟩,
        ⟨some 24, .buildSl 1 [.int .u8 0] [(0, (.t 23))], none⟩,
        ⟨some 25, .app 1 1 (.t 19) (.t 24), none⟩,
        ⟨some 5, .mv (.t 25), none⟩])))))))))))
def f37 : DFn := ⟨2, false, [.t 4],
 (.seq
 (.reg [⟨some 4, .mv (.c (.str [])), none⟩])
 (.seq
 (.reg [⟨some 12, .buildSl 1 [] [], none⟩,
 ⟨some 5, .mv (.t 12), none⟩])
 (.seq
 (.block 0
  (.loop [0, 1, 5] f37l3))
 (.seq
 (.reg [⟨some 84, .mv (.t 5), none⟩,
 ⟨some 85, .mv (.t 1), none⟩,
 ⟨some 86, .sub 1 (.t 84) none (some (.t 85)), none⟩,
 ⟨some 87, .b2s (.t 86), none⟩,
 ⟨some 4, .mv (.t 87), none⟩])
 .ret))))⟩
structure H37 (Γ : Tab) : Prop where
  e37 : Γ 37 = some (.code f37)
  c33 : H33 Γ
  c73 : H73 Γ
/- loop.example/g00751/spec.DrawCrc -/
def f15 : DFn := ⟨1, false, [.t 2],
 (.seq
 (.reg [⟨some 2, .mv (.c (.str [])), none⟩])
 (.seq
 (.reg [⟨some 4, .mv (.t 0), none⟩,
 ⟨some 5, .call 34 false [(.t 4)], none⟩,
 ⟨some 3, .mv (.t 5), none⟩])
 (.seq
 (.seq
 (.reg [⟨some 6, .mv (.t 3), none⟩,
 ⟨some 7, .call 35 false [(.t 6), (.c (.int .i64 3))], none⟩])
 (.cond (.t 7)
  (.seq
  (.reg [⟨some 8, .mv (.t 3), none⟩,
  ⟨some 9, .buildSl 1 [.str [], .str [], .str [], .str []] [(0, (.c (.str []))), (1, (.c (.str [97]))), (2, (.c (.str [49, 50, 51, 52, 53, 54, 55, 56, 57]))), (3, (.c (.str [0, 0])))], none⟩,
  ⟨some 10, .call 36 false [(.t 8), (.t 9)], none⟩,
  ⟨some 2, .mv (.t 10), none⟩])
  .ret)
  .skip))
 (.seq
 (.reg [⟨some 11, .mv (.t 3), none⟩,
 ⟨some 12, .mv (.t 3), none⟩,
 ⟨some 13, .call 33 false [(.t 12), (.c (.int .i64 9))], none⟩,
 ⟨some 14, .call 37 false [(.t 11), (.t 13)], none⟩,
 ⟨some 2, .mv (.t 14), none⟩])
 .ret))))⟩
structure H15 (Γ : Tab) : Prop where
  e15 : Γ 15 = some (.code f15)
  c33 : H33 Γ
  c34 : H34 Γ
  c35 : H35 Γ
  c36 : H36 Γ
  c37 : H37 Γ
/- loop.example/g00751/laws.FnCrc -/
def f12l1 : DCode :=
   (.seq
   (.seq
   (.reg [⟨some 19, .mv (.t 7), none⟩,
   ⟨some 20, .mv (.t 3), none⟩,
   ⟨some 21, .lens (.t 20), none⟩,
   ⟨some 22, .bin .lss (.t 19) (.t 21), none⟩])
   (.cond (.t 22)
    .skip
    (.exit 0)))
   (.seq
   (.block 1
    (.seq
    (.reg [⟨some 25, .mv (.t 5), none⟩,
    ⟨some 26, .mv (.t 7), none⟩,
    ⟨some 27, .mv (.t 0), none⟩,
    ⟨some 28, .mv (.t 7), none⟩,
    ⟨some 29, .bin .add (.t 28) (.c (.int .i64 1)), none⟩,
    ⟨some 30, .call 13 false [(.t 27), (.t 29)], none⟩,
    ⟨some 31, .conv .u8 (.t 30), none⟩,
    ⟨some 32, .iaddr 1 (.t 25) (.t 26), none⟩,
    ⟨none, .store 1 (.t 32) (.t 31), none⟩])
    (.seq
    (.reg [⟨some 33, .mv (.t 6), none⟩,
    ⟨some 34, .mv (.t 7), none⟩,
    ⟨some 35, .iaddr 1 (.t 33) (.t 34), none⟩,
    ⟨none, .store 1 (.t 35) (.c (.int .u8 0)), none⟩])
    (.any [⟨some 36, .mv (.t 4), none⟩,
    ⟨some 37, .mv (.t 7), none⟩,
    ⟨some 38, .mv (.t 3), none⟩,
    ⟨some 39, .mv (.t 7), none⟩,
    ⟨some 40, .sidx (.t 38) (.t 39), none⟩,
    ⟨some 41, .mv (.t 5), none⟩,
    ⟨some 42, .mv (.t 7), none⟩,
    ⟨some 43, .iaddr 1 (.t 41) (.t 42), none⟩,
    ⟨some 44, .load none (.t 43), none⟩,
    ⟨some 45, .bin .xor (.t 40) (.t 44), none⟩,
    ⟨some 46, .iaddr 1 (.t 36) (.t 37), none⟩]
    [⟨none, .store 1 (.t 46) (.t 45), none⟩]))))
   (.reg [⟨some 23, .mv (.t 7), none⟩,
   ⟨some 24, .bin .add (.t 23) (.c (.int .i64 1)), none⟩,
   ⟨some 7, .mv (.t 24), none⟩])))
def f12 : DFn := ⟨1, false, [.t 2],
 (.seq
 (.reg [⟨some 2, .mv (.c (.bool false)), none⟩])
 (.seq
 (.seq
 (.reg [⟨some 9, .mv (.t 0), none⟩,
 ⟨some 10, .call 14 false [(.t 9)], none⟩])
 (.cond (.t 10)
  (.seq
  (.reg [⟨some 2, .mv (.c (.bool true)), none⟩])
  .ret)
  .skip))
 (.seq
 (.reg [⟨some 11, .mv (.t 0), none⟩,
 ⟨some 12, .call 15 false [(.t 11)], none⟩,
 ⟨some 3, .mv (.t 12), none⟩])
 (.seq
 (.reg [⟨some 13, .mv (.t 3), none⟩,
 ⟨some 14, .s2b (.t 13), none⟩,
 ⟨some 15, .mv (.t 3), none⟩,
 ⟨some 16, .s2b (.t 15), none⟩,
 ⟨some 17, .mv (.t 3), none⟩,
 ⟨some 18, .s2b (.t 17), none⟩,
 ⟨some 4, .mv (.t 14), none⟩,
 ⟨some 5, .mv (.t 16), none⟩,
 ⟨some 6, .mv (.t 18), none⟩])
 (.seq
 (.seq
 (.reg [⟨some 7, .mv (.c (.int .i64 0)), none⟩])
 (.block 0
  (.loop [5, 3, 4, 6, 0, 7] f12l1)))
 (.seq
 (.reg [⟨some 47, .mv (.t 3), none⟩,
 ⟨some 48, .call 2 false [(.t 47)], none⟩,
 ⟨some 8, .mv (.t 48), none⟩])
 (.seq
 (.any [⟨some 49, .mv (.t 8), none⟩,
 ⟨some 50, .mv (.t 3), none⟩,
 ⟨some 51, .call 3 false [(.t 50)], none⟩,
 ⟨some 52, .bin .eql (.t 49) (.t 51), none⟩,
 ⟨some 53, .mv (.t 52), none⟩,
 ⟨some 54, .mv (.t 8), some (53, true)⟩,
 ⟨some 55, .bin .geq (.t 54) (.c (.int .i64 0)), some (53, true)⟩,
 ⟨some 56, .pick (.t 53) (.t 55) (.c (.bool false)), none⟩,
 ⟨some 57, .mv (.t 56), none⟩,
 ⟨some 58, .mv (.t 8), some (57, true)⟩,
 ⟨some 59, .bin .leq (.t 58) (.c (.int .i64 4294967295)), some (57, true)⟩,
 ⟨some 60, .pick (.t 57) (.t 59) (.c (.bool false)), none⟩,
 ⟨some 61, .mv (.t 60), none⟩,
 ⟨some 62, .mv (.t 4), some (61, true)⟩,
 ⟨some 63, .b2s (.t 62), some (61, true)⟩,
 ⟨some 64, .call 2 false [(.t 63)], some (61, true)⟩,
 ⟨some 65, .mv (.t 8), some (61, true)⟩,
 ⟨some 66, .mv (.t 5), some (61, true)⟩,
 ⟨some 67, .b2s (.t 66), some (61, true)⟩,
 ⟨some 68, .call 2 false [(.t 67)], some (61, true)⟩,
 ⟨some 69, .bin .xor (.t 65) (.t 68), some (61, true)⟩,
 ⟨some 70, .mv (.t 6), some (61, true)⟩,
 ⟨some 71, .b2s (.t 70), some (61, true)⟩,
 ⟨some 72, .call 2 false [(.t 71)], some (61, true)⟩,
 ⟨some 73, .bin .xor (.t 69) (.t 72), some (61, true)⟩,
 ⟨some 74, .bin .eql (.t 64) (.t 73), some (61, true)⟩,
 ⟨some 75, .pick (.t 61) (.t 74) (.c (.bool false)), none⟩,
 ⟨some 76, .mv (.t 75), none⟩,
 ⟨some 77, .call 2 false [(.c (.str [49, 50, 51, 52, 53, 54, 55, 56, 57]))], some (76, true)⟩,
 ⟨some 78, .bin .eql (.t 77) (.c (.int .i64 3421780262)), some (76, true)⟩,
 ⟨some 79, .pick (.t 76) (.t 78) (.c (.bool false)), none⟩,
 ⟨some 2, .mv (.t 79), none⟩]
 [])
 .ret)))))))⟩
structure H12 (Γ : Tab) : Prop where
  e12 : Γ 12 = some (.code f12)
  c2 : H2 Γ
  c3 : H3 Γ
  c13 : H13 Γ
  c14 : H14 Γ
  c15 : H15 Γ
/- strings.Index -/
def f110 : DFn := ⟨2, false, [.t 4],
 (.seq
 (.reg [⟨some 4, .mv (.c (.int .i64 0)), none⟩])
 (.seq
 (.reg [⟨some 5, .mv (.t 0), none⟩,
 ⟨some 6, .mv (.t 1), none⟩,
 ⟨some 7, .call 115 false [(.t 5), (.t 6)], none⟩,
 ⟨some 4, .mv (.t 7), none⟩])
 .ret))⟩
structure H110 (Γ : Tab) : Prop where
  e110 : Γ 110 = some (.code f110)
/- strings.Contains -/
def f83 : DFn := ⟨2, false, [.t 4],
 (.seq
 (.reg [⟨some 4, .mv (.c (.bool false)), none⟩])
 (.seq
 (.reg [⟨some 5, .mv (.t 0), none⟩,
 ⟨some 6, .mv (.t 1), none⟩,
 ⟨some 7, .call 110 false [(.t 5), (.t 6)], none⟩,
 ⟨some 8, .bin .geq (.t 7) (.c (.int .i64 0)), none⟩,
 ⟨some 4, .mv (.t 8), none⟩])
 .ret))⟩
structure H83 (Γ : Tab) : Prop where
  e83 : Γ 83 = some (.code f83)
  c110 : H110 Γ
/- loop.example/g00751/impl.NameOk -/
def f44 : DFn := ⟨1, false, [.t 2],
 (.seq
 (.reg [⟨some 2, .mv (.c (.bool false)), none⟩])
 (.seq
 (.reg [⟨some 3, .mv (.t 0), none⟩,
 ⟨some 4, .lens (.t 3), none⟩,
 ⟨some 5, .call 29 false [(.t 4), (.c (.int .i64 1)), (.c (.int .i64 40))], none⟩,
 ⟨some 6, .mv (.t 5), none⟩,
 ⟨some 7, .mv (.t 0), some (6, true)⟩,
 ⟨some 8, .call 83 false [(.t 7), (.c (.str [0]))], some (6, true)⟩,
 ⟨some 9, .un .not (.t 8), some (6, true)⟩,
 ⟨some 10, .pick (.t 6) (.t 9) (.c (.bool false)), none⟩,
 ⟨some 2, .mv (.t 10), none⟩])
 .ret))⟩
structure H44 (Γ : Tab) : Prop where
  e44 : Γ 44 = some (.code f44)
  c29 : H29 Γ
  c83 : H83 Γ
/- loop.example/g00751/impl.TypeOk -/
def f18 : DFn := ⟨1, false, [.t 2],
 (.seq
 (.reg [⟨some 1, .box (.t 0), none⟩,
 ⟨some 2, .mv (.c (.bool false)), none⟩])
 (.seq
 (.seq
 (.reg [⟨some 3, .faddr 0 (.t 1), none⟩,
 ⟨some 4, .load none (.t 3), none⟩])
 (.block 0
  (.seq
  (.seq
  (.reg [⟨some 6, .bin .eql (.t 4) (.c (.int .i64 0)), none⟩,
  ⟨some 5, .mv (.t 6), none⟩])
  (.cond (.t 5)
   .skip
   (.seq
   (.reg [⟨some 7, .bin .eql (.t 4) (.c (.int .i64 1)), none⟩,
   ⟨some 5, .mv (.t 7), none⟩])
   (.cond (.t 5)
    .skip
    (.reg [⟨some 8, .bin .eql (.t 4) (.c (.int .i64 2)), none⟩,
    ⟨some 5, .mv (.t 8), none⟩])))))
  (.cond (.t 5)
   (.seq
   (.reg [⟨some 9, .faddr 1 (.t 1), none⟩,
   ⟨some 10, .load none (.t 9), none⟩,
   ⟨some 11, .bin .eql (.t 10) (.c (.int .i64 0)), none⟩,
   ⟨some 12, .mv (.t 11), none⟩,
   ⟨some 13, .faddr 2 (.t 1), some (12, true)⟩,
   ⟨some 14, .load none (.t 13), some (12, true)⟩,
   ⟨some 15, .bin .eql (.t 14) (.c (.str [])), some (12, true)⟩,
   ⟨some 16, .pick (.t 12) (.t 15) (.c (.bool false)), none⟩,
   ⟨some 2, .mv (.t 16), none⟩])
   .ret)
   (.seq
   (.reg [⟨some 18, .bin .eql (.t 4) (.c (.int .i64 3)), none⟩,
   ⟨some 17, .mv (.t 18), none⟩])
   (.cond (.t 17)
    (.seq
    (.reg [⟨some 19, .faddr 1 (.t 1), none⟩,
    ⟨some 20, .load none (.t 19), none⟩,
    ⟨some 21, .call 29 false [(.t 20), (.c (.int .i64 1)), (.c (.int .i64 100))], none⟩,
    ⟨some 22, .mv (.t 21), none⟩,
    ⟨some 23, .faddr 2 (.t 1), some (22, true)⟩,
    ⟨some 24, .load none (.t 23), some (22, true)⟩,
    ⟨some 25, .bin .eql (.t 24) (.c (.str [])), some (22, true)⟩,
    ⟨some 26, .pick (.t 22) (.t 25) (.c (.bool false)), none⟩,
    ⟨some 2, .mv (.t 26), none⟩])
    .ret)
    (.seq
    (.reg [⟨some 28, .bin .eql (.t 4) (.c (.int .i64 4)), none⟩,
    ⟨some 27, .mv (.t 28), none⟩])
    (.cond (.t 27)
     (.seq
     (.reg [⟨some 29, .faddr 1 (.t 1), none⟩,
     ⟨some 30, .load none (.t 29), none⟩,
     ⟨some 31, .bin .eql (.t 30) (.c (.int .i64 0)), none⟩,
     ⟨some 32, .mv (.t 31), none⟩,
     ⟨some 33, .faddr 2 (.t 1), some (32, true)⟩,
     ⟨some 34, .load none (.t 33), some (32, true)⟩,
     ⟨some 35, .call 44 false [(.t 34)], some (32, true)⟩,
     ⟨some 36, .pick (.t 32) (.t 35) (.c (.bool false)), none⟩,
     ⟨some 2, .mv (.t 36), none⟩])
     .ret)
     .skip))))))))
 (.seq
 (.reg [⟨some 2, .mv (.c (.bool false)), none⟩])
 .ret)))⟩
structure H18 (Γ : Tab) : Prop where
  e18 : Γ 18 = some (.code f18)
  c29 : H29 Γ
  c44 : H44 Γ
/- loop.example/g00751/impl.isLabel$1 -/
def f78 : DFn := ⟨2, false, [.t 3],
 (.seq
 (.reg [⟨some 2, .box (.t 0), none⟩,
 ⟨some 3, .mv (.c (.bool false)), none⟩])
 (.seq
 (.reg [⟨some 4, .faddr 0 (.t 2), none⟩,
 ⟨some 5, .load none (.t 4), none⟩,
 ⟨some 6, .load none (.t 1), none⟩,
 ⟨some 7, .bin .eql (.t 5) (.t 6), none⟩,
 ⟨some 3, .mv (.t 7), none⟩])
 .ret))⟩
structure H78 (Γ : Tab) : Prop where
  e78 : Γ 78 = some (.code f78)
/- slices.Index[[]string,string] -/
def f109l1 : DCode :=
   (.seq
   (.reg [⟨some 9, .bin .lss (.t 8) (.t 7), none⟩])
   (.seq
   (.cond (.t 9)
    .skip
    (.exit 0))
   (.seq
   (.block 1
    (.seq
    (.reg [⟨some 10, .mv (.t 8), none⟩,
    ⟨some 5, .mv (.t 10), none⟩])
    (.seq
    (.reg [⟨some 11, .mv (.t 1), none⟩,
    ⟨some 12, .mv (.t 0), none⟩,
    ⟨some 13, .mv (.t 5), none⟩,
    ⟨some 14, .iaddr 1 (.t 12) (.t 13), none⟩,
    ⟨some 15, .load none (.t 14), none⟩,
    ⟨some 16, .bin .eql (.t 11) (.t 15), none⟩])
    (.cond (.t 16)
     (.seq
     (.reg [⟨some 17, .mv (.t 5), none⟩,
     ⟨some 4, .mv (.t 17), none⟩])
     .ret)
     .skip))))
   (.reg [⟨some 18, .bin .add (.t 8) (.c (.int .i64 1)), none⟩,
   ⟨some 8, .mv (.t 18), none⟩]))))
def f109 : DFn := ⟨2, false, [.t 4],
 (.seq
 (.reg [⟨some 4, .mv (.c (.int .i64 0)), none⟩])
 (.seq
 (.seq
 (.reg [⟨some 6, .mv (.t 0), none⟩,
 ⟨some 7, .len (.t 6), none⟩,
 ⟨some 8, .mv (.c (.int .i64 0)), none⟩])
 (.block 0
  (.loop [0, 1, 7, 8] f109l1)))
 (.seq
 (.reg [⟨some 4, .mv (.c (.int .i64 (-1))), none⟩])
 .ret)))⟩
structure H109 (Γ : Tab) : Prop where
  e109 : Γ 109 = some (.code f109)
/- slices.Contains[[]string,string] -/
def f79 : DFn := ⟨2, false, [.t 4],
 (.seq
 (.reg [⟨some 4, .mv (.c (.bool false)), none⟩])
 (.seq
 (.reg [⟨some 5, .mv (.t 0), none⟩,
 ⟨some 6, .mv (.t 1), none⟩,
 ⟨some 7, .call 109 false [(.t 5), (.t 6)], none⟩,
 ⟨some 8, .bin .geq (.t 7) (.c (.int .i64 0)), none⟩,
 ⟨some 4, .mv (.t 8), none⟩])
 .ret))⟩
structure H79 (Γ : Tab) : Prop where
  e79 : Γ 79 = some (.code f79)
  c109 : H109 Γ
/- slices.IndexFunc[[]loop.example/g00751/impl.Labels,loop.example/g00751/impl.Labels] -/
def f80l1 : DCode :=
   (.seq
   (.reg [⟨some 9, .bin .lss (.t 8) (.t 7), none⟩])
   (.seq
   (.cond (.t 9)
    .skip
    (.exit 0))
   (.seq
   (.block 1
    (.seq
    (.reg [⟨some 10, .mv (.t 8), none⟩,
    ⟨some 5, .mv (.t 10), none⟩])
    (.seq
    (.reg [⟨some 11, .mv (.t 1), none⟩,
    ⟨some 12, .mv (.t 0), none⟩,
    ⟨some 13, .mv (.t 5), none⟩,
    ⟨some 14, .iaddr 2 (.t 12) (.t 13), none⟩,
    ⟨some 15, .load (some 2) (.t 14), none⟩,
    ⟨some 16, .callv (.t 11) [(.t 15)], none⟩])
    (.cond (.t 16)
     (.seq
     (.reg [⟨some 17, .mv (.t 5), none⟩,
     ⟨some 4, .mv (.t 17), none⟩])
     .ret)
     .skip))))
   (.reg [⟨some 18, .bin .add (.t 8) (.c (.int .i64 1)), none⟩,
   ⟨some 8, .mv (.t 18), none⟩]))))
def f80 : DFn := ⟨2, false, [.t 4],
 (.seq
 (.reg [⟨some 4, .mv (.c (.int .i64 0)), none⟩])
 (.seq
 (.seq
 (.reg [⟨some 6, .mv (.t 0), none⟩,
 ⟨some 7, .len (.t 6), none⟩,
 ⟨some 8, .mv (.c (.int .i64 0)), none⟩])
 (.block 0
  (.loop [0, 1, 7, 8] f80l1)))
 (.seq
 (.reg [⟨some 4, .mv (.c (.int .i64 (-1))), none⟩])
 .ret)))⟩
structure H80 (Γ : Tab) : Prop where
  e80 : Γ 80 = some (.code f80)
/- loop.example/g00751/impl.isLabel -/
def f41 : DFn := ⟨3, false, [.t 6],
 (.seq
 (.reg [⟨some 4, .box (.t 1), none⟩,
 ⟨some 6, .mv (.c (.bool false)), none⟩])
 (.seq
 (.reg [⟨some 8, .mv (.t 0), none⟩,
 ⟨some 9, .mkfn 78 [(.t 4)], none⟩,
 ⟨some 10, .call 80 false [(.t 8), (.t 9)], none⟩,
 ⟨some 7, .mv (.t 10), none⟩])
 (.seq
 (.reg [⟨some 11, .mv (.t 7), none⟩,
 ⟨some 12, .bin .geq (.t 11) (.c (.int .i64 0)), none⟩,
 ⟨some 13, .mv (.t 12), none⟩,
 ⟨some 14, .mv (.t 0), some (13, true)⟩,
 ⟨some 15, .mv (.t 7), some (13, true)⟩,
 ⟨some 16, .iaddr 2 (.t 14) (.t 15), some (13, true)⟩,
 ⟨some 17, .faddr 1 (.t 16), some (13, true)⟩,
 ⟨some 18, .load none (.t 17), some (13, true)⟩,
 ⟨some 19, .mv (.t 2), some (13, true)⟩,
 ⟨some 20, .call 79 false [(.t 18), (.t 19)], some (13, true)⟩,
 ⟨some 21, .pick (.t 13) (.t 20) (.c (.bool false)), none⟩,
 ⟨some 6, .mv (.t 21), none⟩])
 .ret)))⟩
structure H41 (Γ : Tab) : Prop where
  e41 : Γ 41 = some (.code f41)
  c78 : H78 Γ
  c79 : H79 Γ
  c80 : H80 Γ
/- loop.example/g00751/impl.Holds -/
def f17 : DFn := ⟨3, false, [.t 6],
 (.seq
 (.reg [⟨some 3, .box (.t 0), none⟩,
 ⟨some 4, .box (.t 1), none⟩,
 ⟨some 6, .mv (.c (.bool false)), none⟩])
 (.seq
 (.seq
 (.reg [⟨some 7, .load (some 3) (.t 3), none⟩,
 ⟨some 8, .call 5 false [(.t 7)], none⟩,
 ⟨some 9, .un .not (.t 8), none⟩,
 ⟨some 10, .mv (.t 9), none⟩,
 ⟨some 11, .load (some 3) (.t 4), some (10, false)⟩,
 ⟨some 12, .call 18 false [(.t 11)], some (10, false)⟩,
 ⟨some 13, .un .not (.t 12), some (10, false)⟩,
 ⟨some 14, .pick (.t 10) (.c (.bool true)) (.t 13), none⟩])
 (.cond (.t 14)
  (.seq
  (.reg [⟨some 6, .mv (.c (.bool false)), none⟩])
  .ret)
  .skip))
 (.seq
 (.seq
 (.reg [⟨some 15, .faddr 0 (.t 3), none⟩,
 ⟨some 16, .load none (.t 15), none⟩])
 (.block 0
  (.seq
  (.reg [⟨some 18, .bin .eql (.t 16) (.c (.int .i64 0)), none⟩,
  ⟨some 17, .mv (.t 18), none⟩])
  (.cond (.t 17)
   (.seq
   (.reg [⟨some 6, .mv (.c (.bool true)), none⟩])
   .ret)
   (.seq
   (.reg [⟨some 20, .bin .eql (.t 16) (.c (.int .i64 1)), none⟩,
   ⟨some 19, .mv (.t 20), none⟩])
   (.cond (.t 19)
    (.seq
    (.reg [⟨some 21, .faddr 0 (.t 4), none⟩,
    ⟨some 22, .load none (.t 21), none⟩,
    ⟨some 23, .bin .eql (.t 22) (.c (.int .i64 0)), none⟩,
    ⟨some 6, .mv (.t 23), none⟩])
    .ret)
    (.seq
    (.reg [⟨some 25, .bin .eql (.t 16) (.c (.int .i64 3)), none⟩,
    ⟨some 24, .mv (.t 25), none⟩])
    (.cond (.t 24)
     (.seq
     (.reg [⟨some 26, .faddr 0 (.t 4), none⟩,
     ⟨some 27, .load none (.t 26), none⟩,
     ⟨some 28, .bin .eql (.t 27) (.c (.int .i64 2)), none⟩,
     ⟨some 6, .mv (.t 28), none⟩])
     .ret)
     .skip))))))))
 (.seq
 (.seq
 (.reg [⟨some 29, .faddr 0 (.t 4), none⟩,
 ⟨some 30, .load none (.t 29), none⟩])
 (.block 1
  (.seq
  (.reg [⟨some 32, .bin .eql (.t 30) (.c (.int .i64 1)), none⟩,
  ⟨some 31, .mv (.t 32), none⟩])
  (.cond (.t 31)
   (.seq
   (.reg [⟨some 6, .mv (.c (.bool true)), none⟩])
   .ret)
   (.seq
   (.reg [⟨some 34, .bin .eql (.t 30) (.c (.int .i64 3)), none⟩,
   ⟨some 33, .mv (.t 34), none⟩])
   (.cond (.t 33)
    (.seq
    (.reg [⟨some 35, .faddr 2 (.t 3), none⟩,
    ⟨some 36, .load none (.t 35), none⟩,
    ⟨some 37, .lens (.t 36), none⟩,
    ⟨some 38, .faddr 1 (.t 4), none⟩,
    ⟨some 39, .load none (.t 38), none⟩,
    ⟨some 40, .bin .leq (.t 37) (.t 39), none⟩,
    ⟨some 6, .mv (.t 40), none⟩])
    .ret)
    (.seq
    (.reg [⟨some 42, .bin .eql (.t 30) (.c (.int .i64 4)), none⟩,
    ⟨some 41, .mv (.t 42), none⟩])
    (.cond (.t 41)
     (.seq
     (.reg [⟨some 43, .mv (.t 2), none⟩,
     ⟨some 44, .faddr 2 (.t 4), none⟩,
     ⟨some 45, .load none (.t 44), none⟩,
     ⟨some 46, .faddr 2 (.t 3), none⟩,
     ⟨some 47, .load none (.t 46), none⟩,
     ⟨some 48, .call 41 false [(.t 43), (.t 45), (.t 47)], none⟩,
     ⟨some 6, .mv (.t 48), none⟩])
     .ret)
     .skip))))))))
 (.seq
 (.reg [⟨some 6, .mv (.c (.bool false)), none⟩])
 .ret)))))⟩
structure H17 (Γ : Tab) : Prop where
  e17 : Γ 17 = some (.code f17)
  c5 : H5 Γ
  c18 : H18 Γ
  c41 : H41 Γ
/- loop.example/g00751/spec.l01PickInt -/
def f74 : DFn := ⟨2, false, [.t 4],
 (.seq
 (.reg [⟨some 4, .mv (.c (.int .i64 0)), none⟩])
 (.seq
 (.reg [⟨some 5, .mv (.t 1), none⟩,
 ⟨some 6, .mv (.t 0), none⟩,
 ⟨some 7, .mv (.t 1), none⟩,
 ⟨some 8, .len (.t 7), none⟩,
 ⟨some 9, .call 33 false [(.t 6), (.t 8)], none⟩,
 ⟨some 10, .iaddr 1 (.t 5) (.t 9), none⟩,
 ⟨some 11, .load none (.t 10), none⟩,
 ⟨some 4, .mv (.t 11), none⟩])
 .ret))⟩
structure H74 (Γ : Tab) : Prop where
  e74 : Γ 74 = some (.code f74)
  c33 : H33 Γ
/- loop.example/g00751/spec.l03Odd -/
def f76 : DFn := ⟨1, false, [.t 2],
 (.seq
 (.reg [⟨some 2, .mv (.c (.str [])), none⟩])
 (.seq
 (.reg [⟨some 3, .mv (.t 0), none⟩,
 ⟨some 4, .buildSl 1 [.str [], .str [], .str [], .str [], .str [], .str [], .str [], .str [], .str [], .str [], .str [], .str []] [(0, (.c (.str []))), (1, (.c (.str [97]))), (2, (.c (.str [65]))), (3, (.c (.str [49, 97]))), (4, (.c (.str [97, 34, 98]))), (5, (.c (.str [99, 97, 102, 195, 169]))), (6, (.c (.str [115, 101, 108, 101, 99, 116]))), (7, (.c (.str [97, 97, 97, 97, 97, 97, 97, 97, 97, 97, 97, 97, 97, 97, 97, 97, 97, 97, 97, 97, 97, 97, 97, 97, 97, 97, 97, 97, 97, 97, 97, 97, 97, 97, 97, 97, 97, 97, 97, 97]))), (8, (.c (.str [97, 97, 97, 97, 97, 97, 97, 97, 97, 97, 97, 97, 97, 97, 97, 97, 97, 97, 97, 97, 97, 97, 97, 97, 97, 97, 97, 97, 97, 97, 97, 97, 97, 97, 97, 97, 97, 97, 97, 97, 97]))), (9, (.c (.str [97, 0]))), (10, (.c (.str [95]))), (11, (.c (.str [32])))], none⟩,
 ⟨some 5, .call 36 false [(.t 3), (.t 4)], none⟩,
 ⟨some 2, .mv (.t 5), none⟩])
 .ret))⟩
structure H76 (Γ : Tab) : Prop where
  e76 : Γ 76 = some (.code f76)
  c36 : H36 Γ
/- loop.example/g00751/spec.l03Type -/
def f77 : DFn := ⟨1, false, [.cell 2 (some 3)],
 (.seq
 (.reg [⟨some 2, .alloc [.int .i64 0, .int .i64 0, .str []], none⟩])
 (.seq
 (.seq
 (.reg [⟨some 3, .mv (.t 0), none⟩,
 ⟨some 4, .call 33 false [(.t 3), (.c (.int .i64 6))], none⟩])
 (.block 0
  (.seq
  (.reg [⟨some 6, .bin .eql (.t 4) (.c (.int .i64 0)), none⟩,
  ⟨some 5, .mv (.t 6), none⟩])
  (.cond (.t 5)
   (.seq
   (.reg [⟨some 7, .mv (.t 0), none⟩,
   ⟨some 8, .buildSl 1 [.int .i64 0, .int .i64 0, .int .i64 0] [(0, (.c (.int .i64 1))), (1, (.c (.int .i64 8))), (2, (.c (.int .i64 100)))], none⟩,
   ⟨some 9, .call 74 false [(.t 7), (.t 8)], none⟩,
   ⟨some 10, .build [.int .i64 0, .int .i64 0, .str []] [(0, 1, (.c (.int .i64 3))), (1, 1, (.t 9))], none⟩,
   ⟨none, .store 3 (.t 2) (.t 10), none⟩])
   .ret)
   (.seq
   (.reg [⟨some 12, .bin .eql (.t 4) (.c (.int .i64 1)), none⟩,
   ⟨some 11, .mv (.t 12), none⟩])
   (.cond (.t 11)
    (.seq
    (.reg [⟨some 13, .mv (.t 0), none⟩,
    ⟨some 14, .buildSl 1 [.str [], .str []] [(0, (.c (.str [109, 111, 111, 100]))), (1, (.c (.str [115, 105, 122, 101])))], none⟩,
    ⟨some 15, .call 36 false [(.t 13), (.t 14)], none⟩,
    ⟨some 16, .build [.int .i64 0, .int .i64 0, .str []] [(0, 1, (.c (.int .i64 4))), (2, 1, (.t 15))], none⟩,
    ⟨none, .store 3 (.t 2) (.t 16), none⟩])
    .ret)
    (.seq
    (.reg [⟨some 18, .bin .eql (.t 4) (.c (.int .i64 2)), none⟩,
    ⟨some 17, .mv (.t 18), none⟩])
    (.cond (.t 17)
     (.seq
     (.reg [⟨some 19, .build [.int .i64 0, .int .i64 0, .str []] [(0, 1, (.c (.int .i64 2)))], none⟩,
     ⟨none, .store 3 (.t 2) (.t 19), none⟩])
     .ret)
     (.seq
     (.reg [⟨some 21, .bin .eql (.t 4) (.c (.int .i64 3)), none⟩,
     ⟨some 20, .mv (.t 21), none⟩])
     (.cond (.t 20)
      (.seq
      (.reg [⟨some 22, .build [.int .i64 0, .int .i64 0, .str []] [(0, 1, (.c (.int .i64 1)))], none⟩,
      ⟨none, .store 3 (.t 2) (.t 22), none⟩])
      .ret)
      .skip))))))))))
 (.seq
 (.reg [⟨some 23, .build [.int .i64 0, .int .i64 0, .str []] [], none⟩,
 ⟨none, .store 3 (.t 2) (.t 23), none⟩])
 .ret)))⟩
structure H77 (Γ : Tab) : Prop where
  e77 : Γ 77 = some (.code f77)
  c33 : H33 Γ
  c36 : H36 Γ
  c74 : H74 Γ
/- loop.example/g00751/spec.l03AnyType -/
def f38 : DFn := ⟨1, false, [.cell 2 (some 3)],
 (.seq
 (.reg [⟨some 2, .alloc [.int .i64 0, .int .i64 0, .str []], none⟩])
 (.seq
 (.reg [⟨some 4, .mv (.t 0), none⟩,
 ⟨some 5, .call 77 false [(.t 4)], none⟩,
 ⟨some 3, .alloc [.int .i64 0, .int .i64 0, .str []], none⟩,
 ⟨none, .store 3 (.t 3) (.t 5), none⟩])
 (.seq
 (.seq
 (.reg [⟨some 6, .mv (.t 0), none⟩,
 ⟨some 7, .call 33 false [(.t 6), (.c (.int .i64 10))], none⟩])
 (.block 0
  (.seq
  (.reg [⟨some 9, .bin .eql (.t 7) (.c (.int .i64 0)), none⟩,
  ⟨some 8, .mv (.t 9), none⟩])
  (.cond (.t 8)
   (.reg [⟨some 10, .mv (.t 0), none⟩,
   ⟨some 11, .call 33 false [(.t 10), (.c (.int .i64 7))], none⟩,
   ⟨some 12, .bin .sub (.t 11) (.c (.int .i64 1)), none⟩,
   ⟨some 13, .faddr 0 (.t 3), none⟩,
   ⟨none, .store 1 (.t 13) (.t 12), none⟩])
   (.seq
   (.reg [⟨some 15, .bin .eql (.t 7) (.c (.int .i64 1)), none⟩,
   ⟨some 14, .mv (.t 15), none⟩])
   (.cond (.t 14)
    (.reg [⟨some 16, .mv (.t 0), none⟩,
    ⟨some 17, .buildSl 1 [.int .i64 0, .int .i64 0, .int .i64 0, .int .i64 0] [(0, (.c (.int .i64 0))), (1, (.c (.int .i64 101))), (2, (.c (.int .i64 (-1)))), (3, (.c (.int .i64 5)))], none⟩,
    ⟨some 18, .call 74 false [(.t 16), (.t 17)], none⟩,
    ⟨some 19, .faddr 1 (.t 3), none⟩,
    ⟨none, .store 1 (.t 19) (.t 18), none⟩])
    (.seq
    (.reg [⟨some 21, .bin .eql (.t 7) (.c (.int .i64 2)), none⟩,
    ⟨some 20, .mv (.t 21), none⟩])
    (.cond (.t 20)
     (.reg [⟨some 22, .mv (.t 0), none⟩,
     ⟨some 23, .call 76 false [(.t 22)], none⟩,
     ⟨some 24, .faddr 2 (.t 3), none⟩,
     ⟨none, .store 1 (.t 24) (.t 23), none⟩])
     .skip))))))))
 (.seq
 (.reg [⟨some 25, .load (some 3) (.t 3), none⟩,
 ⟨none, .store 3 (.t 2) (.t 25), none⟩])
 .ret))))⟩
structure H38 (Γ : Tab) : Prop where
  e38 : Γ 38 = some (.code f38)
  c33 : H33 Γ
  c74 : H74 Γ
  c76 : H76 Γ
  c77 : H77 Γ
/- loop.example/g00751/spec.l05Enums -/
def f39 : DFn := ⟨0, false, [.t 0],
 (.seq
 (.reg [⟨some 0, .mv (.c .nils), none⟩])
 (.seq
 (.reg [⟨some 1, .buildSl 1 [.str [], .str []] [(0, (.c (.str [104, 97, 112, 112, 121]))), (1, (.c (.str [115, 97, 100])))], none⟩,
 ⟨some 2, .build [.str [], .nils] [(0, 1, (.c (.str [109, 111, 111, 100]))), (1, 1, (.t 1))], none⟩,
 ⟨some 3, .buildSl 1 [.str [], .str []] [(0, (.c (.str [97]))), (1, (.c (.str [105, 116, 39, 115])))], none⟩,
 ⟨some 4, .build [.str [], .nils] [(0, 1, (.c (.str [115, 105, 122, 101]))), (1, 1, (.t 3))], none⟩,
 ⟨some 5, .buildSl 2 [.agg [.str [], .nils], .agg [.str [], .nils]] [(0, (.t 2)), (1, (.t 4))], none⟩,
 ⟨some 0, .mv (.t 5), none⟩])
 .ret))⟩
structure H39 (Γ : Tab) : Prop where
  e39 : Γ 39 = some (.code f39)
/- loop.example/g00751/spec.l16Bool -/
def f108 : DFn := ⟨1, false, [.cell 2 (some 3)],
 (.seq
 (.reg [⟨some 2, .alloc [.int .i64 0, .int .i64 0, .str []], none⟩])
 (.seq
 (.seq
 (.reg [⟨some 3, .mv (.t 0), none⟩])
 (.cond (.t 3)
  (.seq
  (.reg [⟨some 4, .build [.int .i64 0, .int .i64 0, .str []] [(0, 1, (.c (.int .i64 3))), (1, 1, (.c (.int .i64 1)))], none⟩,
  ⟨none, .store 3 (.t 2) (.t 4), none⟩])
  .ret)
  .skip))
 (.seq
 (.reg [⟨some 5, .build [.int .i64 0, .int .i64 0, .str []] [(0, 1, (.c (.int .i64 3)))], none⟩,
 ⟨none, .store 3 (.t 2) (.t 5), none⟩])
 .ret)))⟩
structure H108 (Γ : Tab) : Prop where
  e108 : Γ 108 = some (.code f108)
/- loop.example/g00751/spec.l16Value -/
def f75 : DFn := ⟨1, false, [.cell 2 (some 3)],
 (.seq
 (.reg [⟨some 2, .alloc [.int .i64 0, .int .i64 0, .str []], none⟩])
 (.seq
 (.seq
 (.reg [⟨some 3, .mv (.t 0), none⟩,
 ⟨some 4, .call 33 false [(.t 3), (.c (.int .i64 6))], none⟩])
 (.block 0
  (.seq
  (.reg [⟨some 6, .bin .eql (.t 4) (.c (.int .i64 0)), none⟩,
  ⟨some 5, .mv (.t 6), none⟩])
  (.cond (.t 5)
   (.seq
   (.reg [⟨some 7, .build [.int .i64 0, .int .i64 0, .str []] [], none⟩,
   ⟨none, .store 3 (.t 2) (.t 7), none⟩])
   .ret)
   (.seq
   (.reg [⟨some 9, .bin .eql (.t 4) (.c (.int .i64 1)), none⟩,
   ⟨some 8, .mv (.t 9), none⟩])
   (.cond (.t 8)
    (.seq
    (.reg [⟨some 10, .mv (.t 0), none⟩,
    ⟨some 11, .call 35 false [(.t 10), (.c (.int .i64 2))], none⟩,
    ⟨some 12, .call 108 false [(.t 11)], none⟩,
    ⟨none, .store 3 (.t 2) (.t 12), none⟩])
    .ret)
    (.seq
    (.reg [⟨some 14, .bin .eql (.t 4) (.c (.int .i64 2)), none⟩,
    ⟨some 13, .mv (.t 14), none⟩])
    (.cond (.t 13)
     (.seq
     (.reg [⟨some 15, .mv (.t 0), none⟩,
     ⟨some 16, .buildSl 1 [.str [], .str [], .str [], .str [], .str [], .str []] [(0, (.c (.str []))), (1, (.c (.str [104, 97, 112, 112, 121]))), (2, (.c (.str [115, 97, 100]))), (3, (.c (.str [120]))), (4, (.c (.str [105, 116, 39, 115]))), (5, (.c (.str [116, 111, 111, 32, 108, 111, 110, 103, 32, 102, 111, 114, 32, 105, 116])))], none⟩,
     ⟨some 17, .call 36 false [(.t 15), (.t 16)], none⟩,
     ⟨some 18, .build [.int .i64 0, .int .i64 0, .str []] [(0, 1, (.c (.int .i64 2))), (2, 1, (.t 17))], none⟩,
     ⟨none, .store 3 (.t 2) (.t 18), none⟩])
     .ret)
     .skip))))))))
 (.seq
 (.reg [⟨some 19, .mv (.t 0), none⟩,
 ⟨some 20, .buildSl 1 [.int .i64 0, .int .i64 0, .int .i64 0, .int .i64 0, .int .i64 0, .int .i64 0, .int .i64 0] [(0, (.c (.int .i64 0))), (1, (.c (.int .i64 1))), (2, (.c (.int .i64 (-1)))), (3, (.c (.int .i64 7))), (4, (.c (.int .i64 999999999999))), (5, (.c (.int .i64 (-999999999999)))), (6, (.c (.int .i64 1000000)))], none⟩,
 ⟨some 21, .call 74 false [(.t 19), (.t 20)], none⟩,
 ⟨some 22, .build [.int .i64 0, .int .i64 0, .str []] [(0, 1, (.c (.int .i64 1))), (1, 1, (.t 21))], none⟩,
 ⟨none, .store 3 (.t 2) (.t 22), none⟩])
 .ret)))⟩
structure H75 (Γ : Tab) : Prop where
  e75 : Γ 75 = some (.code f75)
  c33 : H33 Γ
  c35 : H35 Γ
  c36 : H36 Γ
  c74 : H74 Γ
  c108 : H108 Γ
/- loop.example/g00751/spec.l16Odd -/
def f40 : DFn := ⟨1, false, [.cell 2 (some 3)],
 (.seq
 (.reg [⟨some 2, .alloc [.int .i64 0, .int .i64 0, .str []], none⟩])
 (.seq
 (.reg [⟨some 4, .mv (.t 0), none⟩,
 ⟨some 5, .call 75 false [(.t 4)], none⟩,
 ⟨some 3, .alloc [.int .i64 0, .int .i64 0, .str []], none⟩,
 ⟨none, .store 3 (.t 3) (.t 5), none⟩])
 (.seq
 (.seq
 (.reg [⟨some 6, .mv (.t 0), none⟩,
 ⟨some 7, .call 33 false [(.t 6), (.c (.int .i64 12))], none⟩])
 (.block 0
  (.seq
  (.reg [⟨some 9, .bin .eql (.t 7) (.c (.int .i64 0)), none⟩,
  ⟨some 8, .mv (.t 9), none⟩])
  (.cond (.t 8)
   (.reg [⟨some 10, .mv (.t 0), none⟩,
   ⟨some 11, .call 33 false [(.t 10), (.c (.int .i64 6))], none⟩,
   ⟨some 12, .bin .sub (.t 11) (.c (.int .i64 1)), none⟩,
   ⟨some 13, .faddr 0 (.t 3), none⟩,
   ⟨none, .store 1 (.t 13) (.t 12), none⟩])
   (.seq
   (.reg [⟨some 15, .bin .eql (.t 7) (.c (.int .i64 1)), none⟩,
   ⟨some 14, .mv (.t 15), none⟩])
   (.cond (.t 14)
    (.reg [⟨some 16, .mv (.t 0), none⟩,
    ⟨some 17, .buildSl 1 [.int .i64 0, .int .i64 0, .int .i64 0, .int .i64 0] [(0, (.c (.int .i64 1000000000000))), (1, (.c (.int .i64 2))), (2, (.c (.int .i64 (-1)))), (3, (.c (.int .i64 9223372036854775807)))], none⟩,
    ⟨some 18, .call 74 false [(.t 16), (.t 17)], none⟩,
    ⟨some 19, .faddr 1 (.t 3), none⟩,
    ⟨none, .store 1 (.t 19) (.t 18), none⟩])
    (.seq
    (.reg [⟨some 21, .bin .eql (.t 7) (.c (.int .i64 2)), none⟩,
    ⟨some 20, .mv (.t 21), none⟩])
    (.cond (.t 20)
     (.reg [⟨some 22, .mv (.t 0), none⟩,
     ⟨some 23, .buildSl 1 [.str [], .str []] [(0, (.c (.str []))), (1, (.c (.str [97])))], none⟩,
     ⟨some 24, .call 36 false [(.t 22), (.t 23)], none⟩,
     ⟨some 25, .faddr 2 (.t 3), none⟩,
     ⟨none, .store 1 (.t 25) (.t 24), none⟩])
     .skip))))))))
 (.seq
 (.reg [⟨some 26, .load (some 3) (.t 3), none⟩,
 ⟨none, .store 3 (.t 2) (.t 26), none⟩])
 .ret))))⟩
structure H40 (Γ : Tab) : Prop where
  e40 : Γ 40 = some (.code f40)
  c33 : H33 Γ
  c36 : H36 Γ
  c74 : H74 Γ
  c75 : H75 Γ
/- loop.example/g00751/spec.DrawHolds -/
def f19 : DFn := ⟨1, false, [.cell 2 (some 3), .cell 3 (some 3), .t 4],
 (.seq
 (.reg [⟨some 2, .alloc [.int .i64 0, .int .i64 0, .str []], none⟩,
 ⟨some 3, .alloc [.int .i64 0, .int .i64 0, .str []], none⟩,
 ⟨some 4, .mv (.c .nils), none⟩])
 (.seq
 (.reg [⟨some 7, .mv (.t 0), none⟩,
 ⟨some 8, .call 34 false [(.t 7)], none⟩,
 ⟨some 5, .mv (.t 8), none⟩])
 (.seq
 (.reg [⟨some 9, .mv (.t 5), none⟩,
 ⟨some 10, .call 40 false [(.t 9)], none⟩,
 ⟨some 6, .alloc [.int .i64 0, .int .i64 0, .str []], none⟩,
 ⟨none, .store 3 (.t 6) (.t 10), none⟩])
 (.seq
 (.any [⟨some 11, .load (some 3) (.t 6), none⟩,
 ⟨some 12, .mv (.t 5), none⟩,
 ⟨some 13, .call 38 false [(.t 12)], none⟩,
 ⟨some 14, .call 39 false [], none⟩]
 [⟨none, .store 3 (.t 2) (.t 11), none⟩,
 ⟨none, .store 3 (.t 3) (.t 13), none⟩,
 ⟨some 4, .mv (.t 14), none⟩])
 .ret))))⟩
structure H19 (Γ : Tab) : Prop where
  e19 : Γ 19 = some (.code f19)
  c34 : H34 Γ
  c38 : H38 Γ
  c39 : H39 Γ
  c40 : H40 Γ
/- loop.example/g00751/spec.l02Name -/
def f82l1 : DCode :=
   (.seq
   (.seq
   (.reg [⟨some 4, .mv (.t 3), none⟩,
   ⟨some 5, .mv (.t 0), none⟩,
   ⟨some 6, .lens (.t 5), none⟩,
   ⟨some 7, .bin .lss (.t 4) (.t 6), none⟩])
   (.cond (.t 7)
    .skip
    (.exit 0)))
   (.seq
   (.block 1
    (.seq
    (.reg [⟨some 10, .mv (.t 0), none⟩,
    ⟨some 11, .mv (.t 3), none⟩,
    ⟨some 12, .sidx (.t 10) (.t 11), none⟩,
    ⟨some 13, .bin .eql (.t 12) (.c (.int .u8 0)), none⟩])
    (.cond (.t 13)
     (.seq
     (.reg [⟨some 2, .mv (.c (.bool false)), none⟩])
     .ret)
     .skip)))
   (.reg [⟨some 8, .mv (.t 3), none⟩,
   ⟨some 9, .bin .add (.t 8) (.c (.int .i64 1)), none⟩,
   ⟨some 3, .mv (.t 9), none⟩])))
def f82 : DFn := ⟨1, false, [.t 2],
 (.seq
 (.reg [⟨some 2, .mv (.c (.bool false)), none⟩])
 (.seq
 (.seq
 (.reg [⟨some 3, .mv (.c (.int .i64 0)), none⟩])
 (.block 0
  (.loop [0, 3] f82l1)))
 (.seq
 (.reg [⟨some 14, .mv (.t 0), none⟩,
 ⟨some 15, .lens (.t 14), none⟩,
 ⟨some 16, .call 28 false [(.t 15), (.c (.int .i64 1)), (.c (.int .i64 40))], none⟩,
 ⟨some 2, .mv (.t 16), none⟩])
 .ret)))⟩
structure H82 (Γ : Tab) : Prop where
  e82 : Γ 82 = some (.code f82)
  c28 : H28 Γ
/- loop.example/g00751/spec.NameOk -/
def f43 : DFn := ⟨1, false, [.t 2],
 (.seq
 (.reg [⟨some 2, .mv (.c (.bool false)), none⟩])
 (.seq
 (.reg [⟨some 3, .mv (.t 0), none⟩,
 ⟨some 4, .call 82 false [(.t 3)], none⟩,
 ⟨some 2, .mv (.t 4), none⟩])
 .ret))⟩
structure H43 (Γ : Tab) : Prop where
  e43 : Γ 43 = some (.code f43)
  c82 : H82 Γ
/- loop.example/g00751/spec.TypeOk -/
def f21 : DFn := ⟨1, false, [.t 2],
 (.seq
 (.reg [⟨some 1, .box (.t 0), none⟩,
 ⟨some 2, .mv (.c (.bool false)), none⟩])
 (.seq
 (.seq
 (.reg [⟨some 3, .faddr 0 (.t 1), none⟩,
 ⟨some 4, .load none (.t 3), none⟩,
 ⟨some 5, .call 28 false [(.t 4), (.c (.int .i64 0)), (.c (.int .i64 4))], none⟩,
 ⟨some 6, .un .not (.t 5), none⟩])
 (.cond (.t 6)
  (.seq
  (.reg [⟨some 2, .mv (.c (.bool false)), none⟩])
  .ret)
  .skip))
 (.seq
 (.reg [⟨some 7, .faddr 0 (.t 1), none⟩,
 ⟨some 8, .load none (.t 7), none⟩,
 ⟨some 9, .bin .eql (.t 8) (.c (.int .i64 3)), none⟩,
 ⟨some 10, .mv (.t 9), none⟩,
 ⟨some 11, .faddr 1 (.t 1), some (10, true)⟩,
 ⟨some 12, .load none (.t 11), some (10, true)⟩,
 ⟨some 13, .call 28 false [(.t 12), (.c (.int .i64 1)), (.c (.int .i64 100))], some (10, true)⟩,
 ⟨some 14, .pick (.t 10) (.t 13) (.c (.bool false)), none⟩,
 ⟨some 15, .mv (.t 14), none⟩,
 ⟨some 16, .faddr 0 (.t 1), some (15, false)⟩,
 ⟨some 17, .load none (.t 16), some (15, false)⟩,
 ⟨some 18, .bin .neq (.t 17) (.c (.int .i64 3)), some (15, false)⟩,
 ⟨some 19, .mv (.t 18), some (15, false)⟩,
 ⟨some 20, .faddr 1 (.t 1), some (19, true)⟩,
 ⟨some 21, .load none (.t 20), some (19, true)⟩,
 ⟨some 22, .bin .eql (.t 21) (.c (.int .i64 0)), some (19, true)⟩,
 ⟨some 23, .pick (.t 19) (.t 22) (.c (.bool false)), some (15, false)⟩,
 ⟨some 24, .pick (.t 15) (.c (.bool true)) (.t 23), none⟩,
 ⟨some 25, .mv (.t 24), none⟩,
 ⟨some 26, .faddr 0 (.t 1), some (25, true)⟩,
 ⟨some 27, .load none (.t 26), some (25, true)⟩,
 ⟨some 28, .bin .eql (.t 27) (.c (.int .i64 4)), some (25, true)⟩,
 ⟨some 29, .mv (.t 28), some (25, true)⟩,
 ⟨some 30, .faddr 2 (.t 1), some (29, true)⟩,
 ⟨some 31, .load none (.t 30), some (29, true)⟩,
 ⟨some 32, .call 43 false [(.t 31)], some (29, true)⟩,
 ⟨some 33, .pick (.t 29) (.t 32) (.c (.bool false)), some (25, true)⟩,
 ⟨some 34, .mv (.t 33), some (25, true)⟩,
 ⟨some 35, .faddr 0 (.t 1), some (34, false)⟩,
 ⟨some 36, .load none (.t 35), some (34, false)⟩,
 ⟨some 37, .bin .neq (.t 36) (.c (.int .i64 4)), some (34, false)⟩,
 ⟨some 38, .mv (.t 37), some (34, false)⟩,
 ⟨some 39, .faddr 2 (.t 1), some (38, true)⟩,
 ⟨some 40, .load none (.t 39), some (38, true)⟩,
 ⟨some 41, .bin .eql (.t 40) (.c (.str [])), some (38, true)⟩,
 ⟨some 42, .pick (.t 38) (.t 41) (.c (.bool false)), some (34, false)⟩,
 ⟨some 43, .pick (.t 34) (.c (.bool true)) (.t 42), some (25, true)⟩,
 ⟨some 44, .pick (.t 25) (.t 43) (.c (.bool false)), none⟩,
 ⟨some 2, .mv (.t 44), none⟩])
 .ret)))⟩
structure H21 (Γ : Tab) : Prop where
  e21 : Γ 21 = some (.code f21)
  c28 : H28 Γ
  c43 : H43 Γ
/- loop.example/g00751/spec.Has -/
def f81l1 : DCode :=
   (.seq
   (.seq
   (.reg [⟨some 6, .mv (.t 5), none⟩,
   ⟨some 7, .mv (.t 0), none⟩,
   ⟨some 8, .len (.t 7), none⟩,
   ⟨some 9, .bin .lss (.t 6) (.t 8), none⟩])
   (.cond (.t 9)
    .skip
    (.exit 0)))
   (.seq
   (.block 1
    (.seq
    (.reg [⟨some 12, .mv (.t 0), none⟩,
    ⟨some 13, .mv (.t 5), none⟩,
    ⟨some 14, .iaddr 1 (.t 12) (.t 13), none⟩,
    ⟨some 15, .load none (.t 14), none⟩,
    ⟨some 16, .mv (.t 1), none⟩,
    ⟨some 17, .bin .eql (.t 15) (.t 16), none⟩])
    (.cond (.t 17)
     (.seq
     (.reg [⟨some 4, .mv (.c (.bool true)), none⟩])
     .ret)
     .skip)))
   (.reg [⟨some 10, .mv (.t 5), none⟩,
   ⟨some 11, .bin .add (.t 10) (.c (.int .i64 1)), none⟩,
   ⟨some 5, .mv (.t 11), none⟩])))
def f81 : DFn := ⟨2, false, [.t 4],
 (.seq
 (.reg [⟨some 4, .mv (.c (.bool false)), none⟩])
 (.seq
 (.seq
 (.reg [⟨some 5, .mv (.c (.int .i64 0)), none⟩])
 (.block 0
  (.loop [1, 0, 5] f81l1)))
 (.seq
 (.reg [⟨some 4, .mv (.c (.bool false)), none⟩])
 .ret)))⟩
structure H81 (Γ : Tab) : Prop where
  e81 : Γ 81 = some (.code f81)
/- loop.example/g00751/spec.l05Label -/
def f42l1 : DCode :=
   (.seq
   (.seq
   (.reg [⟨some 8, .mv (.t 7), none⟩,
   ⟨some 9, .mv (.t 0), none⟩,
   ⟨some 10, .len (.t 9), none⟩,
   ⟨some 11, .bin .lss (.t 8) (.t 10), none⟩])
   (.cond (.t 11)
    .skip
    (.exit 0)))
   (.seq
   (.block 1
    (.seq
    (.reg [⟨some 14, .mv (.t 0), none⟩,
    ⟨some 15, .mv (.t 7), none⟩,
    ⟨some 16, .iaddr 2 (.t 14) (.t 15), none⟩,
    ⟨some 17, .faddr 0 (.t 16), none⟩,
    ⟨some 18, .load none (.t 17), none⟩,
    ⟨some 19, .mv (.t 1), none⟩,
    ⟨some 20, .bin .eql (.t 18) (.t 19), none⟩])
    (.cond (.t 20)
     (.seq
     (.reg [⟨some 21, .mv (.t 0), none⟩,
     ⟨some 22, .mv (.t 7), none⟩,
     ⟨some 23, .iaddr 2 (.t 21) (.t 22), none⟩,
     ⟨some 24, .faddr 1 (.t 23), none⟩,
     ⟨some 25, .load none (.t 24), none⟩,
     ⟨some 26, .mv (.t 2), none⟩,
     ⟨some 27, .call 81 false [(.t 25), (.t 26)], none⟩,
     ⟨some 6, .mv (.t 27), none⟩])
     .ret)
     .skip)))
   (.reg [⟨some 12, .mv (.t 7), none⟩,
   ⟨some 13, .bin .add (.t 12) (.c (.int .i64 1)), none⟩,
   ⟨some 7, .mv (.t 13), none⟩])))
def f42 : DFn := ⟨3, false, [.t 6],
 (.seq
 (.reg [⟨some 6, .mv (.c (.bool false)), none⟩])
 (.seq
 (.seq
 (.reg [⟨some 7, .mv (.c (.int .i64 0)), none⟩])
 (.block 0
  (.loop [2, 7, 0, 1] f42l1)))
 (.seq
 (.reg [⟨some 6, .mv (.c (.bool false)), none⟩])
 .ret)))⟩
structure H42 (Γ : Tab) : Prop where
  e42 : Γ 42 = some (.code f42)
  c81 : H81 Γ
/- loop.example/g00751/spec.Holds -/
def f20 : DFn := ⟨3, false, [.t 6],
 (.seq
 (.reg [⟨some 3, .box (.t 0), none⟩,
 ⟨some 4, .box (.t 1), none⟩,
 ⟨some 6, .mv (.c (.bool false)), none⟩])
 (.seq
 (.block 0
  (.seq
  (.reg [⟨some 8, .load (some 3) (.t 3), none⟩,
  ⟨some 9, .call 8 false [(.t 8)], none⟩,
  ⟨some 10, .un .not (.t 9), none⟩,
  ⟨some 11, .mv (.t 10), none⟩,
  ⟨some 12, .load (some 3) (.t 4), some (11, false)⟩,
  ⟨some 13, .call 21 false [(.t 12)], some (11, false)⟩,
  ⟨some 14, .un .not (.t 13), some (11, false)⟩,
  ⟨some 15, .pick (.t 11) (.c (.bool true)) (.t 14), none⟩,
  ⟨some 7, .mv (.t 15), none⟩])
  (.cond (.t 7)
   (.seq
   (.reg [⟨some 6, .mv (.c (.bool false)), none⟩])
   .ret)
   (.seq
   (.reg [⟨some 17, .faddr 0 (.t 3), none⟩,
   ⟨some 18, .load none (.t 17), none⟩,
   ⟨some 19, .bin .eql (.t 18) (.c (.int .i64 0)), none⟩,
   ⟨some 16, .mv (.t 19), none⟩])
   (.cond (.t 16)
    (.seq
    (.reg [⟨some 6, .mv (.c (.bool true)), none⟩])
    .ret)
    (.seq
    (.reg [⟨some 21, .faddr 0 (.t 3), none⟩,
    ⟨some 22, .load none (.t 21), none⟩,
    ⟨some 23, .bin .eql (.t 22) (.c (.int .i64 1)), none⟩,
    ⟨some 20, .mv (.t 23), none⟩])
    (.cond (.t 20)
     (.seq
     (.reg [⟨some 24, .faddr 0 (.t 4), none⟩,
     ⟨some 25, .load none (.t 24), none⟩,
     ⟨some 26, .bin .eql (.t 25) (.c (.int .i64 0)), none⟩,
     ⟨some 6, .mv (.t 26), none⟩])
     .ret)
     (.seq
     (.reg [⟨some 28, .faddr 0 (.t 3), none⟩,
     ⟨some 29, .load none (.t 28), none⟩,
     ⟨some 30, .bin .eql (.t 29) (.c (.int .i64 3)), none⟩,
     ⟨some 27, .mv (.t 30), none⟩])
     (.cond (.t 27)
      (.seq
      (.reg [⟨some 31, .faddr 0 (.t 4), none⟩,
      ⟨some 32, .load none (.t 31), none⟩,
      ⟨some 33, .bin .eql (.t 32) (.c (.int .i64 2)), none⟩,
      ⟨some 6, .mv (.t 33), none⟩])
      .ret)
      .skip)))))))))
 (.seq
 (.reg [⟨some 34, .faddr 0 (.t 4), none⟩,
 ⟨some 35, .load none (.t 34), none⟩,
 ⟨some 36, .bin .eql (.t 35) (.c (.int .i64 1)), none⟩,
 ⟨some 37, .mv (.t 36), none⟩,
 ⟨some 38, .faddr 0 (.t 4), some (37, false)⟩,
 ⟨some 39, .load none (.t 38), some (37, false)⟩,
 ⟨some 40, .bin .eql (.t 39) (.c (.int .i64 3)), some (37, false)⟩,
 ⟨some 41, .mv (.t 40), some (37, false)⟩,
 ⟨some 42, .faddr 2 (.t 3), some (41, true)⟩,
 ⟨some 43, .load none (.t 42), some (41, true)⟩,
 ⟨some 44, .lens (.t 43), some (41, true)⟩,
 ⟨some 45, .faddr 1 (.t 4), some (41, true)⟩,
 ⟨some 46, .load none (.t 45), some (41, true)⟩,
 ⟨some 47, .bin .leq (.t 44) (.t 46), some (41, true)⟩,
 ⟨some 48, .pick (.t 41) (.t 47) (.c (.bool false)), some (37, false)⟩,
 ⟨some 49, .pick (.t 37) (.c (.bool true)) (.t 48), none⟩,
 ⟨some 50, .mv (.t 49), none⟩,
 ⟨some 51, .faddr 0 (.t 4), some (50, false)⟩,
 ⟨some 52, .load none (.t 51), some (50, false)⟩,
 ⟨some 53, .bin .eql (.t 52) (.c (.int .i64 4)), some (50, false)⟩,
 ⟨some 54, .mv (.t 53), some (50, false)⟩,
 ⟨some 55, .mv (.t 2), some (54, true)⟩,
 ⟨some 56, .faddr 2 (.t 4), some (54, true)⟩,
 ⟨some 57, .load none (.t 56), some (54, true)⟩,
 ⟨some 58, .faddr 2 (.t 3), some (54, true)⟩,
 ⟨some 59, .load none (.t 58), some (54, true)⟩,
 ⟨some 60, .call 42 false [(.t 55), (.t 57), (.t 59)], some (54, true)⟩,
 ⟨some 61, .pick (.t 54) (.t 60) (.c (.bool false)), some (50, false)⟩,
 ⟨some 62, .pick (.t 50) (.c (.bool true)) (.t 61), none⟩,
 ⟨some 6, .mv (.t 62), none⟩])
 .ret)))⟩
structure H20 (Γ : Tab) : Prop where
  e20 : Γ 20 = some (.code f20)
  c8 : H8 Γ
  c21 : H21 Γ
  c42 : H42 Γ
/- loop.example/g00751/laws.FnHolds -/
def f16 : DFn := ⟨1, false, [.t 2],
 (.seq
 (.reg [⟨some 2, .mv (.c (.bool false)), none⟩])
 (.seq
 (.seq
 (.reg [⟨some 8, .mv (.t 0), none⟩,
 ⟨some 9, .call 14 false [(.t 8)], none⟩])
 (.cond (.t 9)
  (.seq
  (.reg [⟨some 2, .mv (.c (.bool true)), none⟩])
  .ret)
  .skip))
 (.seq
 (.reg [⟨some 11, .mv (.t 0), none⟩,
 ⟨some 12, .call 19 false [(.t 11)], none⟩,
 ⟨some 10, .mv (.t 12), none⟩,
 ⟨some 13, .ext (.t 10) 0, none⟩,
 ⟨some 14, .ext (.t 10) 1, none⟩,
 ⟨some 15, .ext (.t 10) 2, none⟩,
 ⟨some 3, .alloc [.int .i64 0, .int .i64 0, .str []], none⟩,
 ⟨some 4, .alloc [.int .i64 0, .int .i64 0, .str []], none⟩,
 ⟨none, .store 3 (.t 3) (.t 13), none⟩,
 ⟨none, .store 3 (.t 4) (.t 14), none⟩,
 ⟨some 5, .mv (.t 15), none⟩])
 (.seq
 (.reg [⟨some 16, .load (some 3) (.t 3), none⟩,
 ⟨some 17, .load (some 3) (.t 4), none⟩,
 ⟨some 18, .mv (.t 5), none⟩,
 ⟨some 19, .call 17 false [(.t 16), (.t 17), (.t 18)], none⟩,
 ⟨some 6, .mv (.t 19), none⟩])
 (.seq
 (.seq
 (.reg [⟨some 20, .mv (.t 6), none⟩,
 ⟨some 21, .load (some 3) (.t 3), none⟩,
 ⟨some 22, .load (some 3) (.t 4), none⟩,
 ⟨some 23, .mv (.t 5), none⟩,
 ⟨some 24, .call 20 false [(.t 21), (.t 22), (.t 23)], none⟩,
 ⟨some 25, .binb .neq (.t 20) (.t 24), none⟩])
 (.cond (.t 25)
  (.seq
  (.reg [⟨some 2, .mv (.c (.bool false)), none⟩])
  .ret)
  .skip))
 (.seq
 (.reg [⟨some 26, .build [.int .i64 0, .int .i64 0, .str []] [(0, 1, (.c (.int .i64 1)))], none⟩,
 ⟨some 7, .alloc [.int .i64 0, .int .i64 0, .str []], none⟩,
 ⟨none, .store 3 (.t 7) (.t 26), none⟩])
 (.seq
 (.seq
 (.reg [⟨some 27, .mv (.t 6), none⟩,
 ⟨some 28, .mv (.t 27), none⟩,
 ⟨some 29, .faddr 0 (.t 3), some (28, true)⟩,
 ⟨some 30, .load none (.t 29), some (28, true)⟩,
 ⟨some 31, .bin .eql (.t 30) (.c (.int .i64 2)), some (28, true)⟩,
 ⟨some 32, .pick (.t 28) (.t 31) (.c (.bool false)), none⟩,
 ⟨some 33, .mv (.t 32), none⟩,
 ⟨some 34, .load (some 3) (.t 3), some (33, true)⟩,
 ⟨some 35, .load (some 3) (.t 7), some (33, true)⟩,
 ⟨some 36, .mv (.t 5), some (33, true)⟩,
 ⟨some 37, .call 17 false [(.t 34), (.t 35), (.t 36)], some (33, true)⟩,
 ⟨some 38, .un .not (.t 37), some (33, true)⟩,
 ⟨some 39, .pick (.t 33) (.t 38) (.c (.bool false)), none⟩])
 (.cond (.t 39)
  (.seq
  (.reg [⟨some 2, .mv (.c (.bool false)), none⟩])
  .ret)
  .skip))
 (.seq
 (.any [⟨some 40, .build [.int .i64 0, .int .i64 0, .str []] [], none⟩,
 ⟨some 41, .load (some 3) (.t 4), none⟩,
 ⟨some 42, .mv (.t 5), none⟩,
 ⟨some 43, .call 17 false [(.t 40), (.t 41), (.t 42)], none⟩,
 ⟨some 44, .load (some 3) (.t 4), none⟩,
 ⟨some 45, .call 21 false [(.t 44)], none⟩,
 ⟨some 46, .binb .eql (.t 43) (.t 45), none⟩,
 ⟨some 47, .mv (.t 46), none⟩,
 ⟨some 48, .mv (.t 6), some (47, true)⟩,
 ⟨some 49, .un .not (.t 48), some (47, true)⟩,
 ⟨some 50, .mv (.t 49), some (47, true)⟩,
 ⟨some 51, .load (some 3) (.t 3), some (50, false)⟩,
 ⟨some 52, .call 5 false [(.t 51)], some (50, false)⟩,
 ⟨some 53, .mv (.t 52), some (50, false)⟩,
 ⟨some 54, .load (some 3) (.t 4), some (53, true)⟩,
 ⟨some 55, .call 18 false [(.t 54)], some (53, true)⟩,
 ⟨some 56, .pick (.t 53) (.t 55) (.c (.bool false)), some (50, false)⟩,
 ⟨some 57, .pick (.t 50) (.c (.bool true)) (.t 56), some (47, true)⟩,
 ⟨some 58, .pick (.t 47) (.t 57) (.c (.bool false)), none⟩,
 ⟨some 2, .mv (.t 58), none⟩]
 [])
 .ret))))))))⟩
structure H16 (Γ : Tab) : Prop where
  e16 : Γ 16 = some (.code f16)
  c5 : H5 Γ
  c14 : H14 Γ
  c17 : H17 Γ
  c18 : H18 Γ
  c19 : H19 Γ
  c20 : H20 Γ
  c21 : H21 Γ
/- loop.example/g00751/impl.kidsOf -/
def f113 : DFn := ⟨1, false, [.t 2],
 (.seq
 (.reg [⟨some 2, .mv (.c (.int .i64 0)), none⟩])
 (.seq
 (.block 0
  (.seq
  (.reg [⟨some 4, .mv (.t 0), none⟩,
  ⟨some 5, .bin .leq (.t 4) (.c (.int .i64 5)), none⟩,
  ⟨some 3, .mv (.t 5), none⟩])
  (.cond (.t 3)
   (.seq
   (.reg [⟨some 2, .mv (.c (.int .i64 0)), none⟩])
   .ret)
   (.seq
   (.reg [⟨some 7, .mv (.t 0), none⟩,
   ⟨some 8, .bin .leq (.t 7) (.c (.int .i64 7)), none⟩,
   ⟨some 6, .mv (.t 8), none⟩])
   (.cond (.t 6)
    (.seq
    (.reg [⟨some 2, .mv (.c (.int .i64 1)), none⟩])
    .ret)
    .skip)))))
 (.seq
 (.reg [⟨some 2, .mv (.c (.int .i64 2)), none⟩])
 .ret)))⟩
structure H113 (Γ : Tab) : Prop where
  e113 : Γ 113 = some (.code f113)
/- slices.IndexFunc[[]loop.example/g00751/impl.Expr,loop.example/g00751/impl.Expr] -/
def f101l1 : DCode :=
   (.seq
   (.reg [⟨some 9, .bin .lss (.t 8) (.t 7), none⟩])
   (.seq
   (.cond (.t 9)
    .skip
    (.exit 0))
   (.seq
   (.block 1
    (.seq
    (.reg [⟨some 10, .mv (.t 8), none⟩,
    ⟨some 5, .mv (.t 10), none⟩])
    (.seq
    (.reg [⟨some 11, .mv (.t 1), none⟩,
    ⟨some 12, .mv (.t 0), none⟩,
    ⟨some 13, .mv (.t 5), none⟩,
    ⟨some 14, .iaddr 4 (.t 12) (.t 13), none⟩,
    ⟨some 15, .load (some 4) (.t 14), none⟩,
    ⟨some 16, .callv (.t 11) [(.t 15)], none⟩])
    (.cond (.t 16)
     (.seq
     (.reg [⟨some 17, .mv (.t 5), none⟩,
     ⟨some 4, .mv (.t 17), none⟩])
     .ret)
     .skip))))
   (.reg [⟨some 18, .bin .add (.t 8) (.c (.int .i64 1)), none⟩,
   ⟨some 8, .mv (.t 18), none⟩]))))
def f101 : DFn := ⟨2, false, [.t 4],
 (.seq
 (.reg [⟨some 4, .mv (.c (.int .i64 0)), none⟩])
 (.seq
 (.seq
 (.reg [⟨some 6, .mv (.t 0), none⟩,
 ⟨some 7, .len (.t 6), none⟩,
 ⟨some 8, .mv (.c (.int .i64 0)), none⟩])
 (.block 0
  (.loop [0, 1, 7, 8] f101l1)))
 (.seq
 (.reg [⟨some 4, .mv (.c (.int .i64 (-1))), none⟩])
 .ret)))⟩
structure H101 (Γ : Tab) : Prop where
  e101 : Γ 101 = some (.code f101)
/- slices.ContainsFunc[[]loop.example/g00751/impl.Expr,loop.example/g00751/impl.Expr] -/
def f64 : DFn := ⟨2, false, [.t 4],
 (.seq
 (.reg [⟨some 4, .mv (.c (.bool false)), none⟩])
 (.seq
 (.reg [⟨some 5, .mv (.t 0), none⟩,
 ⟨some 6, .mv (.t 1), none⟩,
 ⟨some 7, .call 101 false [(.t 5), (.t 6)], none⟩,
 ⟨some 8, .bin .geq (.t 7) (.c (.int .i64 0)), none⟩,
 ⟨some 4, .mv (.t 8), none⟩])
 .ret))⟩
structure H64 (Γ : Tab) : Prop where
  e64 : Γ 64 = some (.code f64)
  c101 : H101 Γ
/- loop.example/g00751/impl.isExpr -/
def f102 : DFn := ⟨2, false, [.t 4],
 (.seq
 (.reg [⟨some 2, .box (.t 0), none⟩,
 ⟨some 3, .box (.t 1), none⟩,
 ⟨some 4, .mv (.c (.bool false)), none⟩])
 (.seq
 (.seq
 (.reg [⟨some 5, .load none (.t 3), none⟩,
 ⟨some 6, .nilck (.t 5), none⟩,
 ⟨some 7, .load none (.t 6), none⟩,
 ⟨some 8, .bin .sub (.t 7) (.c (.int .i64 1)), none⟩,
 ⟨some 9, .nilck (.t 5), none⟩,
 ⟨none, .store 1 (.t 9) (.t 8), none⟩])
 (.seq
 (.any [⟨some 10, .load none (.t 3), none⟩,
 ⟨some 11, .nilck (.t 10), none⟩,
 ⟨some 12, .load none (.t 11), none⟩,
 ⟨some 13, .bin .lss (.t 12) (.c (.int .i64 0)), none⟩,
 ⟨some 14, .mv (.t 13), none⟩,
 ⟨some 15, .faddr 0 (.t 2), some (14, false)⟩,
 ⟨some 16, .load none (.t 15), some (14, false)⟩,
 ⟨some 17, .call 29 false [(.t 16), (.c (.int .i64 0)), (.c (.int .i64 18))], some (14, false)⟩,
 ⟨some 18, .un .not (.t 17), some (14, false)⟩,
 ⟨some 19, .pick (.t 14) (.c (.bool true)) (.t 18), none⟩,
 ⟨some 20, .mv (.t 19), none⟩,
 ⟨some 21, .faddr 3 (.t 2), some (20, false)⟩,
 ⟨some 22, .load none (.t 21), some (20, false)⟩,
 ⟨some 23, .len (.t 22), some (20, false)⟩,
 ⟨some 24, .faddr 0 (.t 2), some (20, false)⟩,
 ⟨some 25, .load none (.t 24), some (20, false)⟩,
 ⟨some 26, .call 113 false [(.t 25)], some (20, false)⟩,
 ⟨some 27, .bin .neq (.t 23) (.t 26), some (20, false)⟩,
 ⟨some 28, .pick (.t 20) (.c (.bool true)) (.t 27), none⟩]
 [])
 (.cond (.t 28)
  (.seq
  (.reg [⟨some 4, .mv (.c (.bool false)), none⟩])
  .ret)
  .skip)))
 (.seq
 (.block 0
  (.seq
  (.seq
  (.reg [⟨some 30, .faddr 0 (.t 2), none⟩,
  ⟨some 31, .load none (.t 30), none⟩,
  ⟨some 32, .bin .eql (.t 31) (.c (.int .i64 0)), none⟩,
  ⟨some 33, .mv (.t 32), none⟩,
  ⟨some 34, .faddr 1 (.t 2), some (33, true)⟩,
  ⟨some 35, .load none (.t 34), some (33, true)⟩,
  ⟨some 36, .call 44 false [(.t 35)], some (33, true)⟩,
  ⟨some 37, .un .not (.t 36), some (33, true)⟩,
  ⟨some 38, .pick (.t 33) (.t 37) (.c (.bool false)), none⟩,
  ⟨some 29, .mv (.t 38), none⟩])
  (.cond (.t 29)
   .skip
   (.seq
   (.reg [⟨some 39, .faddr 0 (.t 2), none⟩,
   ⟨some 40, .load none (.t 39), none⟩,
   ⟨some 41, .bin .eql (.t 40) (.c (.int .i64 2)), none⟩,
   ⟨some 42, .mv (.t 41), none⟩,
   ⟨some 43, .faddr 1 (.t 2), some (42, true)⟩,
   ⟨some 44, .load none (.t 43), some (42, true)⟩,
   ⟨some 45, .lens (.t 44), some (42, true)⟩,
   ⟨some 46, .bin .gtr (.t 45) (.c (.int .i64 100)), some (42, true)⟩,
   ⟨some 47, .pick (.t 42) (.t 46) (.c (.bool false)), none⟩,
   ⟨some 29, .mv (.t 47), none⟩])
   (.cond (.t 29)
    .skip
    (.reg [⟨some 48, .faddr 0 (.t 2), none⟩,
    ⟨some 49, .load none (.t 48), none⟩,
    ⟨some 50, .bin .neq (.t 49) (.c (.int .i64 0)), none⟩,
    ⟨some 51, .mv (.t 50), none⟩,
    ⟨some 52, .faddr 0 (.t 2), some (51, true)⟩,
    ⟨some 53, .load none (.t 52), some (51, true)⟩,
    ⟨some 54, .bin .neq (.t 53) (.c (.int .i64 2)), some (51, true)⟩,
    ⟨some 55, .pick (.t 51) (.t 54) (.c (.bool false)), none⟩,
    ⟨some 56, .mv (.t 55), none⟩,
    ⟨some 57, .faddr 1 (.t 2), some (56, true)⟩,
    ⟨some 58, .load none (.t 57), some (56, true)⟩,
    ⟨some 59, .bin .neq (.t 58) (.c (.str [])), some (56, true)⟩,
    ⟨some 60, .pick (.t 56) (.t 59) (.c (.bool false)), none⟩,
    ⟨some 29, .mv (.t 60), none⟩])))))
  (.cond (.t 29)
   (.seq
   (.reg [⟨some 4, .mv (.c (.bool false)), none⟩])
   .ret)
   (.seq
   (.seq
   (.reg [⟨some 62, .faddr 0 (.t 2), none⟩,
   ⟨some 63, .load none (.t 62), none⟩,
   ⟨some 64, .bin .eql (.t 63) (.c (.int .i64 1)), none⟩,
   ⟨some 65, .mv (.t 64), none⟩,
   ⟨some 66, .faddr 2 (.t 2), some (65, true)⟩,
   ⟨some 67, .load none (.t 66), some (65, true)⟩,
   ⟨some 68, .call 29 false [(.t 67), (.c (.int .i64 0)), (.c (.int .i64 999999999))], some (65, true)⟩,
   ⟨some 69, .un .not (.t 68), some (65, true)⟩,
   ⟨some 70, .pick (.t 65) (.t 69) (.c (.bool false)), none⟩,
   ⟨some 61, .mv (.t 70), none⟩])
   (.cond (.t 61)
    .skip
    (.reg [⟨some 71, .faddr 0 (.t 2), none⟩,
    ⟨some 72, .load none (.t 71), none⟩,
    ⟨some 73, .bin .neq (.t 72) (.c (.int .i64 1)), none⟩,
    ⟨some 74, .mv (.t 73), none⟩,
    ⟨some 75, .faddr 2 (.t 2), some (74, true)⟩,
    ⟨some 76, .load none (.t 75), some (74, true)⟩,
    ⟨some 77, .bin .neq (.t 76) (.c (.int .i64 0)), some (74, true)⟩,
    ⟨some 78, .pick (.t 74) (.t 77) (.c (.bool false)), none⟩,
    ⟨some 61, .mv (.t 78), none⟩])))
   (.cond (.t 61)
    (.seq
    (.reg [⟨some 4, .mv (.c (.bool false)), none⟩])
    .ret)
    .skip)))))
 (.seq
 (.reg [⟨some 79, .faddr 3 (.t 2), none⟩,
 ⟨some 80, .load none (.t 79), none⟩,
 ⟨some 81, .mkfn 112 [(.t 3)], none⟩,
 ⟨some 82, .call 64 false [(.t 80), (.t 81)], none⟩,
 ⟨some 83, .un .not (.t 82), none⟩,
 ⟨some 4, .mv (.t 83), none⟩])
 .ret))))⟩
/- loop.example/g00751/impl.isExpr$1 -/
def f112 : DFn := ⟨2, false, [.t 3],
 (.seq
 (.reg [⟨some 2, .box (.t 0), none⟩,
 ⟨some 3, .mv (.c (.bool false)), none⟩])
 (.seq
 (.reg [⟨some 4, .load (some 4) (.t 2), none⟩,
 ⟨some 5, .load none (.t 1), none⟩,
 ⟨some 6, .call 102 false [(.t 4), (.t 5)], none⟩,
 ⟨some 7, .un .not (.t 6), none⟩,
 ⟨some 3, .mv (.t 7), none⟩])
 .ret))⟩
structure H102 (Γ : Tab) : Prop where
  e102 : Γ 102 = some (.code f102)
  e112 : Γ 112 = some (.code f112)
  c29 : H29 Γ
  c44 : H44 Γ
  c64 : H64 Γ
  c113 : H113 Γ
abbrev H112 := H102
/- loop.example/g00751/impl.ExprOk -/
def f100 : DFn := ⟨1, false, [.t 2],
 (.seq
 (.reg [⟨some 1, .box (.t 0), none⟩,
 ⟨some 2, .mv (.c (.bool false)), none⟩])
 (.seq
 (.reg [⟨some 3, .alloc [.int .i64 0], none⟩,
 ⟨none, .store 1 (.t 3) (.c (.int .i64 40)), none⟩])
 (.seq
 (.reg [⟨some 4, .load (some 4) (.t 1), none⟩,
 ⟨some 5, .call 102 false [(.t 4), (.t 3)], none⟩,
 ⟨some 2, .mv (.t 5), none⟩])
 .ret)))⟩
structure H100 (Γ : Tab) : Prop where
  e100 : Γ 100 = some (.code f100)
  c102 : H102 Γ
/- loop.example/g00751/impl.isStmtCol$1 -/
def f97 : DFn := ⟨1, false, [.t 2],
 (.seq
 (.reg [⟨some 1, .box (.t 0), none⟩,
 ⟨some 2, .mv (.c (.bool false)), none⟩])
 (.seq
 (.reg [⟨some 3, .load (some 4) (.t 1), none⟩,
 ⟨some 4, .call 100 false [(.t 3)], none⟩,
 ⟨some 5, .un .not (.t 4), none⟩,
 ⟨some 2, .mv (.t 5), none⟩])
 .ret))⟩
structure H97 (Γ : Tab) : Prop where
  e97 : Γ 97 = some (.code f97)
  c100 : H100 Γ
/- loop.example/g00751/impl.isStmtCol -/
def f96 : DFn := ⟨1, false, [.t 2],
 (.seq
 (.reg [⟨some 1, .box (.t 0), none⟩,
 ⟨some 2, .mv (.c (.bool false)), none⟩])
 (.seq
 (.reg [⟨some 3, .faddr 0 (.t 1), none⟩,
 ⟨some 4, .load none (.t 3), none⟩,
 ⟨some 5, .call 44 false [(.t 4)], none⟩,
 ⟨some 6, .mv (.t 5), none⟩,
 ⟨some 7, .faddr 1 (.t 1), some (6, true)⟩,
 ⟨some 8, .load (some 3) (.t 7), some (6, true)⟩,
 ⟨some 9, .call 18 false [(.t 8)], some (6, true)⟩,
 ⟨some 10, .pick (.t 6) (.t 9) (.c (.bool false)), none⟩,
 ⟨some 11, .mv (.t 10), none⟩,
 ⟨some 12, .faddr 5 (.t 1), some (11, true)⟩,
 ⟨some 13, .load none (.t 12), some (11, true)⟩,
 ⟨some 14, .len (.t 13), some (11, true)⟩,
 ⟨some 15, .bin .leq (.t 14) (.c (.int .i64 1)), some (11, true)⟩,
 ⟨some 16, .pick (.t 11) (.t 15) (.c (.bool false)), none⟩,
 ⟨some 17, .mv (.t 16), none⟩,
 ⟨some 18, .faddr 5 (.t 1), some (17, true)⟩,
 ⟨some 19, .load none (.t 18), some (17, true)⟩,
 ⟨some 20, .call 64 false [(.t 19), (.c (.fn 97 []))], some (17, true)⟩,
 ⟨some 21, .un .not (.t 20), some (17, true)⟩,
 ⟨some 22, .pick (.t 17) (.t 21) (.c (.bool false)), none⟩,
 ⟨some 2, .mv (.t 22), none⟩])
 .ret))⟩
structure H96 (Γ : Tab) : Prop where
  e96 : Γ 96 = some (.code f96)
  c18 : H18 Γ
  c44 : H44 Γ
  c64 : H64 Γ
  c97 : H97 Γ
/- loop.example/g00751/impl.StmtOk$1 -/
def f57 : DFn := ⟨1, false, [.t 2],
 (.seq
 (.reg [⟨some 1, .box (.t 0), none⟩,
 ⟨some 2, .mv (.c (.bool false)), none⟩])
 (.seq
 (.reg [⟨some 3, .load (some 6) (.t 1), none⟩,
 ⟨some 4, .call 96 false [(.t 3)], none⟩,
 ⟨some 5, .un .not (.t 4), none⟩,
 ⟨some 2, .mv (.t 5), none⟩])
 .ret))⟩
structure H57 (Γ : Tab) : Prop where
  e57 : Γ 57 = some (.code f57)
  c96 : H96 Γ
/- loop.example/g00751/impl.areIds$1 -/
def f103 : DFn := ⟨1, false, [.t 2],
 (.seq
 (.reg [⟨some 2, .mv (.c (.bool false)), none⟩])
 (.seq
 (.reg [⟨some 3, .mv (.t 0), none⟩,
 ⟨some 4, .call 44 false [(.t 3)], none⟩,
 ⟨some 5, .un .not (.t 4), none⟩,
 ⟨some 2, .mv (.t 5), none⟩])
 .ret))⟩
structure H103 (Γ : Tab) : Prop where
  e103 : Γ 103 = some (.code f103)
  c44 : H44 Γ
/- slices.IndexFunc[[]string,string] -/
def f114l1 : DCode :=
   (.seq
   (.reg [⟨some 9, .bin .lss (.t 8) (.t 7), none⟩])
   (.seq
   (.cond (.t 9)
    .skip
    (.exit 0))
   (.seq
   (.block 1
    (.seq
    (.reg [⟨some 10, .mv (.t 8), none⟩,
    ⟨some 5, .mv (.t 10), none⟩])
    (.seq
    (.reg [⟨some 11, .mv (.t 1), none⟩,
    ⟨some 12, .mv (.t 0), none⟩,
    ⟨some 13, .mv (.t 5), none⟩,
    ⟨some 14, .iaddr 1 (.t 12) (.t 13), none⟩,
    ⟨some 15, .load none (.t 14), none⟩,
    ⟨some 16, .callv (.t 11) [(.t 15)], none⟩])
    (.cond (.t 16)
     (.seq
     (.reg [⟨some 17, .mv (.t 5), none⟩,
     ⟨some 4, .mv (.t 17), none⟩])
     .ret)
     .skip))))
   (.reg [⟨some 18, .bin .add (.t 8) (.c (.int .i64 1)), none⟩,
   ⟨some 8, .mv (.t 18), none⟩]))))
def f114 : DFn := ⟨2, false, [.t 4],
 (.seq
 (.reg [⟨some 4, .mv (.c (.int .i64 0)), none⟩])
 (.seq
 (.seq
 (.reg [⟨some 6, .mv (.t 0), none⟩,
 ⟨some 7, .len (.t 6), none⟩,
 ⟨some 8, .mv (.c (.int .i64 0)), none⟩])
 (.block 0
  (.loop [0, 1, 7, 8] f114l1)))
 (.seq
 (.reg [⟨some 4, .mv (.c (.int .i64 (-1))), none⟩])
 .ret)))⟩
structure H114 (Γ : Tab) : Prop where
  e114 : Γ 114 = some (.code f114)
/- slices.ContainsFunc[[]string,string] -/
def f104 : DFn := ⟨2, false, [.t 4],
 (.seq
 (.reg [⟨some 4, .mv (.c (.bool false)), none⟩])
 (.seq
 (.reg [⟨some 5, .mv (.t 0), none⟩,
 ⟨some 6, .mv (.t 1), none⟩,
 ⟨some 7, .call 114 false [(.t 5), (.t 6)], none⟩,
 ⟨some 8, .bin .geq (.t 7) (.c (.int .i64 0)), none⟩,
 ⟨some 4, .mv (.t 8), none⟩])
 .ret))⟩
structure H104 (Γ : Tab) : Prop where
  e104 : Γ 104 = some (.code f104)
  c114 : H114 Γ
/- loop.example/g00751/impl.areIds -/
def f60 : DFn := ⟨1, false, [.t 2],
 (.seq
 (.reg [⟨some 2, .mv (.c (.bool false)), none⟩])
 (.seq
 (.reg [⟨some 3, .mv (.t 0), none⟩,
 ⟨some 4, .call 104 false [(.t 3), (.c (.fn 103 []))], none⟩,
 ⟨some 5, .un .not (.t 4), none⟩,
 ⟨some 2, .mv (.t 5), none⟩])
 .ret))⟩
structure H60 (Γ : Tab) : Prop where
  e60 : Γ 60 = some (.code f60)
  c103 : H103 Γ
  c104 : H104 Γ
/- loop.example/g00751/impl.isStmtRule -/
def f99 : DFn := ⟨1, false, [.t 2],
 (.seq
 (.reg [⟨some 1, .box (.t 0), none⟩,
 ⟨some 2, .mv (.c (.bool false)), none⟩])
 (.seq
 (.seq
 (.reg [⟨some 3, .faddr 0 (.t 1), none⟩,
 ⟨some 4, .load none (.t 3), none⟩,
 ⟨some 5, .call 44 false [(.t 4)], none⟩,
 ⟨some 6, .un .not (.t 5), none⟩,
 ⟨some 7, .mv (.t 6), none⟩,
 ⟨some 8, .faddr 1 (.t 1), some (7, false)⟩,
 ⟨some 9, .load none (.t 8), some (7, false)⟩,
 ⟨some 10, .bin .neq (.t 9) (.c (.int .i64 2)), some (7, false)⟩,
 ⟨some 11, .mv (.t 10), some (7, false)⟩,
 ⟨some 12, .faddr 3 (.t 1), some (11, true)⟩,
 ⟨some 13, .load none (.t 12), some (11, true)⟩,
 ⟨some 14, .len (.t 13), some (11, true)⟩,
 ⟨some 15, .bin .gtr (.t 14) (.c (.int .i64 0)), some (11, true)⟩,
 ⟨some 16, .pick (.t 11) (.t 15) (.c (.bool false)), some (7, false)⟩,
 ⟨some 17, .pick (.t 7) (.c (.bool true)) (.t 16), none⟩,
 ⟨some 18, .mv (.t 17), none⟩,
 ⟨some 19, .faddr 1 (.t 1), some (18, false)⟩,
 ⟨some 20, .load none (.t 19), some (18, false)⟩,
 ⟨some 21, .bin .neq (.t 20) (.c (.int .i64 3)), some (18, false)⟩,
 ⟨some 22, .mv (.t 21), some (18, false)⟩,
 ⟨some 23, .faddr 4 (.t 1), some (22, true)⟩,
 ⟨some 24, .load none (.t 23), some (22, true)⟩,
 ⟨some 25, .bin .neq (.t 24) (.c (.str [])), some (22, true)⟩,
 ⟨some 26, .mv (.t 25), some (22, true)⟩,
 ⟨some 27, .faddr 5 (.t 1), some (26, false)⟩,
 ⟨some 28, .load none (.t 27), some (26, false)⟩,
 ⟨some 29, .len (.t 28), some (26, false)⟩,
 ⟨some 30, .bin .gtr (.t 29) (.c (.int .i64 0)), some (26, false)⟩,
 ⟨some 31, .pick (.t 26) (.c (.bool true)) (.t 30), some (22, true)⟩,
 ⟨some 32, .pick (.t 22) (.t 31) (.c (.bool false)), some (18, false)⟩,
 ⟨some 33, .pick (.t 18) (.c (.bool true)) (.t 32), none⟩])
 (.cond (.t 33)
  (.seq
  (.reg [⟨some 2, .mv (.c (.bool false)), none⟩])
  .ret)
  .skip))
 (.seq
 (.seq
 (.reg [⟨some 34, .faddr 1 (.t 1), none⟩,
 ⟨some 35, .load none (.t 34), none⟩])
 (.block 0
  (.seq
  (.seq
  (.reg [⟨some 37, .bin .eql (.t 35) (.c (.int .i64 0)), none⟩,
  ⟨some 36, .mv (.t 37), none⟩])
  (.cond (.t 36)
   .skip
   (.reg [⟨some 38, .bin .eql (.t 35) (.c (.int .i64 1)), none⟩,
   ⟨some 36, .mv (.t 38), none⟩])))
  (.cond (.t 36)
   (.seq
   (.reg [⟨some 39, .faddr 2 (.t 1), none⟩,
   ⟨some 40, .load none (.t 39), none⟩,
   ⟨some 41, .len (.t 40), none⟩,
   ⟨some 42, .call 29 false [(.t 41), (.c (.int .i64 1)), (.c (.int .i64 4))], none⟩,
   ⟨some 43, .mv (.t 42), none⟩,
   ⟨some 44, .faddr 2 (.t 1), some (43, true)⟩,
   ⟨some 45, .load none (.t 44), some (43, true)⟩,
   ⟨some 46, .call 60 false [(.t 45)], some (43, true)⟩,
   ⟨some 47, .pick (.t 43) (.t 46) (.c (.bool false)), none⟩,
   ⟨some 2, .mv (.t 47), none⟩])
   .ret)
   (.seq
   (.reg [⟨some 49, .bin .eql (.t 35) (.c (.int .i64 2)), none⟩,
   ⟨some 48, .mv (.t 49), none⟩])
   (.cond (.t 48)
    (.seq
    (.reg [⟨some 50, .faddr 2 (.t 1), none⟩,
    ⟨some 51, .load none (.t 50), none⟩,
    ⟨some 52, .len (.t 51), none⟩,
    ⟨some 53, .bin .eql (.t 52) (.c (.int .i64 0)), none⟩,
    ⟨some 54, .mv (.t 53), none⟩,
    ⟨some 55, .faddr 3 (.t 1), some (54, true)⟩,
    ⟨some 56, .load none (.t 55), some (54, true)⟩,
    ⟨some 57, .len (.t 56), some (54, true)⟩,
    ⟨some 58, .bin .eql (.t 57) (.c (.int .i64 1)), some (54, true)⟩,
    ⟨some 59, .pick (.t 54) (.t 58) (.c (.bool false)), none⟩,
    ⟨some 60, .mv (.t 59), none⟩,
    ⟨some 61, .faddr 3 (.t 1), some (60, true)⟩,
    ⟨some 62, .load none (.t 61), some (60, true)⟩,
    ⟨some 63, .iaddr 4 (.t 62) (.c (.int .i64 0)), some (60, true)⟩,
    ⟨some 64, .load (some 4) (.t 63), some (60, true)⟩,
    ⟨some 65, .call 100 false [(.t 64)], some (60, true)⟩,
    ⟨some 66, .pick (.t 60) (.t 65) (.c (.bool false)), none⟩,
    ⟨some 2, .mv (.t 66), none⟩])
    .ret)
    (.seq
    (.reg [⟨some 68, .bin .eql (.t 35) (.c (.int .i64 3)), none⟩,
    ⟨some 67, .mv (.t 68), none⟩])
    (.cond (.t 67)
     (.seq
     (.reg [⟨some 69, .faddr 2 (.t 1), none⟩,
     ⟨some 70, .load none (.t 69), none⟩,
     ⟨some 71, .len (.t 70), none⟩,
     ⟨some 72, .call 29 false [(.t 71), (.c (.int .i64 1)), (.c (.int .i64 4))], none⟩,
     ⟨some 73, .mv (.t 72), none⟩,
     ⟨some 74, .faddr 5 (.t 1), some (73, true)⟩,
     ⟨some 75, .load none (.t 74), some (73, true)⟩,
     ⟨some 76, .len (.t 75), some (73, true)⟩,
     ⟨some 77, .faddr 2 (.t 1), some (73, true)⟩,
     ⟨some 78, .load none (.t 77), some (73, true)⟩,
     ⟨some 79, .len (.t 78), some (73, true)⟩,
     ⟨some 80, .bin .eql (.t 76) (.t 79), some (73, true)⟩,
     ⟨some 81, .pick (.t 73) (.t 80) (.c (.bool false)), none⟩,
     ⟨some 82, .mv (.t 81), none⟩,
     ⟨some 83, .faddr 2 (.t 1), some (82, true)⟩,
     ⟨some 84, .load none (.t 83), some (82, true)⟩,
     ⟨some 85, .call 60 false [(.t 84)], some (82, true)⟩,
     ⟨some 86, .pick (.t 82) (.t 85) (.c (.bool false)), none⟩,
     ⟨some 87, .mv (.t 86), none⟩,
     ⟨some 88, .faddr 5 (.t 1), some (87, true)⟩,
     ⟨some 89, .load none (.t 88), some (87, true)⟩,
     ⟨some 90, .call 60 false [(.t 89)], some (87, true)⟩,
     ⟨some 91, .pick (.t 87) (.t 90) (.c (.bool false)), none⟩,
     ⟨some 92, .mv (.t 91), none⟩,
     ⟨some 93, .faddr 4 (.t 1), some (92, true)⟩,
     ⟨some 94, .load none (.t 93), some (92, true)⟩,
     ⟨some 95, .call 44 false [(.t 94)], some (92, true)⟩,
     ⟨some 96, .pick (.t 92) (.t 95) (.c (.bool false)), none⟩,
     ⟨some 2, .mv (.t 96), none⟩])
     .ret)
     .skip))))))))
 (.seq
 (.reg [⟨some 2, .mv (.c (.bool false)), none⟩])
 .ret))))⟩
structure H99 (Γ : Tab) : Prop where
  e99 : Γ 99 = some (.code f99)
  c29 : H29 Γ
  c44 : H44 Γ
  c60 : H60 Γ
  c100 : H100 Γ
/- loop.example/g00751/impl.StmtOk$2 -/
def f58 : DFn := ⟨1, false, [.t 2],
 (.seq
 (.reg [⟨some 1, .box (.t 0), none⟩,
 ⟨some 2, .mv (.c (.bool false)), none⟩])
 (.seq
 (.reg [⟨some 3, .load (some 6) (.t 1), none⟩,
 ⟨some 4, .call 99 false [(.t 3)], none⟩,
 ⟨some 5, .un .not (.t 4), none⟩,
 ⟨some 2, .mv (.t 5), none⟩])
 .ret))⟩
structure H58 (Γ : Tab) : Prop where
  e58 : Γ 58 = some (.code f58)
  c99 : H99 Γ
/- loop.example/g00751/impl.StmtOk$3 -/
def f59 : DFn := ⟨1, false, [.t 2],
 (.seq
 (.reg [⟨some 1, .box (.t 0), none⟩,
 ⟨some 2, .mv (.c (.bool false)), none⟩])
 (.seq
 (.reg [⟨some 3, .load (some 4) (.t 1), none⟩,
 ⟨some 4, .call 100 false [(.t 3)], none⟩,
 ⟨some 5, .un .not (.t 4), none⟩,
 ⟨some 2, .mv (.t 5), none⟩])
 .ret))⟩
structure H59 (Γ : Tab) : Prop where
  e59 : Γ 59 = some (.code f59)
  c100 : H100 Γ
/- loop.example/g00751/impl.used -/
def f62 : DFn := ⟨1, false, [.t 2],
 (.seq
 (.reg [⟨some 2, .mv (.c (.str [])), none⟩])
 (.seq
 (.seq
 (.reg [⟨some 3, .mv (.t 0), none⟩])
 (.block 0
  (.seq
  (.reg [⟨some 5, .bin .eql (.t 3) (.c (.int .i64 0)), none⟩,
  ⟨some 4, .mv (.t 5), none⟩])
  (.cond (.t 4)
   (.seq
   (.reg [⟨some 2, .mv (.c (.str [108, 105, 115, 116])), none⟩])
   .ret)
   (.seq
   (.reg [⟨some 7, .bin .eql (.t 3) (.c (.int .i64 2)), none⟩,
   ⟨some 6, .mv (.t 7), none⟩])
   (.cond (.t 6)
    (.seq
    (.reg [⟨some 2, .mv (.c (.str [110, 117, 109])), none⟩])
    .ret)
    (.seq
    (.reg [⟨some 9, .bin .eql (.t 3) (.c (.int .i64 4)), none⟩,
    ⟨some 8, .mv (.t 9), none⟩])
    (.cond (.t 8)
     (.seq
     (.reg [⟨some 2, .mv (.c (.str [99, 111, 108, 115, 32, 114, 117, 108, 101, 115])), none⟩])
     .ret)
     (.seq
     (.reg [⟨some 11, .bin .eql (.t 3) (.c (.int .i64 6)), none⟩,
     ⟨some 10, .mv (.t 11), none⟩])
     (.cond (.t 10)
      (.seq
      (.reg [⟨some 2, .mv (.c (.str [99, 111, 108, 115])), none⟩])
      .ret)
      (.seq
      (.reg [⟨some 13, .bin .eql (.t 3) (.c (.int .i64 11)), none⟩,
      ⟨some 12, .mv (.t 13), none⟩])
      (.cond (.t 12)
       (.seq
       (.reg [⟨some 2, .mv (.c (.str [114, 117, 108, 101, 115])), none⟩])
       .ret)
       (.seq
       (.seq
       (.reg [⟨some 15, .bin .eql (.t 3) (.c (.int .i64 7)), none⟩,
       ⟨some 14, .mv (.t 15), none⟩])
       (.cond (.t 14)
        .skip
        (.reg [⟨some 16, .bin .eql (.t 3) (.c (.int .i64 12)), none⟩,
        ⟨some 14, .mv (.t 16), none⟩])))
       (.cond (.t 14)
        (.seq
        (.reg [⟨some 2, .mv (.c (.str [111, 110])), none⟩])
        .ret)
        (.seq
        (.reg [⟨some 18, .bin .eql (.t 3) (.c (.int .i64 8)), none⟩,
        ⟨some 17, .mv (.t 18), none⟩])
        (.cond (.t 17)
         (.seq
         (.reg [⟨some 2, .mv (.c (.str [111, 110, 32, 116, 121, 112, 101])), none⟩])
         .ret)
         (.seq
         (.reg [⟨some 20, .bin .eql (.t 3) (.c (.int .i64 9)), none⟩,
         ⟨some 19, .mv (.t 20), none⟩])
         (.cond (.t 19)
          (.seq
          (.reg [⟨some 2, .mv (.c (.str [111, 110, 32, 102, 108, 97, 103])), none⟩])
          .ret)
          (.seq
          (.reg [⟨some 22, .bin .eql (.t 3) (.c (.int .i64 10)), none⟩,
          ⟨some 21, .mv (.t 22), none⟩])
          (.cond (.t 21)
           (.seq
           (.reg [⟨some 2, .mv (.c (.str [111, 110, 32, 101, 120, 112, 114, 115])), none⟩])
           .ret)
           (.seq
           (.reg [⟨some 24, .bin .eql (.t 3) (.c (.int .i64 13)), none⟩,
           ⟨some 23, .mv (.t 24), none⟩])
           (.cond (.t 23)
            (.seq
            (.reg [⟨some 2, .mv (.c (.str [111, 110, 32, 108, 105, 115, 116, 32, 102, 108, 97, 103])), none⟩])
            .ret)
            (.seq
            (.reg [⟨some 26, .bin .eql (.t 3) (.c (.int .i64 15)), none⟩,
            ⟨some 25, .mv (.t 26), none⟩])
            (.cond (.t 25)
             (.seq
             (.reg [⟨some 2, .mv (.c (.str [111, 110, 32, 108, 105, 115, 116, 32, 101, 120, 112, 114, 115])), none⟩])
             .ret)
             .skip))))))))))))))))))))))))
 (.seq
 (.reg [⟨some 2, .mv (.c (.str [])), none⟩])
 .ret)))⟩
structure H62 (Γ : Tab) : Prop where
  e62 : Γ 62 = some (.code f62)
/- loop.example/g00751/impl.isOnly$1 -/
def f94 : DFn := ⟨3, false, [.t 5],
 (.seq
 (.reg [⟨some 5, .mv (.c (.bool false)), none⟩])
 (.seq
 (.reg [⟨some 6, .mv (.t 1), none⟩,
 ⟨some 7, .mv (.t 6), none⟩,
 ⟨some 8, .faddr 0 (.t 2), some (7, false)⟩,
 ⟨some 9, .load none (.t 8), some (7, false)⟩,
 ⟨some 10, .call 62 false [(.t 9)], some (7, false)⟩,
 ⟨some 11, .mv (.t 0), some (7, false)⟩,
 ⟨some 12, .call 83 false [(.t 10), (.t 11)], some (7, false)⟩,
 ⟨some 13, .pick (.t 7) (.c (.bool true)) (.t 12), none⟩,
 ⟨some 5, .mv (.t 13), none⟩])
 .ret))⟩
structure H94 (Γ : Tab) : Prop where
  e94 : Γ 94 = some (.code f94)
  c62 : H62 Γ
  c83 : H83 Γ
/- loop.example/g00751/impl.isOnly -/
def f61 : DFn := ⟨1, false, [.t 2],
 (.seq
 (.reg [⟨some 1, .box (.t 0), none⟩,
 ⟨some 2, .mv (.c (.bool false)), none⟩])
 (.seq
 (.reg [⟨some 4, .mkfn 94 [(.t 1)], none⟩,
 ⟨some 3, .mv (.t 4), none⟩])
 (.seq
 (.reg [⟨some 5, .mv (.t 3), none⟩,
 ⟨some 6, .faddr 2 (.t 1), none⟩,
 ⟨some 7, .load none (.t 6), none⟩,
 ⟨some 8, .bin .eql (.t 7) (.c (.str [])), none⟩,
 ⟨some 9, .callv (.t 5) [(.c (.str [111, 110])), (.t 8)], none⟩,
 ⟨some 10, .mv (.t 9), none⟩,
 ⟨some 11, .mv (.t 3), some (10, true)⟩,
 ⟨some 12, .faddr 3 (.t 1), some (10, true)⟩,
 ⟨some 13, .load none (.t 12), some (10, true)⟩,
 ⟨some 14, .len (.t 13), some (10, true)⟩,
 ⟨some 15, .bin .eql (.t 14) (.c (.int .i64 0)), some (10, true)⟩,
 ⟨some 16, .callv (.t 11) [(.c (.str [108, 105, 115, 116])), (.t 15)], some (10, true)⟩,
 ⟨some 17, .pick (.t 10) (.t 16) (.c (.bool false)), none⟩,
 ⟨some 18, .mv (.t 17), none⟩,
 ⟨some 19, .mv (.t 3), some (18, true)⟩,
 ⟨some 20, .faddr 4 (.t 1), some (18, true)⟩,
 ⟨some 21, .load none (.t 20), some (18, true)⟩,
 ⟨some 22, .bin .eql (.t 21) (.c (.int .i64 0)), some (18, true)⟩,
 ⟨some 23, .callv (.t 19) [(.c (.str [110, 117, 109])), (.t 22)], some (18, true)⟩,
 ⟨some 24, .pick (.t 18) (.t 23) (.c (.bool false)), none⟩,
 ⟨some 25, .mv (.t 24), none⟩,
 ⟨some 26, .mv (.t 3), some (25, true)⟩,
 ⟨some 27, .faddr 5 (.t 1), some (25, true)⟩,
 ⟨some 28, .load none (.t 27), some (25, true)⟩,
 ⟨some 29, .un .not (.t 28), some (25, true)⟩,
 ⟨some 30, .callv (.t 26) [(.c (.str [102, 108, 97, 103])), (.t 29)], some (25, true)⟩,
 ⟨some 31, .pick (.t 25) (.t 30) (.c (.bool false)), none⟩,
 ⟨some 32, .mv (.t 31), none⟩,
 ⟨some 33, .mv (.t 3), some (32, true)⟩,
 ⟨some 34, .faddr 6 (.t 1), some (32, true)⟩,
 ⟨some 35, .load (some 3) (.t 34), some (32, true)⟩,
 ⟨some 36, .build [.int .i64 0, .int .i64 0, .str []] [], some (32, true)⟩,
 ⟨some 37, .eqs false [.i, .i, .s] (.t 35) (.t 36), some (32, true)⟩,
 ⟨some 38, .callv (.t 33) [(.c (.str [116, 121, 112, 101])), (.t 37)], some (32, true)⟩,
 ⟨some 39, .pick (.t 32) (.t 38) (.c (.bool false)), none⟩,
 ⟨some 40, .mv (.t 39), none⟩,
 ⟨some 41, .mv (.t 3), some (40, true)⟩,
 ⟨some 42, .faddr 9 (.t 1), some (40, true)⟩,
 ⟨some 43, .load none (.t 42), some (40, true)⟩,
 ⟨some 44, .len (.t 43), some (40, true)⟩,
 ⟨some 45, .bin .eql (.t 44) (.c (.int .i64 0)), some (40, true)⟩,
 ⟨some 46, .callv (.t 41) [(.c (.str [99, 111, 108, 115])), (.t 45)], some (40, true)⟩,
 ⟨some 47, .pick (.t 40) (.t 46) (.c (.bool false)), none⟩,
 ⟨some 48, .mv (.t 47), none⟩,
 ⟨some 49, .mv (.t 3), some (48, true)⟩,
 ⟨some 50, .faddr 10 (.t 1), some (48, true)⟩,
 ⟨some 51, .load none (.t 50), some (48, true)⟩,
 ⟨some 52, .len (.t 51), some (48, true)⟩,
 ⟨some 53, .bin .eql (.t 52) (.c (.int .i64 0)), some (48, true)⟩,
 ⟨some 54, .callv (.t 49) [(.c (.str [114, 117, 108, 101, 115])), (.t 53)], some (48, true)⟩,
 ⟨some 55, .pick (.t 48) (.t 54) (.c (.bool false)), none⟩,
 ⟨some 56, .mv (.t 55), none⟩,
 ⟨some 57, .mv (.t 3), some (56, true)⟩,
 ⟨some 58, .faddr 11 (.t 1), some (56, true)⟩,
 ⟨some 59, .load none (.t 58), some (56, true)⟩,
 ⟨some 60, .len (.t 59), some (56, true)⟩,
 ⟨some 61, .bin .eql (.t 60) (.c (.int .i64 0)), some (56, true)⟩,
 ⟨some 62, .callv (.t 57) [(.c (.str [101, 120, 112, 114, 115])), (.t 61)], some (56, true)⟩,
 ⟨some 63, .pick (.t 56) (.t 62) (.c (.bool false)), none⟩,
 ⟨some 2, .mv (.t 63), none⟩])
 .ret)))⟩
structure H61 (Γ : Tab) : Prop where
  e61 : Γ 61 = some (.code f61)
  c94 : H94 Γ
/- slices.IndexFunc[[]loop.example/g00751/impl.Col,loop.example/g00751/impl.Col] -/
def f95l1 : DCode :=
   (.seq
   (.reg [⟨some 9, .bin .lss (.t 8) (.t 7), none⟩])
   (.seq
   (.cond (.t 9)
    .skip
    (.exit 0))
   (.seq
   (.block 1
    (.seq
    (.reg [⟨some 10, .mv (.t 8), none⟩,
    ⟨some 5, .mv (.t 10), none⟩])
    (.seq
    (.reg [⟨some 11, .mv (.t 1), none⟩,
    ⟨some 12, .mv (.t 0), none⟩,
    ⟨some 13, .mv (.t 5), none⟩,
    ⟨some 14, .iaddr 6 (.t 12) (.t 13), none⟩,
    ⟨some 15, .load (some 6) (.t 14), none⟩,
    ⟨some 16, .callv (.t 11) [(.t 15)], none⟩])
    (.cond (.t 16)
     (.seq
     (.reg [⟨some 17, .mv (.t 5), none⟩,
     ⟨some 4, .mv (.t 17), none⟩])
     .ret)
     .skip))))
   (.reg [⟨some 18, .bin .add (.t 8) (.c (.int .i64 1)), none⟩,
   ⟨some 8, .mv (.t 18), none⟩]))))
def f95 : DFn := ⟨2, false, [.t 4],
 (.seq
 (.reg [⟨some 4, .mv (.c (.int .i64 0)), none⟩])
 (.seq
 (.seq
 (.reg [⟨some 6, .mv (.t 0), none⟩,
 ⟨some 7, .len (.t 6), none⟩,
 ⟨some 8, .mv (.c (.int .i64 0)), none⟩])
 (.block 0
  (.loop [0, 1, 7, 8] f95l1)))
 (.seq
 (.reg [⟨some 4, .mv (.c (.int .i64 (-1))), none⟩])
 .ret)))⟩
structure H95 (Γ : Tab) : Prop where
  e95 : Γ 95 = some (.code f95)
/- slices.ContainsFunc[[]loop.example/g00751/impl.Col,loop.example/g00751/impl.Col] -/
def f63 : DFn := ⟨2, false, [.t 4],
 (.seq
 (.reg [⟨some 4, .mv (.c (.bool false)), none⟩])
 (.seq
 (.reg [⟨some 5, .mv (.t 0), none⟩,
 ⟨some 6, .mv (.t 1), none⟩,
 ⟨some 7, .call 95 false [(.t 5), (.t 6)], none⟩,
 ⟨some 8, .bin .geq (.t 7) (.c (.int .i64 0)), none⟩,
 ⟨some 4, .mv (.t 8), none⟩])
 .ret))⟩
structure H63 (Γ : Tab) : Prop where
  e63 : Γ 63 = some (.code f63)
  c95 : H95 Γ
/- slices.IndexFunc[[]loop.example/g00751/impl.Rule,loop.example/g00751/impl.Rule] -/
def f98l1 : DCode :=
   (.seq
   (.reg [⟨some 9, .bin .lss (.t 8) (.t 7), none⟩])
   (.seq
   (.cond (.t 9)
    .skip
    (.exit 0))
   (.seq
   (.block 1
    (.seq
    (.reg [⟨some 10, .mv (.t 8), none⟩,
    ⟨some 5, .mv (.t 10), none⟩])
    (.seq
    (.reg [⟨some 11, .mv (.t 1), none⟩,
    ⟨some 12, .mv (.t 0), none⟩,
    ⟨some 13, .mv (.t 5), none⟩,
    ⟨some 14, .iaddr 6 (.t 12) (.t 13), none⟩,
    ⟨some 15, .load (some 6) (.t 14), none⟩,
    ⟨some 16, .callv (.t 11) [(.t 15)], none⟩])
    (.cond (.t 16)
     (.seq
     (.reg [⟨some 17, .mv (.t 5), none⟩,
     ⟨some 4, .mv (.t 17), none⟩])
     .ret)
     .skip))))
   (.reg [⟨some 18, .bin .add (.t 8) (.c (.int .i64 1)), none⟩,
   ⟨some 8, .mv (.t 18), none⟩]))))
def f98 : DFn := ⟨2, false, [.t 4],
 (.seq
 (.reg [⟨some 4, .mv (.c (.int .i64 0)), none⟩])
 (.seq
 (.seq
 (.reg [⟨some 6, .mv (.t 0), none⟩,
 ⟨some 7, .len (.t 6), none⟩,
 ⟨some 8, .mv (.c (.int .i64 0)), none⟩])
 (.block 0
  (.loop [0, 1, 7, 8] f98l1)))
 (.seq
 (.reg [⟨some 4, .mv (.c (.int .i64 (-1))), none⟩])
 .ret)))⟩
structure H98 (Γ : Tab) : Prop where
  e98 : Γ 98 = some (.code f98)
/- slices.ContainsFunc[[]loop.example/g00751/impl.Rule,loop.example/g00751/impl.Rule] -/
def f65 : DFn := ⟨2, false, [.t 4],
 (.seq
 (.reg [⟨some 4, .mv (.c (.bool false)), none⟩])
 (.seq
 (.reg [⟨some 5, .mv (.t 0), none⟩,
 ⟨some 6, .mv (.t 1), none⟩,
 ⟨some 7, .call 98 false [(.t 5), (.t 6)], none⟩,
 ⟨some 8, .bin .geq (.t 7) (.c (.int .i64 0)), none⟩,
 ⟨some 4, .mv (.t 8), none⟩])
 .ret))⟩
structure H65 (Γ : Tab) : Prop where
  e65 : Γ 65 = some (.code f65)
  c98 : H98 Γ
/- loop.example/g00751/impl.StmtOk -/
def f23 : DFn := ⟨1, false, [.t 2],
 (.seq
 (.reg [⟨some 1, .box (.t 0), none⟩,
 ⟨some 2, .mv (.c (.bool false)), none⟩])
 (.seq
 (.seq
 (.reg [⟨some 3, .faddr 0 (.t 1), none⟩,
 ⟨some 4, .load none (.t 3), none⟩,
 ⟨some 5, .call 29 false [(.t 4), (.c (.int .i64 0)), (.c (.int .i64 16))], none⟩,
 ⟨some 6, .un .not (.t 5), none⟩,
 ⟨some 7, .mv (.t 6), none⟩,
 ⟨some 8, .faddr 1 (.t 1), some (7, false)⟩,
 ⟨some 9, .load none (.t 8), some (7, false)⟩,
 ⟨some 10, .call 44 false [(.t 9)], some (7, false)⟩,
 ⟨some 11, .un .not (.t 10), some (7, false)⟩,
 ⟨some 12, .pick (.t 7) (.c (.bool true)) (.t 11), none⟩,
 ⟨some 13, .mv (.t 12), none⟩,
 ⟨some 14, .load (some 12) (.t 1), some (13, false)⟩,
 ⟨some 15, .call 61 false [(.t 14)], some (13, false)⟩,
 ⟨some 16, .un .not (.t 15), some (13, false)⟩,
 ⟨some 17, .pick (.t 13) (.c (.bool true)) (.t 16), none⟩])
 (.cond (.t 17)
  (.seq
  (.reg [⟨some 2, .mv (.c (.bool false)), none⟩])
  .ret)
  .skip))
 (.seq
 (.seq
 (.reg [⟨some 18, .faddr 0 (.t 1), none⟩,
 ⟨some 19, .load none (.t 18), none⟩,
 ⟨some 20, .call 62 false [(.t 19)], none⟩,
 ⟨some 21, .call 32 false [(.t 20), (.c (.str [111, 110]))], none⟩,
 ⟨some 22, .mv (.t 21), none⟩,
 ⟨some 23, .faddr 2 (.t 1), some (22, true)⟩,
 ⟨some 24, .load none (.t 23), some (22, true)⟩,
 ⟨some 25, .call 44 false [(.t 24)], some (22, true)⟩,
 ⟨some 26, .un .not (.t 25), some (22, true)⟩,
 ⟨some 27, .pick (.t 22) (.t 26) (.c (.bool false)), none⟩])
 (.cond (.t 27)
  (.seq
  (.reg [⟨some 2, .mv (.c (.bool false)), none⟩])
  .ret)
  .skip))
 (.seq
 (.seq
 (.reg [⟨some 28, .faddr 9 (.t 1), none⟩,
 ⟨some 29, .load none (.t 28), none⟩,
 ⟨some 30, .call 63 false [(.t 29), (.c (.fn 57 []))], none⟩,
 ⟨some 31, .mv (.t 30), none⟩,
 ⟨some 32, .faddr 10 (.t 1), some (31, false)⟩,
 ⟨some 33, .load none (.t 32), some (31, false)⟩,
 ⟨some 34, .call 65 false [(.t 33), (.c (.fn 58 []))], some (31, false)⟩,
 ⟨some 35, .pick (.t 31) (.c (.bool true)) (.t 34), none⟩,
 ⟨some 36, .mv (.t 35), none⟩,
 ⟨some 37, .faddr 11 (.t 1), some (36, false)⟩,
 ⟨some 38, .load none (.t 37), some (36, false)⟩,
 ⟨some 39, .call 64 false [(.t 38), (.c (.fn 59 []))], some (36, false)⟩,
 ⟨some 40, .pick (.t 36) (.c (.bool true)) (.t 39), none⟩])
 (.cond (.t 40)
  (.seq
  (.reg [⟨some 2, .mv (.c (.bool false)), none⟩])
  .ret)
  .skip))
 (.seq
 (.seq
 (.reg [⟨some 41, .faddr 0 (.t 1), none⟩,
 ⟨some 42, .load none (.t 41), none⟩])
 (.block 0
  (.seq
  (.seq
  (.reg [⟨some 44, .bin .eql (.t 42) (.c (.int .i64 0)), none⟩,
  ⟨some 43, .mv (.t 44), none⟩])
  (.cond (.t 43)
   .skip
   (.reg [⟨some 45, .bin .eql (.t 42) (.c (.int .i64 13)), none⟩,
   ⟨some 43, .mv (.t 45), none⟩])))
  (.cond (.t 43)
   (.seq
   (.reg [⟨some 46, .faddr 3 (.t 1), none⟩,
   ⟨some 47, .load none (.t 46), none⟩,
   ⟨some 48, .len (.t 47), none⟩,
   ⟨some 49, .call 29 false [(.t 48), (.c (.int .i64 1)), (.c (.int .i64 12))], none⟩,
   ⟨some 50, .mv (.t 49), none⟩,
   ⟨some 51, .faddr 3 (.t 1), some (50, true)⟩,
   ⟨some 52, .load none (.t 51), some (50, true)⟩,
   ⟨some 53, .call 60 false [(.t 52)], some (50, true)⟩,
   ⟨some 54, .pick (.t 50) (.t 53) (.c (.bool false)), none⟩,
   ⟨some 2, .mv (.t 54), none⟩])
   .ret)
   (.seq
   (.reg [⟨some 56, .bin .eql (.t 42) (.c (.int .i64 2)), none⟩,
   ⟨some 55, .mv (.t 56), none⟩])
   (.cond (.t 55)
    (.seq
    (.reg [⟨some 57, .faddr 4 (.t 1), none⟩,
    ⟨some 58, .load none (.t 57), none⟩,
    ⟨some 59, .call 29 false [(.t 58), (.c (.int .i64 0)), (.c (.int .i64 999999999))], none⟩,
    ⟨some 2, .mv (.t 59), none⟩])
    .ret)
    (.seq
    (.reg [⟨some 61, .bin .eql (.t 42) (.c (.int .i64 4)), none⟩,
    ⟨some 60, .mv (.t 61), none⟩])
    (.cond (.t 60)
     (.seq
     (.reg [⟨some 62, .faddr 9 (.t 1), none⟩,
     ⟨some 63, .load none (.t 62), none⟩,
     ⟨some 64, .len (.t 63), none⟩,
     ⟨some 65, .bin .leq (.t 64) (.c (.int .i64 12)), none⟩,
     ⟨some 66, .mv (.t 65), none⟩,
     ⟨some 67, .faddr 10 (.t 1), some (66, true)⟩,
     ⟨some 68, .load none (.t 67), some (66, true)⟩,
     ⟨some 69, .len (.t 68), some (66, true)⟩,
     ⟨some 70, .bin .leq (.t 69) (.c (.int .i64 8)), some (66, true)⟩,
     ⟨some 71, .pick (.t 66) (.t 70) (.c (.bool false)), none⟩,
     ⟨some 2, .mv (.t 71), none⟩])
     .ret)
     (.seq
     (.reg [⟨some 73, .bin .eql (.t 42) (.c (.int .i64 6)), none⟩,
     ⟨some 72, .mv (.t 73), none⟩])
     (.cond (.t 72)
      (.seq
      (.reg [⟨some 74, .faddr 9 (.t 1), none⟩,
      ⟨some 75, .load none (.t 74), none⟩,
      ⟨some 76, .len (.t 75), none⟩,
      ⟨some 77, .bin .eql (.t 76) (.c (.int .i64 1)), none⟩,
      ⟨some 2, .mv (.t 77), none⟩])
      .ret)
      (.seq
      (.reg [⟨some 79, .bin .eql (.t 42) (.c (.int .i64 11)), none⟩,
      ⟨some 78, .mv (.t 79), none⟩])
      (.cond (.t 78)
       (.seq
       (.reg [⟨some 80, .faddr 10 (.t 1), none⟩,
       ⟨some 81, .load none (.t 80), none⟩,
       ⟨some 82, .len (.t 81), none⟩,
       ⟨some 83, .bin .eql (.t 82) (.c (.int .i64 1)), none⟩,
       ⟨some 2, .mv (.t 83), none⟩])
       .ret)
       (.seq
       (.reg [⟨some 85, .bin .eql (.t 42) (.c (.int .i64 8)), none⟩,
       ⟨some 84, .mv (.t 85), none⟩])
       (.cond (.t 84)
        (.seq
        (.reg [⟨some 86, .faddr 6 (.t 1), none⟩,
        ⟨some 87, .load (some 3) (.t 86), none⟩,
        ⟨some 88, .call 18 false [(.t 87)], none⟩,
        ⟨some 2, .mv (.t 88), none⟩])
        .ret)
        (.seq
        (.reg [⟨some 90, .bin .eql (.t 42) (.c (.int .i64 10)), none⟩,
        ⟨some 89, .mv (.t 90), none⟩])
        (.cond (.t 89)
         (.seq
         (.reg [⟨some 91, .faddr 11 (.t 1), none⟩,
         ⟨some 92, .load none (.t 91), none⟩,
         ⟨some 93, .len (.t 92), none⟩,
         ⟨some 94, .bin .leq (.t 93) (.c (.int .i64 1)), none⟩,
         ⟨some 2, .mv (.t 94), none⟩])
         .ret)
         (.seq
         (.reg [⟨some 96, .bin .eql (.t 42) (.c (.int .i64 15)), none⟩,
         ⟨some 95, .mv (.t 96), none⟩])
         (.cond (.t 95)
          (.seq
          (.reg [⟨some 97, .faddr 3 (.t 1), none⟩,
          ⟨some 98, .load none (.t 97), none⟩,
          ⟨some 99, .len (.t 98), none⟩,
          ⟨some 100, .call 29 false [(.t 99), (.c (.int .i64 1)), (.c (.int .i64 12))], none⟩,
          ⟨some 101, .mv (.t 100), none⟩,
          ⟨some 102, .faddr 3 (.t 1), some (101, true)⟩,
          ⟨some 103, .load none (.t 102), some (101, true)⟩,
          ⟨some 104, .call 60 false [(.t 103)], some (101, true)⟩,
          ⟨some 105, .pick (.t 101) (.t 104) (.c (.bool false)), none⟩,
          ⟨some 106, .mv (.t 105), none⟩,
          ⟨some 107, .faddr 11 (.t 1), some (106, true)⟩,
          ⟨some 108, .load none (.t 107), some (106, true)⟩,
          ⟨some 109, .len (.t 108), some (106, true)⟩,
          ⟨some 110, .bin .leq (.t 109) (.c (.int .i64 1)), some (106, true)⟩,
          ⟨some 111, .pick (.t 106) (.t 110) (.c (.bool false)), none⟩,
          ⟨some 2, .mv (.t 111), none⟩])
          .ret)
          .skip))))))))))))))))))
 (.seq
 (.reg [⟨some 2, .mv (.c (.bool true)), none⟩])
 .ret))))))⟩
structure H23 (Γ : Tab) : Prop where
  e23 : Γ 23 = some (.code f23)
  c18 : H18 Γ
  c29 : H29 Γ
  c32 : H32 Γ
  c44 : H44 Γ
  c57 : H57 Γ
  c58 : H58 Γ
  c59 : H59 Γ
  c60 : H60 Γ
  c61 : H61 Γ
  c62 : H62 Γ
  c63 : H63 Γ
  c64 : H64 Γ
  c65 : H65 Γ
/- loop.example/g00751/laws.eqExprS -/
def f67l1 : DCode :=
   (.seq
   (.seq
   (.reg [⟨some 11, .mv (.t 5), none⟩,
   ⟨some 12, .mv (.t 0), none⟩,
   ⟨some 13, .len (.t 12), none⟩,
   ⟨some 14, .bin .lss (.t 11) (.t 13), none⟩])
   (.cond (.t 14)
    .skip
    (.exit 0)))
   (.seq
   (.block 1
    (.seq
    (.any [⟨some 17, .mv (.t 0), none⟩,
    ⟨some 18, .mv (.t 5), none⟩,
    ⟨some 19, .iaddr 4 (.t 17) (.t 18), none⟩,
    ⟨some 20, .load (some 4) (.t 19), none⟩,
    ⟨some 21, .mv (.t 1), none⟩,
    ⟨some 22, .mv (.t 5), none⟩,
    ⟨some 23, .iaddr 4 (.t 21) (.t 22), none⟩,
    ⟨some 24, .load (some 4) (.t 23), none⟩,
    ⟨some 25, .call 107 false [(.t 20), (.t 24)], none⟩,
    ⟨some 26, .un .not (.t 25), none⟩]
    [])
    (.cond (.t 26)
     (.seq
     (.reg [⟨some 4, .mv (.c (.bool false)), none⟩])
     .ret)
     .skip)))
   (.reg [⟨some 15, .mv (.t 5), none⟩,
   ⟨some 16, .bin .add (.t 15) (.c (.int .i64 1)), none⟩,
   ⟨some 5, .mv (.t 16), none⟩])))
def f67 : DFn := ⟨2, false, [.t 4],
 (.seq
 (.reg [⟨some 4, .mv (.c (.bool false)), none⟩])
 (.seq
 (.seq
 (.reg [⟨some 6, .mv (.t 0), none⟩,
 ⟨some 7, .len (.t 6), none⟩,
 ⟨some 8, .mv (.t 1), none⟩,
 ⟨some 9, .len (.t 8), none⟩,
 ⟨some 10, .bin .neq (.t 7) (.t 9), none⟩])
 (.cond (.t 10)
  (.seq
  (.reg [⟨some 4, .mv (.c (.bool false)), none⟩])
  .ret)
  .skip))
 (.seq
 (.seq
 (.reg [⟨some 5, .mv (.c (.int .i64 0)), none⟩])
 (.block 0
  (.loop [1, 0, 5] f67l1)))
 (.seq
 (.reg [⟨some 4, .mv (.c (.bool true)), none⟩])
 .ret))))⟩
/- loop.example/g00751/laws.eqExpr -/
def f107 : DFn := ⟨2, false, [.t 4],
 (.seq
 (.reg [⟨some 2, .box (.t 0), none⟩,
 ⟨some 3, .box (.t 1), none⟩,
 ⟨some 4, .mv (.c (.bool false)), none⟩])
 (.seq
 (.seq
 (.reg [⟨some 5, .faddr 0 (.t 2), none⟩,
 ⟨some 6, .load none (.t 5), none⟩,
 ⟨some 7, .faddr 0 (.t 3), none⟩,
 ⟨some 8, .load none (.t 7), none⟩,
 ⟨some 9, .bin .neq (.t 6) (.t 8), none⟩])
 (.cond (.t 9)
  (.seq
  (.reg [⟨some 4, .mv (.c (.bool false)), none⟩])
  .ret)
  .skip))
 (.seq
 (.seq
 (.reg [⟨some 10, .faddr 1 (.t 2), none⟩,
 ⟨some 11, .load none (.t 10), none⟩,
 ⟨some 12, .faddr 1 (.t 3), none⟩,
 ⟨some 13, .load none (.t 12), none⟩,
 ⟨some 14, .bin .neq (.t 11) (.t 13), none⟩])
 (.cond (.t 14)
  (.seq
  (.reg [⟨some 4, .mv (.c (.bool false)), none⟩])
  .ret)
  .skip))
 (.seq
 (.seq
 (.reg [⟨some 15, .faddr 2 (.t 2), none⟩,
 ⟨some 16, .load none (.t 15), none⟩,
 ⟨some 17, .faddr 2 (.t 3), none⟩,
 ⟨some 18, .load none (.t 17), none⟩,
 ⟨some 19, .bin .neq (.t 16) (.t 18), none⟩])
 (.cond (.t 19)
  (.seq
  (.reg [⟨some 4, .mv (.c (.bool false)), none⟩])
  .ret)
  .skip))
 (.seq
 (.seq
 (.reg [⟨some 20, .faddr 3 (.t 2), none⟩,
 ⟨some 21, .load none (.t 20), none⟩,
 ⟨some 22, .faddr 3 (.t 3), none⟩,
 ⟨some 23, .load none (.t 22), none⟩,
 ⟨some 24, .call 67 false [(.t 21), (.t 23)], none⟩,
 ⟨some 25, .un .not (.t 24), none⟩])
 (.cond (.t 25)
  (.seq
  (.reg [⟨some 4, .mv (.c (.bool false)), none⟩])
  .ret)
  .skip))
 (.seq
 (.reg [⟨some 4, .mv (.c (.bool true)), none⟩])
 .ret))))))⟩
structure H67 (Γ : Tab) : Prop where
  e67 : Γ 67 = some (.code f67)
  e107 : Γ 107 = some (.code f107)
abbrev H107 := H67
/- loop.example/g00751/laws.eqType -/
def f70 : DFn := ⟨2, false, [.t 4],
 (.seq
 (.reg [⟨some 2, .box (.t 0), none⟩,
 ⟨some 3, .box (.t 1), none⟩,
 ⟨some 4, .mv (.c (.bool false)), none⟩])
 (.seq
 (.seq
 (.reg [⟨some 5, .faddr 0 (.t 2), none⟩,
 ⟨some 6, .load none (.t 5), none⟩,
 ⟨some 7, .faddr 0 (.t 3), none⟩,
 ⟨some 8, .load none (.t 7), none⟩,
 ⟨some 9, .bin .neq (.t 6) (.t 8), none⟩])
 (.cond (.t 9)
  (.seq
  (.reg [⟨some 4, .mv (.c (.bool false)), none⟩])
  .ret)
  .skip))
 (.seq
 (.seq
 (.reg [⟨some 10, .faddr 1 (.t 2), none⟩,
 ⟨some 11, .load none (.t 10), none⟩,
 ⟨some 12, .faddr 1 (.t 3), none⟩,
 ⟨some 13, .load none (.t 12), none⟩,
 ⟨some 14, .bin .neq (.t 11) (.t 13), none⟩])
 (.cond (.t 14)
  (.seq
  (.reg [⟨some 4, .mv (.c (.bool false)), none⟩])
  .ret)
  .skip))
 (.seq
 (.seq
 (.reg [⟨some 15, .faddr 2 (.t 2), none⟩,
 ⟨some 16, .load none (.t 15), none⟩,
 ⟨some 17, .faddr 2 (.t 3), none⟩,
 ⟨some 18, .load none (.t 17), none⟩,
 ⟨some 19, .bin .neq (.t 16) (.t 18), none⟩])
 (.cond (.t 19)
  (.seq
  (.reg [⟨some 4, .mv (.c (.bool false)), none⟩])
  .ret)
  .skip))
 (.seq
 (.reg [⟨some 4, .mv (.c (.bool true)), none⟩])
 .ret)))))⟩
structure H70 (Γ : Tab) : Prop where
  e70 : Γ 70 = some (.code f70)
/- loop.example/g00751/laws.eqCol -/
def f105 : DFn := ⟨2, false, [.t 4],
 (.seq
 (.reg [⟨some 2, .box (.t 0), none⟩,
 ⟨some 3, .box (.t 1), none⟩,
 ⟨some 4, .mv (.c (.bool false)), none⟩])
 (.seq
 (.seq
 (.reg [⟨some 5, .faddr 0 (.t 2), none⟩,
 ⟨some 6, .load none (.t 5), none⟩,
 ⟨some 7, .faddr 0 (.t 3), none⟩,
 ⟨some 8, .load none (.t 7), none⟩,
 ⟨some 9, .bin .neq (.t 6) (.t 8), none⟩])
 (.cond (.t 9)
  (.seq
  (.reg [⟨some 4, .mv (.c (.bool false)), none⟩])
  .ret)
  .skip))
 (.seq
 (.seq
 (.reg [⟨some 10, .faddr 1 (.t 2), none⟩,
 ⟨some 11, .load (some 3) (.t 10), none⟩,
 ⟨some 12, .faddr 1 (.t 3), none⟩,
 ⟨some 13, .load (some 3) (.t 12), none⟩,
 ⟨some 14, .call 70 false [(.t 11), (.t 13)], none⟩,
 ⟨some 15, .un .not (.t 14), none⟩])
 (.cond (.t 15)
  (.seq
  (.reg [⟨some 4, .mv (.c (.bool false)), none⟩])
  .ret)
  .skip))
 (.seq
 (.seq
 (.reg [⟨some 16, .faddr 4 (.t 2), none⟩,
 ⟨some 17, .load none (.t 16), none⟩,
 ⟨some 18, .faddr 4 (.t 3), none⟩,
 ⟨some 19, .load none (.t 18), none⟩,
 ⟨some 20, .binb .neq (.t 17) (.t 19), none⟩])
 (.cond (.t 20)
  (.seq
  (.reg [⟨some 4, .mv (.c (.bool false)), none⟩])
  .ret)
  .skip))
 (.seq
 (.seq
 (.reg [⟨some 21, .faddr 5 (.t 2), none⟩,
 ⟨some 22, .load none (.t 21), none⟩,
 ⟨some 23, .faddr 5 (.t 3), none⟩,
 ⟨some 24, .load none (.t 23), none⟩,
 ⟨some 25, .call 67 false [(.t 22), (.t 24)], none⟩,
 ⟨some 26, .un .not (.t 25), none⟩])
 (.cond (.t 26)
  (.seq
  (.reg [⟨some 4, .mv (.c (.bool false)), none⟩])
  .ret)
  .skip))
 (.seq
 (.reg [⟨some 4, .mv (.c (.bool true)), none⟩])
 .ret))))))⟩
structure H105 (Γ : Tab) : Prop where
  e105 : Γ 105 = some (.code f105)
  c67 : H67 Γ
  c70 : H70 Γ
/- loop.example/g00751/laws.eqColS -/
def f66l1 : DCode :=
   (.seq
   (.seq
   (.reg [⟨some 11, .mv (.t 5), none⟩,
   ⟨some 12, .mv (.t 0), none⟩,
   ⟨some 13, .len (.t 12), none⟩,
   ⟨some 14, .bin .lss (.t 11) (.t 13), none⟩])
   (.cond (.t 14)
    .skip
    (.exit 0)))
   (.seq
   (.block 1
    (.seq
    (.any [⟨some 17, .mv (.t 0), none⟩,
    ⟨some 18, .mv (.t 5), none⟩,
    ⟨some 19, .iaddr 6 (.t 17) (.t 18), none⟩,
    ⟨some 20, .load (some 6) (.t 19), none⟩,
    ⟨some 21, .mv (.t 1), none⟩,
    ⟨some 22, .mv (.t 5), none⟩,
    ⟨some 23, .iaddr 6 (.t 21) (.t 22), none⟩,
    ⟨some 24, .load (some 6) (.t 23), none⟩,
    ⟨some 25, .call 105 false [(.t 20), (.t 24)], none⟩,
    ⟨some 26, .un .not (.t 25), none⟩]
    [])
    (.cond (.t 26)
     (.seq
     (.reg [⟨some 4, .mv (.c (.bool false)), none⟩])
     .ret)
     .skip)))
   (.reg [⟨some 15, .mv (.t 5), none⟩,
   ⟨some 16, .bin .add (.t 15) (.c (.int .i64 1)), none⟩,
   ⟨some 5, .mv (.t 16), none⟩])))
def f66 : DFn := ⟨2, false, [.t 4],
 (.seq
 (.reg [⟨some 4, .mv (.c (.bool false)), none⟩])
 (.seq
 (.seq
 (.reg [⟨some 6, .mv (.t 0), none⟩,
 ⟨some 7, .len (.t 6), none⟩,
 ⟨some 8, .mv (.t 1), none⟩,
 ⟨some 9, .len (.t 8), none⟩,
 ⟨some 10, .bin .neq (.t 7) (.t 9), none⟩])
 (.cond (.t 10)
  (.seq
  (.reg [⟨some 4, .mv (.c (.bool false)), none⟩])
  .ret)
  .skip))
 (.seq
 (.seq
 (.reg [⟨some 5, .mv (.c (.int .i64 0)), none⟩])
 (.block 0
  (.loop [1, 0, 5] f66l1)))
 (.seq
 (.reg [⟨some 4, .mv (.c (.bool true)), none⟩])
 .ret))))⟩
structure H66 (Γ : Tab) : Prop where
  e66 : Γ 66 = some (.code f66)
  c105 : H105 Γ
/- loop.example/g00751/laws.eqStringS -/
def f69l1 : DCode :=
   (.seq
   (.seq
   (.reg [⟨some 11, .mv (.t 5), none⟩,
   ⟨some 12, .mv (.t 0), none⟩,
   ⟨some 13, .len (.t 12), none⟩,
   ⟨some 14, .bin .lss (.t 11) (.t 13), none⟩])
   (.cond (.t 14)
    .skip
    (.exit 0)))
   (.seq
   (.block 1
    (.seq
    (.any [⟨some 17, .mv (.t 0), none⟩,
    ⟨some 18, .mv (.t 5), none⟩,
    ⟨some 19, .iaddr 1 (.t 17) (.t 18), none⟩,
    ⟨some 20, .load none (.t 19), none⟩,
    ⟨some 21, .mv (.t 1), none⟩,
    ⟨some 22, .mv (.t 5), none⟩,
    ⟨some 23, .iaddr 1 (.t 21) (.t 22), none⟩,
    ⟨some 24, .load none (.t 23), none⟩,
    ⟨some 25, .bin .neq (.t 20) (.t 24), none⟩]
    [])
    (.cond (.t 25)
     (.seq
     (.reg [⟨some 4, .mv (.c (.bool false)), none⟩])
     .ret)
     .skip)))
   (.reg [⟨some 15, .mv (.t 5), none⟩,
   ⟨some 16, .bin .add (.t 15) (.c (.int .i64 1)), none⟩,
   ⟨some 5, .mv (.t 16), none⟩])))
def f69 : DFn := ⟨2, false, [.t 4],
 (.seq
 (.reg [⟨some 4, .mv (.c (.bool false)), none⟩])
 (.seq
 (.seq
 (.reg [⟨some 6, .mv (.t 0), none⟩,
 ⟨some 7, .len (.t 6), none⟩,
 ⟨some 8, .mv (.t 1), none⟩,
 ⟨some 9, .len (.t 8), none⟩,
 ⟨some 10, .bin .neq (.t 7) (.t 9), none⟩])
 (.cond (.t 10)
  (.seq
  (.reg [⟨some 4, .mv (.c (.bool false)), none⟩])
  .ret)
  .skip))
 (.seq
 (.seq
 (.reg [⟨some 5, .mv (.c (.int .i64 0)), none⟩])
 (.block 0
  (.loop [1, 0, 5] f69l1)))
 (.seq
 (.reg [⟨some 4, .mv (.c (.bool true)), none⟩])
 .ret))))⟩
structure H69 (Γ : Tab) : Prop where
  e69 : Γ 69 = some (.code f69)
/- loop.example/g00751/laws.eqRule -/
def f106 : DFn := ⟨2, false, [.t 4],
 (.seq
 (.reg [⟨some 2, .box (.t 0), none⟩,
 ⟨some 3, .box (.t 1), none⟩,
 ⟨some 4, .mv (.c (.bool false)), none⟩])
 (.seq
 (.seq
 (.reg [⟨some 5, .faddr 0 (.t 2), none⟩,
 ⟨some 6, .load none (.t 5), none⟩,
 ⟨some 7, .faddr 0 (.t 3), none⟩,
 ⟨some 8, .load none (.t 7), none⟩,
 ⟨some 9, .bin .neq (.t 6) (.t 8), none⟩])
 (.cond (.t 9)
  (.seq
  (.reg [⟨some 4, .mv (.c (.bool false)), none⟩])
  .ret)
  .skip))
 (.seq
 (.seq
 (.reg [⟨some 10, .faddr 1 (.t 2), none⟩,
 ⟨some 11, .load none (.t 10), none⟩,
 ⟨some 12, .faddr 1 (.t 3), none⟩,
 ⟨some 13, .load none (.t 12), none⟩,
 ⟨some 14, .bin .neq (.t 11) (.t 13), none⟩])
 (.cond (.t 14)
  (.seq
  (.reg [⟨some 4, .mv (.c (.bool false)), none⟩])
  .ret)
  .skip))
 (.seq
 (.seq
 (.reg [⟨some 15, .faddr 2 (.t 2), none⟩,
 ⟨some 16, .load none (.t 15), none⟩,
 ⟨some 17, .faddr 2 (.t 3), none⟩,
 ⟨some 18, .load none (.t 17), none⟩,
 ⟨some 19, .call 69 false [(.t 16), (.t 18)], none⟩,
 ⟨some 20, .un .not (.t 19), none⟩])
 (.cond (.t 20)
  (.seq
  (.reg [⟨some 4, .mv (.c (.bool false)), none⟩])
  .ret)
  .skip))
 (.seq
 (.seq
 (.reg [⟨some 21, .faddr 3 (.t 2), none⟩,
 ⟨some 22, .load none (.t 21), none⟩,
 ⟨some 23, .faddr 3 (.t 3), none⟩,
 ⟨some 24, .load none (.t 23), none⟩,
 ⟨some 25, .call 67 false [(.t 22), (.t 24)], none⟩,
 ⟨some 26, .un .not (.t 25), none⟩])
 (.cond (.t 26)
  (.seq
  (.reg [⟨some 4, .mv (.c (.bool false)), none⟩])
  .ret)
  .skip))
 (.seq
 (.seq
 (.reg [⟨some 27, .faddr 4 (.t 2), none⟩,
 ⟨some 28, .load none (.t 27), none⟩,
 ⟨some 29, .faddr 4 (.t 3), none⟩,
 ⟨some 30, .load none (.t 29), none⟩,
 ⟨some 31, .bin .neq (.t 28) (.t 30), none⟩])
 (.cond (.t 31)
  (.seq
  (.reg [⟨some 4, .mv (.c (.bool false)), none⟩])
  .ret)
  .skip))
 (.seq
 (.seq
 (.reg [⟨some 32, .faddr 5 (.t 2), none⟩,
 ⟨some 33, .load none (.t 32), none⟩,
 ⟨some 34, .faddr 5 (.t 3), none⟩,
 ⟨some 35, .load none (.t 34), none⟩,
 ⟨some 36, .call 69 false [(.t 33), (.t 35)], none⟩,
 ⟨some 37, .un .not (.t 36), none⟩])
 (.cond (.t 37)
  (.seq
  (.reg [⟨some 4, .mv (.c (.bool false)), none⟩])
  .ret)
  .skip))
 (.seq
 (.reg [⟨some 4, .mv (.c (.bool true)), none⟩])
 .ret))))))))⟩
structure H106 (Γ : Tab) : Prop where
  e106 : Γ 106 = some (.code f106)
  c67 : H67 Γ
  c69 : H69 Γ
/- loop.example/g00751/laws.eqRuleS -/
def f68l1 : DCode :=
   (.seq
   (.seq
   (.reg [⟨some 11, .mv (.t 5), none⟩,
   ⟨some 12, .mv (.t 0), none⟩,
   ⟨some 13, .len (.t 12), none⟩,
   ⟨some 14, .bin .lss (.t 11) (.t 13), none⟩])
   (.cond (.t 14)
    .skip
    (.exit 0)))
   (.seq
   (.block 1
    (.seq
    (.any [⟨some 17, .mv (.t 0), none⟩,
    ⟨some 18, .mv (.t 5), none⟩,
    ⟨some 19, .iaddr 6 (.t 17) (.t 18), none⟩,
    ⟨some 20, .load (some 6) (.t 19), none⟩,
    ⟨some 21, .mv (.t 1), none⟩,
    ⟨some 22, .mv (.t 5), none⟩,
    ⟨some 23, .iaddr 6 (.t 21) (.t 22), none⟩,
    ⟨some 24, .load (some 6) (.t 23), none⟩,
    ⟨some 25, .call 106 false [(.t 20), (.t 24)], none⟩,
    ⟨some 26, .un .not (.t 25), none⟩]
    [])
    (.cond (.t 26)
     (.seq
     (.reg [⟨some 4, .mv (.c (.bool false)), none⟩])
     .ret)
     .skip)))
   (.reg [⟨some 15, .mv (.t 5), none⟩,
   ⟨some 16, .bin .add (.t 15) (.c (.int .i64 1)), none⟩,
   ⟨some 5, .mv (.t 16), none⟩])))
def f68 : DFn := ⟨2, false, [.t 4],
 (.seq
 (.reg [⟨some 4, .mv (.c (.bool false)), none⟩])
 (.seq
 (.seq
 (.reg [⟨some 6, .mv (.t 0), none⟩,
 ⟨some 7, .len (.t 6), none⟩,
 ⟨some 8, .mv (.t 1), none⟩,
 ⟨some 9, .len (.t 8), none⟩,
 ⟨some 10, .bin .neq (.t 7) (.t 9), none⟩])
 (.cond (.t 10)
  (.seq
  (.reg [⟨some 4, .mv (.c (.bool false)), none⟩])
  .ret)
  .skip))
 (.seq
 (.seq
 (.reg [⟨some 5, .mv (.c (.int .i64 0)), none⟩])
 (.block 0
  (.loop [1, 0, 5] f68l1)))
 (.seq
 (.reg [⟨some 4, .mv (.c (.bool true)), none⟩])
 .ret))))⟩
structure H68 (Γ : Tab) : Prop where
  e68 : Γ 68 = some (.code f68)
  c106 : H106 Γ
/- loop.example/g00751/laws.eqStmt -/
def f24 : DFn := ⟨2, false, [.t 4],
 (.seq
 (.reg [⟨some 2, .box (.t 0), none⟩,
 ⟨some 3, .box (.t 1), none⟩,
 ⟨some 4, .mv (.c (.bool false)), none⟩])
 (.seq
 (.seq
 (.reg [⟨some 5, .faddr 0 (.t 2), none⟩,
 ⟨some 6, .load none (.t 5), none⟩,
 ⟨some 7, .faddr 0 (.t 3), none⟩,
 ⟨some 8, .load none (.t 7), none⟩,
 ⟨some 9, .bin .neq (.t 6) (.t 8), none⟩])
 (.cond (.t 9)
  (.seq
  (.reg [⟨some 4, .mv (.c (.bool false)), none⟩])
  .ret)
  .skip))
 (.seq
 (.seq
 (.reg [⟨some 10, .faddr 1 (.t 2), none⟩,
 ⟨some 11, .load none (.t 10), none⟩,
 ⟨some 12, .faddr 1 (.t 3), none⟩,
 ⟨some 13, .load none (.t 12), none⟩,
 ⟨some 14, .bin .neq (.t 11) (.t 13), none⟩])
 (.cond (.t 14)
  (.seq
  (.reg [⟨some 4, .mv (.c (.bool false)), none⟩])
  .ret)
  .skip))
 (.seq
 (.seq
 (.reg [⟨some 15, .faddr 2 (.t 2), none⟩,
 ⟨some 16, .load none (.t 15), none⟩,
 ⟨some 17, .faddr 2 (.t 3), none⟩,
 ⟨some 18, .load none (.t 17), none⟩,
 ⟨some 19, .bin .neq (.t 16) (.t 18), none⟩])
 (.cond (.t 19)
  (.seq
  (.reg [⟨some 4, .mv (.c (.bool false)), none⟩])
  .ret)
  .skip))
 (.seq
 (.seq
 (.reg [⟨some 20, .faddr 3 (.t 2), none⟩,
 ⟨some 21, .load none (.t 20), none⟩,
 ⟨some 22, .faddr 3 (.t 3), none⟩,
 ⟨some 23, .load none (.t 22), none⟩,
 ⟨some 24, .call 69 false [(.t 21), (.t 23)], none⟩,
 ⟨some 25, .un .not (.t 24), none⟩])
 (.cond (.t 25)
  (.seq
  (.reg [⟨some 4, .mv (.c (.bool false)), none⟩])
  .ret)
  .skip))
 (.seq
 (.seq
 (.reg [⟨some 26, .faddr 4 (.t 2), none⟩,
 ⟨some 27, .load none (.t 26), none⟩,
 ⟨some 28, .faddr 4 (.t 3), none⟩,
 ⟨some 29, .load none (.t 28), none⟩,
 ⟨some 30, .bin .neq (.t 27) (.t 29), none⟩])
 (.cond (.t 30)
  (.seq
  (.reg [⟨some 4, .mv (.c (.bool false)), none⟩])
  .ret)
  .skip))
 (.seq
 (.seq
 (.reg [⟨some 31, .faddr 5 (.t 2), none⟩,
 ⟨some 32, .load none (.t 31), none⟩,
 ⟨some 33, .faddr 5 (.t 3), none⟩,
 ⟨some 34, .load none (.t 33), none⟩,
 ⟨some 35, .binb .neq (.t 32) (.t 34), none⟩])
 (.cond (.t 35)
  (.seq
  (.reg [⟨some 4, .mv (.c (.bool false)), none⟩])
  .ret)
  .skip))
 (.seq
 (.seq
 (.reg [⟨some 36, .faddr 6 (.t 2), none⟩,
 ⟨some 37, .load (some 3) (.t 36), none⟩,
 ⟨some 38, .faddr 6 (.t 3), none⟩,
 ⟨some 39, .load (some 3) (.t 38), none⟩,
 ⟨some 40, .call 70 false [(.t 37), (.t 39)], none⟩,
 ⟨some 41, .un .not (.t 40), none⟩])
 (.cond (.t 41)
  (.seq
  (.reg [⟨some 4, .mv (.c (.bool false)), none⟩])
  .ret)
  .skip))
 (.seq
 (.seq
 (.reg [⟨some 42, .faddr 9 (.t 2), none⟩,
 ⟨some 43, .load none (.t 42), none⟩,
 ⟨some 44, .faddr 9 (.t 3), none⟩,
 ⟨some 45, .load none (.t 44), none⟩,
 ⟨some 46, .call 66 false [(.t 43), (.t 45)], none⟩,
 ⟨some 47, .un .not (.t 46), none⟩])
 (.cond (.t 47)
  (.seq
  (.reg [⟨some 4, .mv (.c (.bool false)), none⟩])
  .ret)
  .skip))
 (.seq
 (.seq
 (.reg [⟨some 48, .faddr 10 (.t 2), none⟩,
 ⟨some 49, .load none (.t 48), none⟩,
 ⟨some 50, .faddr 10 (.t 3), none⟩,
 ⟨some 51, .load none (.t 50), none⟩,
 ⟨some 52, .call 68 false [(.t 49), (.t 51)], none⟩,
 ⟨some 53, .un .not (.t 52), none⟩])
 (.cond (.t 53)
  (.seq
  (.reg [⟨some 4, .mv (.c (.bool false)), none⟩])
  .ret)
  .skip))
 (.seq
 (.seq
 (.reg [⟨some 54, .faddr 11 (.t 2), none⟩,
 ⟨some 55, .load none (.t 54), none⟩,
 ⟨some 56, .faddr 11 (.t 3), none⟩,
 ⟨some 57, .load none (.t 56), none⟩,
 ⟨some 58, .call 67 false [(.t 55), (.t 57)], none⟩,
 ⟨some 59, .un .not (.t 58), none⟩])
 (.cond (.t 59)
  (.seq
  (.reg [⟨some 4, .mv (.c (.bool false)), none⟩])
  .ret)
  .skip))
 (.seq
 (.reg [⟨some 4, .mv (.c (.bool true)), none⟩])
 .ret))))))))))))⟩
structure H24 (Γ : Tab) : Prop where
  e24 : Γ 24 = some (.code f24)
  c66 : H66 Γ
  c67 : H67 Γ
  c68 : H68 Γ
  c69 : H69 Γ
  c70 : H70 Γ
/- loop.example/g00751/laws.szExprS -/
def f46l1 : DCode :=
   (.seq
   (.seq
   (.reg [⟨some 12, .mv (.t 5), none⟩,
   ⟨some 13, .mv (.t 0), none⟩,
   ⟨some 14, .len (.t 13), none⟩,
   ⟨some 15, .bin .lss (.t 12) (.t 14), none⟩])
   (.cond (.t 15)
    .skip
    (.exit 0)))
   (.seq
   (.block 1
    (.seq
    (.reg [⟨some 18, .mv (.t 0), none⟩,
    ⟨some 19, .mv (.t 5), none⟩,
    ⟨some 20, .iaddr 4 (.t 18) (.t 19), none⟩,
    ⟨some 21, .load (some 4) (.t 20), none⟩,
    ⟨some 22, .mv (.t 1), none⟩,
    ⟨some 23, .call 86 false [(.t 21), (.t 22)], none⟩,
    ⟨some 1, .mv (.t 23), none⟩])
    (.seq
    (.reg [⟨some 24, .mv (.t 1), none⟩,
    ⟨some 25, .bin .lss (.t 24) (.c (.int .i64 0)), none⟩])
    (.cond (.t 25)
     (.seq
     (.reg [⟨some 4, .mv (.c (.int .i64 (-1))), none⟩])
     .ret)
     .skip))))
   (.reg [⟨some 16, .mv (.t 5), none⟩,
   ⟨some 17, .bin .add (.t 16) (.c (.int .i64 1)), none⟩,
   ⟨some 5, .mv (.t 17), none⟩])))
def f46 : DFn := ⟨2, false, [.t 4],
 (.seq
 (.reg [⟨some 4, .mv (.c (.int .i64 0)), none⟩])
 (.seq
 (.reg [⟨some 6, .mv (.t 1), none⟩,
 ⟨some 7, .mv (.t 0), none⟩,
 ⟨some 8, .len (.t 7), none⟩,
 ⟨some 9, .bin .sub (.t 6) (.t 8), none⟩,
 ⟨some 1, .mv (.t 9), none⟩])
 (.seq
 (.seq
 (.reg [⟨some 10, .mv (.t 1), none⟩,
 ⟨some 11, .bin .lss (.t 10) (.c (.int .i64 0)), none⟩])
 (.cond (.t 11)
  (.seq
  (.reg [⟨some 4, .mv (.c (.int .i64 (-1))), none⟩])
  .ret)
  .skip))
 (.seq
 (.seq
 (.reg [⟨some 5, .mv (.c (.int .i64 0)), none⟩])
 (.block 0
  (.loop [0, 5, 1] f46l1)))
 (.seq
 (.reg [⟨some 26, .mv (.t 1), none⟩,
 ⟨some 4, .mv (.t 26), none⟩])
 .ret)))))⟩
/- loop.example/g00751/laws.szExpr -/
def f86 : DFn := ⟨2, false, [.t 4],
 (.seq
 (.reg [⟨some 2, .box (.t 0), none⟩,
 ⟨some 4, .mv (.c (.int .i64 0)), none⟩])
 (.seq
 (.reg [⟨some 5, .mv (.t 1), none⟩,
 ⟨some 6, .faddr 1 (.t 2), none⟩,
 ⟨some 7, .load none (.t 6), none⟩,
 ⟨some 8, .lens (.t 7), none⟩,
 ⟨some 9, .bin .sub (.t 5) (.t 8), none⟩,
 ⟨some 1, .mv (.t 9), none⟩])
 (.seq
 (.seq
 (.reg [⟨some 10, .mv (.t 1), none⟩,
 ⟨some 11, .bin .lss (.t 10) (.c (.int .i64 0)), none⟩])
 (.cond (.t 11)
  (.seq
  (.reg [⟨some 4, .mv (.c (.int .i64 (-1))), none⟩])
  .ret)
  .skip))
 (.seq
 (.reg [⟨some 12, .faddr 3 (.t 2), none⟩,
 ⟨some 13, .load none (.t 12), none⟩,
 ⟨some 14, .mv (.t 1), none⟩,
 ⟨some 15, .call 46 false [(.t 13), (.t 14)], none⟩,
 ⟨some 1, .mv (.t 15), none⟩])
 (.seq
 (.seq
 (.reg [⟨some 16, .mv (.t 1), none⟩,
 ⟨some 17, .bin .lss (.t 16) (.c (.int .i64 0)), none⟩])
 (.cond (.t 17)
  (.seq
  (.reg [⟨some 4, .mv (.c (.int .i64 (-1))), none⟩])
  .ret)
  .skip))
 (.seq
 (.reg [⟨some 18, .mv (.t 1), none⟩,
 ⟨some 4, .mv (.t 18), none⟩])
 .ret))))))⟩
structure H46 (Γ : Tab) : Prop where
  e46 : Γ 46 = some (.code f46)
  e86 : Γ 86 = some (.code f86)
abbrev H86 := H46
/- loop.example/g00751/laws.szType -/
def f49 : DFn := ⟨2, false, [.t 4],
 (.seq
 (.reg [⟨some 2, .box (.t 0), none⟩,
 ⟨some 4, .mv (.c (.int .i64 0)), none⟩])
 (.seq
 (.reg [⟨some 5, .mv (.t 1), none⟩,
 ⟨some 6, .faddr 2 (.t 2), none⟩,
 ⟨some 7, .load none (.t 6), none⟩,
 ⟨some 8, .lens (.t 7), none⟩,
 ⟨some 9, .bin .sub (.t 5) (.t 8), none⟩,
 ⟨some 1, .mv (.t 9), none⟩])
 (.seq
 (.seq
 (.reg [⟨some 10, .mv (.t 1), none⟩,
 ⟨some 11, .bin .lss (.t 10) (.c (.int .i64 0)), none⟩])
 (.cond (.t 11)
  (.seq
  (.reg [⟨some 4, .mv (.c (.int .i64 (-1))), none⟩])
  .ret)
  .skip))
 (.seq
 (.reg [⟨some 12, .mv (.t 1), none⟩,
 ⟨some 4, .mv (.t 12), none⟩])
 .ret))))⟩
structure H49 (Γ : Tab) : Prop where
  e49 : Γ 49 = some (.code f49)
/- loop.example/g00751/laws.szCol -/
def f84 : DFn := ⟨2, false, [.t 4],
 (.seq
 (.reg [⟨some 2, .box (.t 0), none⟩,
 ⟨some 4, .mv (.c (.int .i64 0)), none⟩])
 (.seq
 (.reg [⟨some 5, .mv (.t 1), none⟩,
 ⟨some 6, .faddr 0 (.t 2), none⟩,
 ⟨some 7, .load none (.t 6), none⟩,
 ⟨some 8, .lens (.t 7), none⟩,
 ⟨some 9, .bin .sub (.t 5) (.t 8), none⟩,
 ⟨some 1, .mv (.t 9), none⟩])
 (.seq
 (.seq
 (.reg [⟨some 10, .mv (.t 1), none⟩,
 ⟨some 11, .bin .lss (.t 10) (.c (.int .i64 0)), none⟩])
 (.cond (.t 11)
  (.seq
  (.reg [⟨some 4, .mv (.c (.int .i64 (-1))), none⟩])
  .ret)
  .skip))
 (.seq
 (.reg [⟨some 12, .faddr 1 (.t 2), none⟩,
 ⟨some 13, .load (some 3) (.t 12), none⟩,
 ⟨some 14, .mv (.t 1), none⟩,
 ⟨some 15, .call 49 false [(.t 13), (.t 14)], none⟩,
 ⟨some 1, .mv (.t 15), none⟩])
 (.seq
 (.seq
 (.reg [⟨some 16, .mv (.t 1), none⟩,
 ⟨some 17, .bin .lss (.t 16) (.c (.int .i64 0)), none⟩])
 (.cond (.t 17)
  (.seq
  (.reg [⟨some 4, .mv (.c (.int .i64 (-1))), none⟩])
  .ret)
  .skip))
 (.seq
 (.reg [⟨some 18, .faddr 5 (.t 2), none⟩,
 ⟨some 19, .load none (.t 18), none⟩,
 ⟨some 20, .mv (.t 1), none⟩,
 ⟨some 21, .call 46 false [(.t 19), (.t 20)], none⟩,
 ⟨some 1, .mv (.t 21), none⟩])
 (.seq
 (.seq
 (.reg [⟨some 22, .mv (.t 1), none⟩,
 ⟨some 23, .bin .lss (.t 22) (.c (.int .i64 0)), none⟩])
 (.cond (.t 23)
  (.seq
  (.reg [⟨some 4, .mv (.c (.int .i64 (-1))), none⟩])
  .ret)
  .skip))
 (.seq
 (.reg [⟨some 24, .mv (.t 1), none⟩,
 ⟨some 4, .mv (.t 24), none⟩])
 .ret))))))))⟩
structure H84 (Γ : Tab) : Prop where
  e84 : Γ 84 = some (.code f84)
  c46 : H46 Γ
  c49 : H49 Γ
/- loop.example/g00751/laws.szColS -/
def f45l1 : DCode :=
   (.seq
   (.seq
   (.reg [⟨some 12, .mv (.t 5), none⟩,
   ⟨some 13, .mv (.t 0), none⟩,
   ⟨some 14, .len (.t 13), none⟩,
   ⟨some 15, .bin .lss (.t 12) (.t 14), none⟩])
   (.cond (.t 15)
    .skip
    (.exit 0)))
   (.seq
   (.block 1
    (.seq
    (.reg [⟨some 18, .mv (.t 0), none⟩,
    ⟨some 19, .mv (.t 5), none⟩,
    ⟨some 20, .iaddr 6 (.t 18) (.t 19), none⟩,
    ⟨some 21, .load (some 6) (.t 20), none⟩,
    ⟨some 22, .mv (.t 1), none⟩,
    ⟨some 23, .call 84 false [(.t 21), (.t 22)], none⟩,
    ⟨some 1, .mv (.t 23), none⟩])
    (.seq
    (.reg [⟨some 24, .mv (.t 1), none⟩,
    ⟨some 25, .bin .lss (.t 24) (.c (.int .i64 0)), none⟩])
    (.cond (.t 25)
     (.seq
     (.reg [⟨some 4, .mv (.c (.int .i64 (-1))), none⟩])
     .ret)
     .skip))))
   (.reg [⟨some 16, .mv (.t 5), none⟩,
   ⟨some 17, .bin .add (.t 16) (.c (.int .i64 1)), none⟩,
   ⟨some 5, .mv (.t 17), none⟩])))
def f45 : DFn := ⟨2, false, [.t 4],
 (.seq
 (.reg [⟨some 4, .mv (.c (.int .i64 0)), none⟩])
 (.seq
 (.reg [⟨some 6, .mv (.t 1), none⟩,
 ⟨some 7, .mv (.t 0), none⟩,
 ⟨some 8, .len (.t 7), none⟩,
 ⟨some 9, .bin .sub (.t 6) (.t 8), none⟩,
 ⟨some 1, .mv (.t 9), none⟩])
 (.seq
 (.seq
 (.reg [⟨some 10, .mv (.t 1), none⟩,
 ⟨some 11, .bin .lss (.t 10) (.c (.int .i64 0)), none⟩])
 (.cond (.t 11)
  (.seq
  (.reg [⟨some 4, .mv (.c (.int .i64 (-1))), none⟩])
  .ret)
  .skip))
 (.seq
 (.seq
 (.reg [⟨some 5, .mv (.c (.int .i64 0)), none⟩])
 (.block 0
  (.loop [0, 5, 1] f45l1)))
 (.seq
 (.reg [⟨some 26, .mv (.t 1), none⟩,
 ⟨some 4, .mv (.t 26), none⟩])
 .ret)))))⟩
structure H45 (Γ : Tab) : Prop where
  e45 : Γ 45 = some (.code f45)
  c84 : H84 Γ
/- loop.example/g00751/laws.szStringS -/
def f48l1 : DCode :=
   (.seq
   (.seq
   (.reg [⟨some 12, .mv (.t 5), none⟩,
   ⟨some 13, .mv (.t 0), none⟩,
   ⟨some 14, .len (.t 13), none⟩,
   ⟨some 15, .bin .lss (.t 12) (.t 14), none⟩])
   (.cond (.t 15)
    .skip
    (.exit 0)))
   (.seq
   (.block 1
    (.seq
    (.reg [⟨some 18, .mv (.t 1), none⟩,
    ⟨some 19, .mv (.t 0), none⟩,
    ⟨some 20, .mv (.t 5), none⟩,
    ⟨some 21, .iaddr 1 (.t 19) (.t 20), none⟩,
    ⟨some 22, .load none (.t 21), none⟩,
    ⟨some 23, .lens (.t 22), none⟩,
    ⟨some 24, .bin .sub (.t 18) (.t 23), none⟩,
    ⟨some 1, .mv (.t 24), none⟩])
    (.seq
    (.reg [⟨some 25, .mv (.t 1), none⟩,
    ⟨some 26, .bin .lss (.t 25) (.c (.int .i64 0)), none⟩])
    (.cond (.t 26)
     (.seq
     (.reg [⟨some 4, .mv (.c (.int .i64 (-1))), none⟩])
     .ret)
     .skip))))
   (.reg [⟨some 16, .mv (.t 5), none⟩,
   ⟨some 17, .bin .add (.t 16) (.c (.int .i64 1)), none⟩,
   ⟨some 5, .mv (.t 17), none⟩])))
def f48 : DFn := ⟨2, false, [.t 4],
 (.seq
 (.reg [⟨some 4, .mv (.c (.int .i64 0)), none⟩])
 (.seq
 (.reg [⟨some 6, .mv (.t 1), none⟩,
 ⟨some 7, .mv (.t 0), none⟩,
 ⟨some 8, .len (.t 7), none⟩,
 ⟨some 9, .bin .sub (.t 6) (.t 8), none⟩,
 ⟨some 1, .mv (.t 9), none⟩])
 (.seq
 (.seq
 (.reg [⟨some 10, .mv (.t 1), none⟩,
 ⟨some 11, .bin .lss (.t 10) (.c (.int .i64 0)), none⟩])
 (.cond (.t 11)
  (.seq
  (.reg [⟨some 4, .mv (.c (.int .i64 (-1))), none⟩])
  .ret)
  .skip))
 (.seq
 (.seq
 (.reg [⟨some 5, .mv (.c (.int .i64 0)), none⟩])
 (.block 0
  (.loop [0, 5, 1] f48l1)))
 (.seq
 (.reg [⟨some 27, .mv (.t 1), none⟩,
 ⟨some 4, .mv (.t 27), none⟩])
 .ret)))))⟩
structure H48 (Γ : Tab) : Prop where
  e48 : Γ 48 = some (.code f48)
/- loop.example/g00751/laws.szRule -/
def f85 : DFn := ⟨2, false, [.t 4],
 (.seq
 (.reg [⟨some 2, .box (.t 0), none⟩,
 ⟨some 4, .mv (.c (.int .i64 0)), none⟩])
 (.seq
 (.reg [⟨some 5, .mv (.t 1), none⟩,
 ⟨some 6, .faddr 0 (.t 2), none⟩,
 ⟨some 7, .load none (.t 6), none⟩,
 ⟨some 8, .lens (.t 7), none⟩,
 ⟨some 9, .bin .sub (.t 5) (.t 8), none⟩,
 ⟨some 1, .mv (.t 9), none⟩])
 (.seq
 (.seq
 (.reg [⟨some 10, .mv (.t 1), none⟩,
 ⟨some 11, .bin .lss (.t 10) (.c (.int .i64 0)), none⟩])
 (.cond (.t 11)
  (.seq
  (.reg [⟨some 4, .mv (.c (.int .i64 (-1))), none⟩])
  .ret)
  .skip))
 (.seq
 (.reg [⟨some 12, .faddr 2 (.t 2), none⟩,
 ⟨some 13, .load none (.t 12), none⟩,
 ⟨some 14, .mv (.t 1), none⟩,
 ⟨some 15, .call 48 false [(.t 13), (.t 14)], none⟩,
 ⟨some 1, .mv (.t 15), none⟩])
 (.seq
 (.seq
 (.reg [⟨some 16, .mv (.t 1), none⟩,
 ⟨some 17, .bin .lss (.t 16) (.c (.int .i64 0)), none⟩])
 (.cond (.t 17)
  (.seq
  (.reg [⟨some 4, .mv (.c (.int .i64 (-1))), none⟩])
  .ret)
  .skip))
 (.seq
 (.reg [⟨some 18, .faddr 3 (.t 2), none⟩,
 ⟨some 19, .load none (.t 18), none⟩,
 ⟨some 20, .mv (.t 1), none⟩,
 ⟨some 21, .call 46 false [(.t 19), (.t 20)], none⟩,
 ⟨some 1, .mv (.t 21), none⟩])
 (.seq
 (.seq
 (.reg [⟨some 22, .mv (.t 1), none⟩,
 ⟨some 23, .bin .lss (.t 22) (.c (.int .i64 0)), none⟩])
 (.cond (.t 23)
  (.seq
  (.reg [⟨some 4, .mv (.c (.int .i64 (-1))), none⟩])
  .ret)
  .skip))
 (.seq
 (.reg [⟨some 24, .mv (.t 1), none⟩,
 ⟨some 25, .faddr 4 (.t 2), none⟩,
 ⟨some 26, .load none (.t 25), none⟩,
 ⟨some 27, .lens (.t 26), none⟩,
 ⟨some 28, .bin .sub (.t 24) (.t 27), none⟩,
 ⟨some 1, .mv (.t 28), none⟩])
 (.seq
 (.seq
 (.reg [⟨some 29, .mv (.t 1), none⟩,
 ⟨some 30, .bin .lss (.t 29) (.c (.int .i64 0)), none⟩])
 (.cond (.t 30)
  (.seq
  (.reg [⟨some 4, .mv (.c (.int .i64 (-1))), none⟩])
  .ret)
  .skip))
 (.seq
 (.reg [⟨some 31, .faddr 5 (.t 2), none⟩,
 ⟨some 32, .load none (.t 31), none⟩,
 ⟨some 33, .mv (.t 1), none⟩,
 ⟨some 34, .call 48 false [(.t 32), (.t 33)], none⟩,
 ⟨some 1, .mv (.t 34), none⟩])
 (.seq
 (.seq
 (.reg [⟨some 35, .mv (.t 1), none⟩,
 ⟨some 36, .bin .lss (.t 35) (.c (.int .i64 0)), none⟩])
 (.cond (.t 36)
  (.seq
  (.reg [⟨some 4, .mv (.c (.int .i64 (-1))), none⟩])
  .ret)
  .skip))
 (.seq
 (.reg [⟨some 37, .mv (.t 1), none⟩,
 ⟨some 4, .mv (.t 37), none⟩])
 .ret))))))))))))⟩
structure H85 (Γ : Tab) : Prop where
  e85 : Γ 85 = some (.code f85)
  c46 : H46 Γ
  c48 : H48 Γ
/- loop.example/g00751/laws.szRuleS -/
def f47l1 : DCode :=
   (.seq
   (.seq
   (.reg [⟨some 12, .mv (.t 5), none⟩,
   ⟨some 13, .mv (.t 0), none⟩,
   ⟨some 14, .len (.t 13), none⟩,
   ⟨some 15, .bin .lss (.t 12) (.t 14), none⟩])
   (.cond (.t 15)
    .skip
    (.exit 0)))
   (.seq
   (.block 1
    (.seq
    (.reg [⟨some 18, .mv (.t 0), none⟩,
    ⟨some 19, .mv (.t 5), none⟩,
    ⟨some 20, .iaddr 6 (.t 18) (.t 19), none⟩,
    ⟨some 21, .load (some 6) (.t 20), none⟩,
    ⟨some 22, .mv (.t 1), none⟩,
    ⟨some 23, .call 85 false [(.t 21), (.t 22)], none⟩,
    ⟨some 1, .mv (.t 23), none⟩])
    (.seq
    (.reg [⟨some 24, .mv (.t 1), none⟩,
    ⟨some 25, .bin .lss (.t 24) (.c (.int .i64 0)), none⟩])
    (.cond (.t 25)
     (.seq
     (.reg [⟨some 4, .mv (.c (.int .i64 (-1))), none⟩])
     .ret)
     .skip))))
   (.reg [⟨some 16, .mv (.t 5), none⟩,
   ⟨some 17, .bin .add (.t 16) (.c (.int .i64 1)), none⟩,
   ⟨some 5, .mv (.t 17), none⟩])))
def f47 : DFn := ⟨2, false, [.t 4],
 (.seq
 (.reg [⟨some 4, .mv (.c (.int .i64 0)), none⟩])
 (.seq
 (.reg [⟨some 6, .mv (.t 1), none⟩,
 ⟨some 7, .mv (.t 0), none⟩,
 ⟨some 8, .len (.t 7), none⟩,
 ⟨some 9, .bin .sub (.t 6) (.t 8), none⟩,
 ⟨some 1, .mv (.t 9), none⟩])
 (.seq
 (.seq
 (.reg [⟨some 10, .mv (.t 1), none⟩,
 ⟨some 11, .bin .lss (.t 10) (.c (.int .i64 0)), none⟩])
 (.cond (.t 11)
  (.seq
  (.reg [⟨some 4, .mv (.c (.int .i64 (-1))), none⟩])
  .ret)
  .skip))
 (.seq
 (.seq
 (.reg [⟨some 5, .mv (.c (.int .i64 0)), none⟩])
 (.block 0
  (.loop [0, 5, 1] f47l1)))
 (.seq
 (.reg [⟨some 26, .mv (.t 1), none⟩,
 ⟨some 4, .mv (.t 26), none⟩])
 .ret)))))⟩
structure H47 (Γ : Tab) : Prop where
  e47 : Γ 47 = some (.code f47)
  c85 : H85 Γ
/- loop.example/g00751/laws.szStmt -/
def f25 : DFn := ⟨2, false, [.t 4],
 (.seq
 (.reg [⟨some 2, .box (.t 0), none⟩,
 ⟨some 4, .mv (.c (.int .i64 0)), none⟩])
 (.seq
 (.reg [⟨some 5, .mv (.t 1), none⟩,
 ⟨some 6, .faddr 1 (.t 2), none⟩,
 ⟨some 7, .load none (.t 6), none⟩,
 ⟨some 8, .lens (.t 7), none⟩,
 ⟨some 9, .bin .sub (.t 5) (.t 8), none⟩,
 ⟨some 1, .mv (.t 9), none⟩])
 (.seq
 (.seq
 (.reg [⟨some 10, .mv (.t 1), none⟩,
 ⟨some 11, .bin .lss (.t 10) (.c (.int .i64 0)), none⟩])
 (.cond (.t 11)
  (.seq
  (.reg [⟨some 4, .mv (.c (.int .i64 (-1))), none⟩])
  .ret)
  .skip))
 (.seq
 (.reg [⟨some 12, .mv (.t 1), none⟩,
 ⟨some 13, .faddr 2 (.t 2), none⟩,
 ⟨some 14, .load none (.t 13), none⟩,
 ⟨some 15, .lens (.t 14), none⟩,
 ⟨some 16, .bin .sub (.t 12) (.t 15), none⟩,
 ⟨some 1, .mv (.t 16), none⟩])
 (.seq
 (.seq
 (.reg [⟨some 17, .mv (.t 1), none⟩,
 ⟨some 18, .bin .lss (.t 17) (.c (.int .i64 0)), none⟩])
 (.cond (.t 18)
  (.seq
  (.reg [⟨some 4, .mv (.c (.int .i64 (-1))), none⟩])
  .ret)
  .skip))
 (.seq
 (.reg [⟨some 19, .faddr 3 (.t 2), none⟩,
 ⟨some 20, .load none (.t 19), none⟩,
 ⟨some 21, .mv (.t 1), none⟩,
 ⟨some 22, .call 48 false [(.t 20), (.t 21)], none⟩,
 ⟨some 1, .mv (.t 22), none⟩])
 (.seq
 (.seq
 (.reg [⟨some 23, .mv (.t 1), none⟩,
 ⟨some 24, .bin .lss (.t 23) (.c (.int .i64 0)), none⟩])
 (.cond (.t 24)
  (.seq
  (.reg [⟨some 4, .mv (.c (.int .i64 (-1))), none⟩])
  .ret)
  .skip))
 (.seq
 (.reg [⟨some 25, .faddr 6 (.t 2), none⟩,
 ⟨some 26, .load (some 3) (.t 25), none⟩,
 ⟨some 27, .mv (.t 1), none⟩,
 ⟨some 28, .call 49 false [(.t 26), (.t 27)], none⟩,
 ⟨some 1, .mv (.t 28), none⟩])
 (.seq
 (.seq
 (.reg [⟨some 29, .mv (.t 1), none⟩,
 ⟨some 30, .bin .lss (.t 29) (.c (.int .i64 0)), none⟩])
 (.cond (.t 30)
  (.seq
  (.reg [⟨some 4, .mv (.c (.int .i64 (-1))), none⟩])
  .ret)
  .skip))
 (.seq
 (.reg [⟨some 31, .faddr 9 (.t 2), none⟩,
 ⟨some 32, .load none (.t 31), none⟩,
 ⟨some 33, .mv (.t 1), none⟩,
 ⟨some 34, .call 45 false [(.t 32), (.t 33)], none⟩,
 ⟨some 1, .mv (.t 34), none⟩])
 (.seq
 (.seq
 (.reg [⟨some 35, .mv (.t 1), none⟩,
 ⟨some 36, .bin .lss (.t 35) (.c (.int .i64 0)), none⟩])
 (.cond (.t 36)
  (.seq
  (.reg [⟨some 4, .mv (.c (.int .i64 (-1))), none⟩])
  .ret)
  .skip))
 (.seq
 (.reg [⟨some 37, .faddr 10 (.t 2), none⟩,
 ⟨some 38, .load none (.t 37), none⟩,
 ⟨some 39, .mv (.t 1), none⟩,
 ⟨some 40, .call 47 false [(.t 38), (.t 39)], none⟩,
 ⟨some 1, .mv (.t 40), none⟩])
 (.seq
 (.seq
 (.reg [⟨some 41, .mv (.t 1), none⟩,
 ⟨some 42, .bin .lss (.t 41) (.c (.int .i64 0)), none⟩])
 (.cond (.t 42)
  (.seq
  (.reg [⟨some 4, .mv (.c (.int .i64 (-1))), none⟩])
  .ret)
  .skip))
 (.seq
 (.reg [⟨some 43, .faddr 11 (.t 2), none⟩,
 ⟨some 44, .load none (.t 43), none⟩,
 ⟨some 45, .mv (.t 1), none⟩,
 ⟨some 46, .call 46 false [(.t 44), (.t 45)], none⟩,
 ⟨some 1, .mv (.t 46), none⟩])
 (.seq
 (.seq
 (.reg [⟨some 47, .mv (.t 1), none⟩,
 ⟨some 48, .bin .lss (.t 47) (.c (.int .i64 0)), none⟩])
 (.cond (.t 48)
  (.seq
  (.reg [⟨some 4, .mv (.c (.int .i64 (-1))), none⟩])
  .ret)
  .skip))
 (.seq
 (.reg [⟨some 49, .mv (.t 1), none⟩,
 ⟨some 4, .mv (.t 49), none⟩])
 .ret))))))))))))))))⟩
structure H25 (Γ : Tab) : Prop where
  e25 : Γ 25 = some (.code f25)
  c45 : H45 Γ
  c46 : H46 Γ
  c47 : H47 Γ
  c48 : H48 Γ
  c49 : H49 Γ
/- loop.example/g00751/laws.toExprS -/
def f53l1 : DCode :=
   (.seq
   (.seq
   (.reg [⟨some 8, .mv (.t 4), none⟩,
   ⟨some 9, .mv (.t 0), none⟩,
   ⟨some 10, .len (.t 9), none⟩,
   ⟨some 11, .bin .lss (.t 8) (.t 10), none⟩])
   (.cond (.t 11)
    .skip
    (.exit 0)))
   (.seq
   (.block 1
    (.reg [⟨some 14, .mv (.t 3), none⟩,
    ⟨some 15, .mv (.t 4), none⟩,
    ⟨some 16, .mv (.t 0), none⟩,
    ⟨some 17, .mv (.t 4), none⟩,
    ⟨some 18, .iaddr 4 (.t 16) (.t 17), none⟩,
    ⟨some 19, .load (some 4) (.t 18), none⟩,
    ⟨some 20, .call 93 false [(.t 19)], none⟩,
    ⟨some 21, .iaddr 4 (.t 14) (.t 15), none⟩,
    ⟨none, .store 4 (.t 21) (.t 20), none⟩]))
   (.reg [⟨some 12, .mv (.t 4), none⟩,
   ⟨some 13, .bin .add (.t 12) (.c (.int .i64 1)), none⟩,
   ⟨some 4, .mv (.t 13), none⟩])))
def f53 : DFn := ⟨1, false, [.t 2],
 (.seq
 (.reg [⟨some 2, .mv (.c .nils), none⟩])
 (.seq
 (.reg [⟨some 5, .mv (.t 0), none⟩,
 ⟨some 6, .len (.t 5), none⟩,
 ⟨some 7, .mkSl 4 56 (.agg [.int .i64 0, .str [], .int .i64 0, .nils]) (.t 6) (.t 6), none⟩,
 ⟨some 3, .mv (.t 7), none⟩])
 (.seq
 (.seq
 (.reg [⟨some 4, .mv (.c (.int .i64 0)), none⟩])
 (.block 0
  (.loop [0, 3, 4] f53l1)))
 (.seq
 (.reg [⟨some 22, .mv (.t 3), none⟩,
 ⟨some 2, .mv (.t 22), none⟩])
 .ret))))⟩
/- loop.example/g00751/laws.toExpr -/
def f93 : DFn := ⟨1, false, [.cell 2 (some 4)],
 (.seq
 (.reg [⟨some 1, .box (.t 0), none⟩,
 ⟨some 2, .alloc [.int .i64 0, .str [], .int .i64 0, .nils], none⟩])
 (.seq
 (.reg [⟨some 3, .alloc [.int .i64 0, .str [], .int .i64 0, .nils], none⟩])
 (.seq
 (.reg [⟨some 4, .faddr 0 (.t 1), none⟩,
 ⟨some 5, .load none (.t 4), none⟩,
 ⟨some 6, .faddr 0 (.t 3), none⟩,
 ⟨none, .store 1 (.t 6) (.t 5), none⟩])
 (.seq
 (.reg [⟨some 7, .faddr 1 (.t 1), none⟩,
 ⟨some 8, .load none (.t 7), none⟩,
 ⟨some 9, .faddr 1 (.t 3), none⟩,
 ⟨none, .store 1 (.t 9) (.t 8), none⟩])
 (.seq
 (.reg [⟨some 10, .faddr 2 (.t 1), none⟩,
 ⟨some 11, .load none (.t 10), none⟩,
 ⟨some 12, .faddr 2 (.t 3), none⟩,
 ⟨none, .store 1 (.t 12) (.t 11), none⟩])
 (.seq
 (.reg [⟨some 13, .faddr 3 (.t 1), none⟩,
 ⟨some 14, .load none (.t 13), none⟩,
 ⟨some 15, .call 53 false [(.t 14)], none⟩,
 ⟨some 16, .faddr 3 (.t 3), none⟩,
 ⟨none, .store 1 (.t 16) (.t 15), none⟩])
 (.seq
 (.reg [⟨some 17, .load (some 4) (.t 3), none⟩,
 ⟨none, .store 4 (.t 2) (.t 17), none⟩])
 .ret)))))))⟩
structure H53 (Γ : Tab) : Prop where
  e53 : Γ 53 = some (.code f53)
  e93 : Γ 93 = some (.code f93)
abbrev H93 := H53
/- loop.example/g00751/laws.toType -/
def f56 : DFn := ⟨1, false, [.cell 2 (some 3)],
 (.seq
 (.reg [⟨some 1, .box (.t 0), none⟩,
 ⟨some 2, .alloc [.int .i64 0, .int .i64 0, .str []], none⟩])
 (.seq
 (.reg [⟨some 3, .alloc [.int .i64 0, .int .i64 0, .str []], none⟩])
 (.seq
 (.reg [⟨some 4, .faddr 0 (.t 1), none⟩,
 ⟨some 5, .load none (.t 4), none⟩,
 ⟨some 6, .faddr 0 (.t 3), none⟩,
 ⟨none, .store 1 (.t 6) (.t 5), none⟩])
 (.seq
 (.reg [⟨some 7, .faddr 1 (.t 1), none⟩,
 ⟨some 8, .load none (.t 7), none⟩,
 ⟨some 9, .faddr 1 (.t 3), none⟩,
 ⟨none, .store 1 (.t 9) (.t 8), none⟩])
 (.seq
 (.reg [⟨some 10, .faddr 2 (.t 1), none⟩,
 ⟨some 11, .load none (.t 10), none⟩,
 ⟨some 12, .faddr 2 (.t 3), none⟩,
 ⟨none, .store 1 (.t 12) (.t 11), none⟩])
 (.seq
 (.reg [⟨some 13, .load (some 3) (.t 3), none⟩,
 ⟨none, .store 3 (.t 2) (.t 13), none⟩])
 .ret))))))⟩
structure H56 (Γ : Tab) : Prop where
  e56 : Γ 56 = some (.code f56)
/- loop.example/g00751/laws.toCol -/
def f91 : DFn := ⟨1, false, [.cell 2 (some 6)],
 (.seq
 (.reg [⟨some 1, .box (.t 0), none⟩,
 ⟨some 2, .alloc [.str [], .int .i64 0, .int .i64 0, .str [], .bool false, .nils], none⟩])
 (.seq
 (.reg [⟨some 3, .alloc [.str [], .int .i64 0, .int .i64 0, .str [], .bool false, .nils], none⟩])
 (.seq
 (.reg [⟨some 4, .faddr 0 (.t 1), none⟩,
 ⟨some 5, .load none (.t 4), none⟩,
 ⟨some 6, .faddr 0 (.t 3), none⟩,
 ⟨none, .store 1 (.t 6) (.t 5), none⟩])
 (.seq
 (.reg [⟨some 7, .faddr 1 (.t 1), none⟩,
 ⟨some 8, .load (some 3) (.t 7), none⟩,
 ⟨some 9, .call 56 false [(.t 8)], none⟩,
 ⟨some 10, .faddr 1 (.t 3), none⟩,
 ⟨none, .store 3 (.t 10) (.t 9), none⟩])
 (.seq
 (.reg [⟨some 11, .faddr 4 (.t 1), none⟩,
 ⟨some 12, .load none (.t 11), none⟩,
 ⟨some 13, .faddr 4 (.t 3), none⟩,
 ⟨none, .store 1 (.t 13) (.t 12), none⟩])
 (.seq
 (.reg [⟨some 14, .faddr 5 (.t 1), none⟩,
 ⟨some 15, .load none (.t 14), none⟩,
 ⟨some 16, .call 53 false [(.t 15)], none⟩,
 ⟨some 17, .faddr 5 (.t 3), none⟩,
 ⟨none, .store 1 (.t 17) (.t 16), none⟩])
 (.seq
 (.reg [⟨some 18, .load (some 6) (.t 3), none⟩,
 ⟨none, .store 6 (.t 2) (.t 18), none⟩])
 .ret)))))))⟩
structure H91 (Γ : Tab) : Prop where
  e91 : Γ 91 = some (.code f91)
  c53 : H53 Γ
  c56 : H56 Γ
/- loop.example/g00751/laws.toColS -/
def f52l1 : DCode :=
   (.seq
   (.seq
   (.reg [⟨some 8, .mv (.t 4), none⟩,
   ⟨some 9, .mv (.t 0), none⟩,
   ⟨some 10, .len (.t 9), none⟩,
   ⟨some 11, .bin .lss (.t 8) (.t 10), none⟩])
   (.cond (.t 11)
    .skip
    (.exit 0)))
   (.seq
   (.block 1
    (.reg [⟨some 14, .mv (.t 3), none⟩,
    ⟨some 15, .mv (.t 4), none⟩,
    ⟨some 16, .mv (.t 0), none⟩,
    ⟨some 17, .mv (.t 4), none⟩,
    ⟨some 18, .iaddr 6 (.t 16) (.t 17), none⟩,
    ⟨some 19, .load (some 6) (.t 18), none⟩,
    ⟨some 20, .call 91 false [(.t 19)], none⟩,
    ⟨some 21, .iaddr 6 (.t 14) (.t 15), none⟩,
    ⟨none, .store 6 (.t 21) (.t 20), none⟩]))
   (.reg [⟨some 12, .mv (.t 4), none⟩,
   ⟨some 13, .bin .add (.t 12) (.c (.int .i64 1)), none⟩,
   ⟨some 4, .mv (.t 13), none⟩])))
def f52 : DFn := ⟨1, false, [.t 2],
 (.seq
 (.reg [⟨some 2, .mv (.c .nils), none⟩])
 (.seq
 (.reg [⟨some 5, .mv (.t 0), none⟩,
 ⟨some 6, .len (.t 5), none⟩,
 ⟨some 7, .mkSl 6 80 (.agg [.str [], .int .i64 0, .int .i64 0, .str [], .bool false, .nils]) (.t 6) (.t 6), none⟩,
 ⟨some 3, .mv (.t 7), none⟩])
 (.seq
 (.seq
 (.reg [⟨some 4, .mv (.c (.int .i64 0)), none⟩])
 (.block 0
  (.loop [0, 3, 4] f52l1)))
 (.seq
 (.reg [⟨some 22, .mv (.t 3), none⟩,
 ⟨some 2, .mv (.t 22), none⟩])
 .ret))))⟩
structure H52 (Γ : Tab) : Prop where
  e52 : Γ 52 = some (.code f52)
  c91 : H91 Γ
/- loop.example/g00751/laws.toStringS -/
def f55l1 : DCode :=
   (.seq
   (.seq
   (.reg [⟨some 8, .mv (.t 4), none⟩,
   ⟨some 9, .mv (.t 0), none⟩,
   ⟨some 10, .len (.t 9), none⟩,
   ⟨some 11, .bin .lss (.t 8) (.t 10), none⟩])
   (.cond (.t 11)
    .skip
    (.exit 0)))
   (.seq
   (.block 1
    (.reg [⟨some 14, .mv (.t 3), none⟩,
    ⟨some 15, .mv (.t 4), none⟩,
    ⟨some 16, .mv (.t 0), none⟩,
    ⟨some 17, .mv (.t 4), none⟩,
    ⟨some 18, .iaddr 1 (.t 16) (.t 17), none⟩,
    ⟨some 19, .load none (.t 18), none⟩,
    ⟨some 20, .iaddr 1 (.t 14) (.t 15), none⟩,
    ⟨none, .store 1 (.t 20) (.t 19), none⟩]))
   (.reg [⟨some 12, .mv (.t 4), none⟩,
   ⟨some 13, .bin .add (.t 12) (.c (.int .i64 1)), none⟩,
   ⟨some 4, .mv (.t 13), none⟩])))
def f55 : DFn := ⟨1, false, [.t 2],
 (.seq
 (.reg [⟨some 2, .mv (.c .nils), none⟩])
 (.seq
 (.reg [⟨some 5, .mv (.t 0), none⟩,
 ⟨some 6, .len (.t 5), none⟩,
 ⟨some 7, .mkSl 1 16 (.str []) (.t 6) (.t 6), none⟩,
 ⟨some 3, .mv (.t 7), none⟩])
 (.seq
 (.seq
 (.reg [⟨some 4, .mv (.c (.int .i64 0)), none⟩])
 (.block 0
  (.loop [0, 3, 4] f55l1)))
 (.seq
 (.reg [⟨some 21, .mv (.t 3), none⟩,
 ⟨some 2, .mv (.t 21), none⟩])
 .ret))))⟩
structure H55 (Γ : Tab) : Prop where
  e55 : Γ 55 = some (.code f55)
/- loop.example/g00751/laws.toRule -/
def f92 : DFn := ⟨1, false, [.cell 2 (some 6)],
 (.seq
 (.reg [⟨some 1, .box (.t 0), none⟩,
 ⟨some 2, .alloc [.str [], .int .i64 0, .nils, .nils, .str [], .nils], none⟩])
 (.seq
 (.reg [⟨some 3, .alloc [.str [], .int .i64 0, .nils, .nils, .str [], .nils], none⟩])
 (.seq
 (.reg [⟨some 4, .faddr 0 (.t 1), none⟩,
 ⟨some 5, .load none (.t 4), none⟩,
 ⟨some 6, .faddr 0 (.t 3), none⟩,
 ⟨none, .store 1 (.t 6) (.t 5), none⟩])
 (.seq
 (.reg [⟨some 7, .faddr 1 (.t 1), none⟩,
 ⟨some 8, .load none (.t 7), none⟩,
 ⟨some 9, .faddr 1 (.t 3), none⟩,
 ⟨none, .store 1 (.t 9) (.t 8), none⟩])
 (.seq
 (.reg [⟨some 10, .faddr 2 (.t 1), none⟩,
 ⟨some 11, .load none (.t 10), none⟩,
 ⟨some 12, .call 55 false [(.t 11)], none⟩,
 ⟨some 13, .faddr 2 (.t 3), none⟩,
 ⟨none, .store 1 (.t 13) (.t 12), none⟩])
 (.seq
 (.reg [⟨some 14, .faddr 3 (.t 1), none⟩,
 ⟨some 15, .load none (.t 14), none⟩,
 ⟨some 16, .call 53 false [(.t 15)], none⟩,
 ⟨some 17, .faddr 3 (.t 3), none⟩,
 ⟨none, .store 1 (.t 17) (.t 16), none⟩])
 (.seq
 (.reg [⟨some 18, .faddr 4 (.t 1), none⟩,
 ⟨some 19, .load none (.t 18), none⟩,
 ⟨some 20, .faddr 4 (.t 3), none⟩,
 ⟨none, .store 1 (.t 20) (.t 19), none⟩])
 (.seq
 (.reg [⟨some 21, .faddr 5 (.t 1), none⟩,
 ⟨some 22, .load none (.t 21), none⟩,
 ⟨some 23, .call 55 false [(.t 22)], none⟩,
 ⟨some 24, .faddr 5 (.t 3), none⟩,
 ⟨none, .store 1 (.t 24) (.t 23), none⟩])
 (.seq
 (.reg [⟨some 25, .load (some 6) (.t 3), none⟩,
 ⟨none, .store 6 (.t 2) (.t 25), none⟩])
 .ret)))))))))⟩
structure H92 (Γ : Tab) : Prop where
  e92 : Γ 92 = some (.code f92)
  c53 : H53 Γ
  c55 : H55 Γ
/- loop.example/g00751/laws.toRuleS -/
def f54l1 : DCode :=
   (.seq
   (.seq
   (.reg [⟨some 8, .mv (.t 4), none⟩,
   ⟨some 9, .mv (.t 0), none⟩,
   ⟨some 10, .len (.t 9), none⟩,
   ⟨some 11, .bin .lss (.t 8) (.t 10), none⟩])
   (.cond (.t 11)
    .skip
    (.exit 0)))
   (.seq
   (.block 1
    (.reg [⟨some 14, .mv (.t 3), none⟩,
    ⟨some 15, .mv (.t 4), none⟩,
    ⟨some 16, .mv (.t 0), none⟩,
    ⟨some 17, .mv (.t 4), none⟩,
    ⟨some 18, .iaddr 6 (.t 16) (.t 17), none⟩,
    ⟨some 19, .load (some 6) (.t 18), none⟩,
    ⟨some 20, .call 92 false [(.t 19)], none⟩,
    ⟨some 21, .iaddr 6 (.t 14) (.t 15), none⟩,
    ⟨none, .store 6 (.t 21) (.t 20), none⟩]))
   (.reg [⟨some 12, .mv (.t 4), none⟩,
   ⟨some 13, .bin .add (.t 12) (.c (.int .i64 1)), none⟩,
   ⟨some 4, .mv (.t 13), none⟩])))
def f54 : DFn := ⟨1, false, [.t 2],
 (.seq
 (.reg [⟨some 2, .mv (.c .nils), none⟩])
 (.seq
 (.reg [⟨some 5, .mv (.t 0), none⟩,
 ⟨some 6, .len (.t 5), none⟩,
 ⟨some 7, .mkSl 6 112 (.agg [.str [], .int .i64 0, .nils, .nils, .str [], .nils]) (.t 6) (.t 6), none⟩,
 ⟨some 3, .mv (.t 7), none⟩])
 (.seq
 (.seq
 (.reg [⟨some 4, .mv (.c (.int .i64 0)), none⟩])
 (.block 0
  (.loop [0, 3, 4] f54l1)))
 (.seq
 (.reg [⟨some 22, .mv (.t 3), none⟩,
 ⟨some 2, .mv (.t 22), none⟩])
 .ret))))⟩
structure H54 (Γ : Tab) : Prop where
  e54 : Γ 54 = some (.code f54)
  c92 : H92 Γ
/- loop.example/g00751/laws.toStmt -/
def f26 : DFn := ⟨1, false, [.cell 2 (some 12)],
 (.seq
 (.reg [⟨some 1, .box (.t 0), none⟩,
 ⟨some 2, .alloc [.int .i64 0, .str [], .str [], .nils, .int .i64 0, .bool false, .int .i64 0, .int .i64 0, .str [], .nils, .nils, .nils], none⟩])
 (.seq
 (.reg [⟨some 3, .alloc [.int .i64 0, .str [], .str [], .nils, .int .i64 0, .bool false, .int .i64 0, .int .i64 0, .str [], .nils, .nils, .nils], none⟩])
 (.seq
 (.reg [⟨some 4, .faddr 0 (.t 1), none⟩,
 ⟨some 5, .load none (.t 4), none⟩,
 ⟨some 6, .faddr 0 (.t 3), none⟩,
 ⟨none, .store 1 (.t 6) (.t 5), none⟩])
 (.seq
 (.reg [⟨some 7, .faddr 1 (.t 1), none⟩,
 ⟨some 8, .load none (.t 7), none⟩,
 ⟨some 9, .faddr 1 (.t 3), none⟩,
 ⟨none, .store 1 (.t 9) (.t 8), none⟩])
 (.seq
 (.reg [⟨some 10, .faddr 2 (.t 1), none⟩,
 ⟨some 11, .load none (.t 10), none⟩,
 ⟨some 12, .faddr 2 (.t 3), none⟩,
 ⟨none, .store 1 (.t 12) (.t 11), none⟩])
 (.seq
 (.reg [⟨some 13, .faddr 3 (.t 1), none⟩,
 ⟨some 14, .load none (.t 13), none⟩,
 ⟨some 15, .call 55 false [(.t 14)], none⟩,
 ⟨some 16, .faddr 3 (.t 3), none⟩,
 ⟨none, .store 1 (.t 16) (.t 15), none⟩])
 (.seq
 (.reg [⟨some 17, .faddr 4 (.t 1), none⟩,
 ⟨some 18, .load none (.t 17), none⟩,
 ⟨some 19, .faddr 4 (.t 3), none⟩,
 ⟨none, .store 1 (.t 19) (.t 18), none⟩])
 (.seq
 (.reg [⟨some 20, .faddr 5 (.t 1), none⟩,
 ⟨some 21, .load none (.t 20), none⟩,
 ⟨some 22, .faddr 5 (.t 3), none⟩,
 ⟨none, .store 1 (.t 22) (.t 21), none⟩])
 (.seq
 (.reg [⟨some 23, .faddr 6 (.t 1), none⟩,
 ⟨some 24, .load (some 3) (.t 23), none⟩,
 ⟨some 25, .call 56 false [(.t 24)], none⟩,
 ⟨some 26, .faddr 6 (.t 3), none⟩,
 ⟨none, .store 3 (.t 26) (.t 25), none⟩])
 (.seq
 (.reg [⟨some 27, .faddr 9 (.t 1), none⟩,
 ⟨some 28, .load none (.t 27), none⟩,
 ⟨some 29, .call 52 false [(.t 28)], none⟩,
 ⟨some 30, .faddr 9 (.t 3), none⟩,
 ⟨none, .store 1 (.t 30) (.t 29), none⟩])
 (.seq
 (.reg [⟨some 31, .faddr 10 (.t 1), none⟩,
 ⟨some 32, .load none (.t 31), none⟩,
 ⟨some 33, .call 54 false [(.t 32)], none⟩,
 ⟨some 34, .faddr 10 (.t 3), none⟩,
 ⟨none, .store 1 (.t 34) (.t 33), none⟩])
 (.seq
 (.reg [⟨some 35, .faddr 11 (.t 1), none⟩,
 ⟨some 36, .load none (.t 35), none⟩,
 ⟨some 37, .call 53 false [(.t 36)], none⟩,
 ⟨some 38, .faddr 11 (.t 3), none⟩,
 ⟨none, .store 1 (.t 38) (.t 37), none⟩])
 (.seq
 (.reg [⟨some 39, .load (some 12) (.t 3), none⟩,
 ⟨none, .store 12 (.t 2) (.t 39), none⟩])
 .ret)))))))))))))⟩
structure H26 (Γ : Tab) : Prop where
  e26 : Γ 26 = some (.code f26)
  c52 : H52 Γ
  c53 : H53 Γ
  c54 : H54 Γ
  c55 : H55 Γ
  c56 : H56 Γ
/- loop.example/g00751/spec.Nodes -/
def f116l1 : DCode :=
   (.seq
   (.seq
   (.reg [⟨some 5, .mv (.t 4), none⟩,
   ⟨some 6, .faddr 3 (.t 1), none⟩,
   ⟨some 7, .load none (.t 6), none⟩,
   ⟨some 8, .len (.t 7), none⟩,
   ⟨some 9, .bin .lss (.t 5) (.t 8), none⟩])
   (.cond (.t 9)
    .skip
    (.exit 0)))
   (.seq
   (.block 1
    (.reg [⟨some 12, .mv (.t 3), none⟩,
    ⟨some 13, .faddr 3 (.t 1), none⟩,
    ⟨some 14, .load none (.t 13), none⟩,
    ⟨some 15, .mv (.t 4), none⟩,
    ⟨some 16, .iaddr 4 (.t 14) (.t 15), none⟩,
    ⟨some 17, .load (some 4) (.t 16), none⟩,
    ⟨some 18, .call 116 false [(.t 17)], none⟩,
    ⟨some 19, .bin .add (.t 12) (.t 18), none⟩,
    ⟨some 3, .mv (.t 19), none⟩]))
   (.reg [⟨some 10, .mv (.t 4), none⟩,
   ⟨some 11, .bin .add (.t 10) (.c (.int .i64 1)), none⟩,
   ⟨some 4, .mv (.t 11), none⟩])))
def f116 : DFn := ⟨1, false, [.t 2],
 (.seq
 (.reg [⟨some 1, .box (.t 0), none⟩,
 ⟨some 2, .mv (.c (.int .i64 0)), none⟩])
 (.seq
 (.reg [⟨some 3, .mv (.c (.int .i64 1)), none⟩])
 (.seq
 (.seq
 (.reg [⟨some 4, .mv (.c (.int .i64 0)), none⟩])
 (.block 0
  (.loop [1, 4, 3] f116l1)))
 (.seq
 (.reg [⟨some 20, .mv (.t 3), none⟩,
 ⟨some 2, .mv (.t 20), none⟩])
 .ret))))⟩
structure H116 (Γ : Tab) : Prop where
  e116 : Γ 116 = some (.code f116)
/- loop.example/g00751/spec.l04Kids -/
def f118 : DFn := ⟨1, false, [.t 2],
 (.seq
 (.reg [⟨some 2, .mv (.c (.int .i64 0)), none⟩])
 (.seq
 (.block 0
  (.seq
  (.reg [⟨some 4, .mv (.t 0), none⟩,
  ⟨some 5, .call 28 false [(.t 4), (.c (.int .i64 0)), (.c (.int .i64 18))], none⟩,
  ⟨some 6, .un .not (.t 5), none⟩,
  ⟨some 3, .mv (.t 6), none⟩])
  (.cond (.t 3)
   (.seq
   (.reg [⟨some 2, .mv (.c (.int .i64 (-1))), none⟩])
   .ret)
   (.seq
   (.reg [⟨some 8, .mv (.t 0), none⟩,
   ⟨some 9, .bin .leq (.t 8) (.c (.int .i64 5)), none⟩,
   ⟨some 7, .mv (.t 9), none⟩])
   (.cond (.t 7)
    (.seq
    (.reg [⟨some 2, .mv (.c (.int .i64 0)), none⟩])
    .ret)
    (.seq
    (.reg [⟨some 11, .mv (.t 0), none⟩,
    ⟨some 12, .bin .leq (.t 11) (.c (.int .i64 7)), none⟩,
    ⟨some 10, .mv (.t 12), none⟩])
    (.cond (.t 10)
     (.seq
     (.reg [⟨some 2, .mv (.c (.int .i64 1)), none⟩])
     .ret)
     .skip)))))))
 (.seq
 (.reg [⟨some 2, .mv (.c (.int .i64 2)), none⟩])
 .ret)))⟩
structure H118 (Γ : Tab) : Prop where
  e118 : Γ 118 = some (.code f118)
  c28 : H28 Γ
/- loop.example/g00751/spec.l04Shape -/
def f117l1 : DCode :=
   (.seq
   (.seq
   (.reg [⟨some 47, .mv (.t 3), none⟩,
   ⟨some 48, .faddr 3 (.t 1), none⟩,
   ⟨some 49, .load none (.t 48), none⟩,
   ⟨some 50, .len (.t 49), none⟩,
   ⟨some 51, .bin .lss (.t 47) (.t 50), none⟩])
   (.cond (.t 51)
    .skip
    (.exit 1)))
   (.seq
   (.block 2
    (.seq
    (.reg [⟨some 54, .faddr 3 (.t 1), none⟩,
    ⟨some 55, .load none (.t 54), none⟩,
    ⟨some 56, .mv (.t 3), none⟩,
    ⟨some 57, .iaddr 4 (.t 55) (.t 56), none⟩,
    ⟨some 58, .load (some 4) (.t 57), none⟩,
    ⟨some 59, .call 117 false [(.t 58)], none⟩,
    ⟨some 60, .un .not (.t 59), none⟩])
    (.cond (.t 60)
     (.seq
     (.reg [⟨some 2, .mv (.c (.bool false)), none⟩])
     .ret)
     .skip)))
   (.reg [⟨some 52, .mv (.t 3), none⟩,
   ⟨some 53, .bin .add (.t 52) (.c (.int .i64 1)), none⟩,
   ⟨some 3, .mv (.t 53), none⟩])))
def f117 : DFn := ⟨1, false, [.t 2],
 (.seq
 (.reg [⟨some 1, .box (.t 0), none⟩,
 ⟨some 2, .mv (.c (.bool false)), none⟩])
 (.seq
 (.seq
 (.any [⟨some 4, .faddr 3 (.t 1), none⟩,
 ⟨some 5, .load none (.t 4), none⟩,
 ⟨some 6, .len (.t 5), none⟩,
 ⟨some 7, .faddr 0 (.t 1), none⟩,
 ⟨some 8, .load none (.t 7), none⟩,
 ⟨some 9, .call 118 false [(.t 8)], none⟩,
 ⟨some 10, .bin .neq (.t 6) (.t 9), none⟩]
 [])
 (.cond (.t 10)
  (.seq
  (.reg [⟨some 2, .mv (.c (.bool false)), none⟩])
  .ret)
  .skip))
 (.seq
 (.seq
 (.reg [⟨some 11, .faddr 0 (.t 1), none⟩,
 ⟨some 12, .load none (.t 11), none⟩])
 (.block 0
  (.seq
  (.reg [⟨some 17, .bin .eql (.t 12) (.c (.int .i64 0)), none⟩,
  ⟨some 16, .mv (.t 17), none⟩])
  (.cond (.t 16)
   (.seq
   (.reg [⟨some 18, .faddr 1 (.t 1), none⟩,
   ⟨some 19, .load none (.t 18), none⟩,
   ⟨some 20, .call 43 false [(.t 19)], none⟩,
   ⟨some 21, .un .not (.t 20), none⟩])
   (.cond (.t 21)
    (.seq
    (.reg [⟨some 2, .mv (.c (.bool false)), none⟩])
    .ret)
    .skip))
   (.seq
   (.reg [⟨some 23, .bin .eql (.t 12) (.c (.int .i64 2)), none⟩,
   ⟨some 22, .mv (.t 23), none⟩])
   (.cond (.t 22)
    (.seq
    (.reg [⟨some 24, .faddr 1 (.t 1), none⟩,
    ⟨some 25, .load none (.t 24), none⟩,
    ⟨some 26, .lens (.t 25), none⟩,
    ⟨some 27, .bin .gtr (.t 26) (.c (.int .i64 100)), none⟩])
    (.cond (.t 27)
     (.seq
     (.reg [⟨some 2, .mv (.c (.bool false)), none⟩])
     .ret)
     .skip))
    (.seq
    (.reg [⟨some 13, .faddr 1 (.t 1), none⟩,
    ⟨some 14, .load none (.t 13), none⟩,
    ⟨some 15, .bin .neq (.t 14) (.c (.str [])), none⟩])
    (.cond (.t 15)
     (.seq
     (.reg [⟨some 2, .mv (.c (.bool false)), none⟩])
     .ret)
     .skip))))))))
 (.seq
 (.seq
 (.reg [⟨some 28, .faddr 0 (.t 1), none⟩,
 ⟨some 29, .load none (.t 28), none⟩,
 ⟨some 30, .bin .eql (.t 29) (.c (.int .i64 1)), none⟩,
 ⟨some 31, .mv (.t 30), none⟩,
 ⟨some 32, .faddr 2 (.t 1), some (31, true)⟩,
 ⟨some 33, .load none (.t 32), some (31, true)⟩,
 ⟨some 34, .call 28 false [(.t 33), (.c (.int .i64 0)), (.c (.int .i64 999999999))], some (31, true)⟩,
 ⟨some 35, .un .not (.t 34), some (31, true)⟩,
 ⟨some 36, .pick (.t 31) (.t 35) (.c (.bool false)), none⟩,
 ⟨some 37, .mv (.t 36), none⟩,
 ⟨some 38, .faddr 0 (.t 1), some (37, false)⟩,
 ⟨some 39, .load none (.t 38), some (37, false)⟩,
 ⟨some 40, .bin .neq (.t 39) (.c (.int .i64 1)), some (37, false)⟩,
 ⟨some 41, .mv (.t 40), some (37, false)⟩,
 ⟨some 42, .faddr 2 (.t 1), some (41, true)⟩,
 ⟨some 43, .load none (.t 42), some (41, true)⟩,
 ⟨some 44, .bin .neq (.t 43) (.c (.int .i64 0)), some (41, true)⟩,
 ⟨some 45, .pick (.t 41) (.t 44) (.c (.bool false)), some (37, false)⟩,
 ⟨some 46, .pick (.t 37) (.c (.bool true)) (.t 45), none⟩])
 (.cond (.t 46)
  (.seq
  (.reg [⟨some 2, .mv (.c (.bool false)), none⟩])
  .ret)
  .skip))
 (.seq
 (.seq
 (.reg [⟨some 3, .mv (.c (.int .i64 0)), none⟩])
 (.block 1
  (.loop [1, 3] f117l1)))
 (.seq
 (.reg [⟨some 2, .mv (.c (.bool true)), none⟩])
 .ret))))))⟩
structure H117 (Γ : Tab) : Prop where
  e117 : Γ 117 = some (.code f117)
  c28 : H28 Γ
  c43 : H43 Γ
  c118 : H118 Γ
/- loop.example/g00751/spec.ExprOk -/
def f111 : DFn := ⟨1, false, [.t 2],
 (.seq
 (.reg [⟨some 1, .box (.t 0), none⟩,
 ⟨some 2, .mv (.c (.bool false)), none⟩])
 (.seq
 (.reg [⟨some 3, .load (some 4) (.t 1), none⟩,
 ⟨some 4, .call 116 false [(.t 3)], none⟩,
 ⟨some 5, .bin .leq (.t 4) (.c (.int .i64 40)), none⟩,
 ⟨some 6, .mv (.t 5), none⟩,
 ⟨some 7, .load (some 4) (.t 1), some (6, true)⟩,
 ⟨some 8, .call 117 false [(.t 7)], some (6, true)⟩,
 ⟨some 9, .pick (.t 6) (.t 8) (.c (.bool false)), none⟩,
 ⟨some 2, .mv (.t 9), none⟩])
 .ret))⟩
structure H111 (Γ : Tab) : Prop where
  e111 : Γ 111 = some (.code f111)
  c116 : H116 Γ
  c117 : H117 Γ
/- loop.example/g00751/spec.l08Exprs -/
def f89l1 : DCode :=
   (.seq
   (.seq
   (.reg [⟨some 8, .mv (.t 7), none⟩,
   ⟨some 9, .mv (.t 0), none⟩,
   ⟨some 10, .len (.t 9), none⟩,
   ⟨some 11, .bin .lss (.t 8) (.t 10), none⟩,
   ⟨some 12, .mv (.t 11), none⟩,
   ⟨some 13, .mv (.t 7), some (12, true)⟩,
   ⟨some 14, .mv (.t 2), some (12, true)⟩,
   ⟨some 15, .bin .leq (.t 13) (.t 14), some (12, true)⟩,
   ⟨some 16, .pick (.t 12) (.t 15) (.c (.bool false)), none⟩])
   (.cond (.t 16)
    .skip
    (.exit 0)))
   (.seq
   (.block 1
    (.seq
    (.reg [⟨some 19, .mv (.t 0), none⟩,
    ⟨some 20, .mv (.t 7), none⟩,
    ⟨some 21, .iaddr 4 (.t 19) (.t 20), none⟩,
    ⟨some 22, .load (some 4) (.t 21), none⟩,
    ⟨some 23, .call 111 false [(.t 22)], none⟩,
    ⟨some 24, .un .not (.t 23), none⟩])
    (.cond (.t 24)
     (.seq
     (.reg [⟨some 6, .mv (.c (.bool false)), none⟩])
     .ret)
     .skip)))
   (.reg [⟨some 17, .mv (.t 7), none⟩,
   ⟨some 18, .bin .add (.t 17) (.c (.int .i64 1)), none⟩,
   ⟨some 7, .mv (.t 18), none⟩])))
def f89 : DFn := ⟨3, false, [.t 6],
 (.seq
 (.reg [⟨some 6, .mv (.c (.bool false)), none⟩])
 (.seq
 (.seq
 (.reg [⟨some 7, .mv (.c (.int .i64 0)), none⟩])
 (.block 0
  (.loop [0, 2, 1, 7] f89l1)))
 (.seq
 (.reg [⟨some 25, .mv (.t 0), none⟩,
 ⟨some 26, .len (.t 25), none⟩,
 ⟨some 27, .mv (.t 1), none⟩,
 ⟨some 28, .mv (.t 2), none⟩,
 ⟨some 29, .call 28 false [(.t 26), (.t 27), (.t 28)], none⟩,
 ⟨some 6, .mv (.t 29), none⟩])
 .ret)))⟩
structure H89 (Γ : Tab) : Prop where
  e89 : Γ 89 = some (.code f89)
  c28 : H28 Γ
  c111 : H111 Γ
/- loop.example/g00751/spec.l08Col -/
def f87 : DFn := ⟨1, false, [.t 2],
 (.seq
 (.reg [⟨some 1, .box (.t 0), none⟩,
 ⟨some 2, .mv (.c (.bool false)), none⟩])
 (.seq
 (.reg [⟨some 3, .faddr 0 (.t 1), none⟩,
 ⟨some 4, .load none (.t 3), none⟩,
 ⟨some 5, .call 43 false [(.t 4)], none⟩,
 ⟨some 6, .mv (.t 5), none⟩,
 ⟨some 7, .faddr 1 (.t 1), some (6, true)⟩,
 ⟨some 8, .load (some 3) (.t 7), some (6, true)⟩,
 ⟨some 9, .call 21 false [(.t 8)], some (6, true)⟩,
 ⟨some 10, .pick (.t 6) (.t 9) (.c (.bool false)), none⟩,
 ⟨some 11, .mv (.t 10), none⟩,
 ⟨some 12, .faddr 5 (.t 1), some (11, true)⟩,
 ⟨some 13, .load none (.t 12), some (11, true)⟩,
 ⟨some 14, .call 89 false [(.t 13), (.c (.int .i64 0)), (.c (.int .i64 1))], some (11, true)⟩,
 ⟨some 15, .pick (.t 11) (.t 14) (.c (.bool false)), none⟩,
 ⟨some 2, .mv (.t 15), none⟩])
 .ret))⟩
structure H87 (Γ : Tab) : Prop where
  e87 : Γ 87 = some (.code f87)
  c21 : H21 Γ
  c43 : H43 Γ
  c89 : H89 Γ
/- loop.example/g00751/spec.l08Names -/
def f90l1 : DCode :=
   (.seq
   (.seq
   (.reg [⟨some 6, .mv (.t 5), none⟩,
   ⟨some 7, .mv (.t 0), none⟩,
   ⟨some 8, .len (.t 7), none⟩,
   ⟨some 9, .bin .lss (.t 6) (.t 8), none⟩,
   ⟨some 10, .mv (.t 9), none⟩,
   ⟨some 11, .mv (.t 5), some (10, true)⟩,
   ⟨some 12, .mv (.t 1), some (10, true)⟩,
   ⟨some 13, .bin .leq (.t 11) (.t 12), some (10, true)⟩,
   ⟨some 14, .pick (.t 10) (.t 13) (.c (.bool false)), none⟩])
   (.cond (.t 14)
    .skip
    (.exit 0)))
   (.seq
   (.block 1
    (.seq
    (.reg [⟨some 17, .mv (.t 0), none⟩,
    ⟨some 18, .mv (.t 5), none⟩,
    ⟨some 19, .iaddr 1 (.t 17) (.t 18), none⟩,
    ⟨some 20, .load none (.t 19), none⟩,
    ⟨some 21, .call 43 false [(.t 20)], none⟩,
    ⟨some 22, .un .not (.t 21), none⟩])
    (.cond (.t 22)
     (.seq
     (.reg [⟨some 4, .mv (.c (.bool false)), none⟩])
     .ret)
     .skip)))
   (.reg [⟨some 15, .mv (.t 5), none⟩,
   ⟨some 16, .bin .add (.t 15) (.c (.int .i64 1)), none⟩,
   ⟨some 5, .mv (.t 16), none⟩])))
def f90 : DFn := ⟨2, false, [.t 4],
 (.seq
 (.reg [⟨some 4, .mv (.c (.bool false)), none⟩])
 (.seq
 (.seq
 (.reg [⟨some 5, .mv (.c (.int .i64 0)), none⟩])
 (.block 0
  (.loop [0, 1, 5] f90l1)))
 (.seq
 (.reg [⟨some 23, .mv (.t 0), none⟩,
 ⟨some 24, .len (.t 23), none⟩,
 ⟨some 25, .mv (.t 1), none⟩,
 ⟨some 26, .call 28 false [(.t 24), (.c (.int .i64 1)), (.t 25)], none⟩,
 ⟨some 4, .mv (.t 26), none⟩])
 .ret)))⟩
structure H90 (Γ : Tab) : Prop where
  e90 : Γ 90 = some (.code f90)
  c28 : H28 Γ
  c43 : H43 Γ
/- loop.example/g00751/spec.l08Rule -/
def f88 : DFn := ⟨1, false, [.t 2],
 (.seq
 (.reg [⟨some 1, .box (.t 0), none⟩,
 ⟨some 2, .mv (.c (.bool false)), none⟩])
 (.seq
 (.seq
 (.reg [⟨some 3, .faddr 0 (.t 1), none⟩,
 ⟨some 4, .load none (.t 3), none⟩,
 ⟨some 5, .call 43 false [(.t 4)], none⟩,
 ⟨some 6, .un .not (.t 5), none⟩])
 (.cond (.t 6)
  (.seq
  (.reg [⟨some 2, .mv (.c (.bool false)), none⟩])
  .ret)
  .skip))
 (.seq
 (.seq
 (.reg [⟨some 7, .faddr 1 (.t 1), none⟩,
 ⟨some 8, .load none (.t 7), none⟩])
 (.block 0
  (.seq
  (.seq
  (.reg [⟨some 10, .bin .eql (.t 8) (.c (.int .i64 0)), none⟩,
  ⟨some 9, .mv (.t 10), none⟩])
  (.cond (.t 9)
   .skip
   (.reg [⟨some 11, .bin .eql (.t 8) (.c (.int .i64 1)), none⟩,
   ⟨some 9, .mv (.t 11), none⟩])))
  (.cond (.t 9)
   (.seq
   (.reg [⟨some 12, .faddr 2 (.t 1), none⟩,
   ⟨some 13, .load none (.t 12), none⟩,
   ⟨some 14, .call 90 false [(.t 13), (.c (.int .i64 4))], none⟩,
   ⟨some 15, .mv (.t 14), none⟩,
   ⟨some 16, .faddr 3 (.t 1), some (15, true)⟩,
   ⟨some 17, .load none (.t 16), some (15, true)⟩,
   ⟨some 18, .len (.t 17), some (15, true)⟩,
   ⟨some 19, .bin .eql (.t 18) (.c (.int .i64 0)), some (15, true)⟩,
   ⟨some 20, .pick (.t 15) (.t 19) (.c (.bool false)), none⟩,
   ⟨some 21, .mv (.t 20), none⟩,
   ⟨some 22, .faddr 4 (.t 1), some (21, true)⟩,
   ⟨some 23, .load none (.t 22), some (21, true)⟩,
   ⟨some 24, .bin .eql (.t 23) (.c (.str [])), some (21, true)⟩,
   ⟨some 25, .pick (.t 21) (.t 24) (.c (.bool false)), none⟩,
   ⟨some 26, .mv (.t 25), none⟩,
   ⟨some 27, .faddr 5 (.t 1), some (26, true)⟩,
   ⟨some 28, .load none (.t 27), some (26, true)⟩,
   ⟨some 29, .len (.t 28), some (26, true)⟩,
   ⟨some 30, .bin .eql (.t 29) (.c (.int .i64 0)), some (26, true)⟩,
   ⟨some 31, .pick (.t 26) (.t 30) (.c (.bool false)), none⟩,
   ⟨some 2, .mv (.t 31), none⟩])
   .ret)
   (.seq
   (.reg [⟨some 33, .bin .eql (.t 8) (.c (.int .i64 2)), none⟩,
   ⟨some 32, .mv (.t 33), none⟩])
   (.cond (.t 32)
    (.seq
    (.reg [⟨some 34, .faddr 2 (.t 1), none⟩,
    ⟨some 35, .load none (.t 34), none⟩,
    ⟨some 36, .len (.t 35), none⟩,
    ⟨some 37, .bin .eql (.t 36) (.c (.int .i64 0)), none⟩,
    ⟨some 38, .mv (.t 37), none⟩,
    ⟨some 39, .faddr 3 (.t 1), some (38, true)⟩,
    ⟨some 40, .load none (.t 39), some (38, true)⟩,
    ⟨some 41, .call 89 false [(.t 40), (.c (.int .i64 1)), (.c (.int .i64 1))], some (38, true)⟩,
    ⟨some 42, .pick (.t 38) (.t 41) (.c (.bool false)), none⟩,
    ⟨some 43, .mv (.t 42), none⟩,
    ⟨some 44, .faddr 4 (.t 1), some (43, true)⟩,
    ⟨some 45, .load none (.t 44), some (43, true)⟩,
    ⟨some 46, .bin .eql (.t 45) (.c (.str [])), some (43, true)⟩,
    ⟨some 47, .pick (.t 43) (.t 46) (.c (.bool false)), none⟩,
    ⟨some 48, .mv (.t 47), none⟩,
    ⟨some 49, .faddr 5 (.t 1), some (48, true)⟩,
    ⟨some 50, .load none (.t 49), some (48, true)⟩,
    ⟨some 51, .len (.t 50), some (48, true)⟩,
    ⟨some 52, .bin .eql (.t 51) (.c (.int .i64 0)), some (48, true)⟩,
    ⟨some 53, .pick (.t 48) (.t 52) (.c (.bool false)), none⟩,
    ⟨some 2, .mv (.t 53), none⟩])
    .ret)
    (.seq
    (.reg [⟨some 55, .bin .eql (.t 8) (.c (.int .i64 3)), none⟩,
    ⟨some 54, .mv (.t 55), none⟩])
    (.cond (.t 54)
     (.seq
     (.reg [⟨some 56, .faddr 2 (.t 1), none⟩,
     ⟨some 57, .load none (.t 56), none⟩,
     ⟨some 58, .call 90 false [(.t 57), (.c (.int .i64 4))], none⟩,
     ⟨some 59, .mv (.t 58), none⟩,
     ⟨some 60, .faddr 3 (.t 1), some (59, true)⟩,
     ⟨some 61, .load none (.t 60), some (59, true)⟩,
     ⟨some 62, .len (.t 61), some (59, true)⟩,
     ⟨some 63, .bin .eql (.t 62) (.c (.int .i64 0)), some (59, true)⟩,
     ⟨some 64, .pick (.t 59) (.t 63) (.c (.bool false)), none⟩,
     ⟨some 65, .mv (.t 64), none⟩,
     ⟨some 66, .faddr 4 (.t 1), some (65, true)⟩,
     ⟨some 67, .load none (.t 66), some (65, true)⟩,
     ⟨some 68, .call 43 false [(.t 67)], some (65, true)⟩,
     ⟨some 69, .pick (.t 65) (.t 68) (.c (.bool false)), none⟩,
     ⟨some 70, .mv (.t 69), none⟩,
     ⟨some 71, .faddr 5 (.t 1), some (70, true)⟩,
     ⟨some 72, .load none (.t 71), some (70, true)⟩,
     ⟨some 73, .call 90 false [(.t 72), (.c (.int .i64 4))], some (70, true)⟩,
     ⟨some 74, .pick (.t 70) (.t 73) (.c (.bool false)), none⟩,
     ⟨some 75, .mv (.t 74), none⟩,
     ⟨some 76, .faddr 5 (.t 1), some (75, true)⟩,
     ⟨some 77, .load none (.t 76), some (75, true)⟩,
     ⟨some 78, .len (.t 77), some (75, true)⟩,
     ⟨some 79, .faddr 2 (.t 1), some (75, true)⟩,
     ⟨some 80, .load none (.t 79), some (75, true)⟩,
     ⟨some 81, .len (.t 80), some (75, true)⟩,
     ⟨some 82, .bin .eql (.t 78) (.t 81), some (75, true)⟩,
     ⟨some 83, .pick (.t 75) (.t 82) (.c (.bool false)), none⟩,
     ⟨some 2, .mv (.t 83), none⟩])
     .ret)
     .skip))))))))
 (.seq
 (.reg [⟨some 2, .mv (.c (.bool false)), none⟩])
 .ret))))⟩
structure H88 (Γ : Tab) : Prop where
  e88 : Γ 88 = some (.code f88)
  c43 : H43 Γ
  c89 : H89 Γ
  c90 : H90 Γ
/- loop.example/g00751/spec.l08Parts -/
def f50l1 : DCode :=
   (.seq
   (.seq
   (.reg [⟨some 35, .mv (.t 7), none⟩,
   ⟨some 36, .faddr 10 (.t 1), none⟩,
   ⟨some 37, .load none (.t 36), none⟩,
   ⟨some 38, .len (.t 37), none⟩,
   ⟨some 39, .bin .lss (.t 35) (.t 38), none⟩,
   ⟨some 40, .mv (.t 39), none⟩,
   ⟨some 41, .mv (.t 7), some (40, true)⟩,
   ⟨some 42, .mv (.t 4), some (40, true)⟩,
   ⟨some 43, .bin .leq (.t 41) (.t 42), some (40, true)⟩,
   ⟨some 44, .pick (.t 40) (.t 43) (.c (.bool false)), none⟩])
   (.cond (.t 44)
    .skip
    (.exit 3)))
   (.seq
   (.block 4
    (.seq
    (.reg [⟨some 47, .faddr 10 (.t 1), none⟩,
    ⟨some 48, .load none (.t 47), none⟩,
    ⟨some 49, .mv (.t 7), none⟩,
    ⟨some 50, .iaddr 6 (.t 48) (.t 49), none⟩,
    ⟨some 51, .load (some 6) (.t 50), none⟩,
    ⟨some 52, .call 88 false [(.t 51)], none⟩,
    ⟨some 53, .un .not (.t 52), none⟩])
    (.cond (.t 53)
     (.seq
     (.reg [⟨some 2, .mv (.c (.bool false)), none⟩])
     .ret)
     .skip)))
   (.reg [⟨some 45, .mv (.t 7), none⟩,
   ⟨some 46, .bin .add (.t 45) (.c (.int .i64 1)), none⟩,
   ⟨some 7, .mv (.t 46), none⟩])))
def f50l2 : DCode :=
   (.seq
   (.seq
   (.reg [⟨some 16, .mv (.t 6), none⟩,
   ⟨some 17, .faddr 9 (.t 1), none⟩,
   ⟨some 18, .load none (.t 17), none⟩,
   ⟨some 19, .len (.t 18), none⟩,
   ⟨some 20, .bin .lss (.t 16) (.t 19), none⟩,
   ⟨some 21, .mv (.t 20), none⟩,
   ⟨some 22, .mv (.t 6), some (21, true)⟩,
   ⟨some 23, .mv (.t 3), some (21, true)⟩,
   ⟨some 24, .bin .leq (.t 22) (.t 23), some (21, true)⟩,
   ⟨some 25, .pick (.t 21) (.t 24) (.c (.bool false)), none⟩])
   (.cond (.t 25)
    .skip
    (.exit 1)))
   (.seq
   (.block 2
    (.seq
    (.reg [⟨some 28, .faddr 9 (.t 1), none⟩,
    ⟨some 29, .load none (.t 28), none⟩,
    ⟨some 30, .mv (.t 6), none⟩,
    ⟨some 31, .iaddr 6 (.t 29) (.t 30), none⟩,
    ⟨some 32, .load (some 6) (.t 31), none⟩,
    ⟨some 33, .call 87 false [(.t 32)], none⟩,
    ⟨some 34, .un .not (.t 33), none⟩])
    (.cond (.t 34)
     (.seq
     (.reg [⟨some 2, .mv (.c (.bool false)), none⟩])
     .ret)
     .skip)))
   (.reg [⟨some 26, .mv (.t 6), none⟩,
   ⟨some 27, .bin .add (.t 26) (.c (.int .i64 1)), none⟩,
   ⟨some 6, .mv (.t 27), none⟩])))
def f50 : DFn := ⟨1, false, [.t 2],
 (.seq
 (.reg [⟨some 1, .box (.t 0), none⟩,
 ⟨some 2, .mv (.c (.bool false)), none⟩])
 (.seq
 (.reg [⟨some 3, .mv (.c (.int .i64 0)), none⟩,
 ⟨some 4, .mv (.c (.int .i64 0)), none⟩,
 ⟨some 5, .mv (.c (.int .i64 0)), none⟩])
 (.seq
 (.seq
 (.reg [⟨some 8, .faddr 0 (.t 1), none⟩,
 ⟨some 9, .load none (.t 8), none⟩])
 (.block 0
  (.seq
  (.reg [⟨some 11, .bin .eql (.t 9) (.c (.int .i64 4)), none⟩,
  ⟨some 10, .mv (.t 11), none⟩])
  (.cond (.t 10)
   (.reg [⟨some 3, .mv (.c (.int .i64 12)), none⟩,
   ⟨some 4, .mv (.c (.int .i64 8)), none⟩])
   (.seq
   (.reg [⟨some 13, .bin .eql (.t 9) (.c (.int .i64 6)), none⟩,
   ⟨some 12, .mv (.t 13), none⟩])
   (.cond (.t 12)
    (.reg [⟨some 3, .mv (.c (.int .i64 1)), none⟩,
    ⟨some 5, .mv (.c (.int .i64 1)), none⟩])
    (.seq
    (.reg [⟨some 15, .bin .eql (.t 9) (.c (.int .i64 11)), none⟩,
    ⟨some 14, .mv (.t 15), none⟩])
    (.cond (.t 14)
     (.reg [⟨some 4, .mv (.c (.int .i64 1)), none⟩,
     ⟨some 5, .mv (.c (.int .i64 1)), none⟩])
     .skip))))))))
 (.seq
 (.seq
 (.reg [⟨some 6, .mv (.c (.int .i64 0)), none⟩])
 (.block 1
  (.loop [1, 5, 4, 3, 6] f50l2)))
 (.seq
 (.seq
 (.reg [⟨some 7, .mv (.c (.int .i64 0)), none⟩])
 (.block 3
  (.loop [1, 5, 4, 3, 7] f50l1)))
 (.seq
 (.reg [⟨some 54, .faddr 9 (.t 1), none⟩,
 ⟨some 55, .load none (.t 54), none⟩,
 ⟨some 56, .len (.t 55), none⟩,
 ⟨some 57, .mv (.t 3), none⟩,
 ⟨some 58, .bin .leq (.t 56) (.t 57), none⟩,
 ⟨some 59, .mv (.t 58), none⟩,
 ⟨some 60, .faddr 10 (.t 1), some (59, true)⟩,
 ⟨some 61, .load none (.t 60), some (59, true)⟩,
 ⟨some 62, .len (.t 61), some (59, true)⟩,
 ⟨some 63, .mv (.t 4), some (59, true)⟩,
 ⟨some 64, .bin .leq (.t 62) (.t 63), some (59, true)⟩,
 ⟨some 65, .pick (.t 59) (.t 64) (.c (.bool false)), none⟩,
 ⟨some 66, .mv (.t 65), none⟩,
 ⟨some 67, .faddr 9 (.t 1), some (66, true)⟩,
 ⟨some 68, .load none (.t 67), some (66, true)⟩,
 ⟨some 69, .len (.t 68), some (66, true)⟩,
 ⟨some 70, .faddr 10 (.t 1), some (66, true)⟩,
 ⟨some 71, .load none (.t 70), some (66, true)⟩,
 ⟨some 72, .len (.t 71), some (66, true)⟩,
 ⟨some 73, .bin .add (.t 69) (.t 72), some (66, true)⟩,
 ⟨some 74, .mv (.t 5), some (66, true)⟩,
 ⟨some 75, .bin .geq (.t 73) (.t 74), some (66, true)⟩,
 ⟨some 76, .pick (.t 66) (.t 75) (.c (.bool false)), none⟩,
 ⟨some 2, .mv (.t 76), none⟩])
 .ret))))))⟩
structure H50 (Γ : Tab) : Prop where
  e50 : Γ 50 = some (.code f50)
  c87 : H87 Γ
  c88 : H88 Γ
/- loop.example/g00751/spec.l08Rest -/
def f51l1 : DCode :=
     (.seq
     (.seq
     (.reg [⟨some 33, .mv (.t 9), none⟩,
     ⟨some 34, .faddr 3 (.t 1), none⟩,
     ⟨some 35, .load none (.t 34), none⟩,
     ⟨some 36, .len (.t 35), none⟩,
     ⟨some 37, .bin .lss (.t 33) (.t 36), none⟩,
     ⟨some 38, .mv (.t 37), none⟩,
     ⟨some 39, .mv (.t 6), some (38, true)⟩,
     ⟨some 40, .pick (.t 38) (.t 39) (.c (.bool false)), none⟩])
     (.cond (.t 40)
      .skip
      (.exit 1)))
     (.seq
     (.block 2
      (.reg [⟨some 43, .faddr 3 (.t 1), none⟩,
      ⟨some 44, .load none (.t 43), none⟩,
      ⟨some 45, .mv (.t 9), none⟩,
      ⟨some 46, .iaddr 1 (.t 44) (.t 45), none⟩,
      ⟨some 47, .load none (.t 46), none⟩,
      ⟨some 48, .call 82 false [(.t 47)], none⟩,
      ⟨some 6, .mv (.t 48), none⟩]))
     (.reg [⟨some 41, .mv (.t 9), none⟩,
     ⟨some 42, .bin .add (.t 41) (.c (.int .i64 1)), none⟩,
     ⟨some 9, .mv (.t 42), none⟩])))
def f51 : DFn := ⟨1, false, [.t 2],
 (.seq
 (.reg [⟨some 1, .box (.t 0), none⟩,
 ⟨some 2, .mv (.c (.bool false)), none⟩])
 (.seq
 (.reg [⟨some 3, .mv (.c (.int .i64 0)), none⟩,
 ⟨some 4, .mv (.c (.int .i64 0)), none⟩])
 (.seq
 (.reg [⟨some 11, .faddr 2 (.t 1), none⟩,
 ⟨some 12, .load none (.t 11), none⟩,
 ⟨some 13, .bin .eql (.t 12) (.c (.str [])), none⟩,
 ⟨some 5, .mv (.t 13), none⟩])
 (.seq
 (.reg [⟨some 14, .faddr 3 (.t 1), none⟩,
 ⟨some 15, .load none (.t 14), none⟩,
 ⟨some 16, .len (.t 15), none⟩,
 ⟨some 17, .bin .eql (.t 16) (.c (.int .i64 0)), none⟩,
 ⟨some 6, .mv (.t 17), none⟩])
 (.seq
 (.reg [⟨some 18, .faddr 5 (.t 1), none⟩,
 ⟨some 19, .load none (.t 18), none⟩,
 ⟨some 20, .un .not (.t 19), none⟩,
 ⟨some 7, .mv (.t 20), none⟩])
 (.seq
 (.reg [⟨some 21, .faddr 6 (.t 1), none⟩,
 ⟨some 22, .load (some 3) (.t 21), none⟩,
 ⟨some 23, .build [.int .i64 0, .int .i64 0, .str []] [], none⟩,
 ⟨some 24, .eqs false [.i, .i, .s] (.t 22) (.t 23), none⟩,
 ⟨some 8, .mv (.t 24), none⟩])
 (.seq
 (.seq
 (.reg [⟨some 25, .faddr 0 (.t 1), none⟩,
 ⟨some 26, .load none (.t 25), none⟩])
 (.block 0
  (.seq
  (.reg [⟨some 28, .bin .eql (.t 26) (.c (.int .i64 0)), none⟩,
  ⟨some 27, .mv (.t 28), none⟩])
  (.cond (.t 27)
   (.seq
   (.reg [⟨some 29, .faddr 3 (.t 1), none⟩,
   ⟨some 30, .load none (.t 29), none⟩,
   ⟨some 31, .len (.t 30), none⟩,
   ⟨some 32, .call 28 false [(.t 31), (.c (.int .i64 1)), (.c (.int .i64 12))], none⟩,
   ⟨some 6, .mv (.t 32), none⟩])
   (.seq
   (.reg [⟨some 9, .mv (.c (.int .i64 0)), none⟩])
   (.block 1
    (.loop [1, 4, 3, 8, 7, 5, 9, 6] f51l1))))
   (.seq
   (.seq
   (.reg [⟨some 50, .bin .eql (.t 26) (.c (.int .i64 7)), none⟩,
   ⟨some 49, .mv (.t 50), none⟩])
   (.cond (.t 49)
    .skip
    (.reg [⟨some 51, .bin .eql (.t 26) (.c (.int .i64 12)), none⟩,
    ⟨some 49, .mv (.t 51), none⟩])))
   (.cond (.t 49)
    (.reg [⟨some 52, .faddr 2 (.t 1), none⟩,
    ⟨some 53, .load none (.t 52), none⟩,
    ⟨some 54, .call 43 false [(.t 53)], none⟩,
    ⟨some 5, .mv (.t 54), none⟩])
    (.seq
    (.reg [⟨some 56, .bin .eql (.t 26) (.c (.int .i64 8)), none⟩,
    ⟨some 55, .mv (.t 56), none⟩])
    (.cond (.t 55)
     (.seq
     (.reg [⟨some 57, .faddr 2 (.t 1), none⟩,
     ⟨some 58, .load none (.t 57), none⟩,
     ⟨some 59, .call 43 false [(.t 58)], none⟩,
     ⟨some 5, .mv (.t 59), none⟩])
     (.reg [⟨some 60, .faddr 6 (.t 1), none⟩,
     ⟨some 61, .load (some 3) (.t 60), none⟩,
     ⟨some 62, .call 21 false [(.t 61)], none⟩,
     ⟨some 8, .mv (.t 62), none⟩]))
     (.seq
     (.reg [⟨some 64, .bin .eql (.t 26) (.c (.int .i64 9)), none⟩,
     ⟨some 63, .mv (.t 64), none⟩])
     (.cond (.t 63)
      (.seq
      (.reg [⟨some 65, .faddr 2 (.t 1), none⟩,
      ⟨some 66, .load none (.t 65), none⟩,
      ⟨some 67, .call 43 false [(.t 66)], none⟩,
      ⟨some 5, .mv (.t 67), none⟩])
      (.reg [⟨some 7, .mv (.c (.bool true)), none⟩]))
      (.seq
      (.reg [⟨some 69, .bin .eql (.t 26) (.c (.int .i64 10)), none⟩,
      ⟨some 68, .mv (.t 69), none⟩])
      (.cond (.t 68)
       (.seq
       (.reg [⟨some 70, .faddr 2 (.t 1), none⟩,
       ⟨some 71, .load none (.t 70), none⟩,
       ⟨some 72, .call 43 false [(.t 71)], none⟩,
       ⟨some 5, .mv (.t 72), none⟩])
       (.reg [⟨some 4, .mv (.c (.int .i64 1)), none⟩]))
       (.seq
       (.reg [⟨some 74, .bin .eql (.t 26) (.c (.int .i64 13)), none⟩,
       ⟨some 73, .mv (.t 74), none⟩])
       (.cond (.t 73)
        (.seq
        (.reg [⟨some 75, .faddr 2 (.t 1), none⟩,
        ⟨some 76, .load none (.t 75), none⟩,
        ⟨some 77, .call 43 false [(.t 76)], none⟩,
        ⟨some 5, .mv (.t 77), none⟩])
        (.seq
        (.reg [⟨some 7, .mv (.c (.bool true)), none⟩])
        (.reg [⟨some 78, .faddr 3 (.t 1), none⟩,
        ⟨some 79, .load none (.t 78), none⟩,
        ⟨some 80, .call 90 false [(.t 79), (.c (.int .i64 12))], none⟩,
        ⟨some 6, .mv (.t 80), none⟩])))
        (.seq
        (.reg [⟨some 82, .bin .eql (.t 26) (.c (.int .i64 15)), none⟩,
        ⟨some 81, .mv (.t 82), none⟩])
        (.cond (.t 81)
         (.seq
         (.reg [⟨some 83, .faddr 2 (.t 1), none⟩,
         ⟨some 84, .load none (.t 83), none⟩,
         ⟨some 85, .call 43 false [(.t 84)], none⟩,
         ⟨some 5, .mv (.t 85), none⟩])
         (.seq
         (.reg [⟨some 4, .mv (.c (.int .i64 1)), none⟩])
         (.reg [⟨some 86, .faddr 3 (.t 1), none⟩,
         ⟨some 87, .load none (.t 86), none⟩,
         ⟨some 88, .call 90 false [(.t 87), (.c (.int .i64 12))], none⟩,
         ⟨some 6, .mv (.t 88), none⟩])))
         .skip))))))))))))))))
 (.seq
 (.reg [⟨some 89, .faddr 4 (.t 1), none⟩,
 ⟨some 90, .load none (.t 89), none⟩,
 ⟨some 91, .bin .eql (.t 90) (.c (.int .i64 0)), none⟩,
 ⟨some 92, .mv (.t 91), none⟩,
 ⟨some 93, .faddr 0 (.t 1), some (92, false)⟩,
 ⟨some 94, .load none (.t 93), some (92, false)⟩,
 ⟨some 95, .bin .eql (.t 94) (.c (.int .i64 2)), some (92, false)⟩,
 ⟨some 96, .mv (.t 95), some (92, false)⟩,
 ⟨some 97, .faddr 4 (.t 1), some (96, true)⟩,
 ⟨some 98, .load none (.t 97), some (96, true)⟩,
 ⟨some 99, .call 28 false [(.t 98), (.c (.int .i64 0)), (.c (.int .i64 999999999))], some (96, true)⟩,
 ⟨some 100, .pick (.t 96) (.t 99) (.c (.bool false)), some (92, false)⟩,
 ⟨some 101, .pick (.t 92) (.c (.bool true)) (.t 100), none⟩,
 ⟨some 10, .mv (.t 101), none⟩])
 (.seq
 (.reg [⟨some 102, .mv (.t 5), none⟩,
 ⟨some 103, .mv (.t 102), none⟩,
 ⟨some 104, .mv (.t 6), some (103, true)⟩,
 ⟨some 105, .pick (.t 103) (.t 104) (.c (.bool false)), none⟩,
 ⟨some 106, .mv (.t 105), none⟩,
 ⟨some 107, .mv (.t 7), some (106, true)⟩,
 ⟨some 108, .pick (.t 106) (.t 107) (.c (.bool false)), none⟩,
 ⟨some 109, .mv (.t 108), none⟩,
 ⟨some 110, .mv (.t 8), some (109, true)⟩,
 ⟨some 111, .pick (.t 109) (.t 110) (.c (.bool false)), none⟩,
 ⟨some 112, .mv (.t 111), none⟩,
 ⟨some 113, .mv (.t 10), some (112, true)⟩,
 ⟨some 114, .pick (.t 112) (.t 113) (.c (.bool false)), none⟩,
 ⟨some 115, .mv (.t 114), none⟩,
 ⟨some 116, .faddr 11 (.t 1), some (115, true)⟩,
 ⟨some 117, .load none (.t 116), some (115, true)⟩,
 ⟨some 118, .mv (.t 3), some (115, true)⟩,
 ⟨some 119, .mv (.t 4), some (115, true)⟩,
 ⟨some 120, .call 89 false [(.t 117), (.t 118), (.t 119)], some (115, true)⟩,
 ⟨some 121, .pick (.t 115) (.t 120) (.c (.bool false)), none⟩,
 ⟨some 2, .mv (.t 121), none⟩])
 .ret)))))))))⟩
structure H51 (Γ : Tab) : Prop where
  e51 : Γ 51 = some (.code f51)
  c21 : H21 Γ
  c28 : H28 Γ
  c43 : H43 Γ
  c82 : H82 Γ
  c89 : H89 Γ
  c90 : H90 Γ
/- loop.example/g00751/spec.StmtOk -/
def f27 : DFn := ⟨1, false, [.t 2],
 (.seq
 (.reg [⟨some 1, .box (.t 0), none⟩,
 ⟨some 2, .mv (.c (.bool false)), none⟩])
 (.seq
 (.reg [⟨some 3, .faddr 0 (.t 1), none⟩,
 ⟨some 4, .load none (.t 3), none⟩,
 ⟨some 5, .call 28 false [(.t 4), (.c (.int .i64 0)), (.c (.int .i64 16))], none⟩,
 ⟨some 6, .mv (.t 5), none⟩,
 ⟨some 7, .faddr 1 (.t 1), some (6, true)⟩,
 ⟨some 8, .load none (.t 7), some (6, true)⟩,
 ⟨some 9, .call 43 false [(.t 8)], some (6, true)⟩,
 ⟨some 10, .pick (.t 6) (.t 9) (.c (.bool false)), none⟩,
 ⟨some 11, .mv (.t 10), none⟩,
 ⟨some 12, .load (some 12) (.t 1), some (11, true)⟩,
 ⟨some 13, .call 50 false [(.t 12)], some (11, true)⟩,
 ⟨some 14, .pick (.t 11) (.t 13) (.c (.bool false)), none⟩,
 ⟨some 15, .mv (.t 14), none⟩,
 ⟨some 16, .load (some 12) (.t 1), some (15, true)⟩,
 ⟨some 17, .call 51 false [(.t 16)], some (15, true)⟩,
 ⟨some 18, .pick (.t 15) (.t 17) (.c (.bool false)), none⟩,
 ⟨some 2, .mv (.t 18), none⟩])
 .ret))⟩
structure H27 (Γ : Tab) : Prop where
  e27 : Γ 27 = some (.code f27)
  c28 : H28 Γ
  c43 : H43 Γ
  c50 : H50 Γ
  c51 : H51 Γ
/- loop.example/g00751/laws.FnExactStmtOk -/
def f22 : DFn := ⟨1, false, [.t 2],
 (.seq
 (.reg [⟨some 1, .box (.t 0), none⟩,
 ⟨some 2, .mv (.c (.bool false)), none⟩])
 (.seq
 (.reg [⟨some 3, .mv (.c (.int .i64 1048576)), none⟩])
 (.seq
 (.reg [⟨some 7, .load (some 12) (.t 1), none⟩,
 ⟨some 8, .mv (.t 3), none⟩,
 ⟨some 9, .call 25 false [(.t 7), (.t 8)], none⟩,
 ⟨some 3, .mv (.t 9), none⟩])
 (.seq
 (.seq
 (.reg [⟨some 10, .mv (.t 3), none⟩,
 ⟨some 11, .bin .lss (.t 10) (.c (.int .i64 0)), none⟩])
 (.cond (.t 11)
  (.seq
  (.reg [⟨some 2, .mv (.c (.bool true)), none⟩])
  .ret)
  .skip))
 (.seq
 (.reg [⟨some 12, .load (some 12) (.t 1), none⟩,
 ⟨some 13, .call 26 false [(.t 12)], none⟩,
 ⟨some 14, .call 27 false [(.t 13)], none⟩,
 ⟨some 4, .mv (.t 14), none⟩])
 (.seq
 (.reg [⟨some 15, .load (some 12) (.t 1), none⟩,
 ⟨some 16, .call 26 false [(.t 15)], none⟩,
 ⟨some 5, .alloc [.int .i64 0, .str [], .str [], .nils, .int .i64 0, .bool false, .int .i64 0, .int .i64 0, .str [], .nils, .nils, .nils], none⟩,
 ⟨none, .store 12 (.t 5) (.t 16), none⟩])
 (.seq
 (.reg [⟨some 17, .load (some 12) (.t 5), none⟩,
 ⟨some 18, .call 23 false [(.t 17)], none⟩,
 ⟨some 6, .mv (.t 18), none⟩])
 (.seq
 (.seq
 (.reg [⟨some 19, .mv (.t 6), none⟩,
 ⟨some 20, .mv (.t 4), none⟩,
 ⟨some 21, .binb .neq (.t 19) (.t 20), none⟩])
 (.cond (.t 21)
  (.seq
  (.reg [⟨some 2, .mv (.c (.bool false)), none⟩])
  .ret)
  .skip))
 (.seq
 (.seq
 (.any [⟨some 22, .load (some 12) (.t 5), none⟩,
 ⟨some 23, .load (some 12) (.t 1), none⟩,
 ⟨some 24, .call 26 false [(.t 23)], none⟩,
 ⟨some 25, .call 24 false [(.t 22), (.t 24)], none⟩,
 ⟨some 26, .un .not (.t 25), none⟩]
 [])
 (.cond (.t 26)
  (.seq
  (.reg [⟨some 2, .mv (.c (.bool false)), none⟩])
  .ret)
  .skip))
 (.seq
 (.reg [⟨some 2, .mv (.c (.bool true)), none⟩])
 .ret))))))))))⟩
structure H22 (Γ : Tab) : Prop where
  e22 : Γ 22 = some (.code f22)
  c23 : H23 Γ
  c24 : H24 Γ
  c25 : H25 Γ
  c26 : H26 Γ
  c27 : H27 Γ
/- internal/bytealg.Cutover -/
def f119 : DFn := ⟨1, false, [.t 2],
 (.seq
 (.reg [⟨some 2, .mv (.c (.int .i64 0)), none⟩])
 (.seq
 (.reg [⟨some 3, .mv (.t 0), none⟩,
 ⟨some 4, .bin .add (.t 3) (.c (.int .i64 16)), none⟩,
 ⟨some 5, .bin .quo (.t 4) (.c (.int .i64 8)), none⟩,
 ⟨some 2, .mv (.t 5), none⟩])
 .ret))⟩
structure H119 (Γ : Tab) : Prop where
  e119 : Γ 119 = some (.code f119)
/- internal/bytealg.hashStr[string] -/
def f121l1 : DCode :=
   (.seq
   (.seq
   (.reg [⟨some 24, .mv (.t 8), none⟩,
   ⟨some 25, .bin .gtr (.t 24) (.c (.int .i64 0)), none⟩])
   (.cond (.t 25)
    .skip
    (.exit 2)))
   (.seq
   (.block 3
    (.seq
    (.seq
    (.reg [⟨some 28, .mv (.t 8), none⟩,
    ⟨some 29, .bin .and (.t 28) (.c (.int .i64 1)), none⟩,
    ⟨some 30, .bin .neq (.t 29) (.c (.int .i64 0)), none⟩])
    (.cond (.t 30)
     (.reg [⟨some 31, .mv (.t 6), none⟩,
     ⟨some 32, .mv (.t 7), none⟩,
     ⟨some 33, .bin .mul (.t 31) (.t 32), none⟩,
     ⟨some 6, .mv (.t 33), none⟩])
     .skip))
    (.reg [⟨some 34, .mv (.t 7), none⟩,
    ⟨some 35, .mv (.t 7), none⟩,
    ⟨some 36, .bin .mul (.t 34) (.t 35), none⟩,
    ⟨some 7, .mv (.t 36), none⟩])))
   (.reg [⟨some 26, .mv (.t 8), none⟩,
   ⟨some 27, .bin .shr (.t 26) (.c (.int .u64 1)), none⟩,
   ⟨some 8, .mv (.t 27), none⟩])))
def f121l2 : DCode :=
   (.seq
   (.seq
   (.reg [⟨some 9, .mv (.t 5), none⟩,
   ⟨some 10, .mv (.t 0), none⟩,
   ⟨some 11, .lens (.t 10), none⟩,
   ⟨some 12, .bin .lss (.t 9) (.t 11), none⟩])
   (.cond (.t 12)
    .skip
    (.exit 0)))
   (.seq
   (.block 1
    (.reg [⟨some 15, .mv (.t 4), none⟩,
    ⟨some 16, .bin .mul (.t 15) (.c (.int .u32 16777619)), none⟩,
    ⟨some 17, .mv (.t 0), none⟩,
    ⟨some 18, .mv (.t 5), none⟩,
    ⟨some 19, .sidx (.t 17) (.t 18), none⟩,
    ⟨some 20, .conv .u32 (.t 19), none⟩,
    ⟨some 21, .bin .add (.t 16) (.t 20), none⟩,
    ⟨some 4, .mv (.t 21), none⟩]))
   (.reg [⟨some 13, .mv (.t 5), none⟩,
   ⟨some 14, .bin .add (.t 13) (.c (.int .i64 1)), none⟩,
   ⟨some 5, .mv (.t 14), none⟩])))
def f121 : DFn := ⟨1, false, [.t 2, .t 3],
 (.seq
 (.reg [⟨some 2, .mv (.c (.int .u32 0)), none⟩,
 ⟨some 3, .mv (.c (.int .u32 0)), none⟩])
 (.seq
 (.reg [⟨some 4, .mv (.c (.int .u32 0)), none⟩])
 (.seq
 (.seq
 (.reg [⟨some 5, .mv (.c (.int .i64 0)), none⟩])
 (.block 0
  (.loop [0, 5, 4] f121l2)))
 (.seq
 (.reg [⟨some 6, .mv (.c (.int .u32 1)), none⟩,
 ⟨some 7, .mv (.c (.int .u32 16777619)), none⟩])
 (.seq
 (.seq
 (.reg [⟨some 22, .mv (.t 0), none⟩,
 ⟨some 23, .lens (.t 22), none⟩,
 ⟨some 8, .mv (.t 23), none⟩])
 (.block 2
  (.loop [4, 8, 7, 6] f121l1)))
 (.seq
 (.reg [⟨some 37, .mv (.t 4), none⟩,
 ⟨some 38, .mv (.t 6), none⟩,
 ⟨some 2, .mv (.t 37), none⟩,
 ⟨some 3, .mv (.t 38), none⟩])
 .ret))))))⟩
structure H121 (Γ : Tab) : Prop where
  e121 : Γ 121 = some (.code f121)
/- internal/bytealg.IndexRabinKarp[string] -/
def f120l1 : DCode :=
   (.seq
   (.seq
   (.reg [⟨some 41, .mv (.t 10), none⟩,
   ⟨some 42, .mv (.t 0), none⟩,
   ⟨some 43, .lens (.t 42), none⟩,
   ⟨some 44, .bin .lss (.t 41) (.t 43), none⟩])
   (.cond (.t 44)
    .skip
    (.exit 2)))
   (.block 3
    (.seq
    (.reg [⟨some 45, .mv (.t 8), none⟩,
    ⟨some 46, .bin .mul (.t 45) (.c (.int .u32 16777619)), none⟩,
    ⟨some 8, .mv (.t 46), none⟩])
    (.seq
    (.reg [⟨some 47, .mv (.t 8), none⟩,
    ⟨some 48, .mv (.t 0), none⟩,
    ⟨some 49, .mv (.t 10), none⟩,
    ⟨some 50, .sidx (.t 48) (.t 49), none⟩,
    ⟨some 51, .conv .u32 (.t 50), none⟩,
    ⟨some 52, .bin .add (.t 47) (.t 51), none⟩,
    ⟨some 8, .mv (.t 52), none⟩])
    (.seq
    (.reg [⟨some 53, .mv (.t 8), none⟩,
    ⟨some 54, .mv (.t 6), none⟩,
    ⟨some 55, .mv (.t 0), none⟩,
    ⟨some 56, .mv (.t 10), none⟩,
    ⟨some 57, .mv (.t 7), none⟩,
    ⟨some 58, .bin .sub (.t 56) (.t 57), none⟩,
    ⟨some 59, .sidx (.t 55) (.t 58), none⟩,
    ⟨some 60, .conv .u32 (.t 59), none⟩,
    ⟨some 61, .bin .mul (.t 54) (.t 60), none⟩,
    ⟨some 62, .bin .sub (.t 53) (.t 61), none⟩,
    ⟨some 8, .mv (.t 62), none⟩])
    (.seq
    (.reg [⟨some 63, .mv (.t 10), none⟩,
    ⟨some 64, .bin .add (.t 63) (.c (.int .i64 1)), none⟩,
    ⟨some 10, .mv (.t 64), none⟩])
    (.seq
    (.reg [⟨some 65, .mv (.t 8), none⟩,
    ⟨some 66, .mv (.t 5), none⟩,
    ⟨some 67, .bin .eql (.t 65) (.t 66), none⟩,
    ⟨some 68, .mv (.t 67), none⟩,
    ⟨some 69, .mv (.t 0), some (68, true)⟩,
    ⟨some 70, .mv (.t 10), some (68, true)⟩,
    ⟨some 71, .mv (.t 7), some (68, true)⟩,
    ⟨some 72, .bin .sub (.t 70) (.t 71), some (68, true)⟩,
    ⟨some 73, .mv (.t 10), some (68, true)⟩,
    ⟨some 74, .subs (.t 69) (some (.t 72)) (some (.t 73)), some (68, true)⟩,
    ⟨some 75, .mv (.t 1), some (68, true)⟩,
    ⟨some 76, .bin .eql (.t 74) (.t 75), some (68, true)⟩,
    ⟨some 77, .pick (.t 68) (.t 76) (.c (.bool false)), none⟩])
    (.cond (.t 77)
     (.seq
     (.reg [⟨some 78, .mv (.t 10), none⟩,
     ⟨some 79, .mv (.t 7), none⟩,
     ⟨some 80, .bin .sub (.t 78) (.t 79), none⟩,
     ⟨some 4, .mv (.t 80), none⟩])
     .ret)
     .skip))))))))
def f120l2 : DCode :=
   (.seq
   (.seq
   (.reg [⟨some 18, .mv (.t 9), none⟩,
   ⟨some 19, .mv (.t 7), none⟩,
   ⟨some 20, .bin .lss (.t 18) (.t 19), none⟩])
   (.cond (.t 20)
    .skip
    (.exit 0)))
   (.seq
   (.block 1
    (.reg [⟨some 23, .mv (.t 8), none⟩,
    ⟨some 24, .bin .mul (.t 23) (.c (.int .u32 16777619)), none⟩,
    ⟨some 25, .mv (.t 0), none⟩,
    ⟨some 26, .mv (.t 9), none⟩,
    ⟨some 27, .sidx (.t 25) (.t 26), none⟩,
    ⟨some 28, .conv .u32 (.t 27), none⟩,
    ⟨some 29, .bin .add (.t 24) (.t 28), none⟩,
    ⟨some 8, .mv (.t 29), none⟩]))
   (.reg [⟨some 21, .mv (.t 9), none⟩,
   ⟨some 22, .bin .add (.t 21) (.c (.int .i64 1)), none⟩,
   ⟨some 9, .mv (.t 22), none⟩])))
def f120 : DFn := ⟨2, false, [.t 4],
 (.seq
 (.reg [⟨some 4, .mv (.c (.int .i64 0)), none⟩])
 (.seq
 (.reg [⟨some 12, .mv (.t 1), none⟩,
 ⟨some 13, .call 121 false [(.t 12)], none⟩,
 ⟨some 11, .mv (.t 13), none⟩,
 ⟨some 14, .ext (.t 11) 0, none⟩,
 ⟨some 15, .ext (.t 11) 1, none⟩,
 ⟨some 5, .mv (.t 14), none⟩,
 ⟨some 6, .mv (.t 15), none⟩])
 (.seq
 (.reg [⟨some 16, .mv (.t 1), none⟩,
 ⟨some 17, .lens (.t 16), none⟩,
 ⟨some 7, .mv (.t 17), none⟩])
 (.seq
 (.reg [⟨some 8, .mv (.c (.int .u32 0)), none⟩])
 (.seq
 (.seq
 (.reg [⟨some 9, .mv (.c (.int .i64 0)), none⟩])
 (.block 0
  (.loop [0, 7, 1, 5, 6, 9, 8] f120l2)))
 (.seq
 (.seq
 (.reg [⟨some 30, .mv (.t 8), none⟩,
 ⟨some 31, .mv (.t 5), none⟩,
 ⟨some 32, .bin .eql (.t 30) (.t 31), none⟩,
 ⟨some 33, .mv (.t 32), none⟩,
 ⟨some 34, .mv (.t 0), some (33, true)⟩,
 ⟨some 35, .mv (.t 7), some (33, true)⟩,
 ⟨some 36, .subs (.t 34) none (some (.t 35)), some (33, true)⟩,
 ⟨some 37, .mv (.t 1), some (33, true)⟩,
 ⟨some 38, .bin .eql (.t 36) (.t 37), some (33, true)⟩,
 ⟨some 39, .pick (.t 33) (.t 38) (.c (.bool false)), none⟩])
 (.cond (.t 39)
  (.seq
  (.reg [⟨some 4, .mv (.c (.int .i64 0)), none⟩])
  .ret)
  .skip))
 (.seq
 (.seq
 (.reg [⟨some 40, .mv (.t 7), none⟩,
 ⟨some 10, .mv (.t 40), none⟩])
 (.block 2
  (.loop [7, 1, 0, 5, 6, 10, 8] f120l1)))
 (.seq
 (.reg [⟨some 4, .mv (.c (.int .i64 (-1))), none⟩])
 .ret))))))))⟩
structure H120 (Γ : Tab) : Prop where
  e120 : Γ 120 = some (.code f120)
  c121 : H121 Γ
end Go.DM
