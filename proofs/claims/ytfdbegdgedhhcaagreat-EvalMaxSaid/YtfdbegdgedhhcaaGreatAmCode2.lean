/- PRINTED by wip/tools/gen.py out of the program's form in the model: its functions as the abstract machine's code. -/
import Derived.Test.YtfdbegdgedhhcaaGreatAmCore
set_option linter.all false
namespace Go.AM
namespace C
set_option maxRecDepth 100000
/-- gradus/gradusref0.EqTensors: number 233 -/
def ref0_EqTensors_b0 : ACode :=
 (.seq (.seq (.region [.one ⟨some 11, .move (.t 5)⟩,
     .one ⟨some 12, .move (.t 0)⟩,
     .one ⟨some 13, .len (.t 12)⟩,
     .one ⟨some 14, .bin .lss 0 (.t 11) (.t 13)⟩])
   (.cond (.t 14) .skip
    (.exit 0)))
  (.seq (.block 1 (.seq (.region [.one ⟨some 17, .move (.t 0)⟩,
       .one ⟨some 18, .move (.t 5)⟩,
       .one ⟨some 19, .indexAddr 2 (.t 17) (.t 18)⟩,
       .one ⟨some 20, .load 2 true .any (.t 19)⟩,
       .one ⟨some 21, .move (.t 1)⟩,
       .one ⟨some 22, .move (.t 5)⟩,
       .one ⟨some 23, .indexAddr 2 (.t 21) (.t 22)⟩,
       .one ⟨some 24, .load 2 true .any (.t 23)⟩,
       .one ⟨some 25, .call true .any 41 [.t 20, .t 24]⟩,
       .one ⟨some 26, .un .not (.t 25)⟩])
     (.cond (.t 26) (.seq (.region [.one ⟨some 4, .move (.c (.bool false))⟩])
       .ret)
      .skip)))
   (.region [.one ⟨some 15, .move (.t 5)⟩,
     .one ⟨some 16, .bin .add 0 (.t 15) (.c (.int .i64 1))⟩,
     .one ⟨some 5, .move (.t 16)⟩])))
def ref0_EqTensors_l0 : ACode :=
 (.loop [(0, .any), (1, .any), (5, .any)] [(0, [])] [(4, .any)] ref0_EqTensors_b0)
def ref0_EqTensors : AFunc := { params := [.any, .any], results := [.tmp 4], body :=
  (.seq (.region [.one ⟨some 4, .move (.c (.bool false))⟩])
   (.seq (.seq (.region [.one ⟨some 6, .move (.t 0)⟩,
       .one ⟨some 7, .len (.t 6)⟩,
       .one ⟨some 8, .move (.t 1)⟩,
       .one ⟨some 9, .len (.t 8)⟩,
       .one ⟨some 10, .bin .neq 0 (.t 7) (.t 9)⟩])
     (.cond (.t 10) (.seq (.region [.one ⟨some 4, .move (.c (.bool false))⟩])
       .ret)
      .skip))
    (.seq (.seq (.region [.one ⟨some 5, .move (.c (.int .i64 0))⟩])
      (.block 0 ref0_EqTensors_l0))
     (.seq (.region [.one ⟨some 4, .move (.c (.bool true))⟩])
      .ret)))) }
/-- gradus/gradusref10.Fit: number 234 -/
def ref10_Fit_b0 : ACode :=
 (.seq (.seq (.region [.one ⟨some 17, .move (.t 6)⟩,
     .one ⟨some 18, .move (.t 5)⟩,
     .one ⟨some 19, .len (.t 18)⟩,
     .one ⟨some 20, .bin .lss 0 (.t 17) (.t 19)⟩])
   (.cond (.t 20) .skip
    (.exit 0)))
  (.seq (.block 1 (.seq (.region [.one ⟨some 23, .move (.t 0)⟩,
       .one ⟨some 24, .move (.t 5)⟩,
       .one ⟨some 25, .move (.t 6)⟩,
       .one ⟨some 26, .indexAddr 1 (.t 24) (.t 25)⟩,
       .one ⟨some 27, .load 1 false .any (.t 26)⟩,
       .one ⟨some 28, .indexAddr 5 (.t 23) (.t 27)⟩,
       .one ⟨some 29, .fieldAddr 3 (.t 28)⟩,
       .one ⟨some 30, .load 1 false .any (.t 29)⟩,
       .one ⟨some 31, .move (.t 1)⟩,
       .one ⟨some 32, .move (.t 6)⟩,
       .one ⟨some 33, .indexAddr 2 (.t 31) (.t 32)⟩,
       .one ⟨some 34, .fieldAddr 0 (.t 33)⟩,
       .one ⟨some 35, .load 1 false .any (.t 34)⟩,
       .one ⟨some 36, .call true .any 5 [.t 30, .t 35]⟩,
       .one ⟨some 37, .un .not (.t 36)⟩])
     (.cond (.t 37) (.seq (.region [.one ⟨some 4, .move (.c (.int .i64 4))⟩])
       .ret)
      .skip)))
   (.region [.one ⟨some 21, .move (.t 6)⟩,
     .one ⟨some 22, .bin .add 0 (.t 21) (.c (.int .i64 1))⟩,
     .one ⟨some 6, .move (.t 22)⟩])))
def ref10_Fit_l0 : ACode :=
 (.loop [(0, .any), (1, .any), (5, .any), (6, .any)] [(0, [])] [(4, .any)] ref10_Fit_b0)
def ref10_Fit : AFunc := { params := [.any, .any], results := [.tmp 4], body :=
  (.seq (.region [.one ⟨some 4, .move (.c (.int .i64 0))⟩])
   (.seq (.seq (.region [.one ⟨some 7, .move (.t 1)⟩,
       .one ⟨some 8, .call false .any 244 [.t 7]⟩,
       .one ⟨some 9, .un .not (.t 8)⟩])
     (.cond (.t 9) (.seq (.region [.one ⟨some 4, .move (.c (.int .i64 1))⟩])
       .ret)
      .skip))
    (.seq (.region [.one ⟨some 10, .move (.t 0)⟩,
       .one ⟨some 11, .call false .any 40 [.t 10]⟩,
       .one ⟨some 5, .move (.t 11)⟩])
     (.seq (.seq (.region [.one ⟨some 12, .move (.t 5)⟩,
         .one ⟨some 13, .len (.t 12)⟩,
         .one ⟨some 14, .move (.t 1)⟩,
         .one ⟨some 15, .len (.t 14)⟩,
         .one ⟨some 16, .bin .neq 0 (.t 13) (.t 15)⟩])
       (.cond (.t 16) (.seq (.region [.one ⟨some 4, .move (.c (.int .i64 4))⟩])
         .ret)
        .skip))
      (.seq (.seq (.region [.one ⟨some 6, .move (.c (.int .i64 0))⟩])
        (.block 0 ref10_Fit_l0))
       (.seq (.region [.one ⟨some 4, .move (.c (.int .i64 0))⟩])
        .ret)))))) }
/-- gradus/gradusref0.CopyTensor: number 235 -/
def ref0_CopyTensor : AFunc := { params := [.any], results := [.cell 2 2 true], body :=
  (.seq (.region [.one ⟨some 1, .box (.t 0)⟩,
     .one ⟨some 2, .alloc [.nil, .nil]⟩])
   (.seq (.region [.one ⟨some 4, .load 2 true .any (.t 1)⟩,
      .one ⟨some 3, .alloc [.nil, .nil]⟩,
      .one ⟨none, .store 2 (.t 3) (.t 4)⟩])
    (.seq (.region [.one ⟨some 5, .fieldAddr 0 (.t 1)⟩,
       .one ⟨some 6, .load 1 false .any (.t 5)⟩,
       .one ⟨some 7, .call false .any 25 [.t 6]⟩,
       .one ⟨some 8, .fieldAddr 0 (.t 3)⟩,
       .one ⟨none, .store 1 (.t 8) (.t 7)⟩])
     (.seq (.region [.one ⟨some 9, .fieldAddr 1 (.t 1)⟩,
        .one ⟨some 10, .load 1 false .any (.t 9)⟩,
        .one ⟨some 11, .call false .any 25 [.t 10]⟩,
        .one ⟨some 12, .fieldAddr 1 (.t 3)⟩,
        .one ⟨none, .store 1 (.t 12) (.t 11)⟩])
      (.seq (.region [.one ⟨some 13, .load 2 true .any (.t 3)⟩,
         .one ⟨none, .store 2 (.t 2) (.t 13)⟩])
       .ret))))) }
/-- gradus/gradusref1.Fill: number 240 -/
def ref1_Fill_b0 : ACode :=
 (.seq (.seq (.region [.one ⟨some 10, .move (.t 6)⟩,
     .one ⟨some 11, .move (.t 0)⟩,
     .one ⟨some 12, .call false .any 78 [.t 11]⟩,
     .one ⟨some 13, .bin .lss 0 (.t 10) (.t 12)⟩])
   (.cond (.t 13) .skip
    (.exit 0)))
  (.seq (.block 1 (.region [.one ⟨some 16, .fieldAddr 1 (.t 5)⟩,
      .one ⟨some 17, .load 1 false .any (.t 16)⟩,
      .one ⟨some 18, .move (.t 1)⟩,
      .one ⟨some 19, .buildSlice 1 1 [.int .i64 0] [(0, .t 18)]⟩,
      .one ⟨some 20, .append 1 8 (.t 17) (.t 19)⟩,
      .one ⟨some 21, .fieldAddr 1 (.t 5)⟩,
      .one ⟨none, .store 1 (.t 21) (.t 20)⟩]))
   (.region [.one ⟨some 14, .move (.t 6)⟩,
     .one ⟨some 15, .bin .add 0 (.t 14) (.c (.int .i64 1))⟩,
     .one ⟨some 6, .move (.t 15)⟩])))
def ref1_Fill_l0 : ACode :=
 (.loop [(0, .any), (1, .any), (4, .any), (5, .any), (6, .any)] [(0, [(4, .any), (5, .any)])] [] ref1_Fill_b0)
def ref1_Fill : AFunc := { params := [.any, .any], results := [.cell 4 2 true], body :=
  (.seq (.region [.one ⟨some 4, .alloc [.nil, .nil]⟩])
   (.seq (.region [.one ⟨some 7, .move (.t 0)⟩,
      .one ⟨some 8, .call false .any 25 [.t 7]⟩,
      .one ⟨some 9, .build [.nil, .nil] [(0, 1, .t 8)]⟩,
      .one ⟨some 5, .alloc [.nil, .nil]⟩,
      .one ⟨none, .store 2 (.t 5) (.t 9)⟩])
    (.seq (.seq (.region [.one ⟨some 6, .move (.c (.int .i64 0))⟩])
      (.block 0 ref1_Fill_l0))
     (.seq (.region [.one ⟨some 22, .load 2 true .any (.t 5)⟩,
        .one ⟨none, .store 2 (.t 4) (.t 22)⟩])
      .ret)))) }
/-- gradus/gradusref10.Leaf: number 241 -/
def ref10_Leaf : AFunc := { params := [.any, .any, .any], results := [.cell 6 2 true], body :=
  (.seq (.region [.one ⟨some 6, .alloc [.nil, .nil]⟩])
   (.seq (.region [.one ⟨some 7, .move (.t 1)⟩,
      .one ⟨some 8, .move (.t 0)⟩,
      .one ⟨some 9, .call false .any 40 [.t 8]⟩,
      .one ⟨some 10, .move (.t 2)⟩,
      .one ⟨some 11, .call false .any 80 [.t 9, .t 10]⟩,
      .one ⟨some 12, .indexAddr 2 (.t 7) (.t 11)⟩,
      .one ⟨some 13, .load 2 true .any (.t 12)⟩,
      .one ⟨some 14, .call false .any 235 [.t 13]⟩,
      .one ⟨none, .store 2 (.t 6) (.t 14)⟩])
    .ret)) }
/-- gradus/gradusref10.of: number 242 -/
def ref10_of_b0 : ACode :=
 (.seq (.seq (.region [.one ⟨some 7, .move (.t 6)⟩,
     .one ⟨some 8, .move (.t 1)⟩,
     .one ⟨some 9, .len (.t 8)⟩,
     .one ⟨some 10, .bin .lss 0 (.t 7) (.t 9)⟩])
   (.cond (.t 10) .skip
    (.exit 0)))
  (.seq (.block 1 (.region [.one ⟨some 13, .move (.t 5)⟩,
      .one ⟨some 14, .move (.t 0)⟩,
      .one ⟨some 15, .move (.t 1)⟩,
      .one ⟨some 16, .move (.t 6)⟩,
      .one ⟨some 17, .indexAddr 1 (.t 15) (.t 16)⟩,
      .one ⟨some 18, .load 1 false .any (.t 17)⟩,
      .one ⟨some 19, .indexAddr 2 (.t 14) (.t 18)⟩,
      .one ⟨some 20, .load 2 true .any (.t 19)⟩,
      .one ⟨some 21, .buildSlice 2 1 [.nil, .nil] [(0, .t 20)]⟩,
      .one ⟨some 22, .append 2 48 (.t 13) (.t 21)⟩,
      .one ⟨some 5, .move (.t 22)⟩]))
   (.region [.one ⟨some 11, .move (.t 6)⟩,
     .one ⟨some 12, .bin .add 0 (.t 11) (.c (.int .i64 1))⟩,
     .one ⟨some 6, .move (.t 12)⟩])))
def ref10_of_l0 : ACode :=
 (.loop [(0, .any), (1, .any), (5, .any), (6, .any)] [(0, [(5, .any)])] [] ref10_of_b0)
def ref10_of : AFunc := { params := [.any, .any], results := [.tmp 4], body :=
  (.seq (.region [.one ⟨some 4, .move (.c (.nil))⟩])
   (.seq (.region [.one ⟨some 5, .move (.c (.nil))⟩])
    (.seq (.seq (.region [.one ⟨some 6, .move (.c (.int .i64 0))⟩])
      (.block 0 ref10_of_l0))
     (.seq (.region [.one ⟨some 23, .move (.t 5)⟩,
        .one ⟨some 4, .move (.t 23)⟩])
      .ret)))) }
/-- gradus/gradusref10.Made: number 243 -/
def ref10_Made : AFunc := { params := [.any, .any], results := [.cell 4 2 true], body :=
  (.seq (.region [.one ⟨some 2, .box (.t 0)⟩,
     .one ⟨some 4, .alloc [.nil, .nil]⟩])
   (.seq (.region [.one ⟨some 5, .move (.c (.nil))⟩])
    (.seq (.seq (.region [.one ⟨some 6, .fieldAddr 1 (.t 2)⟩,
        .one ⟨some 7, .load 1 false .any (.t 6)⟩,
        .one ⟨some 8, .call false .any 96 [.t 7]⟩])
      (.cond (.t 8) (.region [.one ⟨some 9, .fieldAddr 3 (.t 2)⟩,
         .one ⟨some 10, .load 1 false .any (.t 9)⟩,
         .one ⟨some 5, .move (.t 10)⟩])
       .skip))
     (.seq (.region [.one ⟨some 11, .fieldAddr 1 (.t 2)⟩,
        .one ⟨some 12, .load 1 false .any (.t 11)⟩,
        .one ⟨some 13, .fieldAddr 4 (.t 2)⟩,
        .one ⟨some 14, .load 1 false .any (.t 13)⟩,
        .one ⟨some 15, .move (.t 5)⟩,
        .one ⟨some 16, .move (.t 1)⟩,
        .one ⟨some 17, .call false .any 250 [.t 12, .t 14, .t 15, .t 16]⟩,
        .one ⟨none, .store 2 (.t 4) (.t 17)⟩])
      .ret)))) }
/-- gradus/gradusref1.Tensors: number 244 -/
def ref1_Tensors_b0 : ACode :=
 (.seq (.seq (.region [.one ⟨some 4, .move (.t 3)⟩,
     .one ⟨some 5, .move (.t 0)⟩,
     .one ⟨some 6, .len (.t 5)⟩,
     .one ⟨some 7, .bin .lss 0 (.t 4) (.t 6)⟩])
   (.cond (.t 7) .skip
    (.exit 0)))
  (.seq (.block 1 (.seq (.region [.one ⟨some 10, .move (.t 0)⟩,
       .one ⟨some 11, .move (.t 3)⟩,
       .one ⟨some 12, .indexAddr 2 (.t 10) (.t 11)⟩,
       .one ⟨some 13, .load 2 true .any (.t 12)⟩,
       .one ⟨some 14, .call false .any 39 [.t 13]⟩,
       .one ⟨some 15, .un .not (.t 14)⟩])
     (.cond (.t 15) (.seq (.region [.one ⟨some 2, .move (.c (.bool false))⟩])
       .ret)
      .skip)))
   (.region [.one ⟨some 8, .move (.t 3)⟩,
     .one ⟨some 9, .bin .add 0 (.t 8) (.c (.int .i64 1))⟩,
     .one ⟨some 3, .move (.t 9)⟩])))
def ref1_Tensors_l0 : ACode :=
 (.loop [(0, .any), (3, .any)] [(0, [])] [(2, .any)] ref1_Tensors_b0)
def ref1_Tensors : AFunc := { params := [.any], results := [.tmp 2], body :=
  (.seq (.region [.one ⟨some 2, .move (.c (.bool false))⟩])
   (.seq (.seq (.region [.one ⟨some 3, .move (.c (.int .i64 0))⟩])
     (.block 0 ref1_Tensors_l0))
    (.seq (.region [.one ⟨some 2, .move (.c (.bool true))⟩])
     .ret))) }
/-- gradus/gradusref1.Each: number 246 -/
def ref1_Each_b0 : ACode :=
 (.seq (.seq (.region [.one ⟨some 11, .move (.t 8)⟩,
     .one ⟨some 12, .fieldAddr 1 (.t 7)⟩,
     .one ⟨some 13, .load 1 false .any (.t 12)⟩,
     .one ⟨some 14, .len (.t 13)⟩,
     .one ⟨some 15, .bin .lss 0 (.t 11) (.t 14)⟩])
   (.cond (.t 15) .skip
    (.exit 0)))
  (.seq (.block 1 (.seq (.region [.one ⟨some 18, .move (.t 2)⟩])
     (.block 2 (.seq (.region [.one ⟨some 35, .bin .eql 0 (.t 18) (.c (.int .i64 0))⟩,
         .one ⟨some 34, .move (.t 35)⟩])
       (.cond (.t 34) (.region [.one ⟨some 36, .fieldAddr 1 (.t 7)⟩,
          .one ⟨some 37, .load 1 false .any (.t 36)⟩,
          .one ⟨some 38, .move (.t 8)⟩,
          .one ⟨some 39, .fieldAddr 1 (.t 3)⟩,
          .one ⟨some 40, .load 1 false .any (.t 39)⟩,
          .one ⟨some 41, .move (.t 8)⟩,
          .one ⟨some 42, .indexAddr 1 (.t 40) (.t 41)⟩,
          .one ⟨some 43, .load 1 false .any (.t 42)⟩,
          .one ⟨some 44, .fieldAddr 1 (.t 4)⟩,
          .one ⟨some 45, .load 1 false .any (.t 44)⟩,
          .one ⟨some 46, .move (.t 8)⟩,
          .one ⟨some 47, .indexAddr 1 (.t 45) (.t 46)⟩,
          .one ⟨some 48, .load 1 false .any (.t 47)⟩,
          .one ⟨some 49, .bin .add 0 (.t 43) (.t 48)⟩,
          .one ⟨some 50, .indexAddr 1 (.t 37) (.t 38)⟩,
          .one ⟨none, .store 1 (.t 50) (.t 49)⟩])
        (.seq (.region [.one ⟨some 52, .bin .eql 0 (.t 18) (.c (.int .i64 1))⟩,
           .one ⟨some 51, .move (.t 52)⟩])
         (.cond (.t 51) (.region [.one ⟨some 53, .fieldAddr 1 (.t 7)⟩,
            .one ⟨some 54, .load 1 false .any (.t 53)⟩,
            .one ⟨some 55, .move (.t 8)⟩,
            .one ⟨some 56, .fieldAddr 1 (.t 3)⟩,
            .one ⟨some 57, .load 1 false .any (.t 56)⟩,
            .one ⟨some 58, .move (.t 8)⟩,
            .one ⟨some 59, .indexAddr 1 (.t 57) (.t 58)⟩,
            .one ⟨some 60, .load 1 false .any (.t 59)⟩,
            .one ⟨some 61, .fieldAddr 1 (.t 4)⟩,
            .one ⟨some 62, .load 1 false .any (.t 61)⟩,
            .one ⟨some 63, .move (.t 8)⟩,
            .one ⟨some 64, .indexAddr 1 (.t 62) (.t 63)⟩,
            .one ⟨some 65, .load 1 false .any (.t 64)⟩,
            .one ⟨some 66, .bin .sub 0 (.t 60) (.t 65)⟩,
            .one ⟨some 67, .indexAddr 1 (.t 54) (.t 55)⟩,
            .one ⟨none, .store 1 (.t 67) (.t 66)⟩])
          (.region [.one ⟨some 19, .fieldAddr 1 (.t 7)⟩,
            .one ⟨some 20, .load 1 false .any (.t 19)⟩,
            .one ⟨some 21, .move (.t 8)⟩,
            .one ⟨some 22, .fieldAddr 1 (.t 3)⟩,
            .one ⟨some 23, .load 1 false .any (.t 22)⟩,
            .one ⟨some 24, .move (.t 8)⟩,
            .one ⟨some 25, .indexAddr 1 (.t 23) (.t 24)⟩,
            .one ⟨some 26, .load 1 false .any (.t 25)⟩,
            .one ⟨some 27, .fieldAddr 1 (.t 4)⟩,
            .one ⟨some 28, .load 1 false .any (.t 27)⟩,
            .one ⟨some 29, .move (.t 8)⟩,
            .one ⟨some 30, .indexAddr 1 (.t 28) (.t 29)⟩,
            .one ⟨some 31, .load 1 false .any (.t 30)⟩,
            .one ⟨some 32, .bin .mul 0 (.t 26) (.t 31)⟩,
            .one ⟨some 33, .indexAddr 1 (.t 20) (.t 21)⟩,
            .one ⟨none, .store 1 (.t 33) (.t 32)⟩]))))))))
   (.region [.one ⟨some 16, .move (.t 8)⟩,
     .one ⟨some 17, .bin .add 0 (.t 16) (.c (.int .i64 1))⟩,
     .one ⟨some 8, .move (.t 17)⟩])))
def ref1_Each_l0 : ACode :=
 (.loop [(2, .any), (3, .any), (4, .any), (6, .any), (7, .any), (8, .any)] [(0, [(6, .any), (7, .any)])] [] ref1_Each_b0)
def ref1_Each : AFunc := { params := [.any, .any, .any], results := [.cell 6 2 true], body :=
  (.seq (.region [.one ⟨some 3, .box (.t 0)⟩,
     .one ⟨some 4, .box (.t 1)⟩,
     .one ⟨some 6, .alloc [.nil, .nil]⟩])
   (.seq (.region [.one ⟨some 9, .load 2 true .any (.t 3)⟩,
      .one ⟨some 10, .call false .any 235 [.t 9]⟩,
      .one ⟨some 7, .alloc [.nil, .nil]⟩,
      .one ⟨none, .store 2 (.t 7) (.t 10)⟩])
    (.seq (.seq (.region [.one ⟨some 8, .move (.c (.int .i64 0))⟩])
      (.block 0 ref1_Each_l0))
     (.seq (.region [.one ⟨some 68, .load 2 true .any (.t 7)⟩,
        .one ⟨none, .store 2 (.t 6) (.t 68)⟩])
      .ret)))) }
/-- gradus/gradusref1.Gate: number 247 -/
def ref1_Gate_b0 : ACode :=
 (.seq (.seq (.region [.one ⟨some 9, .move (.t 6)⟩,
     .one ⟨some 10, .fieldAddr 1 (.t 5)⟩,
     .one ⟨some 11, .load 1 false .any (.t 10)⟩,
     .one ⟨some 12, .len (.t 11)⟩,
     .one ⟨some 13, .bin .lss 0 (.t 9) (.t 12)⟩])
   (.cond (.t 13) .skip
    (.exit 0)))
  (.seq (.block 1 (.seq (.region [.one ⟨some 16, .fieldAddr 1 (.t 2)⟩,
       .one ⟨some 17, .load 1 false .any (.t 16)⟩,
       .one ⟨some 18, .move (.t 6)⟩,
       .one ⟨some 19, .indexAddr 1 (.t 17) (.t 18)⟩,
       .one ⟨some 20, .load 1 false .any (.t 19)⟩,
       .one ⟨some 21, .bin .leq 0 (.t 20) (.c (.int .i64 0))⟩])
     (.cond (.t 21) (.region [.one ⟨some 22, .fieldAddr 1 (.t 5)⟩,
        .one ⟨some 23, .load 1 false .any (.t 22)⟩,
        .one ⟨some 24, .move (.t 6)⟩,
        .one ⟨some 25, .indexAddr 1 (.t 23) (.t 24)⟩,
        .one ⟨none, .store 1 (.t 25) (.c (.int .i64 0))⟩])
      .skip)))
   (.region [.one ⟨some 14, .move (.t 6)⟩,
     .one ⟨some 15, .bin .add 0 (.t 14) (.c (.int .i64 1))⟩,
     .one ⟨some 6, .move (.t 15)⟩])))
def ref1_Gate_l0 : ACode :=
 (.loop [(2, .any), (4, .any), (5, .any), (6, .any)] [(0, [(4, .any), (5, .any)])] [] ref1_Gate_b0)
def ref1_Gate : AFunc := { params := [.any, .any], results := [.cell 4 2 true], body :=
  (.seq (.region [.one ⟨some 2, .box (.t 0)⟩,
     .one ⟨some 3, .box (.t 1)⟩,
     .one ⟨some 4, .alloc [.nil, .nil]⟩])
   (.seq (.region [.one ⟨some 7, .load 2 true .any (.t 3)⟩,
      .one ⟨some 8, .call false .any 235 [.t 7]⟩,
      .one ⟨some 5, .alloc [.nil, .nil]⟩,
      .one ⟨none, .store 2 (.t 5) (.t 8)⟩])
    (.seq (.seq (.region [.one ⟨some 6, .move (.c (.int .i64 0))⟩])
      (.block 0 ref1_Gate_l0))
     (.seq (.region [.one ⟨some 26, .load 2 true .any (.t 5)⟩,
        .one ⟨none, .store 2 (.t 4) (.t 26)⟩])
      .ret)))) }
/-- gradus/gradusref1.Pick: number 249 -/
def ref1_Pick_b0 : ACode :=
 (.seq (.seq (.region [.one ⟨some 12, .move (.t 8)⟩,
     .one ⟨some 13, .fieldAddr 1 (.t 4)⟩,
     .one ⟨some 14, .load 1 false .any (.t 13)⟩,
     .one ⟨some 15, .len (.t 14)⟩,
     .one ⟨some 16, .bin .lss 0 (.t 12) (.t 15)⟩])
   (.cond (.t 16) .skip
    (.exit 0)))
  (.seq (.block 1 (.region [.one ⟨some 19, .fieldAddr 1 (.t 7)⟩,
      .one ⟨some 20, .load 1 false .any (.t 19)⟩,
      .one ⟨some 21, .move (.t 8)⟩,
      .one ⟨some 22, .move (.t 2)⟩,
      .one ⟨some 23, .bin .mul 0 (.t 21) (.t 22)⟩,
      .one ⟨some 24, .fieldAddr 1 (.t 3)⟩,
      .one ⟨some 25, .load 1 false .any (.t 24)⟩,
      .one ⟨some 26, .move (.t 8)⟩,
      .one ⟨some 27, .move (.t 2)⟩,
      .one ⟨some 28, .bin .mul 0 (.t 26) (.t 27)⟩,
      .one ⟨some 29, .move (.t 8)⟩,
      .one ⟨some 30, .move (.t 2)⟩,
      .one ⟨some 31, .bin .mul 0 (.t 29) (.t 30)⟩,
      .one ⟨some 32, .move (.t 2)⟩,
      .one ⟨some 33, .bin .add 0 (.t 31) (.t 32)⟩,
      .one ⟨some 34, .cut 1 (.t 25) (some (.t 28)) (some (.t 33))⟩,
      .one ⟨some 35, .call true .any 253 [.t 34]⟩,
      .one ⟨some 36, .bin .add 0 (.t 23) (.t 35)⟩,
      .one ⟨some 37, .fieldAddr 1 (.t 4)⟩,
      .one ⟨some 38, .load 1 false .any (.t 37)⟩,
      .one ⟨some 39, .move (.t 8)⟩,
      .one ⟨some 40, .indexAddr 1 (.t 38) (.t 39)⟩,
      .one ⟨some 41, .load 1 false .any (.t 40)⟩,
      .one ⟨some 42, .indexAddr 1 (.t 20) (.t 36)⟩,
      .one ⟨none, .store 1 (.t 42) (.t 41)⟩]))
   (.region [.one ⟨some 17, .move (.t 8)⟩,
     .one ⟨some 18, .bin .add 0 (.t 17) (.c (.int .i64 1))⟩,
     .one ⟨some 8, .move (.t 18)⟩])))
def ref1_Pick_l0 : ACode :=
 (.loop [(2, .any), (3, .any), (4, .any), (6, .any), (7, .any), (8, .any)] [(0, [(6, .any), (7, .any)])] [] ref1_Pick_b0)
def ref1_Pick : AFunc := { params := [.any, .any, .any], results := [.cell 6 2 true], body :=
  (.seq (.region [.one ⟨some 3, .box (.t 0)⟩,
     .one ⟨some 4, .box (.t 1)⟩,
     .one ⟨some 6, .alloc [.nil, .nil]⟩])
   (.seq (.region [.one ⟨some 9, .fieldAddr 0 (.t 3)⟩,
      .one ⟨some 10, .load 1 false .any (.t 9)⟩,
      .one ⟨some 11, .call false .any 240 [.t 10, .c (.int .i64 0)]⟩,
      .one ⟨some 7, .alloc [.nil, .nil]⟩,
      .one ⟨none, .store 2 (.t 7) (.t 11)⟩])
    (.seq (.seq (.region [.one ⟨some 8, .move (.c (.int .i64 0))⟩])
      (.block 0 ref1_Pick_l0))
     (.seq (.region [.one ⟨some 43, .load 2 true .any (.t 7)⟩,
        .one ⟨none, .store 2 (.t 6) (.t 43)⟩])
      .ret)))) }
/-- gradus/gradusref1.Do: number 250 -/
def ref1_Do : AFunc := { params := [.any, .any, .any, .any], results := [.cell 8 2 true], body :=
  (.seq (.region [.one ⟨some 8, .alloc [.nil, .nil]⟩])
   (.seq (.seq (.region [.one ⟨some 9, .move (.t 0)⟩])
     (.block 0 (.seq (.region [.one ⟨some 11, .bin .eql 0 (.t 9) (.c (.int .i64 3))⟩,
         .one ⟨some 10, .move (.t 11)⟩])
       (.cond (.t 10) (.seq (.region [.one ⟨some 12, .move (.t 2)⟩,
           .one ⟨some 13, .move (.t 1)⟩,
           .one ⟨some 14, .call false .any 240 [.t 12, .t 13]⟩,
           .one ⟨none, .store 2 (.t 8) (.t 14)⟩])
         .ret)
        (.seq (.region [.one ⟨some 16, .bin .eql 0 (.t 9) (.c (.int .i64 4))⟩,
           .one ⟨some 15, .move (.t 16)⟩])
         (.cond (.t 15) (.seq (.region [.one ⟨some 17, .move (.t 3)⟩,
             .one ⟨some 18, .indexAddr 2 (.t 17) (.c (.int .i64 0))⟩,
             .one ⟨some 19, .load 2 true .any (.t 18)⟩,
             .one ⟨some 20, .move (.t 3)⟩,
             .one ⟨some 21, .indexAddr 2 (.t 20) (.c (.int .i64 1))⟩,
             .one ⟨some 22, .load 2 true .any (.t 21)⟩,
             .one ⟨some 23, .call true .any 246 [.t 19, .t 22, .c (.int .i64 0)]⟩,
             .one ⟨none, .store 2 (.t 8) (.t 23)⟩])
           .ret)
          (.seq (.region [.one ⟨some 25, .bin .eql 0 (.t 9) (.c (.int .i64 5))⟩,
             .one ⟨some 24, .move (.t 25)⟩])
           (.cond (.t 24) (.seq (.region [.one ⟨some 26, .move (.t 3)⟩,
               .one ⟨some 27, .indexAddr 2 (.t 26) (.c (.int .i64 0))⟩,
               .one ⟨some 28, .load 2 true .any (.t 27)⟩,
               .one ⟨some 29, .move (.t 3)⟩,
               .one ⟨some 30, .indexAddr 2 (.t 29) (.c (.int .i64 1))⟩,
               .one ⟨some 31, .load 2 true .any (.t 30)⟩,
               .one ⟨some 32, .call true .any 246 [.t 28, .t 31, .c (.int .i64 1)]⟩,
               .one ⟨none, .store 2 (.t 8) (.t 32)⟩])
             .ret)
            (.seq (.region [.one ⟨some 34, .bin .eql 0 (.t 9) (.c (.int .i64 6))⟩,
               .one ⟨some 33, .move (.t 34)⟩])
             (.cond (.t 33) (.seq (.region [.one ⟨some 35, .move (.t 3)⟩,
                 .one ⟨some 36, .indexAddr 2 (.t 35) (.c (.int .i64 0))⟩,
                 .one ⟨some 37, .load 2 true .any (.t 36)⟩,
                 .one ⟨some 38, .move (.t 3)⟩,
                 .one ⟨some 39, .indexAddr 2 (.t 38) (.c (.int .i64 1))⟩,
                 .one ⟨some 40, .load 2 true .any (.t 39)⟩,
                 .one ⟨some 41, .call true .any 246 [.t 37, .t 40, .c (.int .i64 2)]⟩,
                 .one ⟨none, .store 2 (.t 8) (.t 41)⟩])
               .ret)
              (.seq (.region [.one ⟨some 43, .bin .eql 0 (.t 9) (.c (.int .i64 7))⟩,
                 .one ⟨some 42, .move (.t 43)⟩])
               (.cond (.t 42) (.seq (.region [.one ⟨some 44, .move (.t 3)⟩,
                   .one ⟨some 45, .indexAddr 2 (.t 44) (.c (.int .i64 0))⟩,
                   .one ⟨some 46, .load 2 true .any (.t 45)⟩,
                   .one ⟨some 47, .call false .any 254 [.t 46, .c (.int .i64 (-1))]⟩,
                   .one ⟨none, .store 2 (.t 8) (.t 47)⟩])
                 .ret)
                (.seq (.region [.one ⟨some 49, .bin .eql 0 (.t 9) (.c (.int .i64 8))⟩,
                   .one ⟨some 48, .move (.t 49)⟩])
                 (.cond (.t 48) (.seq (.region [.one ⟨some 50, .move (.t 3)⟩,
                     .one ⟨some 51, .indexAddr 2 (.t 50) (.c (.int .i64 0))⟩,
                     .one ⟨some 52, .load 2 true .any (.t 51)⟩,
                     .one ⟨some 53, .move (.t 1)⟩,
                     .one ⟨some 54, .call false .any 254 [.t 52, .t 53]⟩,
                     .one ⟨none, .store 2 (.t 8) (.t 54)⟩])
                   .ret)
                  (.seq (.region [.one ⟨some 56, .bin .eql 0 (.t 9) (.c (.int .i64 9))⟩,
                     .one ⟨some 55, .move (.t 56)⟩])
                   (.cond (.t 55) (.seq (.region [.one ⟨some 57, .move (.t 3)⟩,
                       .one ⟨some 58, .indexAddr 2 (.t 57) (.c (.int .i64 0))⟩,
                       .one ⟨some 59, .load 2 true .any (.t 58)⟩,
                       .one ⟨some 60, .move (.t 3)⟩,
                       .one ⟨some 61, .indexAddr 2 (.t 60) (.c (.int .i64 1))⟩,
                       .one ⟨some 62, .load 2 true .any (.t 61)⟩,
                       .one ⟨some 63, .call true .any 255 [.t 59, .t 62]⟩,
                       .one ⟨none, .store 2 (.t 8) (.t 63)⟩])
                     .ret)
                    (.seq (.region [.one ⟨some 65, .bin .eql 0 (.t 9) (.c (.int .i64 10))⟩,
                       .one ⟨some 64, .move (.t 65)⟩])
                     (.cond (.t 64) (.seq (.region [.one ⟨some 66, .move (.t 3)⟩,
                         .one ⟨some 67, .indexAddr 2 (.t 66) (.c (.int .i64 0))⟩,
                         .one ⟨some 68, .load 2 true .any (.t 67)⟩,
                         .one ⟨some 69, .call false .any 256 [.t 68]⟩,
                         .one ⟨none, .store 2 (.t 8) (.t 69)⟩])
                       .ret)
                      (.seq (.region [.one ⟨some 71, .bin .eql 0 (.t 9) (.c (.int .i64 11))⟩,
                         .one ⟨some 70, .move (.t 71)⟩])
                       (.cond (.t 70) (.seq (.region [.one ⟨some 72, .move (.t 2)⟩,
                           .one ⟨some 73, .call true .any 25 [.t 72]⟩,
                           .one ⟨some 74, .move (.t 3)⟩,
                           .one ⟨some 75, .indexAddr 2 (.t 74) (.c (.int .i64 0))⟩,
                           .one ⟨some 76, .fieldAddr 1 (.t 75)⟩,
                           .one ⟨some 77, .load 1 false .any (.t 76)⟩,
                           .one ⟨some 78, .call true .any 25 [.t 77]⟩,
                           .one ⟨some 79, .build [.nil, .nil] [(0, 1, .t 73), (1, 1, .t 78)]⟩,
                           .one ⟨none, .store 2 (.t 8) (.t 79)⟩])
                         .ret)
                        (.seq (.region [.one ⟨some 81, .bin .eql 0 (.t 9) (.c (.int .i64 12))⟩,
                           .one ⟨some 80, .move (.t 81)⟩])
                         (.cond (.t 80) (.seq (.region [.one ⟨some 82, .move (.t 3)⟩,
                             .one ⟨some 83, .indexAddr 2 (.t 82) (.c (.int .i64 0))⟩,
                             .one ⟨some 84, .load 2 true .any (.t 83)⟩,
                             .one ⟨some 85, .move (.t 2)⟩,
                             .one ⟨some 86, .call false .any 257 [.t 84, .t 85]⟩,
                             .one ⟨none, .store 2 (.t 8) (.t 86)⟩])
                           .ret)
                          (.seq (.region [.one ⟨some 88, .bin .eql 0 (.t 9) (.c (.int .i64 13))⟩,
                             .one ⟨some 87, .move (.t 88)⟩])
                           (.cond (.t 87) (.seq (.region [.one ⟨some 89, .move (.t 3)⟩,
                               .one ⟨some 90, .indexAddr 2 (.t 89) (.c (.int .i64 0))⟩,
                               .one ⟨some 91, .load 2 true .any (.t 90)⟩,
                               .one ⟨some 92, .move (.t 2)⟩,
                               .one ⟨some 93, .call false .any 258 [.t 91, .t 92]⟩,
                               .one ⟨none, .store 2 (.t 8) (.t 93)⟩])
                             .ret)
                            (.seq (.region [.one ⟨some 95, .bin .eql 0 (.t 9) (.c (.int .i64 14))⟩,
                               .one ⟨some 94, .move (.t 95)⟩])
                             (.cond (.t 94) (.seq (.region [.one ⟨some 96, .move (.t 3)⟩,
                                 .one ⟨some 97, .indexAddr 2 (.t 96) (.c (.int .i64 0))⟩,
                                 .one ⟨some 98, .load 2 true .any (.t 97)⟩,
                                 .one ⟨some 99, .move (.t 3)⟩,
                                 .one ⟨some 100, .indexAddr 2 (.t 99) (.c (.int .i64 0))⟩,
                                 .one ⟨some 101, .load 2 true .any (.t 100)⟩,
                                 .one ⟨some 102, .call true .any 247 [.t 98, .t 101]⟩,
                                 .one ⟨none, .store 2 (.t 8) (.t 102)⟩])
                               .ret)
                              (.seq (.region [.one ⟨some 104, .bin .eql 0 (.t 9) (.c (.int .i64 16))⟩,
                                 .one ⟨some 103, .move (.t 104)⟩])
                               (.cond (.t 103) (.seq (.region [.one ⟨some 105, .move (.t 3)⟩,
                                   .one ⟨some 106, .indexAddr 2 (.t 105) (.c (.int .i64 0))⟩,
                                   .one ⟨some 107, .load 2 true .any (.t 106)⟩,
                                   .one ⟨some 108, .move (.t 3)⟩,
                                   .one ⟨some 109, .indexAddr 2 (.t 108) (.c (.int .i64 1))⟩,
                                   .one ⟨some 110, .load 2 true .any (.t 109)⟩,
                                   .one ⟨some 111, .call true .any 247 [.t 107, .t 110]⟩,
                                   .one ⟨none, .store 2 (.t 8) (.t 111)⟩])
                                 .ret)
                                (.seq (.region [.one ⟨some 113, .bin .eql 0 (.t 9) (.c (.int .i64 15))⟩,
                                   .one ⟨some 112, .move (.t 113)⟩])
                                 (.cond (.t 112) (.seq (.region [.one ⟨some 114, .move (.t 3)⟩,
                                     .one ⟨some 115, .indexAddr 2 (.t 114) (.c (.int .i64 0))⟩,
                                     .one ⟨some 116, .load 2 true .any (.t 115)⟩,
                                     .one ⟨some 117, .move (.t 1)⟩,
                                     .one ⟨some 118, .call false .any 252 [.t 116, .t 117]⟩,
                                     .one ⟨none, .store 2 (.t 8) (.t 118)⟩])
                                   .ret)
                                  .skip))))))))))))))))))))))))))))))
    (.seq (.region [.one ⟨some 119, .move (.t 3)⟩,
       .one ⟨some 120, .indexAddr 2 (.t 119) (.c (.int .i64 0))⟩,
       .one ⟨some 121, .load 2 true .any (.t 120)⟩,
       .one ⟨some 122, .move (.t 3)⟩,
       .one ⟨some 123, .indexAddr 2 (.t 122) (.c (.int .i64 1))⟩,
       .one ⟨some 124, .load 2 true .any (.t 123)⟩,
       .one ⟨some 125, .move (.t 1)⟩,
       .one ⟨some 126, .call true .any 249 [.t 121, .t 124, .t 125]⟩,
       .one ⟨none, .store 2 (.t 8) (.t 126)⟩])
     .ret))) }
/-- gradus/gradusref1.Max: number 252 -/
def ref1_Max_b0 : ACode :=
 (.seq (.seq (.region [.one ⟨some 13, .move (.t 6)⟩,
     .one ⟨some 14, .fieldAddr 1 (.t 5)⟩,
     .one ⟨some 15, .load 1 false .any (.t 14)⟩,
     .one ⟨some 16, .len (.t 15)⟩,
     .one ⟨some 17, .bin .lss 0 (.t 13) (.t 16)⟩])
   (.cond (.t 17) .skip
    (.exit 0)))
  (.seq (.block 1 (.seq (.region [.one ⟨some 20, .fieldAddr 1 (.t 2)⟩,
       .one ⟨some 21, .load 1 false .any (.t 20)⟩,
       .one ⟨some 22, .move (.t 6)⟩,
       .one ⟨some 23, .move (.t 1)⟩,
       .one ⟨some 24, .bin .mul 0 (.t 22) (.t 23)⟩,
       .one ⟨some 25, .move (.t 6)⟩,
       .one ⟨some 26, .move (.t 1)⟩,
       .one ⟨some 27, .bin .mul 0 (.t 25) (.t 26)⟩,
       .one ⟨some 28, .move (.t 1)⟩,
       .one ⟨some 29, .bin .add 0 (.t 27) (.t 28)⟩,
       .one ⟨some 30, .cut 1 (.t 21) (some (.t 24)) (some (.t 29))⟩,
       .one ⟨some 7, .move (.t 30)⟩])
     (.region [.one ⟨some 31, .fieldAddr 1 (.t 5)⟩,
       .one ⟨some 32, .load 1 false .any (.t 31)⟩,
       .one ⟨some 33, .move (.t 6)⟩,
       .one ⟨some 34, .move (.t 7)⟩,
       .one ⟨some 35, .move (.t 7)⟩,
       .one ⟨some 36, .call true .any 253 [.t 35]⟩,
       .one ⟨some 37, .indexAddr 1 (.t 34) (.t 36)⟩,
       .one ⟨some 38, .load 1 false .any (.t 37)⟩,
       .one ⟨some 39, .indexAddr 1 (.t 32) (.t 33)⟩,
       .one ⟨none, .store 1 (.t 39) (.t 38)⟩])))
   (.region [.one ⟨some 18, .move (.t 6)⟩,
     .one ⟨some 19, .bin .add 0 (.t 18) (.c (.int .i64 1))⟩,
     .one ⟨some 6, .move (.t 19)⟩])))
def ref1_Max_l0 : ACode :=
 (.loop [(1, .any), (2, .any), (4, .any), (5, .any), (6, .any)] [(0, [(4, .any), (5, .any)])] [] ref1_Max_b0)
def ref1_Max : AFunc := { params := [.any, .any], results := [.cell 4 2 true], body :=
  (.seq (.region [.one ⟨some 2, .box (.t 0)⟩,
     .one ⟨some 4, .alloc [.nil, .nil]⟩])
   (.seq (.region [.one ⟨some 8, .fieldAddr 0 (.t 2)⟩,
      .one ⟨some 9, .load 1 false .any (.t 8)⟩,
      .one ⟨some 10, .move (.t 1)⟩,
      .one ⟨some 11, .call false .any 102 [.t 9, .t 10]⟩,
      .one ⟨some 12, .call false .any 240 [.t 11, .c (.int .i64 0)]⟩,
      .one ⟨some 5, .alloc [.nil, .nil]⟩,
      .one ⟨none, .store 2 (.t 5) (.t 12)⟩])
    (.seq (.seq (.region [.one ⟨some 6, .move (.c (.int .i64 0))⟩])
      (.block 0 ref1_Max_l0))
     (.seq (.region [.one ⟨some 40, .load 2 true .any (.t 5)⟩,
        .one ⟨none, .store 2 (.t 4) (.t 40)⟩])
      .ret)))) }
/-- gradus/gradusref1.first: number 253 -/
def ref1_first_b0 : ACode :=
 (.seq (.seq (.region [.one ⟨some 5, .move (.t 4)⟩,
     .one ⟨some 6, .move (.t 0)⟩,
     .one ⟨some 7, .len (.t 6)⟩,
     .one ⟨some 8, .bin .lss 0 (.t 5) (.t 7)⟩])
   (.cond (.t 8) .skip
    (.exit 0)))
  (.seq (.block 1 (.seq (.region [.one ⟨some 11, .move (.t 0)⟩,
       .one ⟨some 12, .move (.t 4)⟩,
       .one ⟨some 13, .indexAddr 1 (.t 11) (.t 12)⟩,
       .one ⟨some 14, .load 1 false .any (.t 13)⟩,
       .one ⟨some 15, .move (.t 0)⟩,
       .one ⟨some 16, .move (.t 3)⟩,
       .one ⟨some 17, .indexAddr 1 (.t 15) (.t 16)⟩,
       .one ⟨some 18, .load 1 false .any (.t 17)⟩,
       .one ⟨some 19, .bin .gtr 0 (.t 14) (.t 18)⟩])
     (.cond (.t 19) (.region [.one ⟨some 20, .move (.t 4)⟩,
        .one ⟨some 3, .move (.t 20)⟩])
      .skip)))
   (.region [.one ⟨some 9, .move (.t 4)⟩,
     .one ⟨some 10, .bin .add 0 (.t 9) (.c (.int .i64 1))⟩,
     .one ⟨some 4, .move (.t 10)⟩])))
def ref1_first_l0 : ACode :=
 (.loop [(0, .any), (3, .any), (4, .any)] [(0, [(3, .any)])] [] ref1_first_b0)
def ref1_first : AFunc := { params := [.any], results := [.tmp 2], body :=
  (.seq (.region [.one ⟨some 2, .move (.c (.int .i64 0))⟩])
   (.seq (.region [.one ⟨some 3, .move (.c (.int .i64 0))⟩])
    (.seq (.seq (.region [.one ⟨some 4, .move (.c (.int .i64 0))⟩])
      (.block 0 ref1_first_l0))
     (.seq (.region [.one ⟨some 21, .move (.t 3)⟩,
        .one ⟨some 2, .move (.t 21)⟩])
      .ret)))) }
/-- gradus/gradusref1.Scale: number 254 -/
def ref1_Scale_b0 : ACode :=
 (.seq (.seq (.region [.one ⟨some 9, .move (.t 6)⟩,
     .one ⟨some 10, .fieldAddr 1 (.t 5)⟩,
     .one ⟨some 11, .load 1 false .any (.t 10)⟩,
     .one ⟨some 12, .len (.t 11)⟩,
     .one ⟨some 13, .bin .lss 0 (.t 9) (.t 12)⟩])
   (.cond (.t 13) .skip
    (.exit 0)))
  (.seq (.block 1 (.region [.one ⟨some 16, .fieldAddr 1 (.t 5)⟩,
      .one ⟨some 17, .load 1 false .any (.t 16)⟩,
      .one ⟨some 18, .move (.t 6)⟩,
      .one ⟨some 19, .fieldAddr 1 (.t 5)⟩,
      .one ⟨some 20, .load 1 false .any (.t 19)⟩,
      .one ⟨some 21, .move (.t 6)⟩,
      .one ⟨some 22, .indexAddr 1 (.t 20) (.t 21)⟩,
      .one ⟨some 23, .load 1 false .any (.t 22)⟩,
      .one ⟨some 24, .move (.t 1)⟩,
      .one ⟨some 25, .bin .mul 0 (.t 23) (.t 24)⟩,
      .one ⟨some 26, .indexAddr 1 (.t 17) (.t 18)⟩,
      .one ⟨none, .store 1 (.t 26) (.t 25)⟩]))
   (.region [.one ⟨some 14, .move (.t 6)⟩,
     .one ⟨some 15, .bin .add 0 (.t 14) (.c (.int .i64 1))⟩,
     .one ⟨some 6, .move (.t 15)⟩])))
def ref1_Scale_l0 : ACode :=
 (.loop [(1, .any), (4, .any), (5, .any), (6, .any)] [(0, [(4, .any), (5, .any)])] [] ref1_Scale_b0)
def ref1_Scale : AFunc := { params := [.any, .any], results := [.cell 4 2 true], body :=
  (.seq (.region [.one ⟨some 2, .box (.t 0)⟩,
     .one ⟨some 4, .alloc [.nil, .nil]⟩])
   (.seq (.region [.one ⟨some 7, .load 2 true .any (.t 2)⟩,
      .one ⟨some 8, .call false .any 235 [.t 7]⟩,
      .one ⟨some 5, .alloc [.nil, .nil]⟩,
      .one ⟨none, .store 2 (.t 5) (.t 8)⟩])
    (.seq (.seq (.region [.one ⟨some 6, .move (.c (.int .i64 0))⟩])
      (.block 0 ref1_Scale_l0))
     (.seq (.region [.one ⟨some 27, .load 2 true .any (.t 5)⟩,
        .one ⟨none, .store 2 (.t 4) (.t 27)⟩])
      .ret)))) }
/-- gradus/gradusref1.Mat: number 255 -/
def ref1_Mat_b0 : ACode :=
 (.seq (.seq (.region [.one ⟨some 36, .move (.t 9)⟩,
     .one ⟨some 37, .fieldAddr 0 (.t 2)⟩,
     .one ⟨some 38, .load 1 false .any (.t 37)⟩,
     .one ⟨some 39, .indexAddr 1 (.t 38) (.c (.int .i64 1))⟩,
     .one ⟨some 40, .load 1 false .any (.t 39)⟩,
     .one ⟨some 41, .bin .lss 0 (.t 36) (.t 40)⟩])
   (.cond (.t 41) .skip
    (.exit 4)))
  (.seq (.block 5 (.region [.one ⟨some 44, .move (.t 8)⟩,
      .one ⟨some 45, .fieldAddr 1 (.t 2)⟩,
      .one ⟨some 46, .load 1 false .any (.t 45)⟩,
      .one ⟨some 47, .move (.t 6)⟩,
      .one ⟨some 48, .fieldAddr 0 (.t 2)⟩,
      .one ⟨some 49, .load 1 false .any (.t 48)⟩,
      .one ⟨some 50, .indexAddr 1 (.t 49) (.c (.int .i64 1))⟩,
      .one ⟨some 51, .load 1 false .any (.t 50)⟩,
      .one ⟨some 52, .bin .mul 0 (.t 47) (.t 51)⟩,
      .one ⟨some 53, .move (.t 9)⟩,
      .one ⟨some 54, .bin .add 0 (.t 52) (.t 53)⟩,
      .one ⟨some 55, .indexAddr 1 (.t 46) (.t 54)⟩,
      .one ⟨some 56, .load 1 false .any (.t 55)⟩,
      .one ⟨some 57, .fieldAddr 1 (.t 3)⟩,
      .one ⟨some 58, .load 1 false .any (.t 57)⟩,
      .one ⟨some 59, .move (.t 9)⟩,
      .one ⟨some 60, .fieldAddr 0 (.t 3)⟩,
      .one ⟨some 61, .load 1 false .any (.t 60)⟩,
      .one ⟨some 62, .indexAddr 1 (.t 61) (.c (.int .i64 1))⟩,
      .one ⟨some 63, .load 1 false .any (.t 62)⟩,
      .one ⟨some 64, .bin .mul 0 (.t 59) (.t 63)⟩,
      .one ⟨some 65, .move (.t 7)⟩,
      .one ⟨some 66, .bin .add 0 (.t 64) (.t 65)⟩,
      .one ⟨some 67, .indexAddr 1 (.t 58) (.t 66)⟩,
      .one ⟨some 68, .load 1 false .any (.t 67)⟩,
      .one ⟨some 69, .bin .mul 0 (.t 56) (.t 68)⟩,
      .one ⟨some 70, .bin .add 0 (.t 44) (.t 69)⟩,
      .one ⟨some 8, .move (.t 70)⟩]))
   (.region [.one ⟨some 42, .move (.t 9)⟩,
     .one ⟨some 43, .bin .add 0 (.t 42) (.c (.int .i64 1))⟩,
     .one ⟨some 9, .move (.t 43)⟩])))
def ref1_Mat_l0 : ACode :=
 (.loop [(2, .any), (3, .any), (4, .any), (5, .any), (6, .any), (7, .any), (8, .any), (9, .any)] [(4, [(2, .any), (3, .any), (4, .any), (5, .any), (6, .any), (7, .any), (8, .any)])] [] ref1_Mat_b0)
def ref1_Mat_b1 : ACode :=
 (.seq (.seq (.region [.one ⟨some 28, .move (.t 7)⟩,
     .one ⟨some 29, .fieldAddr 0 (.t 3)⟩,
     .one ⟨some 30, .load 1 false .any (.t 29)⟩,
     .one ⟨some 31, .indexAddr 1 (.t 30) (.c (.int .i64 1))⟩,
     .one ⟨some 32, .load 1 false .any (.t 31)⟩,
     .one ⟨some 33, .bin .lss 0 (.t 28) (.t 32)⟩])
   (.cond (.t 33) .skip
    (.exit 2)))
  (.seq (.block 3 (.seq (.region [.one ⟨some 8, .move (.c (.int .i64 0))⟩])
     (.seq (.seq (.region [.one ⟨some 9, .move (.c (.int .i64 0))⟩])
       (.block 4 ref1_Mat_l0))
      (.region [.one ⟨some 71, .fieldAddr 1 (.t 5)⟩,
        .one ⟨some 72, .load 1 false .any (.t 71)⟩,
        .one ⟨some 73, .move (.t 6)⟩,
        .one ⟨some 74, .fieldAddr 0 (.t 3)⟩,
        .one ⟨some 75, .load 1 false .any (.t 74)⟩,
        .one ⟨some 76, .indexAddr 1 (.t 75) (.c (.int .i64 1))⟩,
        .one ⟨some 77, .load 1 false .any (.t 76)⟩,
        .one ⟨some 78, .bin .mul 0 (.t 73) (.t 77)⟩,
        .one ⟨some 79, .move (.t 7)⟩,
        .one ⟨some 80, .bin .add 0 (.t 78) (.t 79)⟩,
        .one ⟨some 81, .move (.t 8)⟩,
        .one ⟨some 82, .indexAddr 1 (.t 72) (.t 80)⟩,
        .one ⟨none, .store 1 (.t 82) (.t 81)⟩]))))
   (.region [.one ⟨some 34, .move (.t 7)⟩,
     .one ⟨some 35, .bin .add 0 (.t 34) (.c (.int .i64 1))⟩,
     .one ⟨some 7, .move (.t 35)⟩])))
def ref1_Mat_l1 : ACode :=
 (.loop [(2, .any), (3, .any), (4, .any), (5, .any), (6, .any), (7, .any)] [(2, [(2, .any), (3, .any), (4, .any), (5, .any), (6, .any)])] [] ref1_Mat_b1)
def ref1_Mat_b2 : ACode :=
 (.seq (.seq (.region [.one ⟨some 20, .move (.t 6)⟩,
     .one ⟨some 21, .fieldAddr 0 (.t 2)⟩,
     .one ⟨some 22, .load 1 false .any (.t 21)⟩,
     .one ⟨some 23, .indexAddr 1 (.t 22) (.c (.int .i64 0))⟩,
     .one ⟨some 24, .load 1 false .any (.t 23)⟩,
     .one ⟨some 25, .bin .lss 0 (.t 20) (.t 24)⟩])
   (.cond (.t 25) .skip
    (.exit 0)))
  (.seq (.block 1 (.seq (.region [.one ⟨some 7, .move (.c (.int .i64 0))⟩])
     (.block 2 ref1_Mat_l1)))
   (.region [.one ⟨some 26, .move (.t 6)⟩,
     .one ⟨some 27, .bin .add 0 (.t 26) (.c (.int .i64 1))⟩,
     .one ⟨some 6, .move (.t 27)⟩])))
def ref1_Mat_l2 : ACode :=
 (.loop [(2, .any), (3, .any), (4, .any), (5, .any), (6, .any)] [(0, [(4, .any), (5, .any)])] [] ref1_Mat_b2)
def ref1_Mat : AFunc := { params := [.any, .any], results := [.cell 4 2 true], body :=
  (.seq (.region [.one ⟨some 2, .box (.t 0)⟩,
     .one ⟨some 3, .box (.t 1)⟩,
     .one ⟨some 4, .alloc [.nil, .nil]⟩])
   (.seq (.region [.one ⟨some 10, .fieldAddr 0 (.t 2)⟩,
      .one ⟨some 11, .load 1 false .any (.t 10)⟩,
      .one ⟨some 12, .indexAddr 1 (.t 11) (.c (.int .i64 0))⟩,
      .one ⟨some 13, .load 1 false .any (.t 12)⟩,
      .one ⟨some 14, .fieldAddr 0 (.t 3)⟩,
      .one ⟨some 15, .load 1 false .any (.t 14)⟩,
      .one ⟨some 16, .indexAddr 1 (.t 15) (.c (.int .i64 1))⟩,
      .one ⟨some 17, .load 1 false .any (.t 16)⟩,
      .one ⟨some 18, .buildSlice 1 2 [.int .i64 0] [(0, .t 13), (1, .t 17)]⟩,
      .one ⟨some 19, .call true .any 240 [.t 18, .c (.int .i64 0)]⟩,
      .one ⟨some 5, .alloc [.nil, .nil]⟩,
      .one ⟨none, .store 2 (.t 5) (.t 19)⟩])
    (.seq (.seq (.region [.one ⟨some 6, .move (.c (.int .i64 0))⟩])
      (.block 0 ref1_Mat_l2))
     (.seq (.region [.one ⟨some 83, .load 2 true .any (.t 5)⟩,
        .one ⟨none, .store 2 (.t 4) (.t 83)⟩])
      .ret)))) }
/-- gradus/gradusref1.Turn: number 256 -/
def ref1_Turn_b0 : ACode :=
 (.seq (.seq (.region [.one ⟨some 24, .move (.t 5)⟩,
     .one ⟨some 25, .fieldAddr 0 (.t 1)⟩,
     .one ⟨some 26, .load 1 false .any (.t 25)⟩,
     .one ⟨some 27, .indexAddr 1 (.t 26) (.c (.int .i64 1))⟩,
     .one ⟨some 28, .load 1 false .any (.t 27)⟩,
     .one ⟨some 29, .bin .lss 0 (.t 24) (.t 28)⟩])
   (.cond (.t 29) .skip
    (.exit 2)))
  (.seq (.block 3 (.region [.one ⟨some 32, .fieldAddr 1 (.t 3)⟩,
      .one ⟨some 33, .load 1 false .any (.t 32)⟩,
      .one ⟨some 34, .move (.t 5)⟩,
      .one ⟨some 35, .fieldAddr 0 (.t 1)⟩,
      .one ⟨some 36, .load 1 false .any (.t 35)⟩,
      .one ⟨some 37, .indexAddr 1 (.t 36) (.c (.int .i64 0))⟩,
      .one ⟨some 38, .load 1 false .any (.t 37)⟩,
      .one ⟨some 39, .bin .mul 0 (.t 34) (.t 38)⟩,
      .one ⟨some 40, .move (.t 4)⟩,
      .one ⟨some 41, .bin .add 0 (.t 39) (.t 40)⟩,
      .one ⟨some 42, .fieldAddr 1 (.t 1)⟩,
      .one ⟨some 43, .load 1 false .any (.t 42)⟩,
      .one ⟨some 44, .move (.t 4)⟩,
      .one ⟨some 45, .fieldAddr 0 (.t 1)⟩,
      .one ⟨some 46, .load 1 false .any (.t 45)⟩,
      .one ⟨some 47, .indexAddr 1 (.t 46) (.c (.int .i64 1))⟩,
      .one ⟨some 48, .load 1 false .any (.t 47)⟩,
      .one ⟨some 49, .bin .mul 0 (.t 44) (.t 48)⟩,
      .one ⟨some 50, .move (.t 5)⟩,
      .one ⟨some 51, .bin .add 0 (.t 49) (.t 50)⟩,
      .one ⟨some 52, .indexAddr 1 (.t 43) (.t 51)⟩,
      .one ⟨some 53, .load 1 false .any (.t 52)⟩,
      .one ⟨some 54, .indexAddr 1 (.t 33) (.t 41)⟩,
      .one ⟨none, .store 1 (.t 54) (.t 53)⟩]))
   (.region [.one ⟨some 30, .move (.t 5)⟩,
     .one ⟨some 31, .bin .add 0 (.t 30) (.c (.int .i64 1))⟩,
     .one ⟨some 5, .move (.t 31)⟩])))
def ref1_Turn_l0 : ACode :=
 (.loop [(1, .any), (2, .any), (3, .any), (4, .any), (5, .any)] [(2, [(1, .any), (2, .any), (3, .any), (4, .any)])] [] ref1_Turn_b0)
def ref1_Turn_b1 : ACode :=
 (.seq (.seq (.region [.one ⟨some 16, .move (.t 4)⟩,
     .one ⟨some 17, .fieldAddr 0 (.t 1)⟩,
     .one ⟨some 18, .load 1 false .any (.t 17)⟩,
     .one ⟨some 19, .indexAddr 1 (.t 18) (.c (.int .i64 0))⟩,
     .one ⟨some 20, .load 1 false .any (.t 19)⟩,
     .one ⟨some 21, .bin .lss 0 (.t 16) (.t 20)⟩])
   (.cond (.t 21) .skip
    (.exit 0)))
  (.seq (.block 1 (.seq (.region [.one ⟨some 5, .move (.c (.int .i64 0))⟩])
     (.block 2 ref1_Turn_l0)))
   (.region [.one ⟨some 22, .move (.t 4)⟩,
     .one ⟨some 23, .bin .add 0 (.t 22) (.c (.int .i64 1))⟩,
     .one ⟨some 4, .move (.t 23)⟩])))
def ref1_Turn_l1 : ACode :=
 (.loop [(1, .any), (2, .any), (3, .any), (4, .any)] [(0, [(2, .any), (3, .any)])] [] ref1_Turn_b1)
def ref1_Turn : AFunc := { params := [.any], results := [.cell 2 2 true], body :=
  (.seq (.region [.one ⟨some 1, .box (.t 0)⟩,
     .one ⟨some 2, .alloc [.nil, .nil]⟩])
   (.seq (.region [.one ⟨some 6, .fieldAddr 0 (.t 1)⟩,
      .one ⟨some 7, .load 1 false .any (.t 6)⟩,
      .one ⟨some 8, .indexAddr 1 (.t 7) (.c (.int .i64 1))⟩,
      .one ⟨some 9, .load 1 false .any (.t 8)⟩,
      .one ⟨some 10, .fieldAddr 0 (.t 1)⟩,
      .one ⟨some 11, .load 1 false .any (.t 10)⟩,
      .one ⟨some 12, .indexAddr 1 (.t 11) (.c (.int .i64 0))⟩,
      .one ⟨some 13, .load 1 false .any (.t 12)⟩,
      .one ⟨some 14, .buildSlice 1 2 [.int .i64 0] [(0, .t 9), (1, .t 13)]⟩,
      .one ⟨some 15, .call true .any 240 [.t 14, .c (.int .i64 0)]⟩,
      .one ⟨some 3, .alloc [.nil, .nil]⟩,
      .one ⟨none, .store 2 (.t 3) (.t 15)⟩])
    (.seq (.seq (.region [.one ⟨some 4, .move (.c (.int .i64 0))⟩])
      (.block 0 ref1_Turn_l1))
     (.seq (.region [.one ⟨some 55, .load 2 true .any (.t 3)⟩,
        .one ⟨none, .store 2 (.t 2) (.t 55)⟩])
      .ret)))) }
/-- gradus/gradusref1.Wide: number 257 -/
def ref1_Wide_b0 : ACode :=
 (.seq (.seq (.region [.one ⟨some 9, .move (.t 6)⟩,
     .one ⟨some 10, .fieldAddr 1 (.t 5)⟩,
     .one ⟨some 11, .load 1 false .any (.t 10)⟩,
     .one ⟨some 12, .len (.t 11)⟩,
     .one ⟨some 13, .bin .lss 0 (.t 9) (.t 12)⟩])
   (.cond (.t 13) .skip
    (.exit 0)))
  (.seq (.block 1 (.region [.one ⟨some 16, .fieldAddr 1 (.t 5)⟩,
      .one ⟨some 17, .load 1 false .any (.t 16)⟩,
      .one ⟨some 18, .move (.t 6)⟩,
      .one ⟨some 19, .fieldAddr 1 (.t 2)⟩,
      .one ⟨some 20, .load 1 false .any (.t 19)⟩,
      .one ⟨some 21, .fieldAddr 0 (.t 2)⟩,
      .one ⟨some 22, .load 1 false .any (.t 21)⟩,
      .one ⟨some 23, .fieldAddr 0 (.t 2)⟩,
      .one ⟨some 24, .load 1 false .any (.t 23)⟩,
      .one ⟨some 25, .move (.t 1)⟩,
      .one ⟨some 26, .move (.t 6)⟩,
      .one ⟨some 27, .call true .any 259 [.t 25, .t 26]⟩,
      .one ⟨some 28, .call true .any 260 [.t 24, .t 27]⟩,
      .one ⟨some 29, .call true .any 261 [.t 22, .t 28]⟩,
      .one ⟨some 30, .indexAddr 1 (.t 20) (.t 29)⟩,
      .one ⟨some 31, .load 1 false .any (.t 30)⟩,
      .one ⟨some 32, .indexAddr 1 (.t 17) (.t 18)⟩,
      .one ⟨none, .store 1 (.t 32) (.t 31)⟩]))
   (.region [.one ⟨some 14, .move (.t 6)⟩,
     .one ⟨some 15, .bin .add 0 (.t 14) (.c (.int .i64 1))⟩,
     .one ⟨some 6, .move (.t 15)⟩])))
def ref1_Wide_l0 : ACode :=
 (.loop [(1, .any), (2, .any), (4, .any), (5, .any), (6, .any)] [(0, [(4, .any), (5, .any)])] [] ref1_Wide_b0)
def ref1_Wide : AFunc := { params := [.any, .any], results := [.cell 4 2 true], body :=
  (.seq (.region [.one ⟨some 2, .box (.t 0)⟩,
     .one ⟨some 4, .alloc [.nil, .nil]⟩])
   (.seq (.region [.one ⟨some 7, .move (.t 1)⟩,
      .one ⟨some 8, .call false .any 240 [.t 7, .c (.int .i64 0)]⟩,
      .one ⟨some 5, .alloc [.nil, .nil]⟩,
      .one ⟨none, .store 2 (.t 5) (.t 8)⟩])
    (.seq (.seq (.region [.one ⟨some 6, .move (.c (.int .i64 0))⟩])
      (.block 0 ref1_Wide_l0))
     (.seq (.region [.one ⟨some 33, .load 2 true .any (.t 5)⟩,
        .one ⟨none, .store 2 (.t 4) (.t 33)⟩])
      .ret)))) }
/-- gradus/gradusref1.Sum: number 258 -/
def ref1_Sum_b0 : ACode :=
 (.seq (.seq (.region [.one ⟨some 10, .move (.t 6)⟩,
     .one ⟨some 11, .fieldAddr 1 (.t 2)⟩,
     .one ⟨some 12, .load 1 false .any (.t 11)⟩,
     .one ⟨some 13, .len (.t 12)⟩,
     .one ⟨some 14, .bin .lss 0 (.t 10) (.t 13)⟩])
   (.cond (.t 14) .skip
    (.exit 0)))
  (.seq (.block 1 (.seq (.region [.one ⟨some 17, .move (.t 1)⟩,
       .one ⟨some 18, .move (.t 1)⟩,
       .one ⟨some 19, .fieldAddr 0 (.t 2)⟩,
       .one ⟨some 20, .load 1 false .any (.t 19)⟩,
       .one ⟨some 21, .move (.t 6)⟩,
       .one ⟨some 22, .call false .any 259 [.t 20, .t 21]⟩,
       .one ⟨some 23, .call false .any 260 [.t 18, .t 22]⟩,
       .one ⟨some 24, .call false .any 261 [.t 17, .t 23]⟩,
       .one ⟨some 7, .move (.t 24)⟩])
     (.region [.one ⟨some 25, .fieldAddr 1 (.t 5)⟩,
       .one ⟨some 26, .load 1 false .any (.t 25)⟩,
       .one ⟨some 27, .move (.t 7)⟩,
       .one ⟨some 28, .fieldAddr 1 (.t 5)⟩,
       .one ⟨some 29, .load 1 false .any (.t 28)⟩,
       .one ⟨some 30, .move (.t 7)⟩,
       .one ⟨some 31, .indexAddr 1 (.t 29) (.t 30)⟩,
       .one ⟨some 32, .load 1 false .any (.t 31)⟩,
       .one ⟨some 33, .fieldAddr 1 (.t 2)⟩,
       .one ⟨some 34, .load 1 false .any (.t 33)⟩,
       .one ⟨some 35, .move (.t 6)⟩,
       .one ⟨some 36, .indexAddr 1 (.t 34) (.t 35)⟩,
       .one ⟨some 37, .load 1 false .any (.t 36)⟩,
       .one ⟨some 38, .bin .add 0 (.t 32) (.t 37)⟩,
       .one ⟨some 39, .indexAddr 1 (.t 26) (.t 27)⟩,
       .one ⟨none, .store 1 (.t 39) (.t 38)⟩])))
   (.region [.one ⟨some 15, .move (.t 6)⟩,
     .one ⟨some 16, .bin .add 0 (.t 15) (.c (.int .i64 1))⟩,
     .one ⟨some 6, .move (.t 16)⟩])))
def ref1_Sum_l0 : ACode :=
 (.loop [(1, .any), (2, .any), (4, .any), (5, .any), (6, .any)] [(0, [(4, .any), (5, .any)])] [] ref1_Sum_b0)
def ref1_Sum : AFunc := { params := [.any, .any], results := [.cell 4 2 true], body :=
  (.seq (.region [.one ⟨some 2, .box (.t 0)⟩,
     .one ⟨some 4, .alloc [.nil, .nil]⟩])
   (.seq (.region [.one ⟨some 8, .move (.t 1)⟩,
      .one ⟨some 9, .call false .any 240 [.t 8, .c (.int .i64 0)]⟩,
      .one ⟨some 5, .alloc [.nil, .nil]⟩,
      .one ⟨none, .store 2 (.t 5) (.t 9)⟩])
    (.seq (.seq (.region [.one ⟨some 6, .move (.c (.int .i64 0))⟩])
      (.block 0 ref1_Sum_l0))
     (.seq (.region [.one ⟨some 40, .load 2 true .any (.t 5)⟩,
        .one ⟨none, .store 2 (.t 4) (.t 40)⟩])
      .ret)))) }
/-- gradus/gradusref1.Where: number 259 -/
def ref1_Where_b0 : ACode :=
 (.seq (.seq (.region [.one ⟨some 13, .move (.t 6)⟩,
     .one ⟨some 14, .bin .geq 0 (.t 13) (.c (.int .i64 0))⟩])
   (.cond (.t 14) .skip
    (.exit 0)))
  (.seq (.block 1 (.seq (.region [.one ⟨some 17, .move (.t 5)⟩,
       .one ⟨some 18, .move (.t 6)⟩,
       .one ⟨some 19, .move (.t 1)⟩,
       .one ⟨some 20, .move (.t 0)⟩,
       .one ⟨some 21, .move (.t 6)⟩,
       .one ⟨some 22, .indexAddr 1 (.t 20) (.t 21)⟩,
       .one ⟨some 23, .load 1 false .any (.t 22)⟩,
       .one ⟨some 24, .bin .rem 0 (.t 19) (.t 23)⟩,
       .one ⟨some 25, .indexAddr 1 (.t 17) (.t 18)⟩,
       .one ⟨none, .store 1 (.t 25) (.t 24)⟩])
     (.region [.one ⟨some 26, .move (.t 1)⟩,
       .one ⟨some 27, .move (.t 0)⟩,
       .one ⟨some 28, .move (.t 6)⟩,
       .one ⟨some 29, .indexAddr 1 (.t 27) (.t 28)⟩,
       .one ⟨some 30, .load 1 false .any (.t 29)⟩,
       .one ⟨some 31, .bin .quo 0 (.t 26) (.t 30)⟩,
       .one ⟨some 1, .move (.t 31)⟩])))
   (.region [.one ⟨some 15, .move (.t 6)⟩,
     .one ⟨some 16, .bin .sub 0 (.t 15) (.c (.int .i64 1))⟩,
     .one ⟨some 6, .move (.t 16)⟩])))
def ref1_Where_l0 : ACode :=
 (.loop [(0, .any), (1, .any), (5, .any), (6, .any)] [(0, [(5, .any)])] [] ref1_Where_b0)
def ref1_Where : AFunc := { params := [.any, .any], results := [.tmp 4], body :=
  (.seq (.region [.one ⟨some 4, .move (.c (.nil))⟩])
   (.seq (.region [.one ⟨some 7, .move (.t 0)⟩,
      .one ⟨some 8, .len (.t 7)⟩,
      .one ⟨some 9, .makeSlice 1 8 [.int .i64 0] (.t 8)⟩,
      .one ⟨some 5, .move (.t 9)⟩])
    (.seq (.seq (.region [.one ⟨some 10, .move (.t 0)⟩,
        .one ⟨some 11, .len (.t 10)⟩,
        .one ⟨some 12, .bin .sub 0 (.t 11) (.c (.int .i64 1))⟩,
        .one ⟨some 6, .move (.t 12)⟩])
      (.block 0 ref1_Where_l0))
     (.seq (.region [.one ⟨some 32, .move (.t 5)⟩,
        .one ⟨some 4, .move (.t 32)⟩])
      .ret)))) }
/-- gradus/gradusref1.narrow: number 260 -/
def ref1_narrow_b0 : ACode :=
 (.seq (.seq (.region [.one ⟨some 9, .move (.t 6)⟩,
     .one ⟨some 10, .move (.t 5)⟩,
     .one ⟨some 11, .len (.t 10)⟩,
     .one ⟨some 12, .bin .lss 0 (.t 9) (.t 11)⟩])
   (.cond (.t 12) .skip
    (.exit 0)))
  (.seq (.block 1 (.seq (.region [.one ⟨some 15, .move (.t 0)⟩,
       .one ⟨some 16, .move (.t 6)⟩,
       .one ⟨some 17, .indexAddr 1 (.t 15) (.t 16)⟩,
       .one ⟨some 18, .load 1 false .any (.t 17)⟩,
       .one ⟨some 19, .bin .eql 0 (.t 18) (.c (.int .i64 1))⟩])
     (.cond (.t 19) (.region [.one ⟨some 20, .move (.t 5)⟩,
        .one ⟨some 21, .move (.t 6)⟩,
        .one ⟨some 22, .indexAddr 1 (.t 20) (.t 21)⟩,
        .one ⟨none, .store 1 (.t 22) (.c (.int .i64 0))⟩])
      .skip)))
   (.region [.one ⟨some 13, .move (.t 6)⟩,
     .one ⟨some 14, .bin .add 0 (.t 13) (.c (.int .i64 1))⟩,
     .one ⟨some 6, .move (.t 14)⟩])))
def ref1_narrow_l0 : ACode :=
 (.loop [(0, .any), (5, .any), (6, .any)] [(0, [(5, .any)])] [] ref1_narrow_b0)
def ref1_narrow : AFunc := { params := [.any, .any], results := [.tmp 4], body :=
  (.seq (.region [.one ⟨some 4, .move (.c (.nil))⟩])
   (.seq (.region [.one ⟨some 7, .move (.t 1)⟩,
      .one ⟨some 8, .call false .any 25 [.t 7]⟩,
      .one ⟨some 5, .move (.t 8)⟩])
    (.seq (.seq (.region [.one ⟨some 6, .move (.c (.int .i64 0))⟩])
      (.block 0 ref1_narrow_l0))
     (.seq (.region [.one ⟨some 23, .move (.t 5)⟩,
        .one ⟨some 4, .move (.t 23)⟩])
      .ret)))) }
/-- gradus/gradusref1.At: number 261 -/
def ref1_At_b0 : ACode :=
 (.seq (.seq (.region [.one ⟨some 7, .move (.t 6)⟩,
     .one ⟨some 8, .move (.t 0)⟩,
     .one ⟨some 9, .len (.t 8)⟩,
     .one ⟨some 10, .bin .lss 0 (.t 7) (.t 9)⟩])
   (.cond (.t 10) .skip
    (.exit 0)))
  (.seq (.block 1 (.region [.one ⟨some 13, .move (.t 5)⟩,
      .one ⟨some 14, .move (.t 0)⟩,
      .one ⟨some 15, .move (.t 6)⟩,
      .one ⟨some 16, .indexAddr 1 (.t 14) (.t 15)⟩,
      .one ⟨some 17, .load 1 false .any (.t 16)⟩,
      .one ⟨some 18, .bin .mul 0 (.t 13) (.t 17)⟩,
      .one ⟨some 19, .move (.t 1)⟩,
      .one ⟨some 20, .move (.t 6)⟩,
      .one ⟨some 21, .indexAddr 1 (.t 19) (.t 20)⟩,
      .one ⟨some 22, .load 1 false .any (.t 21)⟩,
      .one ⟨some 23, .bin .add 0 (.t 18) (.t 22)⟩,
      .one ⟨some 5, .move (.t 23)⟩]))
   (.region [.one ⟨some 11, .move (.t 6)⟩,
     .one ⟨some 12, .bin .add 0 (.t 11) (.c (.int .i64 1))⟩,
     .one ⟨some 6, .move (.t 12)⟩])))
def ref1_At_l0 : ACode :=
 (.loop [(0, .any), (1, .any), (5, .any), (6, .any)] [(0, [(5, .any)])] [] ref1_At_b0)
def ref1_At : AFunc := { params := [.any, .any], results := [.tmp 4], body :=
  (.seq (.region [.one ⟨some 4, .move (.c (.int .i64 0))⟩])
   (.seq (.region [.one ⟨some 5, .move (.c (.int .i64 0))⟩])
    (.seq (.seq (.region [.one ⟨some 6, .move (.c (.int .i64 0))⟩])
      (.block 0 ref1_At_l0))
     (.seq (.region [.one ⟨some 24, .move (.t 5)⟩,
        .one ⟨some 4, .move (.t 24)⟩])
      .ret)))) }
end C
end Go.AM
