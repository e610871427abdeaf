/- PRINTED by wip/tools/gen.py out of the program's form in the model: its functions as the abstract machine's code. -/
import Derived.Test.YtfdbegdgedhhcaaAmCore
set_option linter.all false
namespace Go.AM
namespace C
set_option maxRecDepth 100000
/-- gradus/graduslaw8.Heavy: number 0 -/
def law8_Heavy_b0 : ACode :=
 (.seq (.seq (.region [.one ⟨some 12, .move (.t 4)⟩,
     .one ⟨some 13, .fieldAddr 0 (.t 1)⟩,
     .one ⟨some 14, .load 1 false .any (.t 13)⟩,
     .one ⟨some 15, .len (.t 14)⟩,
     .one ⟨some 16, .bin .lss 0 (.t 12) (.t 15)⟩,
     .one ⟨some 17, .move (.t 16)⟩,
     .grd 17 true [⟨some 18, .move (.t 3)⟩, ⟨some 19, .bin .lss 0 (.t 18) (.c (.int .i64 1048576))⟩],
     .one ⟨some 20, .pick (.t 17) (.t 19) (.c (.bool false))⟩])
   (.cond (.t 20) .skip
    (.exit 0)))
  (.seq (.block 1 (.region [.one ⟨some 23, .move (.t 3)⟩,
      .one ⟨some 24, .fieldAddr 0 (.t 1)⟩,
      .one ⟨some 25, .load 1 false .any (.t 24)⟩,
      .one ⟨some 26, .move (.t 4)⟩,
      .one ⟨some 27, .indexAddr 1 (.t 25) (.t 26)⟩,
      .one ⟨some 28, .load 1 false .any (.t 27)⟩,
      .one ⟨some 29, .call false .any 59 [.t 28]⟩,
      .one ⟨some 30, .bin .add 0 (.t 23) (.t 29)⟩,
      .one ⟨some 3, .move (.t 30)⟩]))
   (.region [.one ⟨some 21, .move (.t 4)⟩,
     .one ⟨some 22, .bin .add 0 (.t 21) (.c (.int .i64 1))⟩,
     .one ⟨some 4, .move (.t 22)⟩])))
def law8_Heavy_l0 : ACode :=
 (.loop [(1, .any), (3, .any), (4, .any)] [(0, [(3, .any)])] [] law8_Heavy_b0)
def law8_Heavy : AFunc := { params := [.any], results := [.tmp 2], body :=
  (.seq (.region [.one ⟨some 1, .box (.t 0)⟩,
     .one ⟨some 2, .move (.c (.bool false))⟩])
   (.seq (.region [.one ⟨some 5, .fieldAddr 1 (.t 1)⟩,
      .one ⟨some 6, .load 1 false .any (.t 5)⟩,
      .one ⟨some 7, .len (.t 6)⟩,
      .one ⟨some 8, .fieldAddr 2 (.t 1)⟩,
      .one ⟨some 9, .load 1 false .any (.t 8)⟩,
      .one ⟨some 10, .call true .any 58 [.t 9]⟩,
      .one ⟨some 11, .bin .add 0 (.t 7) (.t 10)⟩,
      .one ⟨some 3, .move (.t 11)⟩])
    (.seq (.seq (.region [.one ⟨some 4, .move (.c (.int .i64 0))⟩])
      (.block 0 law8_Heavy_l0))
     (.seq (.region [.one ⟨some 31, .move (.t 3)⟩,
        .one ⟨some 32, .bin .gtr 0 (.t 31) (.c (.int .i64 1200))⟩,
        .one ⟨some 2, .move (.t 32)⟩])
      .ret)))) }
/-- gradus/gradusref7.Nodes: number 1 -/
def ref7_Nodes_b0 : ACode :=
 (.seq (.seq (.region [.one ⟨some 7, .move (.t 3)⟩,
     .one ⟨some 8, .move (.t 0)⟩,
     .one ⟨some 9, .len (.t 8)⟩,
     .one ⟨some 10, .bin .lss 0 (.t 7) (.t 9)⟩])
   (.cond (.t 10) .skip
    (.exit 0)))
  (.seq (.block 1 (.seq (.region [.one ⟨some 13, .move (.t 0)⟩,
       .one ⟨some 14, .move (.t 3)⟩,
       .one ⟨some 15, .call false .any 60 [.t 13, .t 14]⟩,
       .one ⟨some 16, .un .not (.t 15)⟩])
     (.cond (.t 16) (.seq (.region [.one ⟨some 2, .move (.c (.bool false))⟩])
       .ret)
      .skip)))
   (.region [.one ⟨some 11, .move (.t 3)⟩,
     .one ⟨some 12, .bin .add 0 (.t 11) (.c (.int .i64 1))⟩,
     .one ⟨some 3, .move (.t 12)⟩])))
def ref7_Nodes_l0 : ACode :=
 (.loop [(0, .any), (3, .any)] [(0, [])] [(2, .any)] ref7_Nodes_b0)
def ref7_Nodes : AFunc := { params := [.any], results := [.tmp 2], body :=
  (.seq (.region [.one ⟨some 2, .move (.c (.bool false))⟩])
   (.seq (.seq (.region [.one ⟨some 4, .move (.t 0)⟩,
       .one ⟨some 5, .len (.t 4)⟩,
       .one ⟨some 6, .bin .gtr 0 (.t 5) (.c (.int .i64 240))⟩])
     (.cond (.t 6) (.seq (.region [.one ⟨some 2, .move (.c (.bool false))⟩])
       .ret)
      .skip))
    (.seq (.seq (.region [.one ⟨some 3, .move (.c (.int .i64 0))⟩])
      (.block 0 ref7_Nodes_l0))
     (.seq (.region [.one ⟨some 2, .move (.c (.bool true))⟩])
      .ret)))) }
/-- gradus/graph.Infer: number 2 -/
def graph_Infer : AFunc := { params := [.any, .any, .any, .any, .any], results := [.tmp 10, .tmp 11], body :=
  (.seq (.region [.one ⟨some 10, .move (.c (.nil))⟩,
     .one ⟨some 11, .move (.c (.int .i64 0))⟩])
   (.seq (.seq (.region [.one ⟨some 12, .move (.t 3)⟩,
       .one ⟨some 13, .call false .any 61 [.t 12]⟩,
       .one ⟨some 14, .un .not (.t 13)⟩])
     (.cond (.t 14) (.seq (.region [.one ⟨some 10, .move (.c (.nil))⟩,
         .one ⟨some 11, .move (.c (.int .i64 1))⟩])
       .ret)
      .skip))
    (.seq (.region [.one ⟨some 15, .move (.t 0)⟩,
       .one ⟨some 16, .move (.t 1)⟩,
       .one ⟨some 17, .move (.t 2)⟩,
       .one ⟨some 18, .move (.t 3)⟩,
       .one ⟨some 19, .move (.t 4)⟩,
       .one ⟨some 20, .call false .any 62 [.t 15, .t 16, .t 17, .t 18, .t 19]⟩,
       .one ⟨some 21, .extract (.t 20) 0⟩,
       .one ⟨some 22, .extract (.t 20) 1⟩,
       .one ⟨some 10, .move (.t 21)⟩,
       .one ⟨some 11, .move (.t 22)⟩])
     .ret))) }
/-- gradus/gradusref7.Infer: number 3 -/
def ref7_Infer : AFunc := { params := [.any, .any, .any, .any, .any], results := [.tmp 10, .tmp 11], body :=
  (.seq (.region [.one ⟨some 10, .move (.c (.nil))⟩,
     .one ⟨some 11, .move (.c (.int .i64 0))⟩])
   (.seq (.seq (.region [.one ⟨some 14, .move (.t 4)⟩,
       .one ⟨some 15, .move (.t 3)⟩,
       .one ⟨some 16, .len (.t 15)⟩,
       .one ⟨some 17, .call false .any 27 [.t 14, .t 16]⟩,
       .one ⟨some 18, .un .not (.t 17)⟩,
       .one ⟨some 19, .move (.t 18)⟩,
       .grd 19 false [⟨some 20, .move (.t 0)⟩, ⟨some 21, .move (.t 1)⟩, ⟨some 22, .move (.t 2)⟩, ⟨some 23, .move (.t 3)⟩, ⟨some 24, .move (.t 4)⟩, ⟨some 25, .call false .any 63 [.t 23, .t 24]⟩, ⟨some 26, .call false .any 64 [.t 20, .t 21, .t 22, .t 25]⟩, ⟨some 27, .un .not (.t 26)⟩],
       .one ⟨some 28, .pick (.t 19) (.c (.bool true)) (.t 27)⟩])
     (.cond (.t 28) (.seq (.region [.one ⟨some 10, .move (.c (.nil))⟩,
         .one ⟨some 11, .move (.c (.int .i64 1))⟩])
       .ret)
      .skip))
    (.seq (.region [.one ⟨some 30, .move (.t 0)⟩,
       .one ⟨some 31, .move (.t 1)⟩,
       .one ⟨some 32, .move (.t 2)⟩,
       .one ⟨some 33, .move (.t 3)⟩,
       .one ⟨some 34, .move (.t 4)⟩,
       .one ⟨some 35, .call false .any 63 [.t 33, .t 34]⟩,
       .one ⟨some 36, .call false .any 65 [.t 30, .t 31, .t 32, .t 35]⟩,
       .one ⟨some 29, .move (.t 36)⟩,
       .one ⟨some 37, .extract (.t 29) 0⟩,
       .one ⟨some 38, .extract (.t 29) 1⟩,
       .one ⟨some 12, .move (.t 37)⟩,
       .one ⟨some 13, .move (.t 38)⟩])
     (.seq (.seq (.region [.one ⟨some 39, .move (.t 13)⟩,
         .one ⟨some 40, .un .not (.t 39)⟩])
       (.cond (.t 40) (.seq (.region [.one ⟨some 10, .move (.c (.nil))⟩,
           .one ⟨some 11, .move (.c (.int .i64 4))⟩])
         .ret)
        .skip))
      (.seq (.region [.one ⟨some 41, .move (.t 12)⟩,
         .one ⟨some 10, .move (.t 41)⟩,
         .one ⟨some 11, .move (.c (.int .i64 0))⟩])
       .ret))))) }
/-- gradus/graduslaw8.num: number 4 -/
def law8_num : AFunc := { params := [.any], results := [.tmp 2], body :=
  (.seq (.region [.one ⟨some 2, .move (.c (.int .i64 0))⟩])
   (.seq (.region [.one ⟨some 3, .move (.t 0)⟩,
      .one ⟨some 2, .move (.t 3)⟩])
    .ret)) }
/-- gradus/gradusref0.EqNumbers: number 5 -/
def ref0_EqNumbers_b0 : ACode :=
 (.seq (.seq (.region [.one ⟨some 11, .move (.t 5)⟩,
     .one ⟨some 12, .move (.t 0)⟩,
     .one ⟨some 13, .len (.t 12)⟩,
     .one ⟨some 14, .bin .lss 0 (.t 11) (.t 13)⟩])
   (.cond (.t 14) .skip
    (.exit 0)))
  (.seq (.block 1 (.seq (.region [.one ⟨some 17, .move (.t 0)⟩,
       .one ⟨some 18, .move (.t 5)⟩,
       .one ⟨some 19, .indexAddr 1 (.t 17) (.t 18)⟩,
       .one ⟨some 20, .load 1 false .any (.t 19)⟩,
       .one ⟨some 21, .move (.t 1)⟩,
       .one ⟨some 22, .move (.t 5)⟩,
       .one ⟨some 23, .indexAddr 1 (.t 21) (.t 22)⟩,
       .one ⟨some 24, .load 1 false .any (.t 23)⟩,
       .one ⟨some 25, .bin .neq 0 (.t 20) (.t 24)⟩])
     (.cond (.t 25) (.seq (.region [.one ⟨some 4, .move (.c (.bool false))⟩])
       .ret)
      .skip)))
   (.region [.one ⟨some 15, .move (.t 5)⟩,
     .one ⟨some 16, .bin .add 0 (.t 15) (.c (.int .i64 1))⟩,
     .one ⟨some 5, .move (.t 16)⟩])))
def ref0_EqNumbers_l0 : ACode :=
 (.loop [(0, .any), (1, .any), (5, .any)] [(0, [])] [(4, .any)] ref0_EqNumbers_b0)
def ref0_EqNumbers : AFunc := { params := [.any, .any], results := [.tmp 4], body :=
  (.seq (.region [.one ⟨some 4, .move (.c (.bool false))⟩])
   (.seq (.seq (.region [.one ⟨some 6, .move (.t 0)⟩,
       .one ⟨some 7, .len (.t 6)⟩,
       .one ⟨some 8, .move (.t 1)⟩,
       .one ⟨some 9, .len (.t 8)⟩,
       .one ⟨some 10, .bin .neq 0 (.t 7) (.t 9)⟩])
     (.cond (.t 10) (.seq (.region [.one ⟨some 4, .move (.c (.bool false))⟩])
       .ret)
      .skip))
    (.seq (.seq (.region [.one ⟨some 5, .move (.c (.int .i64 0))⟩])
      (.block 0 ref0_EqNumbers_l0))
     (.seq (.region [.one ⟨some 4, .move (.c (.bool true))⟩])
      .ret)))) }
/-- gradus/gradusref1.Dims: number 6 -/
def ref1_Dims_b0 : ACode :=
 (.seq (.seq (.region [.one ⟨some 9, .move (.t 4)⟩,
     .one ⟨some 10, .move (.t 0)⟩,
     .one ⟨some 11, .len (.t 10)⟩,
     .one ⟨some 12, .bin .lss 0 (.t 9) (.t 11)⟩])
   (.cond (.t 12) .skip
    (.exit 0)))
  (.seq (.block 1 (.seq (.seq (.region [.one ⟨some 15, .move (.t 0)⟩,
        .one ⟨some 16, .move (.t 4)⟩,
        .one ⟨some 17, .indexAddr 1 (.t 15) (.t 16)⟩,
        .one ⟨some 18, .load 1 false .any (.t 17)⟩,
        .one ⟨some 19, .call false .any 66 [.t 18, .c (.int .i64 1), .c (.int .i64 8)]⟩,
        .one ⟨some 20, .un .not (.t 19)⟩])
      (.cond (.t 20) (.seq (.region [.one ⟨some 2, .move (.c (.bool false))⟩])
        .ret)
       .skip))
     (.region [.one ⟨some 21, .move (.t 3)⟩,
       .one ⟨some 22, .move (.t 0)⟩,
       .one ⟨some 23, .move (.t 4)⟩,
       .one ⟨some 24, .indexAddr 1 (.t 22) (.t 23)⟩,
       .one ⟨some 25, .load 1 false .any (.t 24)⟩,
       .one ⟨some 26, .bin .mul 0 (.t 21) (.t 25)⟩,
       .one ⟨some 3, .move (.t 26)⟩])))
   (.region [.one ⟨some 13, .move (.t 4)⟩,
     .one ⟨some 14, .bin .add 0 (.t 13) (.c (.int .i64 1))⟩,
     .one ⟨some 4, .move (.t 14)⟩])))
def ref1_Dims_l0 : ACode :=
 (.loop [(0, .any), (3, .any), (4, .any)] [(0, [(3, .any)])] [(2, .any)] ref1_Dims_b0)
def ref1_Dims : AFunc := { params := [.any], results := [.tmp 2], body :=
  (.seq (.region [.one ⟨some 2, .move (.c (.bool false))⟩])
   (.seq (.seq (.region [.one ⟨some 5, .move (.t 0)⟩,
       .one ⟨some 6, .len (.t 5)⟩,
       .one ⟨some 7, .call false .any 66 [.t 6, .c (.int .i64 1), .c (.int .i64 3)]⟩,
       .one ⟨some 8, .un .not (.t 7)⟩])
     (.cond (.t 8) (.seq (.region [.one ⟨some 2, .move (.c (.bool false))⟩])
       .ret)
      .skip))
    (.seq (.region [.one ⟨some 3, .move (.c (.int .i64 1))⟩])
     (.seq (.seq (.region [.one ⟨some 4, .move (.c (.int .i64 0))⟩])
       (.block 0 ref1_Dims_l0))
      (.seq (.region [.one ⟨some 27, .move (.t 3)⟩,
         .one ⟨some 28, .bin .leq 0 (.t 27) (.c (.int .i64 64))⟩,
         .one ⟨some 2, .move (.t 28)⟩])
       .ret))))) }
/-- gradus/graduslaw8.wakes: number 7 -/
def law8_wakes : AFunc := { params := [], results := [.tmp 0], body :=
  (.seq (.region [.one ⟨some 0, .move (.c (.bool false))⟩])
   (.seq (.region [.one ⟨some 4, .buildSlice 1 1 [.int .i64 0] [(0, .c (.int .i64 1))]⟩,
      .one ⟨some 5, .build [.str (bs []), .int .i64 0, .nil, .nil, .int .i64 0] [(0, 1, .c (.str (bs [97]))), (1, 1, .c (.int .i64 3)), (3, 1, .t 4), (4, 1, .c (.int .i64 5))]⟩,
      .one ⟨some 6, .buildSlice 5 1 [.str (bs []), .int .i64 0, .nil, .nil, .int .i64 0] [(0, .t 5)]⟩,
      .one ⟨some 1, .move (.t 6)⟩])
    (.seq (.region [.one ⟨some 8, .move (.t 1)⟩,
       .one ⟨some 9, .call false .any 13 [.t 8]⟩,
       .one ⟨some 7, .move (.t 9)⟩,
       .one ⟨some 10, .extract (.t 7) 0⟩,
       .one ⟨some 11, .extract (.t 7) 1⟩,
       .one ⟨some 2, .move (.t 10)⟩,
       .one ⟨some 3, .move (.t 11)⟩])
     (.seq (.region [.one ⟨some 12, .move (.t 1)⟩,
        .one ⟨some 13, .call false .any 10 [.t 12]⟩,
        .one ⟨some 14, .call false .any 4 [.t 13]⟩,
        .one ⟨some 15, .bin .eql 0 (.t 14) (.c (.int .i64 0))⟩,
        .one ⟨some 16, .move (.t 15)⟩,
        .grd 16 true [⟨some 17, .move (.t 3)⟩, ⟨some 18, .call false .any 4 [.t 17]⟩, ⟨some 19, .bin .eql 0 (.t 18) (.c (.int .i64 0))⟩],
        .one ⟨some 20, .pick (.t 16) (.t 19) (.c (.bool false))⟩,
        .one ⟨some 21, .move (.t 20)⟩,
        .grd 21 true [⟨some 22, .move (.t 2)⟩, ⟨some 23, .len (.t 22)⟩, ⟨some 24, .bin .eql 0 (.t 23) (.c (.int .i64 0))⟩],
        .one ⟨some 25, .pick (.t 21) (.t 24) (.c (.bool false))⟩,
        .one ⟨some 26, .move (.t 25)⟩,
        .grd 26 true [⟨some 27, .call false .any 10 [.c (.nil)]⟩, ⟨some 28, .call false .any 4 [.t 27]⟩, ⟨some 29, .bin .eql 0 (.t 28) (.c (.int .i64 1))⟩],
        .one ⟨some 30, .pick (.t 26) (.t 29) (.c (.bool false))⟩,
        .one ⟨some 0, .move (.t 30)⟩])
      .ret)))) }
/-- gradus/gradusref0.CopyNodes: number 9 -/
def ref0_CopyNodes_b0 : ACode :=
 (.seq (.seq (.region [.one ⟨some 5, .move (.t 4)⟩,
     .one ⟨some 6, .move (.t 0)⟩,
     .one ⟨some 7, .len (.t 6)⟩,
     .one ⟨some 8, .bin .lss 0 (.t 5) (.t 7)⟩])
   (.cond (.t 8) .skip
    (.exit 0)))
  (.seq (.block 1 (.region [.one ⟨some 11, .move (.t 3)⟩,
      .one ⟨some 12, .move (.t 0)⟩,
      .one ⟨some 13, .move (.t 4)⟩,
      .one ⟨some 14, .indexAddr 5 (.t 12) (.t 13)⟩,
      .one ⟨some 15, .load 5 true .any (.t 14)⟩,
      .one ⟨some 16, .call false .any 67 [.t 15]⟩,
      .one ⟨some 17, .buildSlice 5 1 [.str (bs []), .int .i64 0, .nil, .nil, .int .i64 0] [(0, .t 16)]⟩,
      .one ⟨some 18, .append 5 80 (.t 11) (.t 17)⟩,
      .one ⟨some 3, .move (.t 18)⟩]))
   (.region [.one ⟨some 9, .move (.t 4)⟩,
     .one ⟨some 10, .bin .add 0 (.t 9) (.c (.int .i64 1))⟩,
     .one ⟨some 4, .move (.t 10)⟩])))
def ref0_CopyNodes_l0 : ACode :=
 (.loop [(0, .any), (3, .any), (4, .any)] [(0, [(3, .any)])] [] ref0_CopyNodes_b0)
def ref0_CopyNodes : AFunc := { params := [.any], results := [.tmp 2], body :=
  (.seq (.region [.one ⟨some 2, .move (.c (.nil))⟩])
   (.seq (.region [.one ⟨some 3, .move (.c (.nil))⟩])
    (.seq (.seq (.region [.one ⟨some 4, .move (.c (.int .i64 0))⟩])
      (.block 0 ref0_CopyNodes_l0))
     (.seq (.region [.one ⟨some 19, .move (.t 3)⟩,
        .one ⟨some 2, .move (.t 19)⟩])
      .ret)))) }
/-- gradus/graph.Check: number 10 -/
def graph_Check : AFunc := { params := [.any], results := [.tmp 2], body :=
  (.seq (.region [.one ⟨some 2, .move (.c (.int .i64 0))⟩])
   (.seq (.seq (.region [.one ⟨some 3, .move (.t 0)⟩,
       .one ⟨some 4, .call false .any 68 [.t 3]⟩,
       .one ⟨some 5, .un .not (.t 4)⟩])
     (.cond (.t 5) (.seq (.region [.one ⟨some 2, .move (.c (.int .i64 1))⟩])
       .ret)
      .skip))
    (.seq (.region [.one ⟨some 2, .move (.c (.int .i64 0))⟩])
     .ret))) }
/-- gradus/graph.Nodes: number 11 -/
def graph_Nodes : AFunc := { params := [.any], results := [.tmp 2], body :=
  (.seq (.region [.one ⟨some 2, .move (.c (.int .i64 0))⟩])
   (.seq (.seq (.region [.one ⟨some 3, .move (.t 0)⟩,
       .one ⟨some 4, .call false .any 61 [.t 3]⟩,
       .one ⟨some 5, .un .not (.t 4)⟩])
     (.cond (.t 5) (.seq (.region [.one ⟨some 2, .move (.c (.int .i64 1))⟩])
       .ret)
      .skip))
    (.seq (.region [.one ⟨some 2, .move (.c (.int .i64 0))⟩])
     .ret))) }
/-- gradus/graph.Leaves: number 13 -/
def graph_Leaves : AFunc := { params := [.any], results := [.tmp 2, .tmp 3], body :=
  (.seq (.region [.one ⟨some 2, .move (.c (.nil))⟩,
     .one ⟨some 3, .move (.c (.int .i64 0))⟩])
   (.seq (.seq (.region [.one ⟨some 4, .move (.t 0)⟩,
       .one ⟨some 5, .call false .any 68 [.t 4]⟩,
       .one ⟨some 6, .un .not (.t 5)⟩])
     (.cond (.t 6) (.seq (.region [.one ⟨some 2, .move (.c (.nil))⟩,
         .one ⟨some 3, .move (.c (.int .i64 1))⟩])
       .ret)
      .skip))
    (.seq (.region [.one ⟨some 7, .move (.t 0)⟩,
       .one ⟨some 8, .call false .any 69 [.t 7]⟩,
       .one ⟨some 2, .move (.t 8)⟩,
       .one ⟨some 3, .move (.c (.int .i64 0))⟩])
     .ret))) }
/-- gradus/gradusref0.Num: number 14 -/
def ref0_Num : AFunc := { params := [.any, .any], results := [.tmp 4], body :=
  (.seq (.region [.one ⟨some 4, .move (.c (.bool false))⟩])
   (.seq (.region [.one ⟨some 5, .move (.t 0)⟩,
      .one ⟨some 6, .bin .geq 0 (.t 5) (.c (.int .i64 0))⟩,
      .one ⟨some 7, .move (.t 6)⟩,
      .grd 7 true [⟨some 8, .move (.t 0)⟩, ⟨some 9, .move (.t 1)⟩, ⟨some 10, .bin .leq 0 (.t 8) (.t 9)⟩],
      .one ⟨some 11, .pick (.t 7) (.t 10) (.c (.bool false))⟩,
      .one ⟨some 4, .move (.t 11)⟩])
    .ret)) }
/-- gradus/graph.Uses: number 15 -/
def graph_Uses_b0 : ACode :=
 (.seq (.region [.one ⟨some 25, .bin .lss 0 (.t 24) (.t 23)⟩])
  (.seq (.cond (.t 25) .skip
    (.exit 1))
   (.seq (.block 2 (.seq (.region [.one ⟨some 26, .move (.t 24)⟩,
        .one ⟨some 27, .indexAddr 5 (.t 22) (.t 24)⟩,
        .one ⟨some 28, .load 5 true .any (.t 27)⟩,
        .one ⟨some 8, .alloc [.str (bs []), .int .i64 0, .nil, .nil, .int .i64 0]⟩,
        .one ⟨some 7, .move (.t 26)⟩,
        .one ⟨none, .store 5 (.t 8) (.t 28)⟩])
      (.seq (.region [.one ⟨some 29, .fieldAddr 2 (.t 8)⟩,
         .one ⟨some 30, .load 1 false .any (.t 29)⟩,
         .one ⟨some 31, .move (.t 1)⟩,
         .one ⟨some 32, .call false .any 70 [.t 30, .t 31]⟩])
       (.cond (.t 32) (.region [.one ⟨some 33, .move (.t 6)⟩,
          .one ⟨some 34, .move (.t 7)⟩,
          .one ⟨some 35, .buildSlice 1 1 [.int .i64 0] [(0, .t 34)]⟩,
          .one ⟨some 36, .append 1 8 (.t 33) (.t 35)⟩,
          .one ⟨some 6, .move (.t 36)⟩])
        .skip))))
    (.region [.one ⟨some 37, .bin .add 0 (.t 24) (.c (.int .i64 1))⟩,
      .one ⟨some 24, .move (.t 37)⟩]))))
def graph_Uses_l0 : ACode :=
 (.loop [(1, .any), (6, .any), (22, .any), (23, .any), (24, .any)] [(1, [(6, .any)])] [] graph_Uses_b0)
def graph_Uses : AFunc := { params := [.any, .any], results := [.tmp 4, .tmp 5], body :=
  (.seq (.region [.one ⟨some 4, .move (.c (.nil))⟩,
     .one ⟨some 5, .move (.c (.int .i64 0))⟩])
   (.seq (.block 0 (.seq (.region [.one ⟨some 10, .move (.t 0)⟩,
        .one ⟨some 11, .call false .any 61 [.t 10]⟩,
        .one ⟨some 12, .un .not (.t 11)⟩,
        .one ⟨some 9, .move (.t 12)⟩])
      (.cond (.t 9) (.seq (.region [.one ⟨some 4, .move (.c (.nil))⟩,
          .one ⟨some 5, .move (.c (.int .i64 1))⟩])
        .ret)
       (.seq (.region [.one ⟨some 14, .move (.t 1)⟩,
          .one ⟨some 15, .bin .lss 0 (.t 14) (.c (.int .i64 0))⟩,
          .one ⟨some 16, .move (.t 15)⟩,
          .grd 16 false [⟨some 17, .move (.t 1)⟩, ⟨some 18, .move (.t 0)⟩, ⟨some 19, .len (.t 18)⟩, ⟨some 20, .bin .geq 0 (.t 17) (.t 19)⟩],
          .one ⟨some 21, .pick (.t 16) (.c (.bool true)) (.t 20)⟩,
          .one ⟨some 13, .move (.t 21)⟩])
        (.cond (.t 13) (.seq (.region [.one ⟨some 4, .move (.c (.nil))⟩,
            .one ⟨some 5, .move (.c (.int .i64 3))⟩])
          .ret)
         .skip)))))
    (.seq (.region [.one ⟨some 6, .move (.c (.nil))⟩])
     (.seq (.seq (.region [.one ⟨some 22, .move (.t 0)⟩,
         .one ⟨some 23, .len (.t 22)⟩,
         .one ⟨some 24, .move (.c (.int .i64 0))⟩])
       (.block 1 graph_Uses_l0))
      (.seq (.region [.one ⟨some 38, .move (.t 6)⟩,
         .one ⟨some 4, .move (.t 38)⟩,
         .one ⟨some 5, .move (.c (.int .i64 0))⟩])
       .ret))))) }
/-- gradus/live.Lives: number 17 -/
def live_Lives : AFunc := { params := [.any], results := [.tmp 2, .tmp 3], body :=
  (.seq (.region [.one ⟨some 1, .box (.t 0)⟩,
     .one ⟨some 2, .move (.c (.nil))⟩,
     .one ⟨some 3, .move (.c (.int .i64 0))⟩])
   (.seq (.seq (.region [.one ⟨some 4, .load 3 true .any (.t 1)⟩,
       .one ⟨some 5, .call false .any 71 [.t 4]⟩,
       .one ⟨some 6, .un .not (.t 5)⟩])
     (.cond (.t 6) (.seq (.region [.one ⟨some 2, .move (.c (.nil))⟩,
         .one ⟨some 3, .move (.c (.int .i64 1))⟩])
       .ret)
      .skip))
    (.seq (.region [.one ⟨some 7, .load 3 true .any (.t 1)⟩,
       .one ⟨some 8, .call false .any 72 [.t 7]⟩,
       .one ⟨some 2, .move (.t 8)⟩,
       .one ⟨some 3, .move (.c (.int .i64 0))⟩])
     .ret))) }
/-- gradus/live.Peak: number 18 -/
def live_Peak : AFunc := { params := [.any], results := [.tmp 2, .tmp 3], body :=
  (.seq (.region [.one ⟨some 1, .box (.t 0)⟩,
     .one ⟨some 2, .move (.c (.int .i64 0))⟩,
     .one ⟨some 3, .move (.c (.int .i64 0))⟩])
   (.seq (.region [.one ⟨some 7, .load 3 true .any (.t 1)⟩,
      .one ⟨some 8, .call false .any 47 [.t 7]⟩,
      .one ⟨some 6, .move (.t 8)⟩,
      .one ⟨some 9, .extract (.t 6) 0⟩,
      .one ⟨some 10, .extract (.t 6) 1⟩,
      .one ⟨some 4, .move (.t 9)⟩,
      .one ⟨some 5, .move (.t 10)⟩])
    (.seq (.seq (.region [.one ⟨some 11, .move (.t 5)⟩,
        .one ⟨some 12, .bin .neq 0 (.t 11) (.c (.int .i64 0))⟩])
      (.cond (.t 12) (.seq (.region [.one ⟨some 13, .move (.t 5)⟩,
          .one ⟨some 2, .move (.c (.int .i64 0))⟩,
          .one ⟨some 3, .move (.t 13)⟩])
        .ret)
       .skip))
     (.seq (.region [.one ⟨some 14, .move (.t 4)⟩,
        .one ⟨some 15, .call false .any 73 [.t 14]⟩,
        .one ⟨some 2, .move (.t 15)⟩,
        .one ⟨some 3, .move (.c (.int .i64 0))⟩])
      .ret)))) }
/-- gradus/graduslaw13.num: number 19 -/
def law13_num : AFunc := { params := [.any], results := [.tmp 2], body :=
  (.seq (.region [.one ⟨some 2, .move (.c (.int .i64 0))⟩])
   (.seq (.region [.one ⟨some 3, .move (.t 0)⟩,
      .one ⟨some 2, .move (.t 3)⟩])
    .ret)) }
/-- gradus/live.Cone: number 20 -/
def live_Cone_b0 : ACode :=
 (.seq (.region [.one ⟨some 61, .bin .lss 0 (.t 60) (.t 59)⟩])
  (.seq (.cond (.t 61) .skip
    (.exit 3))
   (.seq (.block 4 (.seq (.region [.one ⟨some 62, .indexAddr 1 (.t 58) (.t 60)⟩,
        .one ⟨some 63, .load 1 false .any (.t 62)⟩,
        .one ⟨some 13, .move (.t 63)⟩])
      (.region [.one ⟨some 64, .move (.t 9)⟩,
        .one ⟨some 65, .move (.t 13)⟩,
        .one ⟨some 66, .move (.t 2)⟩,
        .one ⟨some 67, .move (.t 13)⟩,
        .one ⟨some 68, .call false .any 70 [.t 66, .t 67]⟩,
        .one ⟨some 69, .un .not (.t 68)⟩,
        .one ⟨some 70, .indexAddr 1 (.t 64) (.t 65)⟩,
        .one ⟨none, .store 1 (.t 70) (.t 69)⟩])))
    (.region [.one ⟨some 71, .bin .add 0 (.t 60) (.c (.int .i64 1))⟩,
      .one ⟨some 60, .move (.t 71)⟩]))))
def live_Cone_l0 : ACode :=
 (.loop [(2, .any), (3, .any), (9, .any), (10, .any), (11, .any), (58, .any), (59, .any), (60, .any)] [(3, [(2, .any), (3, .any), (9, .any), (10, .any), (11, .any)])] [] live_Cone_b0)
def live_Cone_b1 : ACode :=
 (.seq (.seq (.region [.one ⟨some 40, .move (.t 11)⟩,
     .one ⟨some 41, .bin .geq 0 (.t 40) (.c (.int .i64 0))⟩])
   (.cond (.t 41) .skip
    (.exit 1)))
  (.seq (.block 2 (.seq (.seq (.region [.one ⟨some 44, .move (.t 9)⟩,
        .one ⟨some 45, .move (.t 11)⟩,
        .one ⟨some 46, .indexAddr 1 (.t 44) (.t 45)⟩,
        .one ⟨some 47, .load 1 false .any (.t 46)⟩,
        .one ⟨some 48, .un .not (.t 47)⟩])
      (.cond (.t 48) (.exit 2)
       .skip))
     (.seq (.region [.one ⟨some 49, .move (.t 10)⟩,
        .one ⟨some 50, .move (.t 11)⟩,
        .one ⟨some 51, .buildSlice 1 1 [.int .i64 0] [(0, .t 50)]⟩,
        .one ⟨some 52, .append 1 8 (.t 49) (.t 51)⟩,
        .one ⟨some 10, .move (.t 52)⟩])
      (.seq (.region [.one ⟨some 53, .fieldAddr 0 (.t 3)⟩,
         .one ⟨some 54, .load 1 false .any (.t 53)⟩,
         .one ⟨some 55, .move (.t 11)⟩,
         .one ⟨some 56, .indexAddr 5 (.t 54) (.t 55)⟩,
         .one ⟨some 57, .fieldAddr 2 (.t 56)⟩,
         .one ⟨some 58, .load 1 false .any (.t 57)⟩,
         .one ⟨some 59, .len (.t 58)⟩,
         .one ⟨some 60, .move (.c (.int .i64 0))⟩])
       (.block 3 live_Cone_l0)))))
   (.region [.one ⟨some 42, .move (.t 11)⟩,
     .one ⟨some 43, .bin .sub 0 (.t 42) (.c (.int .i64 1))⟩,
     .one ⟨some 11, .move (.t 43)⟩])))
def live_Cone_l1 : ACode :=
 (.loop [(2, .any), (3, .any), (9, .any), (10, .any), (11, .any)] [(1, [(10, .any)])] [] live_Cone_b1)
def live_Cone : AFunc := { params := [.any, .any, .any], results := [.tmp 6, .tmp 7], body :=
  (.seq (.region [.one ⟨some 3, .box (.t 0)⟩,
     .one ⟨some 6, .move (.c (.nil))⟩,
     .one ⟨some 7, .move (.c (.int .i64 0))⟩])
   (.seq (.region [.one ⟨some 14, .mkfn 74 [.t 3]⟩,
      .one ⟨some 8, .move (.t 14)⟩])
    (.seq (.block 0 (.seq (.region [.one ⟨some 16, .load 3 true .any (.t 3)⟩,
         .one ⟨some 17, .call false .any 71 [.t 16]⟩,
         .one ⟨some 18, .un .not (.t 17)⟩,
         .one ⟨some 15, .move (.t 18)⟩])
       (.cond (.t 15) (.seq (.region [.one ⟨some 6, .move (.c (.nil))⟩,
           .one ⟨some 7, .move (.c (.int .i64 1))⟩])
         .ret)
        (.seq (.region [.one ⟨some 20, .move (.t 8)⟩,
           .one ⟨some 21, .move (.t 1)⟩,
           .one ⟨some 22, .callv false .any (.t 20) [.t 21]⟩,
           .one ⟨some 23, .move (.t 22)⟩,
           .grd 23 false [⟨some 24, .move (.t 2)⟩, ⟨some 25, .move (.t 8)⟩, ⟨some 26, .call false .any 75 [.t 24, .t 25]⟩],
           .one ⟨some 27, .pick (.t 23) (.c (.bool true)) (.t 26)⟩,
           .one ⟨some 19, .move (.t 27)⟩])
         (.cond (.t 19) (.seq (.region [.one ⟨some 6, .move (.c (.nil))⟩,
             .one ⟨some 7, .move (.c (.int .i64 3))⟩])
           .ret)
          .skip)))))
     (.seq (.region [.one ⟨some 28, .fieldAddr 0 (.t 3)⟩,
        .one ⟨some 29, .load 1 false .any (.t 28)⟩,
        .one ⟨some 30, .len (.t 29)⟩,
        .one ⟨some 31, .makeSlice 1 1 [.bool false] (.t 30)⟩,
        .one ⟨some 9, .move (.t 31)⟩])
      (.seq (.region [.one ⟨some 32, .move (.t 9)⟩,
         .one ⟨some 33, .move (.t 1)⟩,
         .one ⟨some 34, .move (.t 2)⟩,
         .one ⟨some 35, .move (.t 1)⟩,
         .one ⟨some 36, .call false .any 70 [.t 34, .t 35]⟩,
         .one ⟨some 37, .un .not (.t 36)⟩,
         .one ⟨some 38, .indexAddr 1 (.t 32) (.t 33)⟩,
         .one ⟨none, .store 1 (.t 38) (.t 37)⟩])
       (.seq (.region [.one ⟨some 10, .move (.c (.nil))⟩])
        (.seq (.seq (.region [.one ⟨some 39, .move (.t 1)⟩,
            .one ⟨some 11, .move (.t 39)⟩])
          (.block 1 live_Cone_l1))
         (.seq (.region [.one ⟨some 72, .move (.t 10)⟩,
            .one ⟨some 73, .call false .any 76 [.t 72]⟩])
          (.seq (.region [.one ⟨some 74, .move (.t 10)⟩,
             .one ⟨some 6, .move (.t 74)⟩,
             .one ⟨some 7, .move (.c (.int .i64 0))⟩])
           .ret))))))))) }
/-- gradus/graduslaw13.wakes: number 21 -/
def law13_wakes : AFunc := { params := [], results := [.tmp 0], body :=
  (.seq (.region [.one ⟨some 0, .move (.c (.bool false))⟩])
   (.seq (.region [.one ⟨some 4, .buildSlice 1 1 [.int .i64 0] [(0, .c (.int .i64 1))]⟩,
      .one ⟨some 5, .build [.str (bs []), .int .i64 0, .nil, .nil, .int .i64 0] [(1, 1, .c (.int .i64 3)), (3, 1, .t 4)]⟩,
      .one ⟨some 6, .buildSlice 5 1 [.str (bs []), .int .i64 0, .nil, .nil, .int .i64 0] [(0, .t 5)]⟩,
      .one ⟨some 7, .build [.nil, .int .i64 0, .nil] [(0, 1, .t 6)]⟩,
      .one ⟨some 1, .alloc [.nil, .int .i64 0, .nil]⟩,
      .one ⟨none, .store 3 (.t 1) (.t 7)⟩])
    (.seq (.region [.one ⟨some 9, .load 3 true .any (.t 1)⟩,
       .one ⟨some 10, .call false .any 18 [.t 9]⟩,
       .one ⟨some 8, .move (.t 10)⟩,
       .one ⟨some 11, .extract (.t 8) 0⟩,
       .one ⟨some 12, .extract (.t 8) 1⟩,
       .one ⟨some 2, .move (.t 11)⟩,
       .one ⟨some 3, .move (.t 12)⟩])
     (.seq (.region [.one ⟨some 13, .move (.t 3)⟩,
        .one ⟨some 14, .call false .any 19 [.t 13]⟩,
        .one ⟨some 15, .bin .eql 0 (.t 14) (.c (.int .i64 0))⟩,
        .one ⟨some 16, .move (.t 15)⟩,
        .grd 16 true [⟨some 17, .move (.t 2)⟩, ⟨some 18, .bin .eql 0 (.t 17) (.c (.int .i64 1))⟩],
        .one ⟨some 19, .pick (.t 16) (.t 18) (.c (.bool false))⟩,
        .one ⟨some 0, .move (.t 19)⟩])
      .ret)))) }
/-- gradus/graduslaw13.LiveChains: number 22 -/
def law13_LiveChains_b0 : ACode :=
 (.seq (.seq (.region [.one ⟨some 27, .move (.t 5)⟩,
     .one ⟨some 28, .move (.t 3)⟩,
     .one ⟨some 29, .bin .lss 0 (.t 27) (.t 28)⟩])
   (.cond (.t 29) .skip
    (.exit 0)))
  (.seq (.block 1 (.region [.one ⟨some 32, .fieldAddr 0 (.t 4)⟩,
      .one ⟨some 33, .load 1 false .any (.t 32)⟩,
      .one ⟨some 34, .move (.t 5)⟩,
      .one ⟨some 35, .bin .sub 0 (.t 34) (.c (.int .i64 1))⟩,
      .one ⟨some 36, .buildSlice 1 1 [.int .i64 0] [(0, .t 35)]⟩,
      .one ⟨some 37, .buildSlice 1 1 [.int .i64 0] [(0, .c (.int .i64 1))]⟩,
      .one ⟨some 38, .build [.str (bs []), .int .i64 0, .nil, .nil, .int .i64 0] [(1, 1, .c (.int .i64 7)), (2, 1, .t 36), (3, 1, .t 37)]⟩,
      .one ⟨some 39, .buildSlice 5 1 [.str (bs []), .int .i64 0, .nil, .nil, .int .i64 0] [(0, .t 38)]⟩,
      .one ⟨some 40, .append 5 80 (.t 33) (.t 39)⟩,
      .one ⟨some 41, .fieldAddr 0 (.t 4)⟩,
      .one ⟨none, .store 1 (.t 41) (.t 40)⟩]))
   (.region [.one ⟨some 30, .move (.t 5)⟩,
     .one ⟨some 31, .bin .add 0 (.t 30) (.c (.int .i64 1))⟩,
     .one ⟨some 5, .move (.t 31)⟩])))
def law13_LiveChains_l0 : ACode :=
 (.loop [(3, .any), (4, .any), (5, .any)] [(0, [(3, .any), (4, .any)])] [] law13_LiveChains_b0)
def law13_LiveChains_b1 : ACode :=
 (.seq (.seq (.region [.one ⟨some 70, .move (.t 10)⟩,
     .one ⟨some 71, .move (.t 3)⟩,
     .one ⟨some 72, .bin .lss 0 (.t 70) (.t 71)⟩])
   (.cond (.t 72) .skip
    (.exit 2)))
  (.seq (.block 3 (.seq (.region [.one ⟨some 75, .move (.t 10)⟩,
       .one ⟨some 76, .bin .add 0 (.t 75) (.c (.int .i64 2))⟩,
       .one ⟨some 11, .move (.t 76)⟩])
     (.seq (.seq (.region [.one ⟨some 77, .move (.t 10)⟩,
         .one ⟨some 78, .move (.t 3)⟩,
         .one ⟨some 79, .bin .sub 0 (.t 78) (.c (.int .i64 1))⟩,
         .one ⟨some 80, .bin .eql 0 (.t 77) (.t 79)⟩])
       (.cond (.t 80) (.region [.one ⟨some 81, .move (.t 3)⟩,
          .one ⟨some 11, .move (.t 81)⟩])
        .skip))
      (.seq (.region [.one ⟨some 83, .load 3 true .any (.t 4)⟩,
         .one ⟨some 84, .move (.t 3)⟩,
         .one ⟨some 85, .bin .sub 0 (.t 84) (.c (.int .i64 1))⟩,
         .one ⟨some 86, .move (.t 10)⟩,
         .one ⟨some 87, .buildSlice 1 1 [.int .i64 0] [(0, .t 86)]⟩,
         .one ⟨some 88, .call false .any 20 [.t 83, .t 85, .t 87]⟩,
         .one ⟨some 82, .move (.t 88)⟩,
         .one ⟨some 89, .extract (.t 82) 0⟩,
         .one ⟨some 90, .extract (.t 82) 1⟩,
         .one ⟨some 12, .move (.t 89)⟩,
         .one ⟨some 13, .move (.t 90)⟩])
       (.seq (.region [.one ⟨some 92, .load 3 true .any (.t 4)⟩,
          .one ⟨some 93, .move (.t 10)⟩,
          .one ⟨some 94, .call false .any 20 [.t 92, .t 93, .c (.nil)]⟩,
          .one ⟨some 91, .move (.t 94)⟩,
          .one ⟨some 95, .extract (.t 91) 0⟩,
          .one ⟨some 96, .extract (.t 91) 1⟩,
          .one ⟨some 14, .move (.t 95)⟩,
          .one ⟨some 15, .move (.t 96)⟩])
        (.seq (.region [.one ⟨some 97, .move (.t 6)⟩,
           .one ⟨some 98, .move (.t 10)⟩,
           .one ⟨some 99, .indexAddr 3 (.t 97) (.t 98)⟩,
           .one ⟨some 100, .load 3 true .any (.t 99)⟩,
           .one ⟨some 101, .move (.t 10)⟩,
           .one ⟨some 102, .move (.t 11)⟩,
           .one ⟨some 103, .build [.int .i64 0, .int .i64 0, .int .i64 0] [(0, 1, .t 101), (1, 1, .t 102), (2, 1, .c (.int .i64 1))]⟩,
           .one ⟨some 104, .bin .neq 6 (.t 100) (.t 103)⟩,
           .one ⟨some 105, .move (.t 104)⟩,
           .grd 105 false [⟨some 106, .move (.t 13)⟩, ⟨some 107, .call false .any 19 [.t 106]⟩, ⟨some 108, .bin .neq 0 (.t 107) (.c (.int .i64 0))⟩],
           .one ⟨some 109, .pick (.t 105) (.c (.bool true)) (.t 108)⟩,
           .one ⟨some 110, .move (.t 109)⟩,
           .grd 110 false [⟨some 111, .move (.t 15)⟩, ⟨some 112, .call false .any 19 [.t 111]⟩, ⟨some 113, .bin .neq 0 (.t 112) (.c (.int .i64 0))⟩],
           .one ⟨some 114, .pick (.t 110) (.c (.bool true)) (.t 113)⟩,
           .one ⟨some 115, .move (.t 114)⟩,
           .grd 115 false [⟨some 116, .move (.t 12)⟩, ⟨some 117, .len (.t 116)⟩, ⟨some 118, .move (.t 3)⟩, ⟨some 119, .bin .sub 0 (.t 118) (.c (.int .i64 1))⟩, ⟨some 120, .move (.t 10)⟩, ⟨some 121, .bin .sub 0 (.t 119) (.t 120)⟩, ⟨some 122, .bin .neq 0 (.t 117) (.t 121)⟩],
           .one ⟨some 123, .pick (.t 115) (.c (.bool true)) (.t 122)⟩,
           .one ⟨some 124, .move (.t 123)⟩,
           .grd 124 false [⟨some 125, .move (.t 14)⟩, ⟨some 126, .len (.t 125)⟩, ⟨some 127, .move (.t 10)⟩, ⟨some 128, .bin .add 0 (.t 127) (.c (.int .i64 1))⟩, ⟨some 129, .bin .neq 0 (.t 126) (.t 128)⟩],
           .one ⟨some 130, .pick (.t 124) (.c (.bool true)) (.t 129)⟩])
         (.cond (.t 130) (.seq (.region [.one ⟨some 2, .move (.c (.bool false))⟩])
           .ret)
          .skip)))))))
   (.region [.one ⟨some 73, .move (.t 10)⟩,
     .one ⟨some 74, .bin .add 0 (.t 73) (.c (.int .i64 1))⟩,
     .one ⟨some 10, .move (.t 74)⟩])))
def law13_LiveChains_l1 : ACode :=
 (.loop [(3, .any), (4, .any), (6, .any), (10, .any)] [(2, [])] [(2, .any)] law13_LiveChains_b1)
def law13_LiveChains : AFunc := { params := [.any], results := [.tmp 2], body :=
  (.seq (.region [.one ⟨some 1, .box (.t 0)⟩,
     .one ⟨some 2, .move (.c (.bool false))⟩])
   (.seq (.region [.one ⟨some 16, .fieldAddr 1 (.t 1)⟩,
      .one ⟨some 17, .load 1 false .any (.t 16)⟩,
      .one ⟨some 18, .len (.t 17)⟩,
      .one ⟨some 19, .bin .rem 0 (.t 18) (.c (.int .i64 20))⟩,
      .one ⟨some 20, .bin .add 0 (.c (.int .i64 2)) (.t 19)⟩,
      .one ⟨some 3, .move (.t 20)⟩])
    (.seq (.region [.one ⟨some 21, .buildSlice 1 1 [.int .i64 0] [(0, .c (.int .i64 1))]⟩,
       .one ⟨some 22, .build [.str (bs []), .int .i64 0, .nil, .nil, .int .i64 0] [(1, 1, .c (.int .i64 3)), (3, 1, .t 21)]⟩,
       .one ⟨some 23, .buildSlice 5 1 [.str (bs []), .int .i64 0, .nil, .nil, .int .i64 0] [(0, .t 22)]⟩,
       .one ⟨some 24, .move (.t 3)⟩,
       .one ⟨some 25, .bin .sub 0 (.t 24) (.c (.int .i64 1))⟩,
       .one ⟨some 26, .build [.nil, .int .i64 0, .nil] [(0, 1, .t 23), (1, 1, .t 25)]⟩,
       .one ⟨some 4, .alloc [.nil, .int .i64 0, .nil]⟩,
       .one ⟨none, .store 3 (.t 4) (.t 26)⟩])
     (.seq (.seq (.region [.one ⟨some 5, .move (.c (.int .i64 1))⟩])
       (.block 0 law13_LiveChains_l0))
      (.seq (.region [.one ⟨some 43, .load 3 true .any (.t 4)⟩,
         .one ⟨some 44, .call false .any 17 [.t 43]⟩,
         .one ⟨some 42, .move (.t 44)⟩,
         .one ⟨some 45, .extract (.t 42) 0⟩,
         .one ⟨some 46, .extract (.t 42) 1⟩,
         .one ⟨some 6, .move (.t 45)⟩,
         .one ⟨some 7, .move (.t 46)⟩])
       (.seq (.region [.one ⟨some 48, .load 3 true .any (.t 4)⟩,
          .one ⟨some 49, .call false .any 18 [.t 48]⟩,
          .one ⟨some 47, .move (.t 49)⟩,
          .one ⟨some 50, .extract (.t 47) 0⟩,
          .one ⟨some 51, .extract (.t 47) 1⟩,
          .one ⟨some 8, .move (.t 50)⟩,
          .one ⟨some 9, .move (.t 51)⟩])
        (.seq (.seq (.region [.one ⟨some 52, .move (.t 7)⟩,
            .one ⟨some 53, .call false .any 19 [.t 52]⟩,
            .one ⟨some 54, .bin .neq 0 (.t 53) (.c (.int .i64 0))⟩,
            .one ⟨some 55, .move (.t 54)⟩,
            .grd 55 false [⟨some 56, .move (.t 9)⟩, ⟨some 57, .call false .any 19 [.t 56]⟩, ⟨some 58, .bin .neq 0 (.t 57) (.c (.int .i64 0))⟩],
            .one ⟨some 59, .pick (.t 55) (.c (.bool true)) (.t 58)⟩,
            .one ⟨some 60, .move (.t 59)⟩,
            .grd 60 false [⟨some 61, .move (.t 6)⟩, ⟨some 62, .len (.t 61)⟩, ⟨some 63, .move (.t 3)⟩, ⟨some 64, .bin .neq 0 (.t 62) (.t 63)⟩],
            .one ⟨some 65, .pick (.t 60) (.c (.bool true)) (.t 64)⟩,
            .one ⟨some 66, .move (.t 65)⟩,
            .grd 66 false [⟨some 67, .move (.t 8)⟩, ⟨some 68, .bin .neq 0 (.t 67) (.c (.int .i64 2))⟩],
            .one ⟨some 69, .pick (.t 66) (.c (.bool true)) (.t 68)⟩])
          (.cond (.t 69) (.seq (.region [.one ⟨some 2, .move (.c (.bool false))⟩])
            .ret)
           .skip))
         (.seq (.seq (.region [.one ⟨some 10, .move (.c (.int .i64 0))⟩])
           (.block 2 law13_LiveChains_l1))
          (.seq (.region [.one ⟨some 131, .call false .any 21 []⟩,
             .one ⟨some 2, .move (.t 131)⟩])
           .ret))))))))) }
/-- gradus/graduslaw13.Heavy: number 23 -/
def law13_Heavy_b0 : ACode :=
 (.seq (.seq (.region [.one ⟨some 12, .move (.t 4)⟩,
     .one ⟨some 13, .fieldAddr 0 (.t 1)⟩,
     .one ⟨some 14, .load 1 false .any (.t 13)⟩,
     .one ⟨some 15, .len (.t 14)⟩,
     .one ⟨some 16, .bin .lss 0 (.t 12) (.t 15)⟩,
     .one ⟨some 17, .move (.t 16)⟩,
     .grd 17 true [⟨some 18, .move (.t 3)⟩, ⟨some 19, .bin .lss 0 (.t 18) (.c (.int .i64 1048576))⟩],
     .one ⟨some 20, .pick (.t 17) (.t 19) (.c (.bool false))⟩])
   (.cond (.t 20) .skip
    (.exit 0)))
  (.seq (.block 1 (.region [.one ⟨some 23, .move (.t 3)⟩,
      .one ⟨some 24, .fieldAddr 0 (.t 1)⟩,
      .one ⟨some 25, .load 1 false .any (.t 24)⟩,
      .one ⟨some 26, .move (.t 4)⟩,
      .one ⟨some 27, .indexAddr 3 (.t 25) (.t 26)⟩,
      .one ⟨some 28, .load 3 true .any (.t 27)⟩,
      .one ⟨some 29, .call false .any 77 [.t 28]⟩,
      .one ⟨some 30, .bin .add 0 (.t 23) (.t 29)⟩,
      .one ⟨some 3, .move (.t 30)⟩]))
   (.region [.one ⟨some 21, .move (.t 4)⟩,
     .one ⟨some 22, .bin .add 0 (.t 21) (.c (.int .i64 1))⟩,
     .one ⟨some 4, .move (.t 22)⟩])))
def law13_Heavy_l0 : ACode :=
 (.loop [(1, .any), (3, .any), (4, .any)] [(0, [(3, .any)])] [] law13_Heavy_b0)
def law13_Heavy : AFunc := { params := [.any], results := [.tmp 2], body :=
  (.seq (.region [.one ⟨some 1, .box (.t 0)⟩,
     .one ⟨some 2, .move (.c (.bool false))⟩])
   (.seq (.region [.one ⟨some 5, .fieldAddr 1 (.t 1)⟩,
      .one ⟨some 6, .load 1 false .any (.t 5)⟩,
      .one ⟨some 7, .len (.t 6)⟩,
      .one ⟨some 8, .fieldAddr 0 (.t 1)⟩,
      .one ⟨some 9, .load 1 false .any (.t 8)⟩,
      .one ⟨some 10, .len (.t 9)⟩,
      .one ⟨some 11, .bin .add 0 (.t 7) (.t 10)⟩,
      .one ⟨some 3, .move (.t 11)⟩])
    (.seq (.seq (.region [.one ⟨some 4, .move (.c (.int .i64 0))⟩])
      (.block 0 law13_Heavy_l0))
     (.seq (.region [.one ⟨some 31, .move (.t 3)⟩,
        .one ⟨some 32, .bin .gtr 0 (.t 31) (.c (.int .i64 2500))⟩,
        .one ⟨some 2, .move (.t 32)⟩])
      .ret)))) }
/-- gradus/gradusref12.May: number 24 -/
def ref12_May_b0 : ACode :=
 (.seq (.seq (.region [.one ⟨some 30, .move (.t 4)⟩,
     .one ⟨some 31, .fieldAddr 0 (.t 1)⟩,
     .one ⟨some 32, .load 1 false .any (.t 31)⟩,
     .one ⟨some 33, .len (.t 32)⟩,
     .one ⟨some 34, .bin .lss 0 (.t 30) (.t 33)⟩])
   (.cond (.t 34) .skip
    (.exit 0)))
  (.seq (.block 1 (.seq (.seq (.region [.one ⟨some 37, .fieldAddr 0 (.t 1)⟩,
        .one ⟨some 38, .load 1 false .any (.t 37)⟩,
        .one ⟨some 39, .move (.t 4)⟩,
        .one ⟨some 40, .indexAddr 5 (.t 38) (.t 39)⟩,
        .one ⟨some 41, .fieldAddr 1 (.t 40)⟩,
        .one ⟨some 42, .load 1 false .any (.t 41)⟩,
        .one ⟨some 43, .bin .neq 0 (.t 42) (.c (.int .i64 2))⟩])
      (.cond (.t 43) (.exit 1)
       .skip))
     (.seq (.seq (.region [.one ⟨some 44, .move (.t 3)⟩,
         .one ⟨some 45, .fieldAddr 2 (.t 1)⟩,
         .one ⟨some 46, .load 1 false .any (.t 45)⟩,
         .one ⟨some 47, .len (.t 46)⟩,
         .one ⟨some 48, .bin .geq 0 (.t 44) (.t 47)⟩,
         .one ⟨some 49, .move (.t 48)⟩,
         .grd 49 false [⟨some 50, .fieldAddr 2 (.t 1)⟩, ⟨some 51, .load 1 false .any (.t 50)⟩, ⟨some 52, .move (.t 3)⟩, ⟨some 53, .indexAddr 1 (.t 51) (.t 52)⟩, ⟨some 54, .load 1 false .any (.t 53)⟩, ⟨some 55, .fieldAddr 0 (.t 1)⟩, ⟨some 56, .load 1 false .any (.t 55)⟩, ⟨some 57, .len (.t 56)⟩, ⟨some 58, .bin .sub 0 (.t 57) (.c (.int .i64 1))⟩, ⟨some 59, .call true .any 14 [.t 54, .t 58]⟩, ⟨some 60, .un .not (.t 59)⟩],
         .one ⟨some 61, .pick (.t 49) (.c (.bool true)) (.t 60)⟩,
         .one ⟨some 62, .move (.t 61)⟩,
         .grd 62 false [⟨some 63, .fieldAddr 0 (.t 1)⟩, ⟨some 64, .load 1 false .any (.t 63)⟩, ⟨some 65, .fieldAddr 2 (.t 1)⟩, ⟨some 66, .load 1 false .any (.t 65)⟩, ⟨some 67, .move (.t 3)⟩, ⟨some 68, .indexAddr 1 (.t 66) (.t 67)⟩, ⟨some 69, .load 1 false .any (.t 68)⟩, ⟨some 70, .indexAddr 5 (.t 64) (.t 69)⟩, ⟨some 71, .fieldAddr 3 (.t 70)⟩, ⟨some 72, .load 1 false .any (.t 71)⟩, ⟨some 73, .fieldAddr 0 (.t 1)⟩, ⟨some 74, .load 1 false .any (.t 73)⟩, ⟨some 75, .move (.t 4)⟩, ⟨some 76, .indexAddr 5 (.t 74) (.t 75)⟩, ⟨some 77, .fieldAddr 3 (.t 76)⟩, ⟨some 78, .load 1 false .any (.t 77)⟩, ⟨some 79, .call true .any 5 [.t 72, .t 78]⟩, ⟨some 80, .un .not (.t 79)⟩],
         .one ⟨some 81, .pick (.t 62) (.c (.bool true)) (.t 80)⟩])
       (.cond (.t 81) (.seq (.region [.one ⟨some 2, .move (.c (.bool false))⟩])
         .ret)
        .skip))
      (.region [.one ⟨some 82, .move (.t 3)⟩,
        .one ⟨some 83, .bin .add 0 (.t 82) (.c (.int .i64 1))⟩,
        .one ⟨some 3, .move (.t 83)⟩]))))
   (.region [.one ⟨some 35, .move (.t 4)⟩,
     .one ⟨some 36, .bin .add 0 (.t 35) (.c (.int .i64 1))⟩,
     .one ⟨some 4, .move (.t 36)⟩])))
def ref12_May_l0 : ACode :=
 (.loop [(1, .any), (3, .any), (4, .any)] [(0, [(1, .any), (3, .any)])] [(2, .any)] ref12_May_b0)
def ref12_May : AFunc := { params := [.any], results := [.tmp 2], body :=
  (.seq (.region [.one ⟨some 1, .box (.t 0)⟩,
     .one ⟨some 2, .move (.c (.bool false))⟩])
   (.seq (.seq (.region [.one ⟨some 5, .fieldAddr 0 (.t 1)⟩,
       .one ⟨some 6, .load 1 false .any (.t 5)⟩,
       .one ⟨some 7, .call false .any 1 [.t 6]⟩,
       .one ⟨some 8, .un .not (.t 7)⟩,
       .one ⟨some 9, .move (.t 8)⟩,
       .grd 9 false [⟨some 10, .fieldAddr 1 (.t 1)⟩, ⟨some 11, .load 1 false .any (.t 10)⟩, ⟨some 12, .fieldAddr 0 (.t 1)⟩, ⟨some 13, .load 1 false .any (.t 12)⟩, ⟨some 14, .len (.t 13)⟩, ⟨some 15, .bin .sub 0 (.t 14) (.c (.int .i64 1))⟩, ⟨some 16, .call false .any 14 [.t 11, .t 15]⟩, ⟨some 17, .un .not (.t 16)⟩],
       .one ⟨some 18, .pick (.t 9) (.c (.bool true)) (.t 17)⟩,
       .one ⟨some 19, .move (.t 18)⟩,
       .grd 19 false [⟨some 20, .fieldAddr 0 (.t 1)⟩, ⟨some 21, .load 1 false .any (.t 20)⟩, ⟨some 22, .fieldAddr 1 (.t 1)⟩, ⟨some 23, .load 1 false .any (.t 22)⟩, ⟨some 24, .indexAddr 5 (.t 21) (.t 23)⟩, ⟨some 25, .fieldAddr 3 (.t 24)⟩, ⟨some 26, .load 1 false .any (.t 25)⟩, ⟨some 27, .call false .any 78 [.t 26]⟩, ⟨some 28, .bin .neq 0 (.t 27) (.c (.int .i64 1))⟩],
       .one ⟨some 29, .pick (.t 19) (.c (.bool true)) (.t 28)⟩])
     (.cond (.t 29) (.seq (.region [.one ⟨some 2, .move (.c (.bool false))⟩])
       .ret)
      .skip))
    (.seq (.region [.one ⟨some 3, .move (.c (.int .i64 0))⟩])
     (.seq (.seq (.region [.one ⟨some 4, .move (.c (.int .i64 0))⟩])
       (.block 0 ref12_May_l0))
      (.seq (.region [.one ⟨some 84, .move (.t 3)⟩,
         .one ⟨some 85, .fieldAddr 2 (.t 1)⟩,
         .one ⟨some 86, .load 1 false .any (.t 85)⟩,
         .one ⟨some 87, .len (.t 86)⟩,
         .one ⟨some 88, .bin .eql 0 (.t 84) (.t 87)⟩,
         .one ⟨some 2, .move (.t 88)⟩])
       .ret))))) }
/-- gradus/gradusref0.CopyNumbers: number 25 -/
def ref0_CopyNumbers_b0 : ACode :=
 (.seq (.seq (.region [.one ⟨some 5, .move (.t 4)⟩,
     .one ⟨some 6, .move (.t 0)⟩,
     .one ⟨some 7, .len (.t 6)⟩,
     .one ⟨some 8, .bin .lss 0 (.t 5) (.t 7)⟩])
   (.cond (.t 8) .skip
    (.exit 0)))
  (.seq (.block 1 (.region [.one ⟨some 11, .move (.t 3)⟩,
      .one ⟨some 12, .move (.t 0)⟩,
      .one ⟨some 13, .move (.t 4)⟩,
      .one ⟨some 14, .indexAddr 1 (.t 12) (.t 13)⟩,
      .one ⟨some 15, .load 1 false .any (.t 14)⟩,
      .one ⟨some 16, .buildSlice 1 1 [.int .i64 0] [(0, .t 15)]⟩,
      .one ⟨some 17, .append 1 8 (.t 11) (.t 16)⟩,
      .one ⟨some 3, .move (.t 17)⟩]))
   (.region [.one ⟨some 9, .move (.t 4)⟩,
     .one ⟨some 10, .bin .add 0 (.t 9) (.c (.int .i64 1))⟩,
     .one ⟨some 4, .move (.t 10)⟩])))
def ref0_CopyNumbers_l0 : ACode :=
 (.loop [(0, .any), (3, .any), (4, .any)] [(0, [(3, .any)])] [] ref0_CopyNumbers_b0)
def ref0_CopyNumbers : AFunc := { params := [.any], results := [.tmp 2], body :=
  (.seq (.region [.one ⟨some 2, .move (.c (.nil))⟩])
   (.seq (.region [.one ⟨some 3, .move (.c (.nil))⟩])
    (.seq (.seq (.region [.one ⟨some 4, .move (.c (.int .i64 0))⟩])
      (.block 0 ref0_CopyNumbers_l0))
     (.seq (.region [.one ⟨some 18, .move (.t 3)⟩,
        .one ⟨some 2, .move (.t 18)⟩])
      .ret)))) }
/-- gradus/live.Cost: number 26 -/
def live_Cost : AFunc := { params := [.any, .any, .any], results := [.tmp 6, .tmp 7], body :=
  (.seq (.region [.one ⟨some 3, .box (.t 0)⟩,
     .one ⟨some 6, .move (.c (.int .i64 0))⟩,
     .one ⟨some 7, .move (.c (.int .i64 0))⟩])
   (.seq (.region [.one ⟨some 11, .load 3 true .any (.t 3)⟩,
      .one ⟨some 12, .move (.t 1)⟩,
      .one ⟨some 13, .move (.t 2)⟩,
      .one ⟨some 14, .call false .any 20 [.t 11, .t 12, .t 13]⟩,
      .one ⟨some 10, .move (.t 14)⟩,
      .one ⟨some 15, .extract (.t 10) 0⟩,
      .one ⟨some 16, .extract (.t 10) 1⟩,
      .one ⟨some 8, .move (.t 15)⟩,
      .one ⟨some 9, .move (.t 16)⟩])
    (.seq (.region [.one ⟨some 17, .load 3 true .any (.t 3)⟩,
       .one ⟨some 18, .move (.t 8)⟩,
       .one ⟨some 19, .call false .any 79 [.t 17, .t 18]⟩,
       .one ⟨some 20, .move (.t 9)⟩,
       .one ⟨some 6, .move (.t 19)⟩,
       .one ⟨some 7, .move (.t 20)⟩])
     .ret))) }
/-- gradus/gradusref7.Args: number 27 -/
def ref7_Args_b0 : ACode :=
 (.seq (.seq (.region [.one ⟨some 6, .move (.t 5)⟩,
     .one ⟨some 7, .move (.t 0)⟩,
     .one ⟨some 8, .len (.t 7)⟩,
     .one ⟨some 9, .bin .lss 0 (.t 6) (.t 8)⟩])
   (.cond (.t 9) .skip
    (.exit 0)))
  (.seq (.block 1 (.seq (.region [.one ⟨some 12, .move (.t 0)⟩,
       .one ⟨some 13, .move (.t 5)⟩,
       .one ⟨some 14, .indexAddr 1 (.t 12) (.t 13)⟩,
       .one ⟨some 15, .load 1 false .any (.t 14)⟩,
       .one ⟨some 16, .move (.t 1)⟩,
       .one ⟨some 17, .bin .sub 0 (.t 16) (.c (.int .i64 1))⟩,
       .one ⟨some 18, .call false .any 14 [.t 15, .t 17]⟩,
       .one ⟨some 19, .un .not (.t 18)⟩])
     (.cond (.t 19) (.seq (.region [.one ⟨some 4, .move (.c (.bool false))⟩])
       .ret)
      .skip)))
   (.region [.one ⟨some 10, .move (.t 5)⟩,
     .one ⟨some 11, .bin .add 0 (.t 10) (.c (.int .i64 1))⟩,
     .one ⟨some 5, .move (.t 11)⟩])))
def ref7_Args_l0 : ACode :=
 (.loop [(0, .any), (1, .any), (5, .any)] [(0, [])] [(4, .any)] ref7_Args_b0)
def ref7_Args : AFunc := { params := [.any, .any], results := [.tmp 4], body :=
  (.seq (.region [.one ⟨some 4, .move (.c (.bool false))⟩])
   (.seq (.seq (.region [.one ⟨some 5, .move (.c (.int .i64 0))⟩])
     (.block 0 ref7_Args_l0))
    (.seq (.region [.one ⟨some 4, .move (.c (.bool true))⟩])
     .ret))) }
/-- gradus/gradusref12.Cone: number 28 -/
def ref12_Cone_b0 : ACode :=
 (.seq (.seq (.region [.one ⟨some 38, .move (.t 10)⟩,
     .one ⟨some 39, .fieldAddr 0 (.t 3)⟩,
     .one ⟨some 40, .load 1 false .any (.t 39)⟩,
     .one ⟨some 41, .move (.t 9)⟩,
     .one ⟨some 42, .indexAddr 5 (.t 40) (.t 41)⟩,
     .one ⟨some 43, .fieldAddr 2 (.t 42)⟩,
     .one ⟨some 44, .load 1 false .any (.t 43)⟩,
     .one ⟨some 45, .len (.t 44)⟩,
     .one ⟨some 46, .bin .lss 0 (.t 38) (.t 45)⟩])
   (.cond (.t 46) .skip
    (.exit 2)))
  (.seq (.block 3 (.region [.one ⟨some 49, .move (.t 7)⟩,
      .one ⟨some 50, .fieldAddr 0 (.t 3)⟩,
      .one ⟨some 51, .load 1 false .any (.t 50)⟩,
      .one ⟨some 52, .move (.t 9)⟩,
      .one ⟨some 53, .indexAddr 5 (.t 51) (.t 52)⟩,
      .one ⟨some 54, .fieldAddr 2 (.t 53)⟩,
      .one ⟨some 55, .load 1 false .any (.t 54)⟩,
      .one ⟨some 56, .move (.t 10)⟩,
      .one ⟨some 57, .indexAddr 1 (.t 55) (.t 56)⟩,
      .one ⟨some 58, .load 1 false .any (.t 57)⟩,
      .one ⟨some 59, .indexAddr 1 (.t 49) (.t 58)⟩,
      .one ⟨none, .store 1 (.t 59) (.c (.bool true))⟩]))
   (.region [.one ⟨some 47, .move (.t 10)⟩,
     .one ⟨some 48, .bin .add 0 (.t 47) (.c (.int .i64 1))⟩,
     .one ⟨some 10, .move (.t 48)⟩])))
def ref12_Cone_l0 : ACode :=
 (.loop [(2, .any), (3, .any), (7, .any), (8, .any), (9, .any), (10, .any)] [(2, [(2, .any), (3, .any), (7, .any), (8, .any), (9, .any)])] [] ref12_Cone_b0)
def ref12_Cone_b1 : ACode :=
 (.seq (.seq (.region [.one ⟨some 19, .move (.t 9)⟩,
     .one ⟨some 20, .bin .geq 0 (.t 19) (.c (.int .i64 0))⟩])
   (.cond (.t 20) .skip
    (.exit 0)))
  (.seq (.block 1 (.seq (.seq (.region [.one ⟨some 23, .move (.t 7)⟩,
        .one ⟨some 24, .move (.t 9)⟩,
        .one ⟨some 25, .indexAddr 1 (.t 23) (.t 24)⟩,
        .one ⟨some 26, .load 1 false .any (.t 25)⟩,
        .one ⟨some 27, .un .not (.t 26)⟩,
        .one ⟨some 28, .move (.t 27)⟩,
        .grd 28 false [⟨some 29, .move (.t 2)⟩, ⟨some 30, .move (.t 9)⟩, ⟨some 31, .call false .any 80 [.t 29, .t 30]⟩, ⟨some 32, .bin .geq 0 (.t 31) (.c (.int .i64 0))⟩],
        .one ⟨some 33, .pick (.t 28) (.c (.bool true)) (.t 32)⟩])
      (.cond (.t 33) (.exit 1)
       .skip))
     (.seq (.region [.one ⟨some 34, .move (.t 8)⟩,
        .one ⟨some 35, .move (.t 9)⟩,
        .one ⟨some 36, .buildSlice 1 1 [.int .i64 0] [(0, .t 35)]⟩,
        .one ⟨some 37, .append 1 8 (.t 34) (.t 36)⟩,
        .one ⟨some 8, .move (.t 37)⟩])
      (.seq (.region [.one ⟨some 10, .move (.c (.int .i64 0))⟩])
       (.block 2 ref12_Cone_l0)))))
   (.region [.one ⟨some 21, .move (.t 9)⟩,
     .one ⟨some 22, .bin .sub 0 (.t 21) (.c (.int .i64 1))⟩,
     .one ⟨some 9, .move (.t 22)⟩])))
def ref12_Cone_l1 : ACode :=
 (.loop [(2, .any), (3, .any), (7, .any), (8, .any), (9, .any)] [(0, [(8, .any)])] [] ref12_Cone_b1)
def ref12_Cone : AFunc := { params := [.any, .any, .any], results := [.tmp 6], body :=
  (.seq (.region [.one ⟨some 3, .box (.t 0)⟩,
     .one ⟨some 6, .move (.c (.nil))⟩])
   (.seq (.region [.one ⟨some 11, .fieldAddr 0 (.t 3)⟩,
      .one ⟨some 12, .load 1 false .any (.t 11)⟩,
      .one ⟨some 13, .len (.t 12)⟩,
      .one ⟨some 14, .makeSlice 1 1 [.bool false] (.t 13)⟩,
      .one ⟨some 7, .move (.t 14)⟩])
    (.seq (.region [.one ⟨some 15, .move (.t 7)⟩,
       .one ⟨some 16, .move (.t 1)⟩,
       .one ⟨some 17, .indexAddr 1 (.t 15) (.t 16)⟩,
       .one ⟨none, .store 1 (.t 17) (.c (.bool true))⟩])
     (.seq (.region [.one ⟨some 8, .move (.c (.nil))⟩])
      (.seq (.seq (.region [.one ⟨some 18, .move (.t 1)⟩,
          .one ⟨some 9, .move (.t 18)⟩])
        (.block 0 ref12_Cone_l1))
       (.seq (.region [.one ⟨some 60, .move (.t 8)⟩,
          .one ⟨some 61, .call false .any 81 [.t 60]⟩,
          .one ⟨some 6, .move (.t 61)⟩])
        .ret)))))) }
/-- gradus/gradusref12.Size: number 29 -/
def ref12_Size : AFunc := { params := [.any, .any], results := [.tmp 4], body :=
  (.seq (.region [.one ⟨some 2, .box (.t 0)⟩,
     .one ⟨some 4, .move (.c (.int .i64 0))⟩])
   (.seq (.region [.one ⟨some 5, .fieldAddr 0 (.t 2)⟩,
      .one ⟨some 6, .load 1 false .any (.t 5)⟩,
      .one ⟨some 7, .move (.t 1)⟩,
      .one ⟨some 8, .indexAddr 5 (.t 6) (.t 7)⟩,
      .one ⟨some 9, .fieldAddr 3 (.t 8)⟩,
      .one ⟨some 10, .load 1 false .any (.t 9)⟩,
      .one ⟨some 11, .call false .any 78 [.t 10]⟩,
      .one ⟨some 4, .move (.t 11)⟩])
    .ret)) }
/-- gradus/live.Profile: number 47 -/
def live_Profile_b0 : ACode :=
 (.seq (.seq (.region [.one ⟨some 24, .move (.t 7)⟩,
     .one ⟨some 25, .fieldAddr 1 (.t 6)⟩,
     .one ⟨some 26, .load 1 false .any (.t 25)⟩,
     .one ⟨some 27, .bin .lss 0 (.t 24) (.t 26)⟩])
   (.cond (.t 27) .skip
    (.exit 2)))
  (.seq (.block 3 (.region [.one ⟨some 30, .move (.t 4)⟩,
      .one ⟨some 31, .move (.t 7)⟩,
      .one ⟨some 32, .indexAddr 1 (.t 30) (.t 31)⟩,
      .one ⟨some 33, .load 1 false .any (.t 32)⟩,
      .one ⟨some 34, .fieldAddr 2 (.t 6)⟩,
      .one ⟨some 35, .load 1 false .any (.t 34)⟩,
      .one ⟨some 36, .bin .add 0 (.t 33) (.t 35)⟩,
      .one ⟨some 37, .indexAddr 1 (.t 30) (.t 31)⟩,
      .one ⟨none, .store 1 (.t 37) (.t 36)⟩]))
   (.region [.one ⟨some 28, .move (.t 7)⟩,
     .one ⟨some 29, .bin .add 0 (.t 28) (.c (.int .i64 1))⟩,
     .one ⟨some 7, .move (.t 29)⟩])))
def live_Profile_l0 : ACode :=
 (.loop [(4, .any), (6, .any), (7, .any), (16, .any), (17, .any), (18, .any)] [(2, [(4, .any), (16, .any), (17, .any), (18, .any)])] [] live_Profile_b0)
def live_Profile_b1 : ACode :=
 (.seq (.region [.one ⟨some 19, .bin .lss 0 (.t 18) (.t 17)⟩])
  (.seq (.cond (.t 19) .skip
    (.exit 0))
   (.seq (.block 1 (.seq (.region [.one ⟨some 20, .indexAddr 3 (.t 16) (.t 18)⟩,
        .one ⟨some 21, .load 3 true .any (.t 20)⟩,
        .one ⟨some 6, .alloc [.int .i64 0, .int .i64 0, .int .i64 0]⟩,
        .one ⟨none, .store 3 (.t 6) (.t 21)⟩])
      (.seq (.region [.one ⟨some 22, .fieldAddr 0 (.t 6)⟩,
         .one ⟨some 23, .load 1 false .any (.t 22)⟩,
         .one ⟨some 7, .move (.t 23)⟩])
       (.block 2 live_Profile_l0))))
    (.region [.one ⟨some 38, .bin .add 0 (.t 18) (.c (.int .i64 1))⟩,
      .one ⟨some 18, .move (.t 38)⟩]))))
def live_Profile_l1 : ACode :=
 (.loop [(4, .any), (16, .any), (17, .any), (18, .any)] [(0, [(4, .any)])] [] live_Profile_b1)
def live_Profile : AFunc := { params := [.any], results := [.tmp 2, .tmp 3], body :=
  (.seq (.region [.one ⟨some 1, .box (.t 0)⟩,
     .one ⟨some 2, .move (.c (.nil))⟩,
     .one ⟨some 3, .move (.c (.int .i64 0))⟩])
   (.seq (.seq (.region [.one ⟨some 8, .load 3 true .any (.t 1)⟩,
       .one ⟨some 9, .call false .any 71 [.t 8]⟩,
       .one ⟨some 10, .un .not (.t 9)⟩])
     (.cond (.t 10) (.seq (.region [.one ⟨some 2, .move (.c (.nil))⟩,
         .one ⟨some 3, .move (.c (.int .i64 1))⟩])
       .ret)
      .skip))
    (.seq (.region [.one ⟨some 11, .fieldAddr 0 (.t 1)⟩,
       .one ⟨some 12, .load 1 false .any (.t 11)⟩,
       .one ⟨some 13, .len (.t 12)⟩,
       .one ⟨some 14, .makeSlice 1 8 [.int .i64 0] (.t 13)⟩,
       .one ⟨some 4, .move (.t 14)⟩])
     (.seq (.seq (.region [.one ⟨some 15, .load 3 true .any (.t 1)⟩,
         .one ⟨some 16, .call false .any 72 [.t 15]⟩,
         .one ⟨some 17, .len (.t 16)⟩,
         .one ⟨some 18, .move (.c (.int .i64 0))⟩])
       (.block 0 live_Profile_l1))
      (.seq (.region [.one ⟨some 39, .move (.t 4)⟩,
         .one ⟨some 2, .move (.t 39)⟩,
         .one ⟨some 3, .move (.c (.int .i64 0))⟩])
       .ret))))) }
/-- gradus/graduslaw0.Lists: number 58 -/
def law0_Lists_b0 : ACode :=
 (.seq (.seq (.region [.one ⟨some 7, .move (.t 4)⟩,
     .one ⟨some 8, .move (.t 0)⟩,
     .one ⟨some 9, .len (.t 8)⟩,
     .one ⟨some 10, .bin .lss 0 (.t 7) (.t 9)⟩,
     .one ⟨some 11, .move (.t 10)⟩,
     .grd 11 true [⟨some 12, .move (.t 3)⟩, ⟨some 13, .bin .lss 0 (.t 12) (.c (.int .i64 1048576))⟩],
     .one ⟨some 14, .pick (.t 11) (.t 13) (.c (.bool false))⟩])
   (.cond (.t 14) .skip
    (.exit 0)))
  (.seq (.block 1 (.region [.one ⟨some 17, .move (.t 3)⟩,
      .one ⟨some 18, .move (.t 0)⟩,
      .one ⟨some 19, .move (.t 4)⟩,
      .one ⟨some 20, .indexAddr 1 (.t 18) (.t 19)⟩,
      .one ⟨some 21, .load 1 false .any (.t 20)⟩,
      .one ⟨some 22, .len (.t 21)⟩,
      .one ⟨some 23, .bin .add 0 (.t 17) (.t 22)⟩,
      .one ⟨some 3, .move (.t 23)⟩]))
   (.region [.one ⟨some 15, .move (.t 4)⟩,
     .one ⟨some 16, .bin .add 0 (.t 15) (.c (.int .i64 1))⟩,
     .one ⟨some 4, .move (.t 16)⟩])))
def law0_Lists_l0 : ACode :=
 (.loop [(0, .any), (3, .any), (4, .any)] [(0, [(3, .any)])] [] law0_Lists_b0)
def law0_Lists : AFunc := { params := [.any], results := [.tmp 2], body :=
  (.seq (.region [.one ⟨some 2, .move (.c (.int .i64 0))⟩])
   (.seq (.region [.one ⟨some 5, .move (.t 0)⟩,
      .one ⟨some 6, .len (.t 5)⟩,
      .one ⟨some 3, .move (.t 6)⟩])
    (.seq (.seq (.region [.one ⟨some 4, .move (.c (.int .i64 0))⟩])
      (.block 0 law0_Lists_l0))
     (.seq (.region [.one ⟨some 24, .move (.t 3)⟩,
        .one ⟨some 2, .move (.t 24)⟩])
      .ret)))) }
/-- gradus/graduslaw0.NodesWeight: number 59 -/
def law0_NodesWeight_b0 : ACode :=
 (.seq (.seq (.region [.one ⟨some 7, .move (.t 4)⟩,
     .one ⟨some 8, .move (.t 0)⟩,
     .one ⟨some 9, .len (.t 8)⟩,
     .one ⟨some 10, .bin .lss 0 (.t 7) (.t 9)⟩,
     .one ⟨some 11, .move (.t 10)⟩,
     .grd 11 true [⟨some 12, .move (.t 3)⟩, ⟨some 13, .bin .lss 0 (.t 12) (.c (.int .i64 1048576))⟩],
     .one ⟨some 14, .pick (.t 11) (.t 13) (.c (.bool false))⟩])
   (.cond (.t 14) .skip
    (.exit 0)))
  (.seq (.block 1 (.region [.one ⟨some 17, .move (.t 3)⟩,
      .one ⟨some 18, .move (.t 0)⟩,
      .one ⟨some 19, .move (.t 4)⟩,
      .one ⟨some 20, .indexAddr 5 (.t 18) (.t 19)⟩,
      .one ⟨some 21, .fieldAddr 2 (.t 20)⟩,
      .one ⟨some 22, .load 1 false .any (.t 21)⟩,
      .one ⟨some 23, .len (.t 22)⟩,
      .one ⟨some 24, .bin .add 0 (.t 17) (.t 23)⟩,
      .one ⟨some 25, .move (.t 0)⟩,
      .one ⟨some 26, .move (.t 4)⟩,
      .one ⟨some 27, .indexAddr 5 (.t 25) (.t 26)⟩,
      .one ⟨some 28, .fieldAddr 3 (.t 27)⟩,
      .one ⟨some 29, .load 1 false .any (.t 28)⟩,
      .one ⟨some 30, .len (.t 29)⟩,
      .one ⟨some 31, .bin .add 0 (.t 24) (.t 30)⟩,
      .one ⟨some 32, .move (.t 0)⟩,
      .one ⟨some 33, .move (.t 4)⟩,
      .one ⟨some 34, .indexAddr 5 (.t 32) (.t 33)⟩,
      .one ⟨some 35, .fieldAddr 0 (.t 34)⟩,
      .one ⟨some 36, .load 1 false .any (.t 35)⟩,
      .one ⟨some 37, .lenStr (.t 36)⟩,
      .one ⟨some 38, .bin .quo 0 (.t 37) (.c (.int .i64 8))⟩,
      .one ⟨some 39, .bin .add 0 (.t 31) (.t 38)⟩,
      .one ⟨some 3, .move (.t 39)⟩]))
   (.region [.one ⟨some 15, .move (.t 4)⟩,
     .one ⟨some 16, .bin .add 0 (.t 15) (.c (.int .i64 1))⟩,
     .one ⟨some 4, .move (.t 16)⟩])))
def law0_NodesWeight_l0 : ACode :=
 (.loop [(0, .any), (3, .any), (4, .any)] [(0, [(3, .any)])] [] law0_NodesWeight_b0)
def law0_NodesWeight : AFunc := { params := [.any], results := [.tmp 2], body :=
  (.seq (.region [.one ⟨some 2, .move (.c (.int .i64 0))⟩])
   (.seq (.region [.one ⟨some 5, .move (.t 0)⟩,
      .one ⟨some 6, .len (.t 5)⟩,
      .one ⟨some 3, .move (.t 6)⟩])
    (.seq (.seq (.region [.one ⟨some 4, .move (.c (.int .i64 0))⟩])
      (.block 0 law0_NodesWeight_l0))
     (.seq (.region [.one ⟨some 40, .move (.t 3)⟩,
        .one ⟨some 2, .move (.t 40)⟩])
      .ret)))) }
/-- gradus/gradusref7.node: number 60 -/
def ref7_node : AFunc := { params := [.any, .any], results := [.tmp 4], body :=
  (.seq (.region [.one ⟨some 4, .move (.c (.bool false))⟩])
   (.seq (.region [.one ⟨some 10, .move (.t 0)⟩,
      .one ⟨some 11, .move (.t 1)⟩,
      .one ⟨some 12, .indexAddr 5 (.t 10) (.t 11)⟩,
      .one ⟨some 13, .load 5 true .any (.t 12)⟩,
      .one ⟨some 5, .alloc [.str (bs []), .int .i64 0, .nil, .nil, .int .i64 0]⟩,
      .one ⟨none, .store 5 (.t 5) (.t 13)⟩])
    (.seq (.seq (.region [.one ⟨some 14, .fieldAddr 2 (.t 5)⟩,
        .one ⟨some 15, .load 1 false .any (.t 14)⟩,
        .one ⟨some 16, .move (.t 1)⟩,
        .one ⟨some 17, .call false .any 27 [.t 15, .t 16]⟩,
        .one ⟨some 18, .un .not (.t 17)⟩])
      (.cond (.t 18) (.seq (.region [.one ⟨some 4, .move (.c (.bool false))⟩])
        .ret)
       .skip))
     (.seq (.region [.one ⟨some 6, .move (.c (.nil))⟩])
      (.seq (.seq (.region [.one ⟨some 19, .fieldAddr 1 (.t 5)⟩,
          .one ⟨some 20, .load 1 false .any (.t 19)⟩,
          .one ⟨some 21, .call false .any 96 [.t 20]⟩])
        (.cond (.t 21) (.region [.one ⟨some 22, .fieldAddr 3 (.t 5)⟩,
           .one ⟨some 23, .load 1 false .any (.t 22)⟩,
           .one ⟨some 6, .move (.t 23)⟩])
         .skip))
       (.seq (.region [.one ⟨some 24, .move (.t 0)⟩,
          .one ⟨some 25, .fieldAddr 2 (.t 5)⟩,
          .one ⟨some 26, .load 1 false .any (.t 25)⟩,
          .one ⟨some 27, .call false .any 63 [.t 24, .t 26]⟩,
          .one ⟨some 7, .move (.t 27)⟩])
        (.seq (.seq (.region [.one ⟨some 28, .fieldAddr 1 (.t 5)⟩,
            .one ⟨some 29, .load 1 false .any (.t 28)⟩,
            .one ⟨some 30, .fieldAddr 4 (.t 5)⟩,
            .one ⟨some 31, .load 1 false .any (.t 30)⟩,
            .one ⟨some 32, .move (.t 6)⟩,
            .one ⟨some 33, .move (.t 7)⟩,
            .one ⟨some 34, .call false .any 64 [.t 29, .t 31, .t 32, .t 33]⟩,
            .one ⟨some 35, .un .not (.t 34)⟩])
          (.cond (.t 35) (.seq (.region [.one ⟨some 4, .move (.c (.bool false))⟩])
            .ret)
           .skip))
         (.seq (.region [.one ⟨some 37, .fieldAddr 1 (.t 5)⟩,
            .one ⟨some 38, .load 1 false .any (.t 37)⟩,
            .one ⟨some 39, .fieldAddr 4 (.t 5)⟩,
            .one ⟨some 40, .load 1 false .any (.t 39)⟩,
            .one ⟨some 41, .move (.t 6)⟩,
            .one ⟨some 42, .move (.t 7)⟩,
            .one ⟨some 43, .call false .any 65 [.t 38, .t 40, .t 41, .t 42]⟩,
            .one ⟨some 36, .move (.t 43)⟩,
            .one ⟨some 44, .extract (.t 36) 0⟩,
            .one ⟨some 45, .extract (.t 36) 1⟩,
            .one ⟨some 8, .move (.t 44)⟩,
            .one ⟨some 9, .move (.t 45)⟩])
          (.seq (.region [.one ⟨some 46, .move (.t 9)⟩,
             .one ⟨some 47, .move (.t 46)⟩,
             .grd 47 true [⟨some 48, .fieldAddr 3 (.t 5)⟩, ⟨some 49, .load 1 false .any (.t 48)⟩, ⟨some 50, .move (.t 8)⟩, ⟨some 51, .call false .any 5 [.t 49, .t 50]⟩],
             .one ⟨some 52, .pick (.t 47) (.t 51) (.c (.bool false))⟩,
             .one ⟨some 4, .move (.t 52)⟩])
           .ret))))))))) }
/-- gradus/graph.May: number 61 -/
def graph_May_b0 : ACode :=
 (.seq (.region [.one ⟨some 13, .bin .lss 0 (.t 12) (.t 11)⟩])
  (.seq (.cond (.t 13) .skip
    (.exit 0))
   (.seq (.block 1 (.seq (.region [.one ⟨some 14, .move (.t 12)⟩,
        .one ⟨some 15, .indexAddr 5 (.t 10) (.t 12)⟩,
        .one ⟨some 16, .load 5 true .any (.t 15)⟩,
        .one ⟨some 4, .alloc [.str (bs []), .int .i64 0, .nil, .nil, .int .i64 0]⟩,
        .one ⟨some 3, .move (.t 14)⟩,
        .one ⟨none, .store 5 (.t 4) (.t 16)⟩])
      (.seq (.region [.one ⟨some 18, .fieldAddr 1 (.t 4)⟩,
         .one ⟨some 19, .load 1 false .any (.t 18)⟩,
         .one ⟨some 20, .fieldAddr 4 (.t 4)⟩,
         .one ⟨some 21, .load 1 false .any (.t 20)⟩,
         .one ⟨some 22, .load 5 true .any (.t 4)⟩,
         .one ⟨some 23, .call true .any 97 [.t 22]⟩,
         .one ⟨some 24, .move (.t 0)⟩,
         .one ⟨some 25, .move (.t 3)⟩,
         .one ⟨some 26, .cut 5 (.t 24) none (some (.t 25))⟩,
         .one ⟨some 27, .fieldAddr 2 (.t 4)⟩,
         .one ⟨some 28, .load 1 false .any (.t 27)⟩,
         .one ⟨some 29, .call true .any 62 [.t 19, .t 21, .t 23, .t 26, .t 28]⟩,
         .one ⟨some 17, .move (.t 29)⟩,
         .one ⟨some 30, .extract (.t 17) 0⟩,
         .one ⟨some 31, .extract (.t 17) 1⟩,
         .one ⟨some 5, .move (.t 30)⟩,
         .one ⟨some 6, .move (.t 31)⟩])
       (.seq (.region [.one ⟨some 32, .move (.t 6)⟩,
          .one ⟨some 33, .bin .neq 0 (.t 32) (.c (.int .i64 0))⟩,
          .one ⟨some 34, .move (.t 33)⟩,
          .grd 34 false [⟨some 35, .move (.t 5)⟩, ⟨some 36, .fieldAddr 3 (.t 4)⟩, ⟨some 37, .load 1 false .any (.t 36)⟩, ⟨some 38, .call false .any 98 [.t 35, .t 37]⟩, ⟨some 39, .un .not (.t 38)⟩],
          .one ⟨some 40, .pick (.t 34) (.c (.bool true)) (.t 39)⟩])
        (.cond (.t 40) (.seq (.region [.one ⟨some 2, .move (.c (.bool false))⟩])
          .ret)
         .skip)))))
    (.region [.one ⟨some 41, .bin .add 0 (.t 12) (.c (.int .i64 1))⟩,
      .one ⟨some 12, .move (.t 41)⟩]))))
def graph_May_l0 : ACode :=
 (.loop [(0, .any), (10, .any), (11, .any), (12, .any)] [(0, [])] [(2, .any)] graph_May_b0)
def graph_May : AFunc := { params := [.any], results := [.tmp 2], body :=
  (.seq (.region [.one ⟨some 2, .move (.c (.bool false))⟩])
   (.seq (.seq (.region [.one ⟨some 7, .move (.t 0)⟩,
       .one ⟨some 8, .len (.t 7)⟩,
       .one ⟨some 9, .bin .gtr 0 (.t 8) (.c (.int .i64 240))⟩])
     (.cond (.t 9) (.seq (.region [.one ⟨some 2, .move (.c (.bool false))⟩])
       .ret)
      .skip))
    (.seq (.seq (.region [.one ⟨some 10, .move (.t 0)⟩,
        .one ⟨some 11, .len (.t 10)⟩,
        .one ⟨some 12, .move (.c (.int .i64 0))⟩])
      (.block 0 graph_May_l0))
     (.seq (.region [.one ⟨some 2, .move (.c (.bool true))⟩])
      .ret)))) }
/-- gradus/graph.infer: number 62 -/
def graph_infer_b0 : ACode :=
 (.seq (.region [.one ⟨some 18, .bin .lss 0 (.t 17) (.t 16)⟩])
  (.seq (.cond (.t 18) .skip
    (.exit 0))
   (.seq (.block 1 (.seq (.region [.one ⟨some 19, .indexAddr 1 (.t 15) (.t 17)⟩,
        .one ⟨some 20, .load 1 false .any (.t 19)⟩,
        .one ⟨some 14, .move (.t 20)⟩])
      (.seq (.seq (.region [.one ⟨some 21, .move (.t 14)⟩,
          .one ⟨some 22, .bin .lss 0 (.t 21) (.c (.int .i64 0))⟩,
          .one ⟨some 23, .move (.t 22)⟩,
          .grd 23 false [⟨some 24, .move (.t 14)⟩, ⟨some 25, .move (.t 3)⟩, ⟨some 26, .len (.t 25)⟩, ⟨some 27, .bin .geq 0 (.t 24) (.t 26)⟩],
          .one ⟨some 28, .pick (.t 23) (.c (.bool true)) (.t 27)⟩])
        (.cond (.t 28) (.seq (.region [.one ⟨some 10, .move (.c (.nil))⟩,
            .one ⟨some 11, .move (.c (.int .i64 1))⟩])
          .ret)
         .skip))
       (.region [.one ⟨some 29, .move (.t 12)⟩,
         .one ⟨some 30, .move (.t 3)⟩,
         .one ⟨some 31, .move (.t 14)⟩,
         .one ⟨some 32, .indexAddr 5 (.t 30) (.t 31)⟩,
         .one ⟨some 33, .fieldAddr 3 (.t 32)⟩,
         .one ⟨some 34, .load 1 false .any (.t 33)⟩,
         .one ⟨some 35, .buildSlice 1 1 [.nil] [(0, .t 34)]⟩,
         .one ⟨some 36, .append 1 24 (.t 29) (.t 35)⟩,
         .one ⟨some 12, .move (.t 36)⟩]))))
    (.region [.one ⟨some 37, .bin .add 0 (.t 17) (.c (.int .i64 1))⟩,
      .one ⟨some 17, .move (.t 37)⟩]))))
def graph_infer_l0 : ACode :=
 (.loop [(0, .any), (1, .any), (2, .any), (3, .any), (12, .any), (15, .any), (16, .any), (17, .any)] [(0, [(0, .any), (1, .any), (2, .any), (12, .any)])] [(10, .any), (11, .any)] graph_infer_b0)
def graph_infer : AFunc := { params := [.any, .any, .any, .any, .any], results := [.tmp 10, .tmp 11], body :=
  (.seq (.region [.one ⟨some 10, .move (.c (.nil))⟩,
     .one ⟨some 11, .move (.c (.int .i64 0))⟩])
   (.seq (.region [.one ⟨some 12, .move (.c (.nil))⟩])
    (.seq (.seq (.region [.one ⟨some 15, .move (.t 4)⟩,
        .one ⟨some 16, .len (.t 15)⟩,
        .one ⟨some 17, .move (.c (.int .i64 0))⟩])
      (.block 0 graph_infer_l0))
     (.seq (.region [.one ⟨some 38, .move (.t 0)⟩,
        .one ⟨some 39, .move (.t 1)⟩,
        .one ⟨some 40, .move (.t 2)⟩,
        .one ⟨some 41, .move (.t 12)⟩,
        .one ⟨some 42, .call false .any 99 [.t 38, .t 39, .t 40, .t 41]⟩,
        .one ⟨some 43, .extract (.t 42) 0⟩,
        .one ⟨some 44, .extract (.t 42) 1⟩,
        .one ⟨some 10, .move (.t 43)⟩,
        .one ⟨some 11, .move (.t 44)⟩])
      .ret)))) }
/-- gradus/gradusref7.DimsOf: number 63 -/
def ref7_DimsOf_b0 : ACode :=
 (.seq (.seq (.region [.one ⟨some 7, .move (.t 6)⟩,
     .one ⟨some 8, .move (.t 1)⟩,
     .one ⟨some 9, .len (.t 8)⟩,
     .one ⟨some 10, .bin .lss 0 (.t 7) (.t 9)⟩])
   (.cond (.t 10) .skip
    (.exit 0)))
  (.seq (.block 1 (.region [.one ⟨some 13, .move (.t 5)⟩,
      .one ⟨some 14, .move (.t 0)⟩,
      .one ⟨some 15, .move (.t 1)⟩,
      .one ⟨some 16, .move (.t 6)⟩,
      .one ⟨some 17, .indexAddr 1 (.t 15) (.t 16)⟩,
      .one ⟨some 18, .load 1 false .any (.t 17)⟩,
      .one ⟨some 19, .indexAddr 5 (.t 14) (.t 18)⟩,
      .one ⟨some 20, .fieldAddr 3 (.t 19)⟩,
      .one ⟨some 21, .load 1 false .any (.t 20)⟩,
      .one ⟨some 22, .buildSlice 1 1 [.nil] [(0, .t 21)]⟩,
      .one ⟨some 23, .append 1 24 (.t 13) (.t 22)⟩,
      .one ⟨some 5, .move (.t 23)⟩]))
   (.region [.one ⟨some 11, .move (.t 6)⟩,
     .one ⟨some 12, .bin .add 0 (.t 11) (.c (.int .i64 1))⟩,
     .one ⟨some 6, .move (.t 12)⟩])))
def ref7_DimsOf_l0 : ACode :=
 (.loop [(0, .any), (1, .any), (5, .any), (6, .any)] [(0, [(5, .any)])] [] ref7_DimsOf_b0)
def ref7_DimsOf : AFunc := { params := [.any, .any], results := [.tmp 4], body :=
  (.seq (.region [.one ⟨some 4, .move (.c (.nil))⟩])
   (.seq (.region [.one ⟨some 5, .move (.c (.nil))⟩])
    (.seq (.seq (.region [.one ⟨some 6, .move (.c (.int .i64 0))⟩])
      (.block 0 ref7_DimsOf_l0))
     (.seq (.region [.one ⟨some 24, .move (.t 5)⟩,
        .one ⟨some 4, .move (.t 24)⟩])
      .ret)))) }
/-- gradus/gradusref1.May: number 64 -/
def ref1_May_b0 : ACode :=
 (.seq (.seq (.region [.one ⟨some 20, .move (.t 9)⟩,
     .one ⟨some 21, .move (.t 3)⟩,
     .one ⟨some 22, .len (.t 21)⟩,
     .one ⟨some 23, .bin .lss 0 (.t 20) (.t 22)⟩])
   (.cond (.t 23) .skip
    (.exit 0)))
  (.seq (.block 1 (.seq (.region [.one ⟨some 26, .move (.t 3)⟩,
       .one ⟨some 27, .move (.t 9)⟩,
       .one ⟨some 28, .indexAddr 1 (.t 26) (.t 27)⟩,
       .one ⟨some 29, .load 1 false .any (.t 28)⟩,
       .one ⟨some 30, .call false .any 6 [.t 29]⟩,
       .one ⟨some 31, .un .not (.t 30)⟩])
     (.cond (.t 31) (.seq (.region [.one ⟨some 8, .move (.c (.bool false))⟩])
       .ret)
      .skip)))
   (.region [.one ⟨some 24, .move (.t 9)⟩,
     .one ⟨some 25, .bin .add 0 (.t 24) (.c (.int .i64 1))⟩,
     .one ⟨some 9, .move (.t 25)⟩])))
def ref1_May_l0 : ACode :=
 (.loop [(0, .any), (1, .any), (2, .any), (3, .any), (9, .any)] [(0, [(0, .any), (1, .any), (2, .any)])] [(8, .any)] ref1_May_b0)
def ref1_May : AFunc := { params := [.any, .any, .any, .any], results := [.tmp 8], body :=
  (.seq (.region [.one ⟨some 8, .move (.c (.bool false))⟩])
   (.seq (.seq (.region [.one ⟨some 10, .move (.t 0)⟩,
       .one ⟨some 11, .call false .any 100 [.t 10]⟩,
       .one ⟨some 12, .bin .lss 0 (.t 11) (.c (.int .i64 0))⟩,
       .one ⟨some 13, .move (.t 12)⟩,
       .grd 13 false [⟨some 14, .move (.t 3)⟩, ⟨some 15, .len (.t 14)⟩, ⟨some 16, .move (.t 0)⟩, ⟨some 17, .call false .any 100 [.t 16]⟩, ⟨some 18, .bin .neq 0 (.t 15) (.t 17)⟩],
       .one ⟨some 19, .pick (.t 13) (.c (.bool true)) (.t 18)⟩])
     (.cond (.t 19) (.seq (.region [.one ⟨some 8, .move (.c (.bool false))⟩])
       .ret)
      .skip))
    (.seq (.seq (.region [.one ⟨some 9, .move (.c (.int .i64 0))⟩])
      (.block 0 ref1_May_l0))
     (.seq (.seq (.region [.one ⟨some 32, .move (.t 0)⟩,
         .one ⟨some 33, .call false .any 96 [.t 32]⟩,
         .one ⟨some 34, .move (.t 33)⟩,
         .grd 34 true [⟨some 35, .move (.t 2)⟩, ⟨some 36, .call false .any 6 [.t 35]⟩, ⟨some 37, .un .not (.t 36)⟩],
         .one ⟨some 38, .pick (.t 34) (.t 37) (.c (.bool false))⟩,
         .one ⟨some 39, .move (.t 38)⟩,
         .grd 39 false [⟨some 40, .move (.t 0)⟩, ⟨some 41, .call false .any 96 [.t 40]⟩, ⟨some 42, .un .not (.t 41)⟩, ⟨some 43, .move (.t 42)⟩],
         .grd 43 true [⟨some 44, .move (.t 2)⟩, ⟨some 45, .len (.t 44)⟩, ⟨some 46, .bin .gtr 0 (.t 45) (.c (.int .i64 0))⟩],
         .grd 39 false [⟨some 47, .pick (.t 43) (.t 46) (.c (.bool false))⟩],
         .one ⟨some 48, .pick (.t 39) (.c (.bool true)) (.t 47)⟩])
       (.cond (.t 48) (.seq (.region [.one ⟨some 8, .move (.c (.bool false))⟩])
         .ret)
        .skip))
      (.seq (.seq (.region [.one ⟨some 49, .move (.t 0)⟩])
        (.block 2 (.seq (.seq (.region [.one ⟨some 51, .bin .eql 0 (.t 49) (.c (.int .i64 3))⟩,
             .one ⟨some 50, .move (.t 51)⟩])
           (.cond (.t 50) .skip
            (.region [.one ⟨some 52, .bin .eql 0 (.t 49) (.c (.int .i64 8))⟩,
              .one ⟨some 50, .move (.t 52)⟩])))
          (.cond (.t 50) (.seq (.region [.one ⟨some 8, .move (.c (.bool true))⟩])
            .ret)
           (.seq (.seq (.region [.one ⟨some 54, .bin .eql 0 (.t 49) (.c (.int .i64 15))⟩,
               .one ⟨some 53, .move (.t 54)⟩])
             (.cond (.t 53) .skip
              (.region [.one ⟨some 55, .bin .eql 0 (.t 49) (.c (.int .i64 17))⟩,
                .one ⟨some 53, .move (.t 55)⟩])))
            (.cond (.t 53) (.seq (.region [.one ⟨some 56, .move (.t 1)⟩,
                .one ⟨some 57, .call false .any 66 [.t 56, .c (.int .i64 1), .c (.int .i64 8)]⟩,
                .one ⟨some 8, .move (.t 57)⟩])
              .ret)
             .skip))))))
       (.seq (.region [.one ⟨some 58, .move (.t 1)⟩,
          .one ⟨some 59, .bin .eql 0 (.t 58) (.c (.int .i64 0))⟩,
          .one ⟨some 8, .move (.t 59)⟩])
        .ret)))))) }
/-- gradus/gradusref1.Infer: number 65 -/
def ref1_Infer : AFunc := { params := [.any, .any, .any, .any], results := [.tmp 8, .tmp 9], body :=
  (.seq (.region [.one ⟨some 8, .move (.c (.nil))⟩,
     .one ⟨some 9, .move (.c (.bool false))⟩])
   (.seq (.seq (.region [.one ⟨some 11, .move (.t 0)⟩])
     (.block 0 (.seq (.seq (.region [.one ⟨some 13, .bin .eql 0 (.t 11) (.c (.int .i64 1))⟩,
          .one ⟨some 12, .move (.t 13)⟩])
        (.cond (.t 12) .skip
         (.seq (.region [.one ⟨some 14, .bin .eql 0 (.t 11) (.c (.int .i64 2))⟩,
            .one ⟨some 12, .move (.t 14)⟩])
          (.cond (.t 12) .skip
           (.region [.one ⟨some 15, .bin .eql 0 (.t 11) (.c (.int .i64 3))⟩,
             .one ⟨some 12, .move (.t 15)⟩])))))
       (.cond (.t 12) (.seq (.region [.one ⟨some 16, .move (.t 2)⟩,
           .one ⟨some 17, .call false .any 25 [.t 16]⟩,
           .one ⟨some 8, .move (.t 17)⟩,
           .one ⟨some 9, .move (.c (.bool true))⟩])
         .ret)
        (.seq (.seq (.region [.one ⟨some 19, .bin .eql 0 (.t 11) (.c (.int .i64 4))⟩,
            .one ⟨some 18, .move (.t 19)⟩])
          (.cond (.t 18) .skip
           (.seq (.region [.one ⟨some 20, .bin .eql 0 (.t 11) (.c (.int .i64 5))⟩,
              .one ⟨some 18, .move (.t 20)⟩])
            (.cond (.t 18) .skip
             (.seq (.region [.one ⟨some 21, .bin .eql 0 (.t 11) (.c (.int .i64 6))⟩,
                .one ⟨some 18, .move (.t 21)⟩])
              (.cond (.t 18) .skip
               (.region [.one ⟨some 22, .bin .eql 0 (.t 11) (.c (.int .i64 16))⟩,
                 .one ⟨some 18, .move (.t 22)⟩])))))))
         (.cond (.t 18) (.seq (.region [.one ⟨some 23, .move (.t 3)⟩,
             .one ⟨some 24, .indexAddr 1 (.t 23) (.c (.int .i64 0))⟩,
             .one ⟨some 25, .load 1 false .any (.t 24)⟩,
             .one ⟨some 26, .call true .any 25 [.t 25]⟩,
             .one ⟨some 27, .move (.t 3)⟩,
             .one ⟨some 28, .indexAddr 1 (.t 27) (.c (.int .i64 0))⟩,
             .one ⟨some 29, .load 1 false .any (.t 28)⟩,
             .one ⟨some 30, .move (.t 3)⟩,
             .one ⟨some 31, .indexAddr 1 (.t 30) (.c (.int .i64 1))⟩,
             .one ⟨some 32, .load 1 false .any (.t 31)⟩,
             .one ⟨some 33, .call true .any 5 [.t 29, .t 32]⟩,
             .one ⟨some 8, .move (.t 26)⟩,
             .one ⟨some 9, .move (.t 33)⟩])
           .ret)
          (.seq (.region [.one ⟨some 35, .bin .eql 0 (.t 11) (.c (.int .i64 9))⟩,
             .one ⟨some 34, .move (.t 35)⟩])
           (.cond (.t 34) (.seq (.seq (.region [.one ⟨some 36, .move (.t 3)⟩,
                .one ⟨some 37, .indexAddr 1 (.t 36) (.c (.int .i64 0))⟩,
                .one ⟨some 38, .load 1 false .any (.t 37)⟩,
                .one ⟨some 39, .len (.t 38)⟩,
                .one ⟨some 40, .bin .neq 0 (.t 39) (.c (.int .i64 2))⟩,
                .one ⟨some 41, .move (.t 40)⟩,
                .grd 41 false [⟨some 42, .move (.t 3)⟩, ⟨some 43, .indexAddr 1 (.t 42) (.c (.int .i64 1))⟩, ⟨some 44, .load 1 false .any (.t 43)⟩, ⟨some 45, .len (.t 44)⟩, ⟨some 46, .bin .neq 0 (.t 45) (.c (.int .i64 2))⟩],
                .one ⟨some 47, .pick (.t 41) (.c (.bool true)) (.t 46)⟩,
                .one ⟨some 48, .move (.t 47)⟩,
                .grd 48 false [⟨some 49, .move (.t 3)⟩, ⟨some 50, .indexAddr 1 (.t 49) (.c (.int .i64 0))⟩, ⟨some 51, .load 1 false .any (.t 50)⟩, ⟨some 52, .indexAddr 1 (.t 51) (.c (.int .i64 1))⟩, ⟨some 53, .load 1 false .any (.t 52)⟩, ⟨some 54, .move (.t 3)⟩, ⟨some 55, .indexAddr 1 (.t 54) (.c (.int .i64 1))⟩, ⟨some 56, .load 1 false .any (.t 55)⟩, ⟨some 57, .indexAddr 1 (.t 56) (.c (.int .i64 0))⟩, ⟨some 58, .load 1 false .any (.t 57)⟩, ⟨some 59, .bin .neq 0 (.t 53) (.t 58)⟩],
                .one ⟨some 60, .pick (.t 48) (.c (.bool true)) (.t 59)⟩])
              (.cond (.t 60) (.seq (.region [.one ⟨some 8, .move (.c (.nil))⟩,
                  .one ⟨some 9, .move (.c (.bool false))⟩])
                .ret)
               .skip))
             (.seq (.region [.one ⟨some 61, .move (.t 3)⟩,
                .one ⟨some 62, .indexAddr 1 (.t 61) (.c (.int .i64 0))⟩,
                .one ⟨some 63, .load 1 false .any (.t 62)⟩,
                .one ⟨some 64, .indexAddr 1 (.t 63) (.c (.int .i64 0))⟩,
                .one ⟨some 65, .load 1 false .any (.t 64)⟩,
                .one ⟨some 66, .move (.t 3)⟩,
                .one ⟨some 67, .indexAddr 1 (.t 66) (.c (.int .i64 1))⟩,
                .one ⟨some 68, .load 1 false .any (.t 67)⟩,
                .one ⟨some 69, .indexAddr 1 (.t 68) (.c (.int .i64 1))⟩,
                .one ⟨some 70, .load 1 false .any (.t 69)⟩,
                .one ⟨some 71, .buildSlice 1 2 [.int .i64 0] [(0, .t 65), (1, .t 70)]⟩,
                .one ⟨some 8, .move (.t 71)⟩,
                .one ⟨some 9, .move (.c (.bool true))⟩])
              .ret))
            (.seq (.region [.one ⟨some 73, .bin .eql 0 (.t 11) (.c (.int .i64 10))⟩,
               .one ⟨some 72, .move (.t 73)⟩])
             (.cond (.t 72) (.seq (.seq (.region [.one ⟨some 74, .move (.t 3)⟩,
                  .one ⟨some 75, .indexAddr 1 (.t 74) (.c (.int .i64 0))⟩,
                  .one ⟨some 76, .load 1 false .any (.t 75)⟩,
                  .one ⟨some 77, .len (.t 76)⟩,
                  .one ⟨some 78, .bin .neq 0 (.t 77) (.c (.int .i64 2))⟩])
                (.cond (.t 78) (.seq (.region [.one ⟨some 8, .move (.c (.nil))⟩,
                    .one ⟨some 9, .move (.c (.bool false))⟩])
                  .ret)
                 .skip))
               (.seq (.region [.one ⟨some 79, .move (.t 3)⟩,
                  .one ⟨some 80, .indexAddr 1 (.t 79) (.c (.int .i64 0))⟩,
                  .one ⟨some 81, .load 1 false .any (.t 80)⟩,
                  .one ⟨some 82, .indexAddr 1 (.t 81) (.c (.int .i64 1))⟩,
                  .one ⟨some 83, .load 1 false .any (.t 82)⟩,
                  .one ⟨some 84, .move (.t 3)⟩,
                  .one ⟨some 85, .indexAddr 1 (.t 84) (.c (.int .i64 0))⟩,
                  .one ⟨some 86, .load 1 false .any (.t 85)⟩,
                  .one ⟨some 87, .indexAddr 1 (.t 86) (.c (.int .i64 0))⟩,
                  .one ⟨some 88, .load 1 false .any (.t 87)⟩,
                  .one ⟨some 89, .buildSlice 1 2 [.int .i64 0] [(0, .t 83), (1, .t 88)]⟩,
                  .one ⟨some 8, .move (.t 89)⟩,
                  .one ⟨some 9, .move (.c (.bool true))⟩])
                .ret))
              (.seq (.region [.one ⟨some 91, .bin .eql 0 (.t 11) (.c (.int .i64 11))⟩,
                 .one ⟨some 90, .move (.t 91)⟩])
               (.cond (.t 90) (.seq (.region [.one ⟨some 92, .move (.t 2)⟩,
                   .one ⟨some 93, .call true .any 25 [.t 92]⟩,
                   .one ⟨some 94, .move (.t 2)⟩,
                   .one ⟨some 95, .call true .any 78 [.t 94]⟩,
                   .one ⟨some 96, .move (.t 3)⟩,
                   .one ⟨some 97, .indexAddr 1 (.t 96) (.c (.int .i64 0))⟩,
                   .one ⟨some 98, .load 1 false .any (.t 97)⟩,
                   .one ⟨some 99, .call true .any 78 [.t 98]⟩,
                   .one ⟨some 100, .bin .eql 0 (.t 95) (.t 99)⟩,
                   .one ⟨some 8, .move (.t 93)⟩,
                   .one ⟨some 9, .move (.t 100)⟩])
                 .ret)
                (.seq (.region [.one ⟨some 102, .bin .eql 0 (.t 11) (.c (.int .i64 12))⟩,
                   .one ⟨some 101, .move (.t 102)⟩])
                 (.cond (.t 101) (.seq (.region [.one ⟨some 103, .move (.t 2)⟩,
                     .one ⟨some 104, .call true .any 25 [.t 103]⟩,
                     .one ⟨some 105, .move (.t 3)⟩,
                     .one ⟨some 106, .indexAddr 1 (.t 105) (.c (.int .i64 0))⟩,
                     .one ⟨some 107, .load 1 false .any (.t 106)⟩,
                     .one ⟨some 108, .move (.t 2)⟩,
                     .one ⟨some 109, .call true .any 101 [.t 107, .t 108]⟩,
                     .one ⟨some 8, .move (.t 104)⟩,
                     .one ⟨some 9, .move (.t 109)⟩])
                   .ret)
                  (.seq (.region [.one ⟨some 111, .bin .eql 0 (.t 11) (.c (.int .i64 13))⟩,
                     .one ⟨some 110, .move (.t 111)⟩])
                   (.cond (.t 110) (.seq (.region [.one ⟨some 112, .move (.t 2)⟩,
                       .one ⟨some 113, .call true .any 25 [.t 112]⟩,
                       .one ⟨some 114, .move (.t 2)⟩,
                       .one ⟨some 115, .move (.t 3)⟩,
                       .one ⟨some 116, .indexAddr 1 (.t 115) (.c (.int .i64 0))⟩,
                       .one ⟨some 117, .load 1 false .any (.t 116)⟩,
                       .one ⟨some 118, .call true .any 101 [.t 114, .t 117]⟩,
                       .one ⟨some 8, .move (.t 113)⟩,
                       .one ⟨some 9, .move (.t 118)⟩])
                     .ret)
                    (.seq (.seq (.region [.one ⟨some 120, .bin .eql 0 (.t 11) (.c (.int .i64 15))⟩,
                        .one ⟨some 119, .move (.t 120)⟩])
                      (.cond (.t 119) .skip
                       (.region [.one ⟨some 121, .bin .eql 0 (.t 11) (.c (.int .i64 17))⟩,
                         .one ⟨some 119, .move (.t 121)⟩])))
                     (.cond (.t 119) (.seq (.seq (.region [.one ⟨some 122, .move (.t 3)⟩,
                          .one ⟨some 123, .indexAddr 1 (.t 122) (.c (.int .i64 0))⟩,
                          .one ⟨some 124, .load 1 false .any (.t 123)⟩,
                          .one ⟨some 125, .move (.t 3)⟩,
                          .one ⟨some 126, .indexAddr 1 (.t 125) (.c (.int .i64 0))⟩,
                          .one ⟨some 127, .load 1 false .any (.t 126)⟩,
                          .one ⟨some 128, .len (.t 127)⟩,
                          .one ⟨some 129, .bin .sub 0 (.t 128) (.c (.int .i64 1))⟩,
                          .one ⟨some 130, .indexAddr 1 (.t 124) (.t 129)⟩,
                          .one ⟨some 131, .load 1 false .any (.t 130)⟩,
                          .one ⟨some 132, .move (.t 1)⟩,
                          .one ⟨some 133, .bin .rem 0 (.t 131) (.t 132)⟩,
                          .one ⟨some 134, .bin .neq 0 (.t 133) (.c (.int .i64 0))⟩])
                        (.cond (.t 134) (.seq (.region [.one ⟨some 8, .move (.c (.nil))⟩,
                            .one ⟨some 9, .move (.c (.bool false))⟩])
                          .ret)
                         .skip))
                       (.seq (.region [.one ⟨some 135, .move (.t 3)⟩,
                          .one ⟨some 136, .indexAddr 1 (.t 135) (.c (.int .i64 0))⟩,
                          .one ⟨some 137, .load 1 false .any (.t 136)⟩,
                          .one ⟨some 138, .move (.t 1)⟩,
                          .one ⟨some 139, .call false .any 102 [.t 137, .t 138]⟩,
                          .one ⟨some 10, .move (.t 139)⟩])
                        (.seq (.seq (.region [.one ⟨some 140, .move (.t 0)⟩,
                            .one ⟨some 141, .bin .eql 0 (.t 140) (.c (.int .i64 15))⟩])
                          (.cond (.t 141) (.seq (.region [.one ⟨some 142, .move (.t 10)⟩,
                              .one ⟨some 8, .move (.t 142)⟩,
                              .one ⟨some 9, .move (.c (.bool true))⟩])
                            .ret)
                           .skip))
                         (.seq (.region [.one ⟨some 143, .move (.t 3)⟩,
                            .one ⟨some 144, .indexAddr 1 (.t 143) (.c (.int .i64 0))⟩,
                            .one ⟨some 145, .load 1 false .any (.t 144)⟩,
                            .one ⟨some 146, .call true .any 25 [.t 145]⟩,
                            .one ⟨some 147, .move (.t 10)⟩,
                            .one ⟨some 148, .move (.t 3)⟩,
                            .one ⟨some 149, .indexAddr 1 (.t 148) (.c (.int .i64 1))⟩,
                            .one ⟨some 150, .load 1 false .any (.t 149)⟩,
                            .one ⟨some 151, .call true .any 5 [.t 147, .t 150]⟩,
                            .one ⟨some 8, .move (.t 146)⟩,
                            .one ⟨some 9, .move (.t 151)⟩])
                          .ret))))
                      .skip))))))))))))))))))
    (.seq (.region [.one ⟨some 152, .move (.t 3)⟩,
       .one ⟨some 153, .indexAddr 1 (.t 152) (.c (.int .i64 0))⟩,
       .one ⟨some 154, .load 1 false .any (.t 153)⟩,
       .one ⟨some 155, .call false .any 25 [.t 154]⟩,
       .one ⟨some 8, .move (.t 155)⟩,
       .one ⟨some 9, .move (.c (.bool true))⟩])
     .ret))) }
/-- gradus/gradusref0.Between: number 66 -/
def ref0_Between : AFunc := { params := [.any, .any, .any], results := [.tmp 6], body :=
  (.seq (.region [.one ⟨some 6, .move (.c (.bool false))⟩])
   (.seq (.region [.one ⟨some 7, .move (.t 0)⟩,
      .one ⟨some 8, .move (.t 1)⟩,
      .one ⟨some 9, .bin .geq 0 (.t 7) (.t 8)⟩,
      .one ⟨some 10, .move (.t 9)⟩,
      .grd 10 true [⟨some 11, .move (.t 0)⟩, ⟨some 12, .move (.t 2)⟩, ⟨some 13, .bin .leq 0 (.t 11) (.t 12)⟩],
      .one ⟨some 14, .pick (.t 10) (.t 13) (.c (.bool false))⟩,
      .one ⟨some 6, .move (.t 14)⟩])
    .ret)) }
/-- gradus/gradusref0.CopyNode: number 67 -/
def ref0_CopyNode : AFunc := { params := [.any], results := [.cell 2 5 true], body :=
  (.seq (.region [.one ⟨some 1, .box (.t 0)⟩,
     .one ⟨some 2, .alloc [.str (bs []), .int .i64 0, .nil, .nil, .int .i64 0]⟩])
   (.seq (.region [.one ⟨some 4, .load 5 true .any (.t 1)⟩,
      .one ⟨some 3, .alloc [.str (bs []), .int .i64 0, .nil, .nil, .int .i64 0]⟩,
      .one ⟨none, .store 5 (.t 3) (.t 4)⟩])
    (.seq (.region [.one ⟨some 5, .fieldAddr 2 (.t 1)⟩,
       .one ⟨some 6, .load 1 false .any (.t 5)⟩,
       .one ⟨some 7, .call false .any 25 [.t 6]⟩,
       .one ⟨some 8, .fieldAddr 2 (.t 3)⟩,
       .one ⟨none, .store 1 (.t 8) (.t 7)⟩])
     (.seq (.region [.one ⟨some 9, .fieldAddr 3 (.t 1)⟩,
        .one ⟨some 10, .load 1 false .any (.t 9)⟩,
        .one ⟨some 11, .call false .any 25 [.t 10]⟩,
        .one ⟨some 12, .fieldAddr 3 (.t 3)⟩,
        .one ⟨none, .store 1 (.t 12) (.t 11)⟩])
      (.seq (.region [.one ⟨some 13, .load 5 true .any (.t 3)⟩,
         .one ⟨none, .store 5 (.t 2) (.t 13)⟩])
       .ret))))) }
/-- gradus/graph.Is: number 68 -/
def graph_Is : AFunc := { params := [.any], results := [.tmp 2], body :=
  (.seq (.region [.one ⟨some 2, .move (.c (.bool false))⟩])
   (.seq (.seq (.region [.one ⟨some 4, .move (.t 0)⟩,
       .one ⟨some 5, .len (.t 4)⟩,
       .one ⟨some 6, .bin .lss 0 (.t 5) (.c (.int .i64 1))⟩,
       .one ⟨some 7, .move (.t 6)⟩,
       .grd 7 false [⟨some 8, .move (.t 0)⟩, ⟨some 9, .len (.t 8)⟩, ⟨some 10, .bin .gtr 0 (.t 9) (.c (.int .i64 24))⟩],
       .one ⟨some 11, .pick (.t 7) (.c (.bool true)) (.t 10)⟩,
       .one ⟨some 12, .move (.t 11)⟩,
       .grd 12 false [⟨some 13, .move (.t 0)⟩, ⟨some 14, .call false .any 61 [.t 13]⟩, ⟨some 15, .un .not (.t 14)⟩],
       .one ⟨some 16, .pick (.t 12) (.c (.bool true)) (.t 15)⟩,
       .one ⟨some 17, .move (.t 16)⟩,
       .grd 17 false [⟨some 18, .move (.t 0)⟩, ⟨some 19, .call false .any 103 [.t 18]⟩, ⟨some 20, .un .not (.t 19)⟩],
       .one ⟨some 21, .pick (.t 17) (.c (.bool true)) (.t 20)⟩])
     (.cond (.t 21) (.seq (.region [.one ⟨some 2, .move (.c (.bool false))⟩])
       .ret)
      .skip))
    (.seq (.region [.one ⟨some 3, .move (.c (.fn 104 []))⟩])
     (.seq (.region [.one ⟨some 22, .move (.t 0)⟩,
        .one ⟨some 23, .move (.t 3)⟩,
        .one ⟨some 24, .call false .any 105 [.t 22, .t 23]⟩,
        .one ⟨some 25, .un .not (.t 24)⟩,
        .one ⟨some 26, .move (.t 25)⟩,
        .grd 26 true [⟨some 27, .move (.t 0)⟩, ⟨some 28, .move (.t 0)⟩, ⟨some 29, .len (.t 28)⟩, ⟨some 30, .bin .sub 0 (.t 29) (.c (.int .i64 1))⟩, ⟨some 31, .indexAddr 5 (.t 27) (.t 30)⟩, ⟨some 32, .fieldAddr 3 (.t 31)⟩, ⟨some 33, .load 1 false .any (.t 32)⟩, ⟨some 34, .call false .any 106 [.t 33]⟩, ⟨some 35, .bin .eql 0 (.t 34) (.c (.int .i64 1))⟩],
        .one ⟨some 36, .pick (.t 26) (.t 35) (.c (.bool false))⟩,
        .one ⟨some 2, .move (.t 36)⟩])
      .ret)))) }
/-- gradus/graph.Ends: number 69 -/
def graph_Ends_b0 : ACode :=
 (.seq (.region [.one ⟨some 16, .bin .lss 0 (.t 15) (.t 14)⟩])
  (.seq (.cond (.t 16) .skip
    (.exit 2))
   (.seq (.block 3 (.seq (.region [.one ⟨some 17, .move (.t 15)⟩,
        .one ⟨some 18, .indexAddr 5 (.t 13) (.t 15)⟩,
        .one ⟨some 19, .load 5 true .any (.t 18)⟩,
        .one ⟨some 6, .alloc [.str (bs []), .int .i64 0, .nil, .nil, .int .i64 0]⟩,
        .one ⟨some 5, .move (.t 17)⟩,
        .one ⟨none, .store 5 (.t 6) (.t 19)⟩])
      (.seq (.region [.one ⟨some 20, .fieldAddr 1 (.t 6)⟩,
         .one ⟨some 21, .load 1 false .any (.t 20)⟩,
         .one ⟨some 22, .move (.t 4)⟩,
         .one ⟨some 23, .bin .eql 0 (.t 21) (.t 22)⟩])
       (.cond (.t 23) (.region [.one ⟨some 24, .move (.t 2)⟩,
          .one ⟨some 25, .move (.t 5)⟩,
          .one ⟨some 26, .buildSlice 1 1 [.int .i64 0] [(0, .t 25)]⟩,
          .one ⟨some 27, .append 1 8 (.t 24) (.t 26)⟩,
          .one ⟨some 2, .move (.t 27)⟩])
        .skip))))
    (.region [.one ⟨some 28, .bin .add 0 (.t 15) (.c (.int .i64 1))⟩,
      .one ⟨some 15, .move (.t 28)⟩]))))
def graph_Ends_l0 : ACode :=
 (.loop [(0, .any), (2, .any), (4, .any), (7, .any), (8, .any), (9, .any), (13, .any), (14, .any), (15, .any)] [(2, [(0, .any), (2, .any), (7, .any), (8, .any), (9, .any)])] [] graph_Ends_b0)
def graph_Ends_b1 : ACode :=
 (.seq (.region [.one ⟨some 10, .bin .lss 0 (.t 9) (.t 8)⟩])
  (.seq (.cond (.t 10) .skip
    (.exit 0))
   (.seq (.block 1 (.seq (.region [.one ⟨some 11, .indexAddr 1 (.t 7) (.t 9)⟩,
        .one ⟨some 12, .load 1 false .any (.t 11)⟩,
        .one ⟨some 4, .move (.t 12)⟩])
      (.seq (.region [.one ⟨some 13, .move (.t 0)⟩,
         .one ⟨some 14, .len (.t 13)⟩,
         .one ⟨some 15, .move (.c (.int .i64 0))⟩])
       (.block 2 graph_Ends_l0))))
    (.region [.one ⟨some 29, .bin .add 0 (.t 9) (.c (.int .i64 1))⟩,
      .one ⟨some 9, .move (.t 29)⟩]))))
def graph_Ends_l1 : ACode :=
 (.loop [(0, .any), (2, .any), (7, .any), (8, .any), (9, .any)] [(0, [(2, .any)])] [] graph_Ends_b1)
def graph_Ends : AFunc := { params := [.any], results := [.tmp 2], body :=
  (.seq (.region [.one ⟨some 2, .move (.c (.nil))⟩])
   (.seq (.seq (.region [.one ⟨some 7, .buildSlice 1 2 [.int .i64 0] [(0, .c (.int .i64 1)), (1, .c (.int .i64 2))]⟩,
       .one ⟨some 8, .len (.t 7)⟩,
       .one ⟨some 9, .move (.c (.int .i64 0))⟩])
     (.block 0 graph_Ends_l1))
    (.seq (.region [.one ⟨some 30, .move (.t 2)⟩,
       .one ⟨some 2, .move (.t 30)⟩])
     .ret))) }
/-- slices.Contains[[]int,int]: number 70 -/
def slices_Contains_int : AFunc := { params := [.any, .any], results := [.tmp 4], body :=
  (.seq (.region [.one ⟨some 4, .move (.c (.bool false))⟩])
   (.seq (.region [.one ⟨some 5, .move (.t 0)⟩,
      .one ⟨some 6, .move (.t 1)⟩,
      .one ⟨some 7, .call false .any 107 [.t 5, .t 6]⟩,
      .one ⟨some 8, .bin .geq 0 (.t 7) (.c (.int .i64 0))⟩,
      .one ⟨some 4, .move (.t 8)⟩])
    .ret)) }
/-- gradus/back.May: number 71 -/
def back_May_b0 : ACode :=
 (.seq (.region [.one ⟨some 34, .bin .lss 0 (.t 33) (.t 32)⟩])
  (.seq (.cond (.t 34) .skip
    (.exit 0))
   (.seq (.block 1 (.seq (.region [.one ⟨some 35, .indexAddr 5 (.t 31) (.t 33)⟩,
        .one ⟨some 36, .load 5 true .any (.t 35)⟩,
        .one ⟨some 6, .alloc [.str (bs []), .int .i64 0, .nil, .nil, .int .i64 0]⟩,
        .one ⟨none, .store 5 (.t 6) (.t 36)⟩])
      (.seq (.seq (.region [.one ⟨some 37, .fieldAddr 1 (.t 6)⟩,
          .one ⟨some 38, .load 1 false .any (.t 37)⟩,
          .one ⟨some 39, .bin .neq 0 (.t 38) (.c (.int .i64 2))⟩])
        (.cond (.t 39) (.exit 1)
         .skip))
       (.seq (.seq (.region [.one ⟨some 40, .move (.t 4)⟩,
           .one ⟨some 41, .fieldAddr 2 (.t 1)⟩,
           .one ⟨some 42, .load 1 false .any (.t 41)⟩,
           .one ⟨some 43, .len (.t 42)⟩,
           .one ⟨some 44, .bin .geq 0 (.t 40) (.t 43)⟩,
           .one ⟨some 45, .move (.t 44)⟩,
           .grd 45 false [⟨some 46, .move (.t 3)⟩, ⟨some 47, .fieldAddr 2 (.t 1)⟩, ⟨some 48, .load 1 false .any (.t 47)⟩, ⟨some 49, .move (.t 4)⟩, ⟨some 50, .indexAddr 1 (.t 48) (.t 49)⟩, ⟨some 51, .load 1 false .any (.t 50)⟩, ⟨some 52, .callv true .any (.t 46) [.t 51]⟩, ⟨some 53, .un .not (.t 52)⟩],
           .one ⟨some 54, .pick (.t 45) (.c (.bool true)) (.t 53)⟩,
           .one ⟨some 55, .move (.t 54)⟩,
           .grd 55 false [⟨some 56, .fieldAddr 0 (.t 1)⟩, ⟨some 57, .load 1 false .any (.t 56)⟩, ⟨some 58, .fieldAddr 2 (.t 1)⟩, ⟨some 59, .load 1 false .any (.t 58)⟩, ⟨some 60, .move (.t 4)⟩, ⟨some 61, .indexAddr 1 (.t 59) (.t 60)⟩, ⟨some 62, .load 1 false .any (.t 61)⟩, ⟨some 63, .indexAddr 5 (.t 57) (.t 62)⟩, ⟨some 64, .fieldAddr 3 (.t 63)⟩, ⟨some 65, .load 1 false .any (.t 64)⟩, ⟨some 66, .fieldAddr 3 (.t 6)⟩, ⟨some 67, .load 1 false .any (.t 66)⟩, ⟨some 68, .call true .any 98 [.t 65, .t 67]⟩, ⟨some 69, .un .not (.t 68)⟩],
           .one ⟨some 70, .pick (.t 55) (.c (.bool true)) (.t 69)⟩])
         (.cond (.t 70) (.seq (.region [.one ⟨some 2, .move (.c (.bool false))⟩])
           .ret)
          .skip))
        (.region [.one ⟨some 71, .move (.t 4)⟩,
          .one ⟨some 72, .bin .add 0 (.t 71) (.c (.int .i64 1))⟩,
          .one ⟨some 4, .move (.t 72)⟩])))))
    (.region [.one ⟨some 73, .bin .add 0 (.t 33) (.c (.int .i64 1))⟩,
      .one ⟨some 33, .move (.t 73)⟩]))))
def back_May_l0 : ACode :=
 (.loop [(1, .any), (3, .any), (4, .any), (31, .any), (32, .any), (33, .any)] [(0, [(1, .any), (4, .any)])] [(2, .any)] back_May_b0)
def back_May : AFunc := { params := [.any], results := [.tmp 2], body :=
  (.seq (.region [.one ⟨some 1, .box (.t 0)⟩,
     .one ⟨some 2, .move (.c (.bool false))⟩])
   (.seq (.region [.one ⟨some 7, .mkfn 108 [.t 1]⟩,
      .one ⟨some 3, .move (.t 7)⟩])
    (.seq (.seq (.region [.one ⟨some 8, .fieldAddr 0 (.t 1)⟩,
        .one ⟨some 9, .load 1 false .any (.t 8)⟩,
        .one ⟨some 10, .call false .any 61 [.t 9]⟩,
        .one ⟨some 11, .un .not (.t 10)⟩,
        .one ⟨some 12, .move (.t 11)⟩,
        .grd 12 false [⟨some 13, .move (.t 3)⟩, ⟨some 14, .fieldAddr 1 (.t 1)⟩, ⟨some 15, .load 1 false .any (.t 14)⟩, ⟨some 16, .callv false .any (.t 13) [.t 15]⟩, ⟨some 17, .un .not (.t 16)⟩],
        .one ⟨some 18, .pick (.t 12) (.c (.bool true)) (.t 17)⟩,
        .one ⟨some 19, .move (.t 18)⟩,
        .grd 19 false [⟨some 20, .fieldAddr 0 (.t 1)⟩, ⟨some 21, .load 1 false .any (.t 20)⟩, ⟨some 22, .fieldAddr 1 (.t 1)⟩, ⟨some 23, .load 1 false .any (.t 22)⟩, ⟨some 24, .indexAddr 5 (.t 21) (.t 23)⟩, ⟨some 25, .fieldAddr 3 (.t 24)⟩, ⟨some 26, .load 1 false .any (.t 25)⟩, ⟨some 27, .call false .any 106 [.t 26]⟩, ⟨some 28, .bin .neq 0 (.t 27) (.c (.int .i64 1))⟩],
        .one ⟨some 29, .pick (.t 19) (.c (.bool true)) (.t 28)⟩])
      (.cond (.t 29) (.seq (.region [.one ⟨some 2, .move (.c (.bool false))⟩])
        .ret)
       .skip))
     (.seq (.region [.one ⟨some 4, .move (.c (.int .i64 0))⟩])
      (.seq (.seq (.region [.one ⟨some 30, .fieldAddr 0 (.t 1)⟩,
          .one ⟨some 31, .load 1 false .any (.t 30)⟩,
          .one ⟨some 32, .len (.t 31)⟩,
          .one ⟨some 33, .move (.c (.int .i64 0))⟩])
        (.block 0 back_May_l0))
       (.seq (.region [.one ⟨some 74, .move (.t 4)⟩,
          .one ⟨some 75, .fieldAddr 2 (.t 1)⟩,
          .one ⟨some 76, .load 1 false .any (.t 75)⟩,
          .one ⟨some 77, .len (.t 76)⟩,
          .one ⟨some 78, .bin .eql 0 (.t 74) (.t 77)⟩,
          .one ⟨some 2, .move (.t 78)⟩])
        .ret)))))) }
/-- gradus/live.All: number 72 -/
def live_All_b0 : ACode :=
 (.seq (.region [.one ⟨some 36, .bin .lss 0 (.t 35) (.t 34)⟩])
  (.seq (.cond (.t 36) .skip
    (.exit 2))
   (.seq (.block 3 (.seq (.region [.one ⟨some 37, .indexAddr 1 (.t 33) (.t 35)⟩,
        .one ⟨some 38, .load 1 false .any (.t 37)⟩,
        .one ⟨some 7, .move (.t 38)⟩])
      (.region [.one ⟨some 39, .move (.t 3)⟩,
        .one ⟨some 40, .move (.t 7)⟩,
        .one ⟨some 41, .move (.t 4)⟩,
        .one ⟨some 42, .bin .add 0 (.t 41) (.c (.int .i64 1))⟩,
        .one ⟨some 43, .indexAddr 3 (.t 39) (.t 40)⟩,
        .one ⟨some 44, .fieldAddr 1 (.t 43)⟩,
        .one ⟨none, .store 1 (.t 44) (.t 42)⟩])))
    (.region [.one ⟨some 45, .bin .add 0 (.t 35) (.c (.int .i64 1))⟩,
      .one ⟨some 35, .move (.t 45)⟩]))))
def live_All_l0 : ACode :=
 (.loop [(1, .any), (3, .any), (4, .any), (15, .any), (16, .any), (17, .any), (33, .any), (34, .any), (35, .any)] [(2, [(1, .any), (3, .any), (15, .any), (16, .any), (17, .any)])] [] live_All_b0)
def live_All_b1 : ACode :=
 (.seq (.region [.one ⟨some 18, .bin .lss 0 (.t 17) (.t 16)⟩])
  (.seq (.cond (.t 18) .skip
    (.exit 0))
   (.seq (.block 1 (.seq (.region [.one ⟨some 19, .move (.t 17)⟩,
        .one ⟨some 20, .indexAddr 5 (.t 15) (.t 17)⟩,
        .one ⟨some 21, .load 5 true .any (.t 20)⟩,
        .one ⟨some 5, .alloc [.str (bs []), .int .i64 0, .nil, .nil, .int .i64 0]⟩,
        .one ⟨some 4, .move (.t 19)⟩,
        .one ⟨none, .store 5 (.t 5) (.t 21)⟩])
      (.seq (.region [.one ⟨some 22, .move (.t 3)⟩,
         .one ⟨some 23, .move (.t 4)⟩,
         .one ⟨some 24, .move (.t 4)⟩,
         .one ⟨some 25, .move (.t 4)⟩,
         .one ⟨some 26, .bin .add 0 (.t 25) (.c (.int .i64 1))⟩,
         .one ⟨some 27, .load 3 true .any (.t 1)⟩,
         .one ⟨some 28, .move (.t 4)⟩,
         .one ⟨some 29, .call false .any 93 [.t 27, .t 28]⟩,
         .one ⟨some 30, .build [.int .i64 0, .int .i64 0, .int .i64 0] [(0, 1, .t 24), (1, 1, .t 26), (2, 1, .t 29)]⟩,
         .one ⟨some 31, .indexAddr 3 (.t 22) (.t 23)⟩,
         .one ⟨none, .store 3 (.t 31) (.t 30)⟩])
       (.seq (.region [.one ⟨some 32, .fieldAddr 2 (.t 5)⟩,
          .one ⟨some 33, .load 1 false .any (.t 32)⟩,
          .one ⟨some 34, .len (.t 33)⟩,
          .one ⟨some 35, .move (.c (.int .i64 0))⟩])
        (.block 2 live_All_l0)))))
    (.region [.one ⟨some 46, .bin .add 0 (.t 17) (.c (.int .i64 1))⟩,
      .one ⟨some 17, .move (.t 46)⟩]))))
def live_All_l1 : ACode :=
 (.loop [(1, .any), (3, .any), (15, .any), (16, .any), (17, .any)] [(0, [(1, .any), (3, .any)])] [] live_All_b1)
def live_All_b2 : ACode :=
 (.seq (.region [.one ⟨some 51, .bin .lss 0 (.t 50) (.t 49)⟩])
  (.seq (.cond (.t 51) .skip
    (.exit 4))
   (.seq (.block 5 (.seq (.region [.one ⟨some 52, .indexAddr 1 (.t 48) (.t 50)⟩,
        .one ⟨some 53, .load 1 false .any (.t 52)⟩,
        .one ⟨some 9, .move (.t 53)⟩])
      (.region [.one ⟨some 54, .move (.t 3)⟩,
        .one ⟨some 55, .move (.t 9)⟩,
        .one ⟨some 56, .move (.t 3)⟩,
        .one ⟨some 57, .len (.t 56)⟩,
        .one ⟨some 58, .indexAddr 3 (.t 54) (.t 55)⟩,
        .one ⟨some 59, .fieldAddr 1 (.t 58)⟩,
        .one ⟨none, .store 1 (.t 59) (.t 57)⟩])))
    (.region [.one ⟨some 60, .bin .add 0 (.t 50) (.c (.int .i64 1))⟩,
      .one ⟨some 50, .move (.t 60)⟩]))))
def live_All_l2 : ACode :=
 (.loop [(3, .any), (48, .any), (49, .any), (50, .any)] [(4, [(3, .any)])] [] live_All_b2)
def live_All : AFunc := { params := [.any], results := [.tmp 2], body :=
  (.seq (.region [.one ⟨some 1, .box (.t 0)⟩,
     .one ⟨some 2, .move (.c (.nil))⟩])
   (.seq (.region [.one ⟨some 10, .fieldAddr 0 (.t 1)⟩,
      .one ⟨some 11, .load 1 false .any (.t 10)⟩,
      .one ⟨some 12, .len (.t 11)⟩,
      .one ⟨some 13, .makeSlice 3 24 [.int .i64 0, .int .i64 0, .int .i64 0] (.t 12)⟩,
      .one ⟨some 3, .move (.t 13)⟩])
    (.seq (.seq (.region [.one ⟨some 14, .fieldAddr 0 (.t 1)⟩,
        .one ⟨some 15, .load 1 false .any (.t 14)⟩,
        .one ⟨some 16, .len (.t 15)⟩,
        .one ⟨some 17, .move (.c (.int .i64 0))⟩])
      (.block 0 live_All_l1))
     (.seq (.seq (.region [.one ⟨some 47, .load 3 true .any (.t 1)⟩,
         .one ⟨some 48, .call false .any 109 [.t 47]⟩,
         .one ⟨some 49, .len (.t 48)⟩,
         .one ⟨some 50, .move (.c (.int .i64 0))⟩])
       (.block 4 live_All_l2))
      (.seq (.region [.one ⟨some 61, .move (.t 3)⟩,
         .one ⟨some 2, .move (.t 61)⟩])
       .ret))))) }
/-- slices.Max[[]int,int]: number 73 -/
def slices_Max_int_b0 : ACode :=
 (.seq (.seq (.region [.one ⟨some 12, .move (.t 4)⟩,
     .one ⟨some 13, .move (.t 0)⟩,
     .one ⟨some 14, .len (.t 13)⟩,
     .one ⟨some 15, .bin .lss 0 (.t 12) (.t 14)⟩])
   (.cond (.t 15) .skip
    (.exit 0)))
  (.seq (.block 1 (.region [.one ⟨some 18, .move (.t 3)⟩,
      .one ⟨some 19, .move (.t 0)⟩,
      .one ⟨some 20, .move (.t 4)⟩,
      .one ⟨some 21, .indexAddr 1 (.t 19) (.t 20)⟩,
      .one ⟨some 22, .load 1 false .any (.t 21)⟩,
      .one ⟨some 23, .max (.t 18) (.t 22)⟩,
      .one ⟨some 3, .move (.t 23)⟩]))
   (.region [.one ⟨some 16, .move (.t 4)⟩,
     .one ⟨some 17, .bin .add 0 (.t 16) (.c (.int .i64 1))⟩,
     .one ⟨some 4, .move (.t 17)⟩])))
def slices_Max_int_l0 : ACode :=
 (.loop [(0, .any), (3, .any), (4, .any)] [(0, [(3, .any)])] [] slices_Max_int_b0)
def slices_Max_int : AFunc := { params := [.any], results := [.tmp 2], body :=
  (.seq (.region [.one ⟨some 2, .move (.c (.int .i64 0))⟩])
   (.seq (.seq (.region [.one ⟨some 5, .move (.t 0)⟩,
       .one ⟨some 6, .len (.t 5)⟩,
       .one ⟨some 7, .bin .lss 0 (.t 6) (.c (.int .i64 1))⟩])
     (.cond (.t 7) (.region [.one ⟨some 8, .bad⟩,
        .one ⟨none, .bad⟩])
      .skip))
    (.seq (.region [.one ⟨some 9, .move (.t 0)⟩,
       .one ⟨some 10, .indexAddr 1 (.t 9) (.c (.int .i64 0))⟩,
       .one ⟨some 11, .load 1 false .any (.t 10)⟩,
       .one ⟨some 3, .move (.t 11)⟩])
     (.seq (.seq (.region [.one ⟨some 4, .move (.c (.int .i64 1))⟩])
       (.block 0 slices_Max_int_l0))
      (.seq (.region [.one ⟨some 24, .move (.t 3)⟩,
         .one ⟨some 2, .move (.t 24)⟩])
       .ret))))) }
/-- gradus/live.Cone$1: number 74 -/
def live_Cone_1 : AFunc := { params := [.any, .any], results := [.tmp 3], body :=
  (.seq (.region [.one ⟨some 3, .move (.c (.bool false))⟩])
   (.seq (.region [.one ⟨some 4, .move (.t 0)⟩,
      .one ⟨some 5, .bin .lss 0 (.t 4) (.c (.int .i64 0))⟩,
      .one ⟨some 6, .move (.t 5)⟩,
      .grd 6 false [⟨some 7, .move (.t 0)⟩, ⟨some 8, .fieldAddr 0 (.t 1)⟩, ⟨some 9, .load 1 false .any (.t 8)⟩, ⟨some 10, .len (.t 9)⟩, ⟨some 11, .bin .geq 0 (.t 7) (.t 10)⟩],
      .one ⟨some 12, .pick (.t 6) (.c (.bool true)) (.t 11)⟩,
      .one ⟨some 3, .move (.t 12)⟩])
    .ret)) }
/-- slices.ContainsFunc[[]int,int]: number 75 -/
def slices_ContainsFunc_int : AFunc := { params := [.any, .any], results := [.tmp 4], body :=
  (.seq (.region [.one ⟨some 4, .move (.c (.bool false))⟩])
   (.seq (.region [.one ⟨some 5, .move (.t 0)⟩,
      .one ⟨some 6, .move (.t 1)⟩,
      .one ⟨some 7, .call false .any 110 [.t 5, .t 6]⟩,
      .one ⟨some 8, .bin .geq 0 (.t 7) (.c (.int .i64 0))⟩,
      .one ⟨some 4, .move (.t 8)⟩])
    .ret)) }
/-- slices.Reverse[[]int,int]: number 76 -/
def slices_Reverse_int_b0 : ACode :=
 (.seq (.seq (.region [.one ⟨some 7, .move (.t 2)⟩,
     .one ⟨some 8, .move (.t 3)⟩,
     .one ⟨some 9, .bin .lss 0 (.t 7) (.t 8)⟩])
   (.cond (.t 9) .skip
    (.exit 0)))
  (.seq (.block 1 (.region [.one ⟨some 14, .move (.t 0)⟩,
      .one ⟨some 15, .move (.t 2)⟩,
      .one ⟨some 16, .move (.t 0)⟩,
      .one ⟨some 17, .move (.t 3)⟩,
      .one ⟨some 18, .move (.t 0)⟩,
      .one ⟨some 19, .move (.t 3)⟩,
      .one ⟨some 20, .indexAddr 1 (.t 18) (.t 19)⟩,
      .one ⟨some 21, .load 1 false .any (.t 20)⟩,
      .one ⟨some 22, .move (.t 0)⟩,
      .one ⟨some 23, .move (.t 2)⟩,
      .one ⟨some 24, .indexAddr 1 (.t 22) (.t 23)⟩,
      .one ⟨some 25, .load 1 false .any (.t 24)⟩,
      .one ⟨some 26, .indexAddr 1 (.t 14) (.t 15)⟩,
      .one ⟨none, .store 1 (.t 26) (.t 21)⟩,
      .one ⟨some 27, .indexAddr 1 (.t 16) (.t 17)⟩,
      .one ⟨none, .store 1 (.t 27) (.t 25)⟩]))
   (.region [.one ⟨some 10, .move (.t 2)⟩,
     .one ⟨some 11, .bin .add 0 (.t 10) (.c (.int .i64 1))⟩,
     .one ⟨some 12, .move (.t 3)⟩,
     .one ⟨some 13, .bin .sub 0 (.t 12) (.c (.int .i64 1))⟩,
     .one ⟨some 2, .move (.t 11)⟩,
     .one ⟨some 3, .move (.t 13)⟩])))
def slices_Reverse_int_l0 : ACode :=
 (.loop [(0, .any), (2, .any), (3, .any)] [(0, [])] [] slices_Reverse_int_b0)
def slices_Reverse_int : AFunc := { params := [.any], results := [], body :=
  (.seq (.region [.one ⟨some 4, .move (.t 0)⟩,
     .one ⟨some 5, .len (.t 4)⟩,
     .one ⟨some 6, .bin .sub 0 (.t 5) (.c (.int .i64 1))⟩,
     .one ⟨some 2, .move (.c (.int .i64 0))⟩,
     .one ⟨some 3, .move (.t 6)⟩])
   (.block 0 slices_Reverse_int_l0)) }
/-- gradus/graduslaw0.JointWeight: number 77 -/
def law0_JointWeight : AFunc := { params := [.any], results := [.tmp 2], body :=
  (.seq (.region [.one ⟨some 1, .box (.t 0)⟩,
     .one ⟨some 2, .move (.c (.int .i64 0))⟩])
   (.seq (.region [.one ⟨some 3, .fieldAddr 0 (.t 1)⟩,
      .one ⟨some 4, .load 1 false .any (.t 3)⟩,
      .one ⟨some 5, .call true .any 59 [.t 4]⟩,
      .one ⟨some 6, .fieldAddr 2 (.t 1)⟩,
      .one ⟨some 7, .load 1 false .any (.t 6)⟩,
      .one ⟨some 8, .len (.t 7)⟩,
      .one ⟨some 9, .bin .add 0 (.t 5) (.t 8)⟩,
      .one ⟨some 2, .move (.t 9)⟩])
    .ret)) }
/-- gradus/gradusref1.Cells: number 78 -/
def ref1_Cells_b0 : ACode :=
 (.seq (.seq (.region [.one ⟨some 5, .move (.t 4)⟩,
     .one ⟨some 6, .move (.t 0)⟩,
     .one ⟨some 7, .len (.t 6)⟩,
     .one ⟨some 8, .bin .lss 0 (.t 5) (.t 7)⟩])
   (.cond (.t 8) .skip
    (.exit 0)))
  (.seq (.block 1 (.region [.one ⟨some 11, .move (.t 3)⟩,
      .one ⟨some 12, .move (.t 0)⟩,
      .one ⟨some 13, .move (.t 4)⟩,
      .one ⟨some 14, .indexAddr 1 (.t 12) (.t 13)⟩,
      .one ⟨some 15, .load 1 false .any (.t 14)⟩,
      .one ⟨some 16, .bin .mul 0 (.t 11) (.t 15)⟩,
      .one ⟨some 3, .move (.t 16)⟩]))
   (.region [.one ⟨some 9, .move (.t 4)⟩,
     .one ⟨some 10, .bin .add 0 (.t 9) (.c (.int .i64 1))⟩,
     .one ⟨some 4, .move (.t 10)⟩])))
def ref1_Cells_l0 : ACode :=
 (.loop [(0, .any), (3, .any), (4, .any)] [(0, [(3, .any)])] [] ref1_Cells_b0)
def ref1_Cells : AFunc := { params := [.any], results := [.tmp 2], body :=
  (.seq (.region [.one ⟨some 2, .move (.c (.int .i64 0))⟩])
   (.seq (.region [.one ⟨some 3, .move (.c (.int .i64 1))⟩])
    (.seq (.seq (.region [.one ⟨some 4, .move (.c (.int .i64 0))⟩])
      (.block 0 ref1_Cells_l0))
     (.seq (.region [.one ⟨some 17, .move (.t 3)⟩,
        .one ⟨some 2, .move (.t 17)⟩])
      .ret)))) }
/-- gradus/live.Sum: number 79 -/
def live_Sum_b0 : ACode :=
 (.seq (.region [.one ⟨some 11, .bin .lss 0 (.t 10) (.t 9)⟩])
  (.seq (.cond (.t 11) .skip
    (.exit 0))
   (.seq (.block 1 (.seq (.region [.one ⟨some 12, .indexAddr 1 (.t 8) (.t 10)⟩,
        .one ⟨some 13, .load 1 false .any (.t 12)⟩,
        .one ⟨some 7, .move (.t 13)⟩])
      (.region [.one ⟨some 14, .move (.t 5)⟩,
        .one ⟨some 15, .load 3 true .any (.t 2)⟩,
        .one ⟨some 16, .move (.t 7)⟩,
        .one ⟨some 17, .call false .any 93 [.t 15, .t 16]⟩,
        .one ⟨some 18, .bin .add 0 (.t 14) (.t 17)⟩,
        .one ⟨some 5, .move (.t 18)⟩])))
    (.region [.one ⟨some 19, .bin .add 0 (.t 10) (.c (.int .i64 1))⟩,
      .one ⟨some 10, .move (.t 19)⟩]))))
def live_Sum_l0 : ACode :=
 (.loop [(2, .any), (5, .any), (8, .any), (9, .any), (10, .any)] [(0, [(5, .any)])] [] live_Sum_b0)
def live_Sum : AFunc := { params := [.any, .any], results := [.tmp 4], body :=
  (.seq (.region [.one ⟨some 2, .box (.t 0)⟩,
     .one ⟨some 4, .move (.c (.int .i64 0))⟩])
   (.seq (.region [.one ⟨some 5, .move (.c (.int .i64 0))⟩])
    (.seq (.seq (.region [.one ⟨some 8, .move (.t 1)⟩,
        .one ⟨some 9, .len (.t 8)⟩,
        .one ⟨some 10, .move (.c (.int .i64 0))⟩])
      (.block 0 live_Sum_l0))
     (.seq (.region [.one ⟨some 20, .move (.t 5)⟩,
        .one ⟨some 4, .move (.t 20)⟩])
      .ret)))) }
/-- gradus/gradusref0.In: number 80 -/
def ref0_In_b0 : ACode :=
 (.seq (.seq (.region [.one ⟨some 6, .move (.t 5)⟩,
     .one ⟨some 7, .move (.t 0)⟩,
     .one ⟨some 8, .len (.t 7)⟩,
     .one ⟨some 9, .bin .lss 0 (.t 6) (.t 8)⟩])
   (.cond (.t 9) .skip
    (.exit 0)))
  (.seq (.block 1 (.seq (.region [.one ⟨some 12, .move (.t 0)⟩,
       .one ⟨some 13, .move (.t 5)⟩,
       .one ⟨some 14, .indexAddr 1 (.t 12) (.t 13)⟩,
       .one ⟨some 15, .load 1 false .any (.t 14)⟩,
       .one ⟨some 16, .move (.t 1)⟩,
       .one ⟨some 17, .bin .eql 0 (.t 15) (.t 16)⟩])
     (.cond (.t 17) (.seq (.region [.one ⟨some 18, .move (.t 5)⟩,
         .one ⟨some 4, .move (.t 18)⟩])
       .ret)
      .skip)))
   (.region [.one ⟨some 10, .move (.t 5)⟩,
     .one ⟨some 11, .bin .add 0 (.t 10) (.c (.int .i64 1))⟩,
     .one ⟨some 5, .move (.t 11)⟩])))
def ref0_In_l0 : ACode :=
 (.loop [(0, .any), (1, .any), (5, .any)] [(0, [])] [(4, .any)] ref0_In_b0)
def ref0_In : AFunc := { params := [.any, .any], results := [.tmp 4], body :=
  (.seq (.region [.one ⟨some 4, .move (.c (.int .i64 0))⟩])
   (.seq (.seq (.region [.one ⟨some 5, .move (.c (.int .i64 0))⟩])
     (.block 0 ref0_In_l0))
    (.seq (.region [.one ⟨some 4, .move (.c (.int .i64 (-1)))⟩])
     .ret))) }
/-- gradus/gradusref0.Rising: number 81 -/
def ref0_Rising_b0 : ACode :=
 (.seq (.seq (.region [.one ⟨some 13, .move (.t 5)⟩,
     .one ⟨some 14, .move (.t 3)⟩,
     .one ⟨some 15, .len (.t 14)⟩,
     .one ⟨some 16, .bin .lss 0 (.t 13) (.t 15)⟩,
     .one ⟨some 17, .move (.t 16)⟩,
     .grd 17 true [⟨some 18, .move (.t 3)⟩, ⟨some 19, .move (.t 5)⟩, ⟨some 20, .indexAddr 1 (.t 18) (.t 19)⟩, ⟨some 21, .load 1 false .any (.t 20)⟩, ⟨some 22, .move (.t 0)⟩, ⟨some 23, .move (.t 4)⟩, ⟨some 24, .indexAddr 1 (.t 22) (.t 23)⟩, ⟨some 25, .load 1 false .any (.t 24)⟩, ⟨some 26, .bin .lss 0 (.t 21) (.t 25)⟩],
     .one ⟨some 27, .pick (.t 17) (.t 26) (.c (.bool false))⟩])
   (.cond (.t 27) .skip
    (.exit 2)))
  (.block 3 (.region [.one ⟨some 28, .move (.t 5)⟩,
     .one ⟨some 29, .bin .add 0 (.t 28) (.c (.int .i64 1))⟩,
     .one ⟨some 5, .move (.t 29)⟩])))
def ref0_Rising_l0 : ACode :=
 (.loop [(0, .any), (3, .any), (4, .any), (5, .any)] [(2, [(0, .any), (3, .any), (4, .any), (5, .any)])] [] ref0_Rising_b0)
def ref0_Rising_b1 : ACode :=
 (.seq (.seq (.region [.one ⟨some 51, .move (.t 6)⟩,
     .one ⟨some 52, .move (.t 5)⟩,
     .one ⟨some 53, .bin .gtr 0 (.t 51) (.t 52)⟩])
   (.cond (.t 53) .skip
    (.exit 4)))
  (.seq (.block 5 (.region [.one ⟨some 56, .move (.t 3)⟩,
      .one ⟨some 57, .move (.t 6)⟩,
      .one ⟨some 58, .move (.t 3)⟩,
      .one ⟨some 59, .move (.t 6)⟩,
      .one ⟨some 60, .bin .sub 0 (.t 59) (.c (.int .i64 1))⟩,
      .one ⟨some 61, .indexAddr 1 (.t 58) (.t 60)⟩,
      .one ⟨some 62, .load 1 false .any (.t 61)⟩,
      .one ⟨some 63, .indexAddr 1 (.t 56) (.t 57)⟩,
      .one ⟨none, .store 1 (.t 63) (.t 62)⟩]))
   (.region [.one ⟨some 54, .move (.t 6)⟩,
     .one ⟨some 55, .bin .sub 0 (.t 54) (.c (.int .i64 1))⟩,
     .one ⟨some 6, .move (.t 55)⟩])))
def ref0_Rising_l1 : ACode :=
 (.loop [(0, .any), (3, .any), (4, .any), (5, .any), (6, .any)] [(4, [(0, .any), (3, .any), (4, .any), (5, .any)])] [] ref0_Rising_b1)
def ref0_Rising_b2 : ACode :=
 (.seq (.seq (.region [.one ⟨some 7, .move (.t 4)⟩,
     .one ⟨some 8, .move (.t 0)⟩,
     .one ⟨some 9, .len (.t 8)⟩,
     .one ⟨some 10, .bin .lss 0 (.t 7) (.t 9)⟩])
   (.cond (.t 10) .skip
    (.exit 0)))
  (.seq (.block 1 (.seq (.region [.one ⟨some 5, .move (.c (.int .i64 0))⟩])
     (.seq (.block 2 ref0_Rising_l0)
      (.seq (.seq (.region [.one ⟨some 30, .move (.t 5)⟩,
          .one ⟨some 31, .move (.t 3)⟩,
          .one ⟨some 32, .len (.t 31)⟩,
          .one ⟨some 33, .bin .lss 0 (.t 30) (.t 32)⟩,
          .one ⟨some 34, .move (.t 33)⟩,
          .grd 34 true [⟨some 35, .move (.t 3)⟩, ⟨some 36, .move (.t 5)⟩, ⟨some 37, .indexAddr 1 (.t 35) (.t 36)⟩, ⟨some 38, .load 1 false .any (.t 37)⟩, ⟨some 39, .move (.t 0)⟩, ⟨some 40, .move (.t 4)⟩, ⟨some 41, .indexAddr 1 (.t 39) (.t 40)⟩, ⟨some 42, .load 1 false .any (.t 41)⟩, ⟨some 43, .bin .eql 0 (.t 38) (.t 42)⟩],
          .one ⟨some 44, .pick (.t 34) (.t 43) (.c (.bool false))⟩])
        (.cond (.t 44) (.exit 1)
         .skip))
       (.seq (.region [.one ⟨some 45, .move (.t 3)⟩,
          .one ⟨some 46, .buildSlice 1 1 [.int .i64 0] [(0, .c (.int .i64 0))]⟩,
          .one ⟨some 47, .append 1 8 (.t 45) (.t 46)⟩,
          .one ⟨some 3, .move (.t 47)⟩])
        (.seq (.seq (.region [.one ⟨some 48, .move (.t 3)⟩,
            .one ⟨some 49, .len (.t 48)⟩,
            .one ⟨some 50, .bin .sub 0 (.t 49) (.c (.int .i64 1))⟩,
            .one ⟨some 6, .move (.t 50)⟩])
          (.block 4 ref0_Rising_l1))
         (.region [.one ⟨some 64, .move (.t 3)⟩,
           .one ⟨some 65, .move (.t 5)⟩,
           .one ⟨some 66, .move (.t 0)⟩,
           .one ⟨some 67, .move (.t 4)⟩,
           .one ⟨some 68, .indexAddr 1 (.t 66) (.t 67)⟩,
           .one ⟨some 69, .load 1 false .any (.t 68)⟩,
           .one ⟨some 70, .indexAddr 1 (.t 64) (.t 65)⟩,
           .one ⟨none, .store 1 (.t 70) (.t 69)⟩])))))))
   (.region [.one ⟨some 11, .move (.t 4)⟩,
     .one ⟨some 12, .bin .add 0 (.t 11) (.c (.int .i64 1))⟩,
     .one ⟨some 4, .move (.t 12)⟩])))
def ref0_Rising_l2 : ACode :=
 (.loop [(0, .any), (3, .any), (4, .any)] [(0, [(3, .any)])] [] ref0_Rising_b2)
def ref0_Rising : AFunc := { params := [.any], results := [.tmp 2], body :=
  (.seq (.region [.one ⟨some 2, .move (.c (.nil))⟩])
   (.seq (.region [.one ⟨some 3, .move (.c (.nil))⟩])
    (.seq (.seq (.region [.one ⟨some 4, .move (.c (.int .i64 0))⟩])
      (.block 0 ref0_Rising_l2))
     (.seq (.region [.one ⟨some 71, .move (.t 3)⟩,
        .one ⟨some 2, .move (.t 71)⟩])
      .ret)))) }
/-- gradus/live.size: number 93 -/
def live_size : AFunc := { params := [.any, .any], results := [.tmp 4], body :=
  (.seq (.region [.one ⟨some 2, .box (.t 0)⟩,
     .one ⟨some 4, .move (.c (.int .i64 0))⟩])
   (.seq (.region [.one ⟨some 5, .fieldAddr 0 (.t 2)⟩,
      .one ⟨some 6, .load 1 false .any (.t 5)⟩,
      .one ⟨some 7, .move (.t 1)⟩,
      .one ⟨some 8, .indexAddr 5 (.t 6) (.t 7)⟩,
      .one ⟨some 9, .fieldAddr 3 (.t 8)⟩,
      .one ⟨some 10, .load 1 false .any (.t 9)⟩,
      .one ⟨some 11, .call false .any 106 [.t 10]⟩,
      .one ⟨some 4, .move (.t 11)⟩])
    .ret)) }
/-- gradus/gradusref1.Asked: number 96 -/
def ref1_Asked : AFunc := { params := [.any], results := [.tmp 2], body :=
  (.seq (.region [.one ⟨some 2, .move (.c (.bool false))⟩])
   (.seq (.region [.one ⟨some 3, .move (.t 0)⟩,
      .one ⟨some 4, .call false .any 66 [.t 3, .c (.int .i64 1), .c (.int .i64 3)]⟩,
      .one ⟨some 5, .move (.t 4)⟩,
      .grd 5 false [⟨some 6, .move (.t 0)⟩, ⟨some 7, .call false .any 66 [.t 6, .c (.int .i64 11), .c (.int .i64 13)]⟩],
      .one ⟨some 8, .pick (.t 5) (.c (.bool true)) (.t 7)⟩,
      .one ⟨some 2, .move (.t 8)⟩])
    .ret)) }
/-- gradus/graph.Asked: number 97 -/
def graph_Asked : AFunc := { params := [.any], results := [.tmp 2], body :=
  (.seq (.region [.one ⟨some 1, .box (.t 0)⟩,
     .one ⟨some 2, .move (.c (.nil))⟩])
   (.seq (.seq (.region [.one ⟨some 3, .fieldAddr 1 (.t 1)⟩,
       .one ⟨some 4, .load 1 false .any (.t 3)⟩,
       .one ⟨some 5, .call false .any 126 [.t 4]⟩])
     (.cond (.t 5) (.seq (.region [.one ⟨some 6, .fieldAddr 3 (.t 1)⟩,
         .one ⟨some 7, .load 1 false .any (.t 6)⟩,
         .one ⟨some 2, .move (.t 7)⟩])
       .ret)
      .skip))
    (.seq (.region [.one ⟨some 2, .move (.c (.nil))⟩])
     .ret))) }
/-- slices.Equal[[]int,int]: number 98 -/
def slices_Equal_int_b0 : ACode :=
 (.seq (.region [.one ⟨some 14, .bin .lss 0 (.t 13) (.t 12)⟩])
  (.seq (.cond (.t 14) .skip
    (.exit 0))
   (.seq (.block 1 (.seq (.region [.one ⟨some 15, .move (.t 13)⟩,
        .one ⟨some 5, .move (.t 15)⟩])
      (.seq (.region [.one ⟨some 16, .move (.t 0)⟩,
         .one ⟨some 17, .move (.t 5)⟩,
         .one ⟨some 18, .indexAddr 1 (.t 16) (.t 17)⟩,
         .one ⟨some 19, .load 1 false .any (.t 18)⟩,
         .one ⟨some 20, .move (.t 1)⟩,
         .one ⟨some 21, .move (.t 5)⟩,
         .one ⟨some 22, .indexAddr 1 (.t 20) (.t 21)⟩,
         .one ⟨some 23, .load 1 false .any (.t 22)⟩,
         .one ⟨some 24, .bin .neq 0 (.t 19) (.t 23)⟩])
       (.cond (.t 24) (.seq (.region [.one ⟨some 4, .move (.c (.bool false))⟩])
         .ret)
        .skip))))
    (.region [.one ⟨some 25, .bin .add 0 (.t 13) (.c (.int .i64 1))⟩,
      .one ⟨some 13, .move (.t 25)⟩]))))
def slices_Equal_int_l0 : ACode :=
 (.loop [(0, .any), (1, .any), (12, .any), (13, .any)] [(0, [])] [(4, .any)] slices_Equal_int_b0)
def slices_Equal_int : AFunc := { params := [.any, .any], results := [.tmp 4], body :=
  (.seq (.region [.one ⟨some 4, .move (.c (.bool false))⟩])
   (.seq (.seq (.region [.one ⟨some 6, .move (.t 0)⟩,
       .one ⟨some 7, .len (.t 6)⟩,
       .one ⟨some 8, .move (.t 1)⟩,
       .one ⟨some 9, .len (.t 8)⟩,
       .one ⟨some 10, .bin .neq 0 (.t 7) (.t 9)⟩])
     (.cond (.t 10) (.seq (.region [.one ⟨some 4, .move (.c (.bool false))⟩])
       .ret)
      .skip))
    (.seq (.seq (.region [.one ⟨some 11, .move (.t 0)⟩,
        .one ⟨some 12, .len (.t 11)⟩,
        .one ⟨some 13, .move (.c (.int .i64 0))⟩])
      (.block 0 slices_Equal_int_l0))
     (.seq (.region [.one ⟨some 4, .move (.c (.bool true))⟩])
      .ret)))) }
/-- gradus/kernel.Dims: number 99 -/
def kernel_Dims : AFunc := { params := [.any, .any, .any, .any], results := [.tmp 8, .tmp 9], body :=
  (.seq (.region [.one ⟨some 8, .move (.c (.nil))⟩,
     .one ⟨some 9, .move (.c (.int .i64 0))⟩])
   (.seq (.seq (.region [.one ⟨some 11, .move (.t 0)⟩,
       .one ⟨some 12, .move (.t 1)⟩,
       .one ⟨some 13, .move (.t 2)⟩,
       .one ⟨some 14, .move (.t 3)⟩,
       .one ⟨some 15, .call false .any 127 [.t 11, .t 12, .t 13, .t 14]⟩,
       .one ⟨some 16, .un .not (.t 15)⟩])
     (.cond (.t 16) (.seq (.region [.one ⟨some 8, .move (.c (.nil))⟩,
         .one ⟨some 9, .move (.c (.int .i64 1))⟩])
       .ret)
      .skip))
    (.seq (.region [.one ⟨some 17, .move (.t 0)⟩,
       .one ⟨some 18, .move (.t 1)⟩,
       .one ⟨some 19, .move (.t 2)⟩,
       .one ⟨some 20, .move (.t 3)⟩,
       .one ⟨some 21, .call false .any 128 [.t 17, .t 18, .t 19, .t 20]⟩,
       .one ⟨some 10, .move (.t 21)⟩])
     (.seq (.seq (.region [.one ⟨some 22, .move (.t 10)⟩,
         .one ⟨some 23, .len (.t 22)⟩,
         .one ⟨some 24, .bin .eql 0 (.t 23) (.c (.int .i64 0))⟩])
       (.cond (.t 24) (.seq (.region [.one ⟨some 8, .move (.c (.nil))⟩,
           .one ⟨some 9, .move (.c (.int .i64 4))⟩])
         .ret)
        .skip))
      (.seq (.region [.one ⟨some 25, .move (.t 10)⟩,
         .one ⟨some 8, .move (.t 25)⟩,
         .one ⟨some 9, .move (.c (.int .i64 0))⟩])
       .ret))))) }
/-- gradus/gradusref1.Many: number 100 -/
def ref1_Many : AFunc := { params := [.any], results := [.tmp 2], body :=
  (.seq (.region [.one ⟨some 2, .move (.c (.int .i64 0))⟩])
   (.seq (.seq (.region [.one ⟨some 3, .move (.t 0)⟩])
     (.block 0 (.seq (.seq (.region [.one ⟨some 5, .bin .eql 0 (.t 3) (.c (.int .i64 1))⟩,
          .one ⟨some 4, .move (.t 5)⟩])
        (.cond (.t 4) .skip
         (.seq (.region [.one ⟨some 6, .bin .eql 0 (.t 3) (.c (.int .i64 2))⟩,
            .one ⟨some 4, .move (.t 6)⟩])
          (.cond (.t 4) .skip
           (.region [.one ⟨some 7, .bin .eql 0 (.t 3) (.c (.int .i64 3))⟩,
             .one ⟨some 4, .move (.t 7)⟩])))))
       (.cond (.t 4) (.seq (.region [.one ⟨some 2, .move (.c (.int .i64 0))⟩])
         .ret)
        (.seq (.seq (.region [.one ⟨some 9, .bin .eql 0 (.t 3) (.c (.int .i64 4))⟩,
            .one ⟨some 8, .move (.t 9)⟩])
          (.cond (.t 8) .skip
           (.seq (.region [.one ⟨some 10, .bin .eql 0 (.t 3) (.c (.int .i64 5))⟩,
              .one ⟨some 8, .move (.t 10)⟩])
            (.cond (.t 8) .skip
             (.seq (.region [.one ⟨some 11, .bin .eql 0 (.t 3) (.c (.int .i64 6))⟩,
                .one ⟨some 8, .move (.t 11)⟩])
              (.cond (.t 8) .skip
               (.seq (.region [.one ⟨some 12, .bin .eql 0 (.t 3) (.c (.int .i64 9))⟩,
                  .one ⟨some 8, .move (.t 12)⟩])
                (.cond (.t 8) .skip
                 (.seq (.region [.one ⟨some 13, .bin .eql 0 (.t 3) (.c (.int .i64 16))⟩,
                    .one ⟨some 8, .move (.t 13)⟩])
                  (.cond (.t 8) .skip
                   (.region [.one ⟨some 14, .bin .eql 0 (.t 3) (.c (.int .i64 17))⟩,
                     .one ⟨some 8, .move (.t 14)⟩])))))))))))
         (.cond (.t 8) (.seq (.region [.one ⟨some 2, .move (.c (.int .i64 2))⟩])
           .ret)
          .skip))))))
    (.seq (.seq (.region [.one ⟨some 15, .move (.t 0)⟩,
        .one ⟨some 16, .call false .any 66 [.t 15, .c (.int .i64 7), .c (.int .i64 15)]⟩])
      (.cond (.t 16) (.seq (.region [.one ⟨some 2, .move (.c (.int .i64 1))⟩])
        .ret)
       .skip))
     (.seq (.region [.one ⟨some 2, .move (.c (.int .i64 (-1)))⟩])
      .ret)))) }
end C
end Go.AM
